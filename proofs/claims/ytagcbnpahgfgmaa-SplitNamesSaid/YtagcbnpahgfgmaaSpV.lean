/- split.sides. -/
import Derived.Test.YtagcbnpahgfgmaaSpW
namespace Go.Proofs.Ytagcbnpahgfgmaa
open Go Go.RowKit

theorem sides_take_le {ls : List Lk} {wo : List Int} (hR : RightL ls) (f t i : Nat) (hi : i ≤ (groupsL ls wo).length) : (inS f t (groupsL ls wo) i).length + (outS f t (groupsL ls wo) i).length ≤ ls.length := by
  rw [inS_len f t _ i hi]
  have h := congrArg (fun l => (lensL l).sum) (List.take_append_drop i (groupsL ls wo))
  have h2 := lens_sum (wo := wo) hR
  unfold lensL at h h2 ⊢
  simp only [List.map_append, List.sum_append] at h
  omega
set_option maxRecDepth 100000 in
set_option maxHeartbeats 8000000 in
theorem sides_walk (a : Option Addr) (cap : Nat) (ls : List Lk) (p q num : Int) (w : World) (hr : RdL w a ls) (h2 : twoL ls = true) (hmay : mayB ls p q = true) (hp : WfZ p) (hq : WfZ q) :
    Calls Try.prog 17 #[.slice a ls.length cap, .int .i64 p, .int .i64 q, .int .i64 num] w (RetSides w (sidesL ls p q num)) := by
  have hR := two_right h2
  have hn := hR.1
  obtain ⟨G, hG⟩ : ∃ G, G = groupsL ls [p, q] := ⟨_, rfl⟩
  have hcl : classesL ls p q = (G, 0) := by unfold classesL; rw [hmay, hG]; rfl
  have hGl : G.length ≤ 1000 := by rw [hG]; exact groups_len_le _ _
  have hGr : ∀ (i : Nat) r, G[i]? = some r → 0 < r.length ∧ r.length ≤ 1000 := fun i r h => by
    rw [hG] at h
    obtain ⟨i0, _, X⟩ := grp_at ((rightL_iff ls).2 hR) h
    exact ⟨List.length_pos_of_mem X.self, Nat.le_trans X.sub.length_le hn⟩
  have hGr2 : ∀ r ∈ G, r.length ≤ 100000 := fun r hr => by
    obtain ⟨i, hi⟩ := List.getElem?_of_mem hr
    have := (hGr i r hi).2
    omega
  obtain ⟨⟨F, T⟩, hft⟩ : ∃ ft, ft = fromTo ls.length G := ⟨_, rfl⟩
  have hsd : sidesL ls p q num = (sortL ((p, q, num) :: inS F T G G.length), sortL ((p, q, num) :: outS F T G G.length)) := by
    unfold sidesL
    simp only
    rw [← hG, ← hft]
  have hidx : (F = 0 ∧ T = 2 ∧ idxZ ls.length G = -1) ∨ (T = F + 1 ∧ idxZ ls.length G = (F : Int) ∧ F < G.length) := by
    unfold fromTo at hft
    unfold idxZ
    cases hf : G.findIdx? (chosenB ls.length) with
    | none => rw [hf] at hft; cases hft; exact .inl ⟨rfl, rfl, rfl⟩
    | some i =>
      rw [hf] at hft; cases hft
      exact .inr ⟨rfl, rfl, by rw [List.findIdx?_eq_some_iff_getElem] at hf; exact hf.1⟩
  have hTb : T ≤ 1001 ∧ F ≤ 1001 := by rcases hidx with ⟨a1, a2, _⟩ | ⟨a1, _, a3⟩ <;> omega
  have htl : ∀ f t i, i ≤ G.length → (inS f t G i).length + (outS f t G i).length ≤ ls.length := fun f t i hi => by rw [hG] at hi ⊢; exact sides_take_le hR f t i hi
  have Hcl := Lib.hid hcl; have HG := Lib.hid hG; have HGr := Lib.hid hGr; have HGr2 := Lib.hid hGr2; have Hsd := Lib.hid hsd; have Hidx := Lib.hid hidx; have Htl := Lib.hid htl; have Hp := Lib.hid hp; have Hq := Lib.hid hq
  clear hcl hG hGr hGr2 hft hsd hidx htl h2 hmay hp hq hR
  have hbA := bl_alloc w (.cells #[.slice a ls.length cap] 22)
  have hbx : (w.alloc (.cells #[.slice a ls.length cap] 22)).cell? ⟨w.heap.size, 0, none⟩ = some (.slice a ls.length cap) := by simp
  have hrA := hr.below hbA
  go_enter Try.func17, Try.ntmps17
  go_wp2_with fail
  refine (classes_walk a cap ls p q _ hrA (by omega) Hp.out Hq.out).mono ?_
  rw [Hcl.out]
  rintro e w1 ⟨vo, vals, rfl, hL, hb1⟩
  simp only at hL ⊢
  obtain ⟨ao, co, rfl, hrG, _, _⟩ := hL.read
  have hbW := bl_trans hbA hb1
  have hbx1 := keep_cell hb1 hbx
  clear hL hb1 hbx hrA hbA hr
  go_wp2_with fail
  refine (indexG_walk ao a co w.heap.size ls.length cap G _ hrG hbx1 (by omega) (by omega) HGr2.out).mono ?_
  rintro e w' ⟨rfl, rfl⟩
  obtain ⟨z, hz⟩ : ∃ z, z = idxZ ls.length G := ⟨_, rfl⟩
  rw [← hz]
  have Hz := Lib.hid hz
  clear hz
  go_upto_if 32 with (fail)
  go_cut [13, 14] (fun f t wx => f = .int .i64 (F : Nat) ∧ t = .int .i64 (T : Nat) ∧ w1 = wx)
  case first =>
    rcases Hidx.out with ⟨rfl, rfl, hz⟩ | ⟨rfl, hz, hFl⟩
    · rw [← Hz.out] at hz
      subst hz
      go_wp2_with fail
      go_meet
      exact ⟨rfl, rfl, rfl⟩
    · rw [← Hz.out] at hz
      have z0 : decide (0 ≤ z) = true := by simp; omega
      have hz2 : z = (F : Int) := hz
      subst hz2
      clear z0
      go_wp2_with fail
      go_meet
      exact ⟨rfl, by go_num, rfl⟩
  case rest =>
  obtain ⟨rfl, rfl, rfl⟩ := hcut
  obtain ⟨x0, hx0⟩ : ∃ x0 : Lk, x0 = (p, q, num) := ⟨_, rfl⟩
  go_upto_region 9 with (fail)
  have ha1 := bl_alloc w1 (.cells #[.int .i64 p, .int .i64 q, .int .i64 num] 25)
  have hx1 : Row (w1.alloc (.cells #[.int .i64 p, .int .i64 q, .int .i64 num] 25)) w1.heap.size 25 3 1 (lkCells [x0]) := by
    have := row_new w1 #[.int .i64 p, .int .i64 q, .int .i64 num] 25 3 1 rfl (by unfold maxLen; omega)
    rw [hx0]
    simpa [lkCells] using this
  have hs2 : (w1.alloc (.cells #[.int .i64 p, .int .i64 q, .int .i64 num] 25)).heap.size = w1.heap.size + 1 := by simp
  generalize w1.alloc (.cells #[.int .i64 p, .int .i64 q, .int .i64 num] 25) = w2 at ha1 hx1 hs2 ⊢
  have ha2 := bl_alloc w2 (.cells #[.int .i64 p, .int .i64 q, .int .i64 num] 25)
  have hy1 : Row (w2.alloc (.cells #[.int .i64 p, .int .i64 q, .int .i64 num] 25)) (w1.heap.size + 1) 25 3 1 (lkCells [x0]) := by
    have := row_new w2 #[.int .i64 p, .int .i64 q, .int .i64 num] 25 3 1 rfl (by unfold maxLen; omega)
    rw [hs2] at this
    rw [hx0]
    simpa [lkCells] using this
  have hx2 := hx1.below ha2 hx1.lt
  have hb3 : Below w1.heap.size w1 (w2.alloc (.cells #[.int .i64 p, .int .i64 q, .int .i64 num] 25)) := bl_trans ha1 ha2
  generalize w2.alloc (.cells #[.int .i64 p, .int .i64 q, .int .i64 num] 25) = w3 at hy1 hx2 hb3 ⊢
  have hou : OwnL w3 (.slice (some ⟨w1.heap.size, 0, none⟩) 1 1) [x0] := hx2.own rfl (Nat.le_refl _)
  have hov : OwnL w3 (.slice (some ⟨w1.heap.size + 1, 0, none⟩) 1 1) [x0] := hy1.own rfl (Nat.le_refl _)
  have Hou := Lib.hid hou; have Hov := Lib.hid hov; have Hx0 := Lib.hid hx0
  clear hx1 hx2 hy1 ha1 ha2 hs2 hou hov hx0
  go_wp2_with fail
  go_loopg [16, 17, 48] G.length (fun r ov tv iv wj => ∃ (i : Nat) (u v : Value), i + r = G.length ∧ iv = .int .i64 i ∧ u = ov ∧ v = tv ∧ OwnL wj u (x0 :: inS F T G i) ∧ OwnL wj v (x0 :: outS F T G i) ∧ (∀ g, u.ownBlock = some g → w1.heap.size ≤ g) ∧ (∀ g, v.ownBlock = some g → w1.heap.size ≤ g ∧ u.ownBlock ≠ some g) ∧ Below w1.heap.size w1 wj)
  case atStart => exact ⟨0, _, _, by omega, rfl, rfl, rfl, Hou.out, Hov.out, (fun g hg => by have e : w1.heap.size = g := Option.some.inj hg; omega), (fun g hg => by have e : w1.heap.size + 1 = g := Option.some.inj hg; exact ⟨by omega, fun h => by have e2 : w1.heap.size = g := Option.some.inj h; omega⟩), hb3⟩
  case round =>
    clear hb3
    obtain ⟨i, u, v, hi, rfl, rfl, rfl, hu, hv, hub, hvb, hbj⟩ := hrel
    have Hi := Lib.hid hi; have Hu := Lib.hid hu; have Hv := Lib.hid hv; have Hlu := Lib.hid hub; have Hlv := Lib.hid hvb
    clear hu hv hub hvb
    by_cases hil : i < G.length
    · clear hi
      obtain ⟨R, hR⟩ : ∃ R, G[i] = R := ⟨_, rfl⟩
      have hRi : G[i]? = some R := by rw [List.getElem?_eq_getElem hil, hR]
      obtain ⟨bo, oo, au, cu, rfl, p0G, hrR, hRc, hcm⟩ := hrG i R hRi
      have hR0 := HGr.out i R hRi
      obtain ⟨b1, o1, rfl, _⟩ := hrR.at 0 hR0.1
      have p0 := keep_cell hbj p0G
      have e1 := inS_succ F T G i hil
      have e2 := outS_succ F T G i hil
      rw [hR] at e1 e2
      have htl := Htl.out F T i (by omega)
      have hlt1 := Hidx.out
      obtain ⟨hR1, hR2⟩ := hR0
      clear hRi hR hlt1
      by_cases hF : F ≤ i
      · have q1 : decide ((F : Int) ≤ (i : Int)) = true := by simp; omega
        have q1' : decide (F ≤ i) = true := by simpa using hF
        by_cases hT : i < T
        · have q2 : decide ((i : Int) < (T : Int)) = true := by simp; omega
          have q2' : decide (i < T) = true := by simpa using hT
          rw [if_pos ⟨hF, hT⟩] at e1
          rw [if_pos ⟨hF, hT⟩, List.append_nil] at e2
          -- R comes to UA; UB stays
          have hPA : x0 :: inS F T G (i + 1) = (x0 :: inS F T G i) ++ R := by rw [e1] <;> simp
          have hPB : x0 :: outS F T G (i + 1) = x0 :: outS F T G i := by rw [e2] <;> simp
          obtain ⟨oA, hoA⟩ : ∃ o, o = x0 :: inS F T G i := ⟨_, rfl⟩
          obtain ⟨oB, hoB⟩ : ∃ o, o = x0 :: outS F T G i := ⟨_, rfl⟩
          have hua := Hu.out
          have hub := Hv.out
          have hoAl : oA.length ≤ 1001 := by rw [hoA, List.length_cons]; omega
          rw [← hoA] at hua hPA
          rw [← hoB] at hub hPB
          have Hua := Lib.hid hua; have Hub := Lib.hid hub; have HPA := Lib.hid hPA; have HPB := Lib.hid hPB
          have hnews : ∀ (j : Nat) v, (lkCells R)[j]? = some v → wr.cell? ((⟨b1, o1, none⟩ : Addr).add j) = some v := fun j v hj => by
            obtain ⟨b', o', e1, e2⟩ := (hrR.below hbj) j v hj
            cases e1
            rw [addr_add]; exact e2
          have Hone := Lib.hid (lkCells_one R); have Hnews := Lib.hid hnews; have Hlen := Lib.hid (lkCells_length R)
          have hltB : ∀ g, v.ownBlock = some g → g < wr.heap.size := fun g h => Own.lt hub h
          have hneAB : ∀ g, v.ownBlock = some g → u.ownBlock ≠ some g := (fun g h => (Hlv.out g h).2)
          have hloA : ∀ g, u.ownBlock = some g → w1.heap.size ≤ g := Hlu.out
          have HltB := Lib.hid hltB; have HneAB := Lib.hid hneAB; have HloA := Lib.hid hloA
          clear hua hub hPA hPB hoA hoB hnews hltB hneAB hloA
          go_wp2_with (at_builtin; refine wpList_append_row _ rfl (.tmp 61) (.tmp 62) 22 rfl 25 (.agg #[.int .i64 0, .int .i64 0, .int .i64 0]) 3 24 Try.underlying22 link_info rfl u oA.length _ rfl Hua.out ⟨b1, o1, none⟩ R.length cu (lkCells R) rfl Hlen.out Hnews.out Hone.out (by omega) (by unfold maxLen; omega) (by omega) ?_)
          intro g5 c5 w5 hr5 hc5 hg5 hor5
          have hb5 : Below w1.heap.size w1 w5 := hbj.grown hg5 hbj.size (fun j hj => HloA.out j hj)
          have hg6 : w1.heap.size ≤ g5 := by
            rcases hor5 with h | h
            · exact HloA.out g5 h
            · have := hbj.size; omega
          have hg7 : ∀ g, v.ownBlock = some g → g5 ≠ g := fun g hg e => by
            subst e
            rcases hor5 with h | h
            · exact HneAB.out g5 hg h
            · have := HltB.out g5 hg; omega
          have hr6 : OwnL w5 (.slice (some ⟨g5, 0, none⟩) (oA.length + R.length) c5) (oA ++ R) := by
            have h1 : Row w5 g5 25 3 c5 (lkCells (oA ++ R)) := by rw [lkCells_append]; exact hr5
            have := h1.own (n := oA.length + R.length) (by rw [lkCells_length]; simp) hc5
            unfold OwnL
            rw [List.length_append]
            exact this
          have hr7 : OwnL w5 v oB := OwnL.grown Hub.out hg5 HneAB.out
          have Hr6 := Lib.hid hr6; have Hr7 := Lib.hid hr7; have Hg7 := Lib.hid hg7
          clear hr5 hg5 hor5 hr6 hr7 hg7
          go_wp2_with fail
          go_roundg (gk - 1)
          case measure => have := Hi.out; omega
          case rel => exact ⟨i + 1, _, v, by have := Hi.out; omega, by go_num, rfl, rfl, by rw [HPA.out]; exact Hr6.out, by rw [HPB.out]; exact Hr7.out, (fun g hg => by cases hg; exact hg6), (fun g hg => ⟨(Hlv.out g hg).1, fun h => by cases h; exact Hg7.out _ hg rfl⟩), hb5⟩
        · have q2 : decide ((i : Int) < (T : Int)) = false := by simp; omega
          have q2' : decide (i < T) = false := by simpa using hT
          rw [if_neg (fun h => hT h.2), List.append_nil] at e1
          rw [if_neg (fun h => hT h.2)] at e2
          -- R comes to UA; UB stays
          have hPA : x0 :: outS F T G (i + 1) = (x0 :: outS F T G i) ++ R := by rw [e2] <;> simp
          have hPB : x0 :: inS F T G (i + 1) = x0 :: inS F T G i := by rw [e1] <;> simp
          obtain ⟨oA, hoA⟩ : ∃ o, o = x0 :: outS F T G i := ⟨_, rfl⟩
          obtain ⟨oB, hoB⟩ : ∃ o, o = x0 :: inS F T G i := ⟨_, rfl⟩
          have hua := Hv.out
          have hub := Hu.out
          have hoAl : oA.length ≤ 1001 := by rw [hoA, List.length_cons]; omega
          rw [← hoA] at hua hPA
          rw [← hoB] at hub hPB
          have Hua := Lib.hid hua; have Hub := Lib.hid hub; have HPA := Lib.hid hPA; have HPB := Lib.hid hPB
          have hnews : ∀ (j : Nat) v, (lkCells R)[j]? = some v → wr.cell? ((⟨b1, o1, none⟩ : Addr).add j) = some v := fun j v hj => by
            obtain ⟨b', o', e1, e2⟩ := (hrR.below hbj) j v hj
            cases e1
            rw [addr_add]; exact e2
          have Hone := Lib.hid (lkCells_one R); have Hnews := Lib.hid hnews; have Hlen := Lib.hid (lkCells_length R)
          have hltB : ∀ g, u.ownBlock = some g → g < wr.heap.size := fun g h => Own.lt hub h
          have hneAB : ∀ g, u.ownBlock = some g → v.ownBlock ≠ some g := (fun g h h2 => (Hlv.out g h2).2 h)
          have hloA : ∀ g, v.ownBlock = some g → w1.heap.size ≤ g := (fun g h => (Hlv.out g h).1)
          have HltB := Lib.hid hltB; have HneAB := Lib.hid hneAB; have HloA := Lib.hid hloA
          clear hua hub hPA hPB hoA hoB hnews hltB hneAB hloA
          go_wp2_with (at_builtin; refine wpList_append_row _ rfl (.tmp 64) (.tmp 65) 22 rfl 25 (.agg #[.int .i64 0, .int .i64 0, .int .i64 0]) 3 24 Try.underlying22 link_info rfl v oA.length _ rfl Hua.out ⟨b1, o1, none⟩ R.length cu (lkCells R) rfl Hlen.out Hnews.out Hone.out (by omega) (by unfold maxLen; omega) (by omega) ?_)
          intro g5 c5 w5 hr5 hc5 hg5 hor5
          have hb5 : Below w1.heap.size w1 w5 := hbj.grown hg5 hbj.size (fun j hj => HloA.out j hj)
          have hg6 : w1.heap.size ≤ g5 := by
            rcases hor5 with h | h
            · exact HloA.out g5 h
            · have := hbj.size; omega
          have hg7 : ∀ g, u.ownBlock = some g → g5 ≠ g := fun g hg e => by
            subst e
            rcases hor5 with h | h
            · exact HneAB.out g5 hg h
            · have := HltB.out g5 hg; omega
          have hr6 : OwnL w5 (.slice (some ⟨g5, 0, none⟩) (oA.length + R.length) c5) (oA ++ R) := by
            have h1 : Row w5 g5 25 3 c5 (lkCells (oA ++ R)) := by rw [lkCells_append]; exact hr5
            have := h1.own (n := oA.length + R.length) (by rw [lkCells_length]; simp) hc5
            unfold OwnL
            rw [List.length_append]
            exact this
          have hr7 : OwnL w5 u oB := OwnL.grown Hub.out hg5 HneAB.out
          have Hr6 := Lib.hid hr6; have Hr7 := Lib.hid hr7; have Hg7 := Lib.hid hg7
          clear hr5 hg5 hor5 hr6 hr7 hg7
          go_wp2_with fail
          go_roundg (gk - 1)
          case measure => have := Hi.out; omega
          case rel => exact ⟨i + 1, u, _, by have := Hi.out; omega, by go_num, rfl, rfl, by rw [HPB.out]; exact Hr7.out, by rw [HPA.out]; exact Hr6.out, Hlu.out, (fun g hg => by cases hg; exact ⟨hg6, fun h => Hg7.out _ h rfl⟩), hb5⟩
      · have q1 : decide ((F : Int) ≤ (i : Int)) = false := by simp; omega
        have q1' : decide (F ≤ i) = false := by simpa using hF
        rw [if_neg (fun h => hF h.1), List.append_nil] at e1
        rw [if_neg (fun h => hF h.1)] at e2
        -- R comes to UA; UB stays
        have hPA : x0 :: outS F T G (i + 1) = (x0 :: outS F T G i) ++ R := by rw [e2] <;> simp
        have hPB : x0 :: inS F T G (i + 1) = x0 :: inS F T G i := by rw [e1] <;> simp
        obtain ⟨oA, hoA⟩ : ∃ o, o = x0 :: outS F T G i := ⟨_, rfl⟩
        obtain ⟨oB, hoB⟩ : ∃ o, o = x0 :: inS F T G i := ⟨_, rfl⟩
        have hua := Hv.out
        have hub := Hu.out
        have hoAl : oA.length ≤ 1001 := by rw [hoA, List.length_cons]; omega
        rw [← hoA] at hua hPA
        rw [← hoB] at hub hPB
        have Hua := Lib.hid hua; have Hub := Lib.hid hub; have HPA := Lib.hid hPA; have HPB := Lib.hid hPB
        have hnews : ∀ (j : Nat) v, (lkCells R)[j]? = some v → wr.cell? ((⟨b1, o1, none⟩ : Addr).add j) = some v := fun j v hj => by
          obtain ⟨b', o', e1, e2⟩ := (hrR.below hbj) j v hj
          cases e1
          rw [addr_add]; exact e2
        have Hone := Lib.hid (lkCells_one R); have Hnews := Lib.hid hnews; have Hlen := Lib.hid (lkCells_length R)
        have hltB : ∀ g, u.ownBlock = some g → g < wr.heap.size := fun g h => Own.lt hub h
        have hneAB : ∀ g, u.ownBlock = some g → v.ownBlock ≠ some g := (fun g h h2 => (Hlv.out g h2).2 h)
        have hloA : ∀ g, v.ownBlock = some g → w1.heap.size ≤ g := (fun g h => (Hlv.out g h).1)
        have HltB := Lib.hid hltB; have HneAB := Lib.hid hneAB; have HloA := Lib.hid hloA
        clear hua hub hPA hPB hoA hoB hnews hltB hneAB hloA
        go_wp2_with (at_builtin; refine wpList_append_row _ rfl (.tmp 64) (.tmp 65) 22 rfl 25 (.agg #[.int .i64 0, .int .i64 0, .int .i64 0]) 3 24 Try.underlying22 link_info rfl v oA.length _ rfl Hua.out ⟨b1, o1, none⟩ R.length cu (lkCells R) rfl Hlen.out Hnews.out Hone.out (by omega) (by unfold maxLen; omega) (by omega) ?_)
        intro g5 c5 w5 hr5 hc5 hg5 hor5
        have hb5 : Below w1.heap.size w1 w5 := hbj.grown hg5 hbj.size (fun j hj => HloA.out j hj)
        have hg6 : w1.heap.size ≤ g5 := by
          rcases hor5 with h | h
          · exact HloA.out g5 h
          · have := hbj.size; omega
        have hg7 : ∀ g, u.ownBlock = some g → g5 ≠ g := fun g hg e => by
          subst e
          rcases hor5 with h | h
          · exact HneAB.out g5 hg h
          · have := HltB.out g5 hg; omega
        have hr6 : OwnL w5 (.slice (some ⟨g5, 0, none⟩) (oA.length + R.length) c5) (oA ++ R) := by
          have h1 : Row w5 g5 25 3 c5 (lkCells (oA ++ R)) := by rw [lkCells_append]; exact hr5
          have := h1.own (n := oA.length + R.length) (by rw [lkCells_length]; simp) hc5
          unfold OwnL
          rw [List.length_append]
          exact this
        have hr7 : OwnL w5 u oB := OwnL.grown Hub.out hg5 HneAB.out
        have Hr6 := Lib.hid hr6; have Hr7 := Lib.hid hr7; have Hg7 := Lib.hid hg7
        clear hr5 hg5 hor5 hr6 hr7 hg7
        go_wp2_with fail
        go_roundg (gk - 1)
        case measure => have := Hi.out; omega
        case rel => exact ⟨i + 1, u, _, by have := Hi.out; omega, by go_num, rfl, rfl, by rw [HPB.out]; exact Hr7.out, by rw [HPA.out]; exact Hr6.out, Hlu.out, (fun g hg => by cases hg; exact ⟨hg6, fun h => Hg7.out _ h rfl⟩), hb5⟩
    · have hin : i = G.length := by omega
      subst hin
      have htl := Htl.out F T G.length (Nat.le_refl _)
      obtain ⟨X, hX⟩ : ∃ X, X = x0 :: inS F T G G.length := ⟨_, rfl⟩
      obtain ⟨Y, hY⟩ : ∃ Y, Y = x0 :: outS F T G G.length := ⟨_, rfl⟩
      have hXl : X.length ≤ 1001 := by rw [hX, List.length_cons]; omega
      have hYl : Y.length ≤ 1001 := by rw [hY, List.length_cons]; omega
      have hsd := Hsd.out
      rw [← Hx0.out, ← hX, ← hY] at hsd
      have hu := Hu.out; have hv := Hv.out
      rw [← hX] at hu
      rw [← hY] at hv
      obtain ⟨au, cu, rfl, hru, _, _, _⟩ := OwnL.read hu
      obtain ⟨av, cv, rfl, hrv, _, _, _⟩ := OwnL.read hv
      have Hsd2 := Lib.hid hsd
      have hB1 := bl_trans hbW hbj
      clear hX hY hsd hu hv hi htl
      go_wp2_with fail
      refine (sorted_walk au cu X _ hru (by omega)).mono ?_
      rintro e w5 ⟨v5, rfl, ho5, hg5, hb5⟩
      have hrv5 := hrv.below hb5
      have hB5 := bl_trans hB1 hb5
      go_wp2_with fail
      refine (sorted_walk av cv Y _ hrv5 (by omega)).mono ?_
      rintro e w6 ⟨v6, rfl, ho6, hg6, hb6⟩
      have ho5' : OwnL w6 v5 (sortL X) := Own.ext ho5 hb6
      have hs1 := hB1.size
      have hs5 := hB5.size
      have hB6 := bl_trans hB5 hb6
      have Ho5 := Lib.hid ho5'; have Ho6 := Lib.hid ho6; have Hg5 := Lib.hid hg5; have Hg6 := Lib.hid hg6
      clear ho5 ho5' ho6 hg5 hg6 hb5 hb6
      go_wp2_with fail
      go_ret2
      rw [Hsd2.out]
      exact ⟨v5, v6, rfl, Ho5.out, Ho6.out, fun g hg => by have := Hg5.out g hg; omega, fun g hg => by have := Hg6.out g hg; omega, hB6⟩
end Go.Proofs.Ytagcbnpahgfgmaa
