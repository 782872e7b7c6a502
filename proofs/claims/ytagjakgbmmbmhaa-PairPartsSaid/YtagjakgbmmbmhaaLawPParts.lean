/- The law PairParts: whatever links and two bytes come in (of more than 12 links, or of links that are not two-connected, only the chapter's examples are asked): two vertices part the links just if these can be put into two sets of two at least that share no vertex but them. It holds of every input. -/
import Derived.Test.YtagjakgbmmbmhaaPaS
import Derived.Test.YtagjakgbmmbmhaaRowL
import Derived.Laws.BitsLemmas
namespace Go.Proofs.Ytagjakgbmmbmhaa
open Go Go.RowKit Go.ChangeShapes Go.WideShapes Go.ChangeAt Go.Joins Go.Deep

theorem i64_and1 (n : Int) : bits .and .i64 n 1 = n % 2 := by
  have h1 : (BitVec.ofInt 64 1).toNat = 2 ^ 1 - 1 := by decide
  have key : (BitVec.ofInt 64 n &&& BitVec.ofInt 64 1).toNat = (n % ((2 ^ 64 : Nat) : Int)).toNat % 2 ^ 1 := by
    rw [BitVec.toNat_and, BitVec.toNat_ofInt, h1, Nat.and_two_pow_sub_one_eq_mod]
  show IntKind.i64.wrap ((BitVec.ofInt 64 n &&& BitVec.ofInt 64 1).toNat : Nat) = n % 2
  rw [key, IntKind.wrap_i64]
  omega
theorem bit_mod (k i : Nat) : (((k / 2 ^ i : Nat) : Int) % 2 == 1) = k.testBit i := by
  rw [Nat.testBit_eq_decide_div_mod_eq, Bool.eq_iff_iff]
  simp only [beq_iff_eq, decide_eq_true_eq]
  omega
theorem any_succ (f : Nat → Bool) (k : Nat) : (List.range (k + 1)).any f = ((List.range k).any f || f k) := by
  rw [List.range_succ, List.any_append]; simp
theorem only_succ (a b : Int) (l : List Int) (j : Nat) (h : j < l.length) : onlyAB a b (l.take (j + 1)) = (onlyAB a b (l.take j) && (l[j] == a || l[j] == b)) := by
  unfold onlyAB
  rw [List.take_succ_eq_append_getElem h, List.all_append]; simp
set_option maxRecDepth 100000 in
set_option maxHeartbeats 8000000 in
theorem pairParts_walk (a : Option Addr) (cap : Nat) (ls : List Lk) (x y : Int) (w : World) (hr : RdL w a ls) (hl : ls.length ≤ cap) (hm : cap ≤ maxLen) (_hw : ∀ k ∈ ls, WfZ k.1 ∧ WfZ k.2.1 ∧ WfZ k.2.2) (hx : (Lit.int .u8 x).wf = true) (hy : (Lit.int .u8 y).wf = true) :
    Calls Try.prog 8 #[.slice a ls.length cap, .int .u8 x, .int .u8 y] w (RetT w true) := by
  have hcap : ls.length ≤ 9223372036854775807 := by unfold maxLen at hm; omega
  have hx1 : 0 ≤ x ∧ x ≤ 255 := Go.bounds_u8 hx
  have hy1 : 0 ≤ y ∧ y ≤ 255 := Go.bounds_u8 hy
  clear _hw hm hl hx hy
  by_cases h12 : 12 < ls.length
  · have g0 : decide ((12 : Int) < (ls.length : Int)) = true := by simp; omega
    go_enter Try.func8, Try.ntmps8
    go_wp2_with fail
    refine (awake13_walk _).mono ?_
    rintro e wz ⟨rfl, hbz⟩
    go_wp2_with fail
    go_ret
    exact ⟨rfl, bl_trans (bl_refl _) hbz⟩
  have h12' : ls.length ≤ 12 := by omega
  have g0 : decide ((12 : Int) < (ls.length : Int)) = false := by simp; omega
  clear h12
  cases h2 : twoL ls with
  | false =>
    have H2 := Lib.hid h2; clear h2
    go_enter Try.func8, Try.ntmps8
    go_wp2_with fail
    refine (two_walk a cap ls _ hr hcap).mono ?_
    rw [H2.out]
    rintro e w1 ⟨rfl, hb1⟩
    go_wp2_with fail
    refine (awake13_walk _).mono ?_
    rintro e wz ⟨rfl, hbz⟩
    go_wp2_with fail
    go_ret
    exact ⟨rfl, bl_trans hb1 hbz⟩
  | true =>
    obtain ⟨vs, hvs⟩ : ∃ vs, vs = vertsL ls := ⟨_, rfl⟩
    have hvl : vs.length ≤ 2000 := by rw [hvs]; have := vertsL_length ls; omega
    have hv2 : 2 ≤ vs.length := by rw [hvs]; exact two_verts h2
    have hbd : ∀ z ∈ vs, 0 ≤ z ∧ z ≤ 1048576 := fun z hz => by
      rw [hvs] at hz
      obtain ⟨q, hq, e⟩ := (mem_vertsL ls z).1 hz
      have ok := (two_right h2).2.1 q hq
      unfold OkL at ok
      rcases e with rfl | rfl <;> omega
    obtain ⟨i, hi⟩ : ∃ i : Nat, x % (vs.length : Int) = (i : Int) := ⟨(x % (vs.length : Int)).toNat, by have := Int.emod_nonneg x (show (vs.length : Int) ≠ 0 by omega); omega⟩
    obtain ⟨j, hj⟩ : ∃ j : Nat, y % (vs.length : Int) = (j : Int) := ⟨(y % (vs.length : Int)).toNat, by have := Int.emod_nonneg y (show (vs.length : Int) ≠ 0 by omega); omega⟩
    have hil : i < vs.length := by have := Int.emod_lt_of_pos x (show 0 < (vs.length : Int) by omega); omega
    have hjl : j < vs.length := by have := Int.emod_lt_of_pos y (show 0 < (vs.length : Int) by omega); omega
    have hi2 : Int.tmod x (vs.length : Int) = (i : Int) := by rw [Int.tmod_eq_emod_of_nonneg hx1.1]; exact hi
    have hj2 : Int.tmod y (vs.length : Int) = (j : Int) := by rw [Int.tmod_eq_emod_of_nonneg hy1.1]; exact hj
    have wx : IntKind.i64.wrap x = x := IntWalk.i64_in _ (by omega)
    have wy : IntKind.i64.wrap y = y := IntWalk.i64_in _ (by omega)
    obtain ⟨p, hp⟩ : ∃ p, vs[i] = p := ⟨_, rfl⟩
    obtain ⟨q, hq⟩ : ∃ p, vs[j] = p := ⟨_, rfl⟩
    have hpb := hbd p (by rw [← hp]; exact List.getElem_mem _)
    have hqb := hbd q (by rw [← hq]; exact List.getElem_mem _)
    have hn0 : ¬ (vs.length : Int) = 0 := by omega
    have hn1 : ¬ vs.length = 0 := by omega
    have i1 : (i : Int) < (vs.length : Int) := by omega
    have j1 : (j : Int) < (vs.length : Int) := by omega
    have Hvs := Lib.hid hvs; have H2 := Lib.hid h2; have Hp := Lib.hid hp; have Hq := Lib.hid hq
    clear hvs h2 hbd hp hq
    go_enter Try.func8, Try.ntmps8
    go_wp2_with fail
    refine (two_walk a cap ls _ hr hcap).mono ?_
    rw [H2.out]
    rintro e w1 ⟨rfl, hb1⟩
    go_wp2_with fail
    refine (verts_walk a cap ls _ (hr.below hb1) (by omega)).mono ?_
    rw [← Hvs.out]
    rintro e w2 ⟨av, cv, rfl, hrv, _, hvc, hvm, hb2⟩
    have hB2 := bl_trans hb1 hb2
    obtain ⟨b, o, rfl, c0⟩ := hrv.at i hil
    obtain ⟨b', o', e', c1⟩ := hrv.at j hjl
    cases e'
    rw [Hp.out] at c0
    rw [Hq.out] at c1
    clear hb1 hb2 hrv
    go_wp2_with fail
    go_quiet (fail)
    have hB3 := below_drewN hB2 nq
    generalize w2.drewN nq = w3 at hB3 ⊢
    clear hB2 c0 c1 wx wy hi hj hi2 hj2
    go_wp2_with fail
    refine (pparts_walk a cap ls p q _ (hr.below hB3) hcap (wfZ_of (by omega)) (wfZ_of (by omega))).mono ?_
    by_cases hpq : p = q
    · subst hpq
      have hps : partsL2 ls p p = (false, 130) := by unfold partsL2 mayB; simp
      rw [hps]
      rintro e w4 ⟨rfl, hb4⟩
      have hB4 := bl_trans hB3 hb4
      clear hB3 hb4 hps
      go_wp2_with fail
      refine (awake13_walk _).mono ?_
      rintro e wz ⟨rfl, hbz⟩
      go_wp2_with fail
      go_ret
      exact ⟨rfl, bl_trans hB4 hbz⟩
    · have hmay : mayB ls p q = true := by
        have h1 := mayB_at H2.out (i := i) (k := j) (fun e => hpq (by subst e; rw [← Hp.out, ← Hq.out])) (by rw [← Hvs.out]; exact hil) (by rw [← Hvs.out]; exact hjl)
        rw [← Hvs.out, getD_at hil, getD_at hjl, Hp.out, Hq.out] at h1
        exact h1
      obtain ⟨got, hgot⟩ : ∃ g, g = pairP ls p q := ⟨_, rfl⟩
      have hps : partsL2 ls p q = (got, 0) := by unfold partsL2; rw [hmay, hgot]; rfl
      rw [hps]
      rintro e w4 ⟨rfl, hb4⟩
      have hB4 := bl_trans hB3 hb4
      have e0 : (p == q) = false := by simpa using hpq
      have Hgot := Lib.hid hgot
      clear hB3 hb4 hps hmay hpq hgot
      simp only
      obtain ⟨M, hM⟩ : ∃ M : Nat, M = 2 ^ ls.length := ⟨_, rfl⟩
      have hMb : M ≤ 4096 := by rw [hM]; exact Nat.pow_le_pow_right (by omega) h12'
      have s1 : ((2 : Int) ^ ls.length) = (M : Int) := by rw [hM]; simp
      have s2 : IntKind.i64.wrap (M : Int) = (M : Int) := IntWalk.i64_in _ (by omega)
      have s3 : IntKind.i64.wrap ((2 : Int) ^ ls.length) = (M : Int) := by rw [s1, s2]
      have HM := Lib.hid hM; clear hM
      go_wp2_with fail
      go_loopg [12, 13] M (fun r cv iv wj => ∃ (k : Nat) (c : Bool), k + r = M ∧ iv = .int .i64 k ∧ cv = .bool c ∧ c = ((List.range k).any fun way => wantAt ls p q way) ∧ Below w4.heap.size w4 wj)
      case atStart => exact ⟨0, false, by omega, rfl, rfl, rfl, bl_refl _⟩
      case round =>
        obtain ⟨k, c, hk, rfl, rfl, hc, hb⟩ := hrel
        have Hk := Lib.hid hk; have Hc := Lib.hid hc
        clear hc
        by_cases hkl : k < M
        · clear hk
          obtain ⟨gO, rfl⟩ : ∃ n : Nat, n = gk := ⟨_, rfl⟩
          have hnx := any_succ (fun way => wantAt ls p q way) k
          rw [← Hc.out] at hnx
          have Hnx := Lib.hid hnx; clear hnx
          obtain ⟨wK, rfl⟩ : ∃ wo : World, wo = wr := ⟨_, rfl⟩
          have hBK := bl_trans hB4 hb
          go_wp2_with fail
          go_loopg [14, 15, 76] ls.length (fun r xv yv iv wj => ∃ (i : Nat) (ux uy : Value), i + r = ls.length ∧ iv = .int .i64 i ∧ ux = xv ∧ uy = yv ∧ OwnL wj ux (pkX ls k i) ∧ OwnL wj uy (pkY ls k i) ∧ (∀ g, ux.ownBlock = some g → wK.heap.size ≤ g) ∧ (∀ g, uy.ownBlock = some g → wK.heap.size ≤ g ∧ ux.ownBlock ≠ some g) ∧ Below wK.heap.size wK wj)
          case atStart => exact ⟨0, _, _, by omega, rfl, rfl, rfl, own_nil _ _ _, own_nil _ _ _, fun g hg => by simp [Value.ownBlock] at hg, fun g hg => by simp [Value.ownBlock] at hg, bl_refl _⟩
          case round =>
            obtain ⟨m, ux, uy, hm, rfl, rfl, rfl, hux, huy, hbx, hby, hbm⟩ := hrel
            have Hm := Lib.hid hm; have Hux := Lib.hid hux; have Huy := Lib.hid huy; have Hbx := Lib.hid hbx; have Hby := Lib.hid hby
            clear hux huy hbx hby
            by_cases hml : m < ls.length
            · clear hm
              obtain ⟨bl, ol, eal, l0, l1, l2⟩ := (hr.below (bl_trans hBK hbm)).at m hml
              subst eal
              have hX := pkX_succ ls k m hml
              have hY := pkY_succ ls k m hml
              obtain ⟨⟨e1, e2, e3⟩, hE⟩ : ∃ E : Lk, ls[m] = E := ⟨_, rfl⟩
              rw [hE] at l0 l1 l2 hX hY
              simp only at l0 l1 l2
              obtain ⟨s, hs⟩ : ∃ s : Nat, s = k / 2 ^ m := ⟨_, rfl⟩
              have t1 : (k : Int) / (2 : Int) ^ m = (s : Int) := by rw [hs]; simp
              have hbit := bit_mod k m
              rw [← hs] at hbit
              have hand := i64_and1 (s : Int)
              clear hs hE
              cases hb1 : k.testBit m with
              | true =>
                rw [hb1] at hbit hX hY
                simp only [if_true, List.append_nil] at hX hY
                have HX := Lib.hid hX; have HY := Lib.hid hY
                clear hb1 hX hY
                -- the link comes to UA; UB stays
                go_upto_region 17 with (fail)
                clear l0 l1 l2 t1 hbit hand
                obtain ⟨P, hP⟩ : ∃ P, P = wr.heap.size := ⟨_, rfl⟩
                have z0 : (wr.alloc (.cells #[.int .i64 e1, .int .i64 e2, .int .i64 e3] 29)).cell? ⟨wr.heap.size, 0, none⟩ = some (.int .i64 e1) := by simp
                have z1 : (wr.alloc (.cells #[.int .i64 e1, .int .i64 e2, .int .i64 e3] 29)).cell? ⟨wr.heap.size, 1, none⟩ = some (.int .i64 e2) := by simp
                have z2 : (wr.alloc (.cells #[.int .i64 e1, .int .i64 e2, .int .i64 e3] 29)).cell? ⟨wr.heap.size, 2, none⟩ = some (.int .i64 e3) := by simp
                have hbA1 := bl_alloc wr (.cells #[.int .i64 e1, .int .i64 e2, .int .i64 e3] 29)
                rw [← hP] at z0 z1 z2 ⊢
                generalize wr.alloc (.cells #[.int .i64 e1, .int .i64 e2, .int .i64 e3] 29) = wB at z0 z1 z2 hbA1 ⊢
                clear hP
                obtain ⟨oA, hoA⟩ : ∃ o, o = pkX ls k m := ⟨_, rfl⟩
                obtain ⟨oB, hoB⟩ : ∃ o, o = pkY ls k m := ⟨_, rfl⟩
                have hpl := pk_len ls k m (by omega)
                have hoAl : oA.length ≤ 12 := by rw [hoA]; omega
                have hua := Hux.out
                have hub := Huy.out
                rw [← hoA] at hua HX
                rw [← hoB] at hub HY
                clear hoA hoB hpl
                have hbB := bl_trans hbm hbA1
                have hbC := bl_trans hbB (bl_alloc wB (.cells #[.int .i64 e1, .int .i64 e2, .int .i64 e3] 29))
                have hownA : Own (wB.alloc (.cells #[.int .i64 e1, .int .i64 e2, .int .i64 e3] 29)) ux 29 3 oA.length (lkCells oA) := (Own.ext hua hbA1).alloc _
                have hownB : OwnL (wB.alloc (.cells #[.int .i64 e1, .int .i64 e2, .int .i64 e3] 29)) uy oB := (Own.ext hub hbA1).alloc _
                have Hn3 := Lib.hid (news3 wB 29 e1 e2 e3); have Ho3 := Lib.hid (one3 e1 e2 e3)
                have hltA : ∀ g, ux.ownBlock = some g → g < wB.heap.size := fun g h => by have := Own.lt hua h; have := hbA1.size; omega
                have hltB : ∀ g, uy.ownBlock = some g → g < wB.heap.size := fun g h => by have := Own.lt hub h; have := hbA1.size; omega
                have HltB := Lib.hid hltB; have HownB := Lib.hid hownB
                clear hua hub hltA hltB hownB
                go_wp2_with (at_builtin; refine wpList_append_row _ rfl (.tmp 86) (.tmp 88) 22 rfl 29 (.agg #[.int .i64 0, .int .i64 0, .int .i64 0]) 3 24 Try.underlying22 link_info rfl ux oA.length _ rfl hownA ⟨wB.heap.size, 0, none⟩ 1 1 [.int .i64 e1, .int .i64 e2, .int .i64 e3] rfl rfl Hn3.out Ho3.out (by omega) (by unfold maxLen; omega) (by omega) ?_)
                intro g5 c5 w5 hr5 hc5 hg5 hor5
                have hneAB : ∀ g, uy.ownBlock = some g → ux.ownBlock ≠ some g := (fun g h => (Hby.out g h).2)
                have hloA : ∀ g, ux.ownBlock = some g → wK.heap.size ≤ g := Hbx.out
                have hb5 : Below wK.heap.size wK w5 := hbC.grown hg5 (by have := hbC.size; exact this) (fun j hj => hloA j hj)
                have hg6 : wK.heap.size ≤ g5 := by
                  rcases hor5 with h | h
                  · exact hloA g5 h
                  · have := hbB.size; first | omega | (simp at h; omega)
                have hg7 : ∀ g, uy.ownBlock = some g → g5 ≠ g := fun g hg e => by
                  subst e
                  rcases hor5 with h | h
                  · exact hneAB g5 hg h
                  · have := HltB.out g5 hg; first | omega | (simp at h; omega)
                have hr6 : OwnL w5 (.slice (some ⟨g5, 0, none⟩) (oA.length + 1) c5) (oA ++ [(e1, e2, e3)]) := by
                  have h1 : Row w5 g5 29 3 c5 (lkCells (oA ++ [((e1, e2, e3) : Lk)])) := by rw [lkCells_append]; exact hr5
                  have := h1.own (n := oA.length + 1) (by rw [lkCells_length]; simp) hc5
                  unfold OwnL
                  rw [List.length_append]
                  exact this
                have hr7 : OwnL w5 uy oB := HownB.out.grown hg5 hneAB
                have Hr6 := Lib.hid hr6; have Hr7 := Lib.hid hr7; have Hg7 := Lib.hid hg7; have HneAB := Lib.hid hneAB
                clear hr5 hg5 hor5 hownA hr6 hr7 hg7 hneAB hloA z0 z1 z2
                go_wp2_with fail
                go_roundg (gk - 1)
                case measure => have := Hm.out; omega
                case rel => exact ⟨m + 1, _, uy, by have := Hm.out; omega, by go_num, rfl, rfl, by rw [HX.out]; exact Hr6.out, by rw [HY.out]; exact Hr7.out, (fun g hg => by cases hg; exact hg6), (fun g hg => ⟨(Hby.out g hg).1, fun h => by cases h; exact Hg7.out _ hg rfl⟩), hb5⟩
              | false =>
                rw [hb1] at hbit hX hY
                simp only [Bool.false_eq_true, if_false, List.append_nil] at hX hY
                have HX := Lib.hid hX; have HY := Lib.hid hY
                clear hb1 hX hY
                -- the link comes to UA; UB stays
                go_upto_region 18 with (fail)
                clear l0 l1 l2 t1 hbit hand
                obtain ⟨P, hP⟩ : ∃ P, P = wr.heap.size := ⟨_, rfl⟩
                have z0 : (wr.alloc (.cells #[.int .i64 e1, .int .i64 e2, .int .i64 e3] 29)).cell? ⟨wr.heap.size, 0, none⟩ = some (.int .i64 e1) := by simp
                have z1 : (wr.alloc (.cells #[.int .i64 e1, .int .i64 e2, .int .i64 e3] 29)).cell? ⟨wr.heap.size, 1, none⟩ = some (.int .i64 e2) := by simp
                have z2 : (wr.alloc (.cells #[.int .i64 e1, .int .i64 e2, .int .i64 e3] 29)).cell? ⟨wr.heap.size, 2, none⟩ = some (.int .i64 e3) := by simp
                have hbA1 := bl_alloc wr (.cells #[.int .i64 e1, .int .i64 e2, .int .i64 e3] 29)
                rw [← hP] at z0 z1 z2 ⊢
                generalize wr.alloc (.cells #[.int .i64 e1, .int .i64 e2, .int .i64 e3] 29) = wB at z0 z1 z2 hbA1 ⊢
                clear hP
                obtain ⟨oA, hoA⟩ : ∃ o, o = pkY ls k m := ⟨_, rfl⟩
                obtain ⟨oB, hoB⟩ : ∃ o, o = pkX ls k m := ⟨_, rfl⟩
                have hpl := pk_len ls k m (by omega)
                have hoAl : oA.length ≤ 12 := by rw [hoA]; omega
                have hua := Huy.out
                have hub := Hux.out
                rw [← hoA] at hua HY
                rw [← hoB] at hub HX
                clear hoA hoB hpl
                have hbB := bl_trans hbm hbA1
                have hbC := bl_trans hbB (bl_alloc wB (.cells #[.int .i64 e1, .int .i64 e2, .int .i64 e3] 29))
                have hownA : Own (wB.alloc (.cells #[.int .i64 e1, .int .i64 e2, .int .i64 e3] 29)) uy 29 3 oA.length (lkCells oA) := (Own.ext hua hbA1).alloc _
                have hownB : OwnL (wB.alloc (.cells #[.int .i64 e1, .int .i64 e2, .int .i64 e3] 29)) ux oB := (Own.ext hub hbA1).alloc _
                have Hn3 := Lib.hid (news3 wB 29 e1 e2 e3); have Ho3 := Lib.hid (one3 e1 e2 e3)
                have hltA : ∀ g, uy.ownBlock = some g → g < wB.heap.size := fun g h => by have := Own.lt hua h; have := hbA1.size; omega
                have hltB : ∀ g, ux.ownBlock = some g → g < wB.heap.size := fun g h => by have := Own.lt hub h; have := hbA1.size; omega
                have HltB := Lib.hid hltB; have HownB := Lib.hid hownB
                clear hua hub hltA hltB hownB
                go_wp2_with (at_builtin; refine wpList_append_row _ rfl (.tmp 90) (.tmp 92) 22 rfl 29 (.agg #[.int .i64 0, .int .i64 0, .int .i64 0]) 3 24 Try.underlying22 link_info rfl uy oA.length _ rfl hownA ⟨wB.heap.size, 0, none⟩ 1 1 [.int .i64 e1, .int .i64 e2, .int .i64 e3] rfl rfl Hn3.out Ho3.out (by omega) (by unfold maxLen; omega) (by omega) ?_)
                intro g5 c5 w5 hr5 hc5 hg5 hor5
                have hneAB : ∀ g, ux.ownBlock = some g → uy.ownBlock ≠ some g := (fun g h h2 => (Hby.out g h2).2 h)
                have hloA : ∀ g, uy.ownBlock = some g → wK.heap.size ≤ g := (fun g h => (Hby.out g h).1)
                have hb5 : Below wK.heap.size wK w5 := hbC.grown hg5 (by have := hbC.size; exact this) (fun j hj => hloA j hj)
                have hg6 : wK.heap.size ≤ g5 := by
                  rcases hor5 with h | h
                  · exact hloA g5 h
                  · have := hbB.size; first | omega | (simp at h; omega)
                have hg7 : ∀ g, ux.ownBlock = some g → g5 ≠ g := fun g hg e => by
                  subst e
                  rcases hor5 with h | h
                  · exact hneAB g5 hg h
                  · have := HltB.out g5 hg; first | omega | (simp at h; omega)
                have hr6 : OwnL w5 (.slice (some ⟨g5, 0, none⟩) (oA.length + 1) c5) (oA ++ [(e1, e2, e3)]) := by
                  have h1 : Row w5 g5 29 3 c5 (lkCells (oA ++ [((e1, e2, e3) : Lk)])) := by rw [lkCells_append]; exact hr5
                  have := h1.own (n := oA.length + 1) (by rw [lkCells_length]; simp) hc5
                  unfold OwnL
                  rw [List.length_append]
                  exact this
                have hr7 : OwnL w5 ux oB := HownB.out.grown hg5 hneAB
                have Hr6 := Lib.hid hr6; have Hr7 := Lib.hid hr7; have Hg7 := Lib.hid hg7; have HneAB := Lib.hid hneAB
                clear hr5 hg5 hor5 hownA hr6 hr7 hg7 hneAB hloA z0 z1 z2
                go_wp2_with fail
                go_roundg (gk - 1)
                case measure => have := Hm.out; omega
                case rel => exact ⟨m + 1, ux, _, by have := Hm.out; omega, by go_num, rfl, rfl, by rw [HX.out]; exact Hr7.out, by rw [HY.out]; exact Hr6.out, Hbx.out, (fun g hg => by cases hg; exact ⟨hg6, fun h => Hg7.out _ h rfl⟩), hb5⟩
            · have hmn : m = ls.length := by omega
              subst hmn
              have hpl := pk_len ls k ls.length (Nat.le_refl _)
              have hwa : wantAt ls p q k = (decide (2 ≤ (pkX ls k ls.length).length) && decide (2 ≤ (pkY ls k ls.length).length) && onlyAB p q (sharedL (vertsL (pkX ls k ls.length)) (vertsL (pkY ls k ls.length)))) := rfl
              have hnx := Hnx.out
              try simp only at hnx
              rw [hwa] at hnx
              obtain ⟨X, hX⟩ : ∃ X, X = pkX ls k ls.length := ⟨_, rfl⟩
              obtain ⟨Y, hY⟩ : ∃ Y, Y = pkY ls k ls.length := ⟨_, rfl⟩
              rw [← hX] at hnx hpl Hux
              rw [← hY] at hnx hpl Huy
              obtain ⟨ax, cx, rfl, hrx, _, _, _⟩ := OwnL.read Hux.out
              obtain ⟨ay, cy, rfl, hry, _, _, _⟩ := OwnL.read Huy.out
              have hbO := bl_trans hb hbm
              clear hX hY hwa hm
              by_cases hx2 : X.length < 2
              · have q1 : decide ((X.length : Int) < 2) = true := by simp; omega
                have q1' : decide (X.length < 2) = true := by simpa using hx2
                rw [decide_eq_false (show ¬ 2 ≤ X.length by omega), Bool.false_and, Bool.false_and, Bool.or_false] at hnx
                have Hnx2 := Lib.hid hnx
                clear hnx hx2 hpl
                go_wp2_with fail
                go_roundg (gO - 1)
                case measure => have := Hk.out; omega
                case rel => exact ⟨k + 1, c, by have := Hk.out; omega, by go_num, rfl, Hnx2.out.symm, hbO⟩
              · have q1 : decide ((X.length : Int) < 2) = false := by simp; omega
                have q1' : decide (X.length < 2) = false := by simpa using hx2
                rw [decide_eq_true (show 2 ≤ X.length by omega), Bool.true_and] at hnx
                by_cases hy2 : Y.length < 2
                · have q2 : decide ((Y.length : Int) < 2) = true := by simp; omega
                  have q2' : decide (Y.length < 2) = true := by simpa using hy2
                  rw [decide_eq_false (show ¬ 2 ≤ Y.length by omega), Bool.false_and, Bool.or_false] at hnx
                  have Hnx2 := Lib.hid hnx
                  clear hnx hx2 hy2 hpl
                  go_wp2_with fail
                  go_roundg (gO - 1)
                  case measure => have := Hk.out; omega
                  case rel => exact ⟨k + 1, c, by have := Hk.out; omega, by go_num, rfl, Hnx2.out.symm, hbO⟩
                · have q2 : decide ((Y.length : Int) < 2) = false := by simp; omega
                  have q2' : decide (Y.length < 2) = false := by simpa using hy2
                  rw [decide_eq_true (show 2 ≤ Y.length by omega), Bool.true_and] at hnx
                  obtain ⟨zs, hzs⟩ : ∃ zs, zs = sharedL (vertsL X) (vertsL Y) := ⟨_, rfl⟩
                  rw [← hzs] at hnx
                  have hzl : zs.length ≤ 40000 := by
                    have h1 := shared_len (vertsL X) (vertsL Y)
                    have h3 := vertsL_length X
                    have h4 := vertsL_length Y
                    have h5 : (vertsL X).length * (vertsL Y).length ≤ 200 * 200 := Nat.mul_le_mul (by omega) (by omega)
                    rw [hzs]; omega
                  have Hnx2 := Lib.hid hnx; have Hzs := Lib.hid hzs
                  have hxl : X.length ≤ 100 := by omega
                  have hyl : Y.length ≤ 100 := by omega
                  clear hnx hx2 hy2 hpl hzs
                  go_wp2_with fail
                  refine (shared_walk ax ay cx cy X Y _ hrx hry hxl hyl).mono ?_
                  rw [← Hzs.out]
                  rintro e w6 ⟨az, cz, rfl, hrz, _, _, _, hb6⟩
                  have hbO6 := bl_trans hbO hb6
                  clear hbO hb6 hrx hry
                  go_wp2_with fail
                  go_loopg [18, 107] zs.length (fun r fv jv wj => ∃ (j : Nat) (f : Bool), j + r = zs.length ∧ jv = .int .i64 j ∧ fv = .bool f ∧ f = onlyAB p q (zs.take j) ∧ w6 = wj)
                  case atStart => exact ⟨0, true, by omega, rfl, rfl, rfl, rfl⟩
                  case round =>
                    obtain ⟨j, f, hj, rfl, rfl, hf, rfl⟩ := hrel
                    have Hj := Lib.hid hj
                    by_cases hjl : j < zs.length
                    · clear hj
                      have hst := only_succ p q zs j hjl
                      obtain ⟨b2, o3, eaz, d0⟩ := hrz.at j hjl
                      obtain ⟨v, hv⟩ : ∃ v, zs[j] = v := ⟨_, rfl⟩
                      rw [hv] at d0 hst
                      rw [← hf] at hst
                      subst eaz
                      clear hv hf
                      cases f with
                      | false =>
                        rw [Bool.false_and] at hst
                        have Hst := Lib.hid hst; clear hst
                        go_wp2_with fail
                        go_roundg (gk - 1)
                        case measure => have := Hj.out; omega
                        case rel => exact ⟨j + 1, false, by have := Hj.out; omega, by go_num, rfl, Hst.out.symm, rfl⟩
                      | true =>
                        rw [Bool.true_and] at hst
                        obtain ⟨t1, ht1⟩ : ∃ t, (v == p) = t := ⟨_, rfl⟩
                        obtain ⟨t2, ht2⟩ : ∃ t, (v == q) = t := ⟨_, rfl⟩
                        rw [ht1, ht2] at hst
                        cases t1 with
                        | true =>
                          rw [Bool.true_or] at hst
                          have Hst := Lib.hid hst; clear hst
                          go_wp2_with fail
                          go_roundg (gk - 1)
                          case measure => have := Hj.out; omega
                          case rel => exact ⟨j + 1, true, by have := Hj.out; omega, by go_num, rfl, Hst.out.symm, rfl⟩
                        | false =>
                          rw [Bool.false_or] at hst
                          have Hst := Lib.hid hst; clear hst
                          go_wp2_with fail
                          go_roundg (gk - 1)
                          case measure => have := Hj.out; omega
                          case rel => exact ⟨j + 1, t2, by have := Hj.out; omega, by go_num, rfl, Hst.out.symm, rfl⟩
                    · have hjn : j = zs.length := by omega
                      subst hjn
                      rw [List.take_length] at hf
                      have hn3 := Hnx2.out
                      rw [← hf] at hn3
                      clear hj hf Hnx2
                      have hbO := hbO6
                      cases c with
                      | true =>
                        rw [Bool.true_or] at hn3
                        have Hnx2 := Lib.hid hn3; clear hn3
                        go_wp2_with fail
                        go_roundg (gO - 1)
                        case measure => have := Hk.out; omega
                        case rel => exact ⟨k + 1, true, by have := Hk.out; omega, by go_num, rfl, Hnx2.out.symm, hbO⟩
                      | false =>
                        rw [Bool.false_or] at hn3
                        have Hnx2 := Lib.hid hn3; clear hn3
                        go_wp2_with fail
                        go_roundg (gO - 1)
                        case measure => have := Hk.out; omega
                        case rel => exact ⟨k + 1, f, by have := Hk.out; omega, by go_num, rfl, Hnx2.out.symm, hbO⟩
        · have hkM : k = M := by omega
          subst hkM
          have hcg : c = got := by
            rw [Hc.out, Hgot.out, Bool.eq_iff_iff, ways H2.out, List.any_eq_true]
            constructor
            · rintro ⟨way, hw, h⟩
              exact ⟨way, by rw [← HM.out]; exact List.mem_range.1 hw, h⟩
            · rintro ⟨way, hw, h⟩
              exact ⟨way, List.mem_range.2 (by rw [HM.out]; exact hw), h⟩
          subst hcg
          have hgg : (c == c) = true := by simp
          have hB9 := bl_trans hB4 hb
          clear hk
          go_wp2_with fail
          refine (awake13_walk _).mono ?_
          rintro e wz ⟨rfl, hbz⟩
          go_wp2_with fail
          go_ret
          exact ⟨rfl, bl_trans hB9 hbz⟩
namespace pairParts
open Go Go.RowKit Go.ChangeShapes Go.WideShapes Go.ChangeAt
set_option maxRecDepth 100000 in
theorem lifted (os : Os) (started : os.Started) (H : Type) (enc : TypeId × Value → H) :
    ReturnsInHanded {} Try.checked os 8 .any (Rows.pairPartsSpec.pre6 enc Try.prog Try.f8 Rows.pairPartsRow.domain false) (Rows.pairPartsSpec.post enc Try.prog Try.f8 false true false false) := by
  refine returnsInHanded_of_change (C := Try.checked) rowOwn started (by kernel_rfl) Try.func8
    (ChangeSpec.witness6 (enc := enc) (C := Try.checked) false ⟨#[], #[.slice none 0 0, .int .u8 0, .int .u8 0], []⟩ 8 (by kernel_rfl) (by kernel_rfl) (by kernel_rfl) (by kernel_rfl)) ?_
  intro W base args ds gs before hval0 hW hcnd _
  have hval : ∀ (j : Nat) t v, Try.f8.params[j]? = some t → args[j]? = some v → Value.okWide Try.prog W .any base t v := hval0
  have hW' := hW
  obtain ⟨p, q, hA0, hV, rfl, hfz, hnd⟩ := hW
  have hA : DataW.TrodAll enc Try.prog W 0 (fun _ => true) true Try.f8.params.toList args.toList ds p := hA0
  rw [Try.params8] at hA hval
  obtain ⟨v0, vs0, d0, ds0, p0, q0, hargs, rfl, rfl, h0, r0⟩ := trodAll_cons hA
  obtain ⟨v1, vs1, d1, ds1, p1, q1, rfl, rfl, rfl, h1, r1⟩ := trodAll_cons r0
  obtain ⟨v2, vs2, d2, ds2, p2, q2, rfl, rfl, rfl, h2, r2⟩ := trodAll_cons r1
  obtain ⟨rfl, rfl, rfl⟩ := trodAll_nil r2
  obtain rfl : args = #[v0, v1, v2] := by cases args; simp_all
  obtain ⟨rfl, rfl⟩ := trodVars_none hV
  have k0 := h0
  have lt0 : ∀ x ∈ p0, x.block < W.heap.size := by obtain ⟨m, hm⟩ := k0; exact DataW.trod_lt m _ _ _ hm
  obtain ⟨a0, cap0, es0, rfl, rd0, hl0, hm0, wn0⟩ := open_links (hval 0 22 v0 rfl rfl) h0
  obtain ⟨x1, rfl, rfl, rfl, wn1⟩ := open_int Try.underlying5 (hval 1 5 v1 rfl rfl) h1
  obtain ⟨x2, rfl, rfl, rfl, wn2⟩ := open_int Try.underlying5 (hval 2 5 v2 rfl rfl) h2
  clear hA0 hval0
  refine (pairParts_walk a0 cap0 es0 x1 x2 W rd0 hl0 hm0 wn0 wn1 wn2).mono fun e W' ⟨he, bel⟩ => ?_
  subst he
  exact ⟨_, rfl, _, _, _, [], _, [], hW', trodAll_mk1 (shut_bool Try.underlying4 _), (trodAll_cons_mk (Below.trod rowLaid (by kernel_rfl) (of_decide_eq_true (by kernel_rfl)) k0 bel lt0) (trodAll_cons_mk (shut_int Try.underlying5 wn1) (trodAll_cons_mk (shut_int Try.underlying5 wn2) trodAll_mk0))), rfl, bel.frame _, fun h => by cases h⟩
theorem over : Rows.pairPartsRow.holds Try.pinned (OpenSpec.ofChange Rows.pairPartsSpec) :=
  OpenClaim.holds_of_wide 8 Try.f8 rfl rfl rfl rfl rfl rfl rfl ⟨rfl, rfl, rfl, rfl, rfl⟩ rfl rfl rfl rfl rfl (by kernel_rfl) Try.func8 (by kernel_rfl)
    (of_decide_eq_true (by kernel_rfl)) (by unfold Func.isWrapper; first | (rw [if_pos (by decide +kernel)]; kernel_rfl) | (rw [if_neg (by decide +kernel)]; exact ⟨rfl, rfl⟩))
    (fun os started H enc _ => lifted os started H enc)
/-- The statement. -/
theorem proved : Rows.PairPartsSaid := over
#print axioms proved
end pairParts
end Go.Proofs.Ytagjakgbmmbmhaa
