/- fretworkref12.Groups: colours, group by group. -/
import Derived.Test.YtagjakgbmmbmhaaRL3
import Derived.Test.YtagjakgbmmbmhaaRGP
import Derived.Test.YtagjakgbmmbmhaaGrpM
import Derived.Test.YtagjakgbmmbmhaaCutsM
namespace Go.Proofs.Ytagjakgbmmbmhaa
open Go Go.RowKit

def NoTrig (ls : List Lk) (wo : List Int) (m : Nat) (c : Nat → Nat) (p q : Nat) : Prop := ∀ x y, ls[p]? = some x → ls[q]? = some y → ¬ (c p = m ∧ c q = 0 ∧ touchB wo x y = true)
theorem zerosC_le (c : Nat → Nat) (n : Nat) : zerosC c n ≤ n := by
  unfold zerosC
  have := List.length_filter_le (fun j => decide (c j = 0)) (List.range n)
  simpa using this
/-- the flag after part of a pass: nothing turned yet and nothing to turn so far, or fewer have no colour -/
def PassOk (ls : List Lk) (wo : List Int) (m : Nat) (cS c : Nat → Nat) (ag : Bool) (x y : Nat) : Prop :=
  (ag = true → zerosC c ls.length < zerosC cS ls.length) ∧ (ag = false → c = cS ∧ (∀ p q, p < x → q < ls.length → NoTrig ls wo m c p q) ∧ (∀ q, q < y → NoTrig ls wo m c x q))
theorem PassOk.next {ls : List Lk} {wo : List Int} {m : Nat} {cS c : Nat → Nat} {ag : Bool} {x y : Nat} (h : PassOk ls wo m cS c ag x y) (hn : NoTrig ls wo m c x y) : PassOk ls wo m cS c ag x (y + 1) :=
  ⟨h.1, fun e => ⟨(h.2 e).1, (h.2 e).2.1, fun q hq => by
    by_cases e2 : q < y
    · exact (h.2 e).2.2 q e2
    · obtain rfl : q = y := by omega
      exact hn⟩⟩
theorem PassOk.row {ls : List Lk} {wo : List Int} {m : Nat} {cS c : Nat → Nat} {ag : Bool} {x : Nat} (h : PassOk ls wo m cS c ag x ls.length) : PassOk ls wo m cS c ag (x + 1) 0 :=
  ⟨h.1, fun e => ⟨(h.2 e).1, fun p q hp hq => by
    by_cases e2 : p < x
    · exact (h.2 e).2.1 p q e2 hq
    · obtain rfl : p = x := by omega
      exact (h.2 e).2.2 q hq, fun q hq => absurd hq (by omega)⟩⟩
theorem PassOk.start {ls : List Lk} {wo : List Int} {m : Nat} {cS : Nat → Nat} : PassOk ls wo m cS cS false 0 0 :=
  ⟨nofun, fun _ => ⟨rfl, fun p q hp => absurd hp (by omega), fun q hq => absurd hq (by omega)⟩⟩
theorem PassOk.hit {ls : List Lk} {wo : List Int} {m : Nat} {cS c : Nat → Nat} {ag : Bool} {x y x' y' : Nat} (h : PassOk ls wo m cS c ag x y) (hy : y < ls.length) (hc : c y = 0) (hm : m ≠ 0) : PassOk ls wo m cS (upd c y m) true x' y' :=
  ⟨fun _ => by
    have h1 := zerosC_upd (n := ls.length) hy hc hm
    cases ag with
    | true => have := h.1 rfl; omega
    | false => have := (h.2 rfl).1; rw [← this]; omega, nofun⟩

set_option maxRecDepth 100000 in
set_option maxHeartbeats 8000000 in
theorem refGroups12_walk (a : Option Addr) (cap : Nat) (ls : List Lk) (aw : Option Addr) (capw : Nat) (wo : List Int) (w : World) (hr : RdL w a ls) (hcap : ls.length ≤ 9223372036854775807) (hw : RdI w aw wo) (hwl : wo.length ≤ 1000000) :
    Calls Try.prog 24 #[.slice a ls.length cap, .slice aw wo.length capw] w (RetGs w (groupsL ls wo)) := by
  cases hrt : rightL ls with
  | false =>
    have hg : groupsL ls wo = [] := by unfold groupsL; rw [hrt]; rfl
    rw [hg]
    have Hrt := Lib.hid hrt; clear hrt hg
    go_enter Try.func24, Try.ntmps24
    go_wp2_with fail
    refine (refRight12_walk a cap ls _ hr hcap).mono ?_
    rw [Hrt.out]
    rintro e w1 ⟨rfl, hb1⟩
    go_wp2_with fail
    go_ret
    exact ⟨_, [], rfl, LRows.start _ _, hb1⟩
  | true =>
    have hR := (rightL_iff ls).1 hrt
    have hn := hR.1
    have HR := Lib.hid hR; have Hrt := Lib.hid hrt
    have hmk := run_make_row' (P := Try.prog) 25 3 (.int .i64 0) 8 Try.underlying25 int_info rfl .i64 .i64 ls.length (by omega) (by omega)
    clear hR hrt
    go_enter Try.func24, Try.ntmps24
    go_wp2_with fail
    refine (refRight12_walk a cap ls _ hr hcap).mono ?_
    rw [Hrt.out]
    rintro e w1 ⟨rfl, hb1⟩
    have hw1 := hw.below hb1
    have hr1 := hr.below hb1
    clear hw hr
    have hrow0 : Row (w1.alloc (.cells (madeCells #[.int .i64 0] ls.length) 3)) w1.heap.size 3 1 ls.length (rowN ls.length fun _ => 0) := by
      have := row_made w1 (.int .i64 0) ls.length 3 (by unfold maxLen; omega)
      rwa [rowN_zero] at this
    have hbA := bl_alloc w1 (.cells (madeCells #[.int .i64 0] ls.length) 3)
    go_upto_region 4 with (fail)
    clear hmk
    generalize w1.alloc (.cells (madeCells #[.int .i64 0] ls.length) 3) = w2 at hrow0 hbA ⊢
    go_wp2_with fail
    go_loopg [6, 7] ls.length (fun r mv i wr => ∃ (k many : Nat) (c : Nat → Nat), mv = .int .i64 many ∧ k + r = ls.length ∧ i = .int .i64 k ∧ Fl ls wo many k c ∧ Row wr w1.heap.size 3 1 ls.length (rowN ls.length c) ∧ Below w1.heap.size w1 wr)
    case atStart => exact ⟨0, 0, _, rfl, by omega, rfl, Fl.start ls wo, hrow0, hbA⟩
    case round =>
      clear hrow0 hbA
      obtain ⟨k, many, c0, rfl, hk, rfl, hF, hrw, hb⟩ := hrel
      have hml := hF.many_le
      by_cases hlt : k < ls.length
      · have c0k := hrw.atN hlt
        have hf0 := hrw.frozen k
        have hgl := hrw.lt
        obtain ⟨gA, rfl⟩ : ∃ n : Nat, n = gk := ⟨_, rfl⟩
        have Hk := Lib.hid hk; clear hk
        by_cases hck : c0 k = 0
        · have q1 : decide (0 < c0 k) = false := by rw [hck]; rfl
          have q2 : decide ((0 : Int) < (c0 k : Int)) = false := by rw [hck]; rfl
          obtain ⟨m, hm⟩ : ∃ m : Nat, m = many + 1 := ⟨_, rfl⟩
          have i1 : IntKind.i64.wrap ((many : Int) + 1) = (m : Int) := by rw [show ((many : Int) + 1) = (m : Int) by omega]; exact IntWalk.i64_in _ (by omega)
          have hrw2 : Row (wr.setCell ⟨w1.heap.size, k, none⟩ (.int .i64 (m : Int))) w1.heap.size 3 1 ls.length (rowN ls.length (upd c0 k m)) := by
            have := hrw.set k (.int .i64 (m : Int))
            rw [show (Value.int .i64 (m : Int)) = vN m from rfl, rowN_set] at this
            exact this
          have hb2 : Below w1.heap.size w1 (wr.setCell ⟨w1.heap.size, k, none⟩ (.int .i64 (m : Int))) := hb.setCell (Nat.le_refl _) _
          have hgr0 : Gr ls wo m k c0 (upd c0 k m) := Gr.start hlt hck
          have Hm := Lib.hid hm; have HF := Lib.hid hF; have Hck := Lib.hid hck
          have hm2 : m ≤ 1001 := by omega
          have Hlt := Lib.hid hlt
          clear hm hF hck hml
          obtain ⟨cS, hcS⟩ : ∃ cS, cS = upd c0 k m := ⟨_, rfl⟩
          rw [← hcS] at hrw2 hgr0
          clear hcS
          go_upto_region 11 with (fail)
          clear c0k hf0 hrw hb i1 q1 q2 hgl hlt
          generalize wr.setCell ⟨w1.heap.size, k, none⟩ (.int .i64 (m : Int)) = w3 at hrw2 hb2 ⊢
          go_wp2_with fail
          go_loopg [8] (ls.length + 1) (fun r av wr => ∃ (ag : Bool) (c : Nat → Nat), av = .bool ag ∧ Gr ls wo m k c0 c ∧ Row wr w1.heap.size 3 1 ls.length (rowN ls.length c) ∧ Below w1.heap.size w1 wr ∧ (ag = true → zerosC c ls.length < r) ∧ (ag = false → ∀ p q, p < ls.length → q < ls.length → NoTrig ls wo m c p q))
          case atStart => exact ⟨true, _, rfl, hgr0, hrw2, hb2, fun _ => by have := zerosC_le cS ls.length; omega, nofun⟩
          case round =>
            clear hgr0 hrw2 hb2
            obtain ⟨ag, cP, rfl, hgr, hrow, hb, hz, hcl⟩ := hrel
            cases ag with
            | false =>
              have hgr' : Gr ls wo (many + 1) k c0 cP := by rw [← Hm.out]; exact hgr
              have hfl := hgr'.close HF.out Hlt.out Hck.out (fun p q X Y hp hq => by
                have := hcl rfl p q (List.getElem?_eq_some_iff.1 hp).1 (List.getElem?_eq_some_iff.1 hq).1 X Y hp hq
                rw [Hm.out] at this; exact this)
              rw [← Hm.out] at hfl
              have Hfl := Lib.hid hfl
              clear hfl hgr' hgr hz hcl
              have hlt := Hlt.out
              go_wp2_with fail
              go_roundg (gA - 1)
              case measure => have := Hk.out; have := Hlt.out; omega
              case rel => exact ⟨k + 1, m, cP, rfl, by have := Hk.out; have := Hlt.out; omega, by go_num, Hfl.out, hrow, hb⟩
            | true =>
              have hz1 := hz rfl
              have HZ := Lib.hid hz1; have Hgr0 := Lib.hid hgr
              clear hz hcl hz1 hgr
              obtain ⟨gP, rfl⟩ : ∃ n : Nat, n = gk := ⟨_, rfl⟩
              go_wp2_with fail
              go_loopg [8, 9] ls.length (fun r av xv wr => ∃ (x : Nat) (ag : Bool) (c : Nat → Nat), x + r = ls.length ∧ xv = .int .i64 x ∧ av = .bool ag ∧ Gr ls wo m k c0 c ∧ Row wr w1.heap.size 3 1 ls.length (rowN ls.length c) ∧ Below w1.heap.size w1 wr ∧ PassOk ls wo m cP c ag x 0)
              case atStart => exact ⟨0, false, cP, by omega, rfl, rfl, Hgr0.out, hrow, hb, PassOk.start⟩
              case round =>
                clear hrow hb
                obtain ⟨x, ag, c, hx, rfl, rfl, hgr, hrow, hb, hpass⟩ := hrel
                by_cases hxl : x < ls.length
                · obtain ⟨gX, rfl⟩ : ∃ n : Nat, n = gk := ⟨_, rfl⟩
                  have Hx := Lib.hid hx; have Hgr1 := Lib.hid hgr; have Hpass1 := Lib.hid hpass
                  clear hx hgr hpass
                  go_wp2_with fail
                  go_loopg [8, 10] ls.length (fun r av yv wr => ∃ (y : Nat) (ag : Bool) (c : Nat → Nat), y + r = ls.length ∧ yv = .int .i64 y ∧ av = .bool ag ∧ Gr ls wo m k c0 c ∧ Row wr w1.heap.size 3 1 ls.length (rowN ls.length c) ∧ Below w1.heap.size w1 wr ∧ PassOk ls wo m cP c ag x y)
                  case atStart => exact ⟨0, ag, c, by omega, rfl, rfl, Hgr1.out, hrow, hb, Hpass1.out⟩
                  case round =>
                    clear hrow hb
                    clear Hgr1 Hpass1
                    clear c ag
                    obtain ⟨y, ag, c, hy, rfl, rfl, hgr, hrow, hb, hpass⟩ := hrel
                    have Hy := Lib.hid hy; have Hgr := Lib.hid hgr
                    clear hgr
                    by_cases hyl : y < ls.length
                    · have cx := hrow.atN hxl
                      have cy := hrow.atN hyl
                      clear hy
                      by_cases e1 : c x = m
                      · by_cases e2 : c y = 0
                        · have q1 : ((c x : Int) == (m : Int)) = true := by rw [e1]; simp
                          have q1' : (c x == m) = true := by rw [e1]; simp
                          have q2 : ((c y : Int) == 0) = true := by rw [e2]; rfl
                          have q2' : (c y == 0) = true := by rw [e2]; rfl
                          obtain ⟨b, o, rfl, l0, l1, l2⟩ := (hr1.below hb).at x hxl
                          obtain ⟨b', o', eb, l3, l4, l5⟩ := (hr1.below hb).at y hyl
                          cases eb
                          obtain ⟨⟨x1, x2, x3⟩, hX⟩ : ∃ X : Lk, ls[x] = X := ⟨_, rfl⟩
                          obtain ⟨⟨y1, y2, y3⟩, hY⟩ : ∃ Y : Lk, ls[y] = Y := ⟨_, rfl⟩
                          rw [hX] at l0 l1 l2
                          rw [hY] at l3 l4 l5
                          simp only at l0 l1 l2 l3 l4 l5
                          have gX' : ls[x]? = some (x1, x2, x3) := by rw [List.getElem?_eq_getElem hxl, hX]
                          have gY' : ls[y]? = some (y1, y2, y3) := by rw [List.getElem?_eq_getElem hyl, hY]
                          have hwo := hw1.below hb
                          have GX := Lib.hid gX'; have GY := Lib.hid gY'; have E1 := Lib.hid e1; have E2 := Lib.hid e2
                          have Hpass := Lib.hid hpass
                          clear gX' gY' hX hY e1 e2 hpass
                          go_wp2_with fail
                          go_region_held3 (fun w' => RdI w' aw wo ∧ w'.cell? ⟨w1.heap.size, x, none⟩ = some (.int .i64 (c x : Int)) ∧ w'.cell? ⟨w1.heap.size, y, none⟩ = some (.int .i64 (c y : Int)) ∧
                              w'.cell? ⟨b, o + x * 3, none⟩ = some (.int .i64 x1) ∧ w'.cell? ⟨b, o + x * 3 + 1, none⟩ = some (.int .i64 x2) ∧ w'.cell? ⟨b, o + x * 3 + 2, none⟩ = some (.int .i64 x3) ∧
                              w'.cell? ⟨b, o + y * 3, none⟩ = some (.int .i64 y1) ∧ w'.cell? ⟨b, o + y * 3 + 1, none⟩ = some (.int .i64 y2) ∧ w'.cell? ⟨b, o + y * 3 + 2, none⟩ = some (.int .i64 y3))
                            (first | (go_split_ands; refine ⟨RdI.below (by assumption) (by assumption), ?_, ?_, ?_, ?_, ?_, ?_, ?_, ?_⟩ <;> (refine keep_cell (by assumption) ?_; assumption)) | (refine ⟨hwo, ?_⟩; go_keep) | go_keep)
                            (first | (go_at_call 50; refine (touch12_walk _ _ _ _ _ _ _ _ _ _ (by first | assumption | (go_split_ands; assumption)) (by omega)).mono ?_; rintro e w' ⟨rfl, hbw⟩))
                          have hbw2 : Below wr.heap.size wr w' := bl_trans ((bl_refl wr).drew) hbw
                          have hrow' := hrow.below hbw2 hrow.lt
                          have hb' := bl_trans hb hbw2
                          cases ht : touchB wo (x1, x2, x3) (y1, y2, y3) with
                          | false =>
                            have hno : NoTrig ls wo m c x y := fun X Y hX hY h => by
                              rw [GX.out] at hX; rw [GY.out] at hY
                              cases hX; cases hY
                              rw [ht] at h; exact Bool.noConfusion h.2.2
                            have hpn := Hpass.out.next hno
                            have Hpn := Lib.hid hpn
                            clear hno hpn ht
                            go_wp2_with fail
                            go_roundg (gk - 1)
                            case measure => have := Hy.out; omega
                            case rel => exact ⟨y + 1, ag, c, by have := Hy.out; omega, by go_num, rfl, Hgr.out, hrow', hb', Hpn.out⟩
                          | true =>
                            have hgs : Gr ls wo m k c0 (upd c y m) := by
                              have h1 := Hgr.out; have h2 := E1.out; have h3 := Hm.out
                              subst h3
                              exact h1.step HF.out GX.out GY.out h2 E2.out ht
                            have hph := Hpass.out.hit (x' := x) (y' := y + 1) hyl E2.out (by have := Hm.out; omega)
                            have Hgs := Lib.hid hgs; have Hph := Lib.hid hph
                            have cy' := hrow'.atN hyl
                            have fy' := hrow'.frozen y
                            have hgl := hrow'.lt
                            have hrs : Row (w'.setCell ⟨w1.heap.size, y, none⟩ (.int .i64 (m : Int))) w1.heap.size 3 1 ls.length (rowN ls.length (upd c y m)) := by
                              have := hrow'.set y (.int .i64 (m : Int))
                              rw [show (Value.int .i64 (m : Int)) = vN m from rfl, rowN_set] at this
                              exact this
                            have hbs : Below w1.heap.size w1 (w'.setCell ⟨w1.heap.size, y, none⟩ (.int .i64 (m : Int))) := hb'.setCell (Nat.le_refl _) _
                            clear hgs hph ht
                            go_wp2_with fail
                            go_roundg (gk - 1)
                            case measure => have := Hy.out; omega
                            case rel => exact ⟨y + 1, true, _, by have := Hy.out; omega, by go_num, rfl, Hgs.out, hrs, hbs, Hph.out⟩
                        · have q1 : ((c x : Int) == (m : Int)) = true := by rw [e1]; simp
                          have q1' : (c x == m) = true := by rw [e1]; simp
                          have q2 : ((c y : Int) == 0) = false := by rw [beq_eq_false_iff_ne]; omega
                          have q2' : (c y == 0) = false := by simpa using e2
                          have hno : NoTrig ls wo m c x y := fun _ _ _ _ h => e2 h.2.1
                          -- nothing is done at (x, y)
                          have hpn := hpass.next hno
                          have Hpn := Lib.hid hpn
                          clear hpn hpass hno e1 e2
                          go_wp2_with fail
                          go_quiet (fail)
                          go_wp2_with fail
                          go_roundg (gk - 1)
                          case measure => have := Hy.out; omega
                          case rel => exact ⟨y + 1, ag, c, by have := Hy.out; omega, by go_num, rfl, Hgr.out, hrow, bl_trans hb (below_drewN (bl_refl _) _), Hpn.out⟩
                      · have q1 : ((c x : Int) == (m : Int)) = false := by rw [beq_eq_false_iff_ne]; omega
                        have q1' : (c x == m) = false := by simpa using e1
                        have hno : NoTrig ls wo m c x y := fun _ _ _ _ h => e1 h.1
                        -- nothing is done at (x, y)
                        have hpn := hpass.next hno
                        have Hpn := Lib.hid hpn
                        clear hpn hpass hno e1
                        go_wp2_with fail
                        go_quiet (fail)
                        go_wp2_with fail
                        go_roundg (gk - 1)
                        case measure => have := Hy.out; omega
                        case rel => exact ⟨y + 1, ag, c, by have := Hy.out; omega, by go_num, rfl, Hgr.out, hrow, bl_trans hb (below_drewN (bl_refl _) _), Hpn.out⟩
                    · have hyn : y = ls.length := by omega
                      subst hyn
                      have hp := hpass.row
                      have Hp := Lib.hid hp
                      clear hp hpass hy
                      go_wp2_with fail
                      go_roundg (gX - 1)
                      case measure => have := Hx.out; omega
                      case rel => exact ⟨x + 1, ag, c, by have := Hx.out; omega, by go_num, rfl, Hgr.out, hrow, hb, Hp.out⟩
                · have hxn : x = ls.length := by omega
                  subst hxn
                  have Hgr := Lib.hid hgr; have Hp := Lib.hid hpass
                  clear hgr hpass hx
                  go_wp2_with fail
                  go_roundg (gP - 1)
                  case measure => have := HZ.out; omega
                  case rel => exact ⟨ag, c, rfl, Hgr.out, hrow, hb, fun e => by have := Hp.out.1 e; have := HZ.out; omega, fun e p q hp hq => (Hp.out.2 e).2.1 p q hp hq⟩
        · have q1 : decide (0 < c0 k) = true := by rw [decide_eq_true_eq]; omega
          have q2 : decide ((0 : Int) < (c0 k : Int)) = true := by rw [decide_eq_true_eq]; omega
          have hsk := hF.skip hlt hck
          have Hsk := Lib.hid hsk
          clear hsk hF hck
          go_wp2_with fail
          go_roundg (gA - 1)
          case measure => have := Hk.out; omega
          case rel => exact ⟨k + 1, many, c0, rfl, by have := Hk.out; omega, by go_num, Hsk.out, hrw, hb⟩
      · have hkl : k = ls.length := by omega
        subst hkl
        have hgrp := hF.groups Hrt.out
        have Hgrp := Lib.hid hgrp
        have hgl := hrw.lt
        have hrC := hr1.below hb
        obtain ⟨wC, rfl⟩ : ∃ wo : World, wo = wr := ⟨_, rfl⟩
        have hCsz := hb.size
        clear hgrp hF hk hlt hr1
        go_wp2_with fail
        go_loopg [11, 12] many (fun r so gv wj => ∃ (g : Nat) (vo : Value) (vals : List Value), vo = so ∧ g + r = many + 1 ∧ 1 ≤ g ∧ gv = .int .i64 g ∧ LRows wj wC.heap.size vo vals ((List.range' 1 (g - 1)).map fun t => pickL ls (ofCol c0 ls.length t)) ∧ Below wC.heap.size wC wj)
        case atStart => exact ⟨1, _, [], rfl, by omega, by omega, rfl, by simpa using LRows.start _ _, bl_refl _⟩
        case round =>
          obtain ⟨g, vo, vals, rfl, hg, hg1, rfl, hL, hbl⟩ := hrel
          by_cases hgm : g ≤ many
          · have hvl : vals.length ≤ 1000 := by have := hL.len; rw [List.length_map, List.length_range'] at this; omega
            obtain ⟨wS, rfl⟩ : ∃ wo : World, wo = wr := ⟨_, rfl⟩
            obtain ⟨gO, rfl⟩ : ∃ n : Nat, n = gk := ⟨_, rfl⟩
            have Hg := Lib.hid hg; clear hg
            have hgt : ((List.range' 1 (g - 1)).map fun t => pickL ls (ofCol c0 ls.length t)) ++ [pickL ls (ofCol c0 ls.length g)] = (List.range' 1 g).map fun t => pickL ls (ofCol c0 ls.length t) := by
              obtain ⟨d, rfl⟩ : ∃ d, g = d + 1 := ⟨g - 1, by omega⟩
              rw [Nat.add_sub_cancel, List.range'_concat, List.map_append]
              simp [Nat.add_comm]
            have Hgt := Lib.hid hgt; clear hgt
            obtain ⟨GS, hGS⟩ : ∃ GS, GS = (List.range' 1 (g - 1)).map fun t => pickL ls (ofCol c0 ls.length t) := ⟨_, rfl⟩
            rw [← hGS] at hL Hgt
            clear hGS
            go_wp2_with fail
            go_loopg [13, 14] ls.length (fun r xv iv wj => ∃ (i : Nat) (u : Value), u = xv ∧ i + r = ls.length ∧ iv = .int .i64 i ∧ OwnL wj u (pickL ls (ofCol c0 i g)) ∧ (∀ b, u.ownBlock = some b → wS.heap.size ≤ b) ∧ Below wS.heap.size wS wj)
            case atStart => exact ⟨0, _, rfl, by omega, rfl, own_nil _ _ _, fun b h => by simp [Value.ownBlock] at h, bl_refl _⟩
            case round =>
              obtain ⟨i, u, rfl, hi, rfl, hu, hub, hbS⟩ := hrel
              have hbC := bl_trans hbl hbS
              have Hu := Lib.hid hu; have Hub := Lib.hid hub
              by_cases hil : i < ls.length
              · have ci := (hrw.below hbC hgl).atN hil
                have Hi := Lib.hid hi
                clear hi hu hub
                by_cases hci : c0 i = g
                · have q1 : ((c0 i : Int) == (g : Int)) = true := by rw [hci]; simp
                  have q1' : (c0 i == g) = true := by rw [hci]; simp
                  obtain ⟨b, o, rfl, l0, l1, l2⟩ := (hrC.below hbC).at i hil
                  obtain ⟨⟨x, y, z⟩, hX⟩ : ∃ X : Lk, ls[i] = X := ⟨_, rfl⟩
                  rw [hX] at l0 l1 l2
                  simp only at l0 l1 l2
                  have hkx : ls[i]? = some (x, y, z) := by rw [List.getElem?_eq_getElem hil, hX]
                  have hnx : pickL ls (ofCol c0 (i + 1) g) = pickL ls (ofCol c0 i g) ++ [(x, y, z)] := by
                    rw [ofCol_succ, if_pos hci, pickL_append, pickL_one hkx]
                  have hrl : (pickL ls (ofCol c0 i g)).length ≤ 1000 := by have := pickL_length_le ls (ofCol c0 i g); have := ofCol_length_le c0 i g; omega
                  have Hnx := Lib.hid hnx
                  clear hnx hX hkx hci
                  obtain ⟨rr, hrr⟩ : ∃ rr, rr = pickL ls (ofCol c0 i g) := ⟨_, rfl⟩
                  rw [← hrr] at Hu Hnx hrl
                  clear hrr
                  have hone3 : ∀ u ∈ [Value.int .i64 x, Value.int .i64 y, Value.int .i64 z], u.oneCell' = true := by intro u hu; simp only [List.mem_cons, List.not_mem_nil, or_false] at hu; rcases hu with rfl | rfl | rfl <;> rfl
                  have hnews3 : ∀ (j : Nat) v, [Value.int .i64 x, Value.int .i64 y, Value.int .i64 z][j]? = some v → (wr.alloc (.cells #[.int .i64 x, .int .i64 y, .int .i64 z] 29)).cell? ((⟨wr.heap.size, 0, none⟩ : Addr).add j) = some v := by
                    intro j v hj
                    match j with
                    | 0 => simp at hj; subst hj; simp [Addr.add]
                    | 1 => simp at hj; subst hj; simp [Addr.add]
                    | 2 => simp at hj; subst hj; simp [Addr.add]
                    | j + 3 => simp at hj
                  have hown : Own (wr.alloc (.cells #[.int .i64 x, .int .i64 y, .int .i64 z] 29)) u 29 3 rr.length (lkCells rr) := Own.alloc Hu.out _
                  have Hone3 := Lib.hid hone3; have Hnews3 := Lib.hid hnews3
                  clear hone3 hnews3
                  go_wp2_with (at_builtin; refine wpList_append_row _ rfl (.tmp 97) (.tmp 102) 22 rfl 29 (.agg #[.int .i64 0, .int .i64 0, .int .i64 0]) 3 24 Try.underlying22 link_info rfl u rr.length _ rfl hown ⟨wr.heap.size, 0, none⟩ 1 1 [.int .i64 x, .int .i64 y, .int .i64 z] rfl rfl Hnews3.out Hone3.out (by omega) (by unfold maxLen; omega) (by omega) ?_)
                  intro g5 c5 w5 hr5 hc5 hg5 hor5
                  have hb5 : Below wS.heap.size wS w5 := (bl_trans hbS (bl_alloc _ _)).grown hg5 (by have := hbS.size; simp; omega) (fun j hj => Hub.out j hj)
                  have hg6 : wS.heap.size ≤ g5 := by
                    rcases hor5 with h | h
                    · exact Hub.out g5 h
                    · have := hbS.size; first | omega | (simp at h; omega)
                  have hr6 : OwnL w5 (.slice (some ⟨g5, 0, none⟩) (rr.length + 1) c5) (pickL ls (ofCol c0 (i + 1) g)) := by
                    rw [Hnx.out]
                    have h1 : Row w5 g5 29 3 c5 (lkCells (rr ++ [(x, y, z)])) := by rw [lkCells_append]; exact hr5
                    have := h1.own (n := rr.length + 1) (by rw [lkCells_length]; simp) hc5
                    unfold OwnL
                    rw [List.length_append]
                    exact this
                  clear hr5 hg5 hor5 hown
                  go_wp2_with fail
                  go_roundg (gk - 1)
                  case measure => have := Hi.out; omega
                  case rel => exact ⟨i + 1, _, rfl, by have := Hi.out; omega, by go_num, hr6, fun b h => by cases h; exact hg6, hb5⟩
                · have q1 : ((c0 i : Int) == (g : Int)) = false := by rw [beq_eq_false_iff_ne]; omega
                  have q1' : (c0 i == g) = false := by simpa using hci
                  have hnx : pickL ls (ofCol c0 (i + 1) g) = pickL ls (ofCol c0 i g) := by
                    rw [ofCol_succ, if_neg hci, List.append_nil]
                  have Hnx := Lib.hid hnx
                  clear hnx hci
                  go_wp2_with fail
                  go_roundg (gk - 1)
                  case measure => have := Hi.out; omega
                  case rel => exact ⟨i + 1, _, rfl, by have := Hi.out; omega, by go_num, by rw [Hnx.out]; exact Hu.out, Hub.out, hbS⟩
              · have hin : i = ls.length := by omega
                subst hin
                clear hi hu hub
                obtain ⟨rr, hrr⟩ : ∃ rr, rr = pickL ls (ofCol c0 ls.length g) := ⟨_, rfl⟩
                rw [← hrr] at Hu Hgt
                clear hrr
                obtain ⟨au, cu, rfl, _⟩ := OwnL.read Hu.out
                have hLr := hL.ext hbS
                have hbA1 := bl_alloc wr (.cells #[.slice au rr.length cu] 22)
                have hL4 := hLr.ext hbA1
                have hown1 : OwnL (wr.alloc (.cells #[.slice au rr.length cu] 22)) (.slice au rr.length cu) rr := Own.alloc Hu.out _
                have hol := hL4.outer
                have hn1 : (wr.alloc (.cells #[.slice au rr.length cu] 22)).cell? ⟨wr.heap.size, 0, none⟩ = some (.slice au rr.length cu) := by simp
                have hone : ∀ v ∈ [Value.slice au rr.length cu], v.oneCell' = true := by
                  intro v hv
                  rw [List.mem_singleton] at hv
                  subst hv
                  rfl
                have hnews := one_new hn1
                have Hone := Lib.hid hone; have Hnews := Lib.hid hnews
                clear hone hnews hn1
                go_wp2_with (at_builtin; refine wpList_append_row _ rfl (.tmp 104) (.tmp 106) 34 rfl 22 (.slice none 0 0) 1 24 Try.underlying34 links_info rfl vo vals.length vals rfl hol ⟨wr.heap.size, 0, none⟩ 1 1 [.slice au rr.length cu] rfl rfl Hnews.out Hone.out (by omega) (by unfold maxLen; omega) (by omega) ?_)
                intro g' cap' w5 hr5 hc5 hg5 hor5
                have hL5 := hL4.push hown1 (fun b hb' => by
                  have h1 := Hub.out b hb'
                  have h2 := hbl.size
                  refine ⟨by omega, fun e => ?_, fun i v hv e => ?_⟩
                  · have := Own.lt hL.outer e; omega
                  · have := hL.rlt hv e; omega) hr5 hc5 hg5 (hor5.imp id (fun h => by simpa using h)) (by have := (bl_trans hbC hbA1).size; exact this)
                have hbl5 : Below wC.heap.size wC w5 := (bl_trans hbC hbA1).grown hg5 (by have := (bl_trans hbC hbA1).size; exact this) (fun j hj => hL.lo j hj)
                clear hL4 hLr hg5 hor5 hr5 hown1 hol hL
                go_wp2_with fail
                go_roundg (gO - 1)
                case measure => have := Hg.out; omega
                case rel => exact ⟨g + 1, _, _, rfl, by have := Hg.out; omega, by omega, by go_num, by rw [Nat.add_sub_cancel, ← Hgt.out]; exact hL5, hbl5⟩
          · have hgn : g = many + 1 := by omega
            subst hgn
            rw [Nat.add_sub_cancel, ← Hgrp.out] at hL
            clear hg
            go_wp2_with fail
            go_ret
            exact ⟨vo, vals, rfl, { hL with lo := fun g hg => by have := hL.lo g hg; have := hb1.size; omega, rlo := fun i u g hu hg => by have h1 := hL.rlo i u g hu hg; have := hb1.size; exact ⟨by omega, h1.2⟩ }, bl_trans hb1 (bl_trans hb hbl)⟩
end Go.Proofs.Ytagjakgbmmbmhaa
