/- split.Split. -/
import Derived.Test.YtagcbnpahgfgmaaSpU
import Derived.WalkMore
import Derived.ScopeJumps
namespace Go.Proofs.Ytagcbnpahgfgmaa
open Go Go.RowKit

theorem alloc_size (w : World) (o : Obj) : (w.alloc o).heap.size = w.heap.size + 1 := by simp
theorem grown_refl (w : World) (r : Option Nat) : w.grownBy w r := ⟨rfl, rfl, rfl, Nat.le_refl _, fun _ _ _ => rfl⟩
theorem PRows.push2 {w w' : World} {B : Nat} {vo : Value} {vals : List Value} {gs : List (List Lk)} (h : PRows w B vo vals gs) {a a' : Option Addr} {c c' : Nat} {r r' : List Lk} (hr : RdL w a r) (hc1 : r.length ≤ c) (hc2 : c ≤ maxLen) (hlt : ∀ ad, a = some ad → ad.block < w.heap.size)
    (hr' : RdL w a' r') (hc1' : r'.length ≤ c') (hc2' : c' ≤ maxLen) (hlt' : ∀ ad, a' = some ad → ad.block < w.heap.size)
    {G cap : Nat} (hrow : Row w' G 22 1 cap (vals ++ [.slice a r.length c, .slice a' r'.length c'])) (hc : vals.length + 2 ≤ cap) (hg : w.grownBy w' vo.ownBlock) (hor : vo.ownBlock = some G ∨ w.heap.size ≤ G) (hB : B ≤ w.heap.size)
    (hf : ∀ g, vo.ownBlock = some g → FreeB vals g) (hfa : ∀ g, vo.ownBlock = some g → ∀ ad, a = some ad → ad.block ≠ g) (hfa' : ∀ g, vo.ownBlock = some g → ∀ ad, a' = some ad → ad.block ≠ g) :
    PRows w' B (.slice (some ⟨G, 0, none⟩) (vals.length + 2) cap) (vals ++ [.slice a r.length c] ++ [.slice a' r'.length c']) (gs ++ [r] ++ [r']) := by
  have hrow' : Row w' G 22 1 cap (vals ++ [.slice a r.length c] ++ [.slice a' r'.length c']) := by rw [List.append_assoc]; exact hrow
  have h1 := h.push hr hc1 hc2 hlt (w' := w') (G := G) (cap := cap) (by
    have := hrow'.take (vals.length + 1)
    rwa [List.take_left' (by simp)] at this) (by omega) hg hor hB hf hfa
  have hGl := hrow.lt
  have hne : ∀ (ad : Addr), (a = some ad ∨ a' = some ad) → ad.block ≠ G := fun ad had e => by
    rcases hor with h1 | h1
    · rcases had with h2 | h2
      · exact hfa _ h1 ad h2 e
      · exact hfa' _ h1 ad h2 e
    · rcases had with h2 | h2
      · have := hlt ad h2; omega
      · have := hlt' ad h2; omega
  have hfG : FreeB vals G := by
    rcases hor with h1 | h1
    · exact hf _ h1
    · exact h.free_new h1
  have h2 := h1.push (hr'.grown hg (fun ad ha hk => hfa' _ hk ad ha rfl)) hc1' hc2' (fun ad ha => by have := hlt' ad ha; have := hg.size; omega) (w' := w') (G := G) (cap := cap) (by simpa using hrow')
    (by simp; omega) (grown_refl w' _) (.inl rfl) (by have := hg.size; omega) (fun g hg' => by cases hg'; exact hfG.app fun ad ha => hne ad (.inl ha)) (fun g hg' ad ha => by cases hg'; exact hne ad (.inr ha))
  simpa using h2
/-- the two lists' own blocks, and what they tell of, lie apart -/
structure CrossB (vt vo : Value) (valsT valsO : List Value) : Prop where
  t : ∀ g, vt.ownBlock = some g → vo.ownBlock ≠ some g ∧ FreeB valsT g ∧ FreeB valsO g
  o : ∀ g, vo.ownBlock = some g → FreeB valsT g ∧ FreeB valsO g
/-- What 'Split' hands back. -/
def RetSplit (w : World) (ls : List Lk) (next : Int) (e : Ending) (w' : World) : Prop :=
  ∃ a c out n, e = .returned (.tuple #[.slice a out.length c, .int .i64 n, .int .i64 0]) ∧ RdLs w' a out ∧ SplitTo ls next out n ∧ out.length ≤ 1001 ∧ (∀ r ∈ out, r.length ≤ 1000) ∧ Below w.heap.size w w'

set_option maxRecDepth 100000 in
set_option maxHeartbeats 8000000 in
theorem split_walk (a : Option Addr) (cap : Nat) (ls : List Lk) (next : Int) (w : World) (hr : RdL w a ls) (h2 : twoL ls = true) (hn1 : 1 ≤ next) (hn2 : next ≤ 1047576) (hv : ∀ k ∈ ls, k.2.2 < next) :
    Calls Try.prog 6 #[.slice a ls.length cap, .int .i64 next] w (RetSplit w ls next) := by
  have hn := (two_right h2).1
  have q1 : decide (next < 1) = false := by simp; omega
  have q2 : decide (1047576 < next) = false := by simp; omega
  have H2 := Lib.hid h2; have Hv := Lib.hid hv
  clear h2 hv
  go_enter Try.func6, Try.ntmps6
  go_wp2_with fail
  go_step3
  go_wp2_with fail
  refine (two_walk a cap ls _ hr (by omega)).mono ?_
  rw [H2.out]
  rintro e w1 ⟨rfl, hb1⟩
  have hr1 := hr.below hb1
  go_wp2_with fail
  go_loopg [29] ls.length (fun r iv wj => ∃ i : Nat, i + r = ls.length ∧ iv = .int .i64 i ∧ Below w1.heap.size w1 wj)
  case atStart => exact ⟨0, by omega, rfl, bl_refl _⟩
  case round =>
    obtain ⟨i, hi, rfl, hb⟩ := hrel
    have Hi := Lib.hid hi
    by_cases hil : i < ls.length
    · clear hi
      obtain ⟨b, o, rfl, c0, c1, c2⟩ := (hr1.below hb).at i hil
      have hlt := Hv.out _ (List.getElem_mem hil)
      obtain ⟨⟨x, y, z⟩, hx⟩ : ∃ x : Lk, ls[i] = x := ⟨_, rfl⟩
      rw [hx] at c0 c1 c2 hlt
      simp only at c0 c1 c2 hlt
      have q3 : decide (next ≤ z) = false := by simp; omega
      clear hx hlt
      go_wp2_with fail
      go_roundg (gk - 1)
      case measure => have := Hi.out; omega
      case rel => exact ⟨i + 1, by have := Hi.out; omega, by go_num, bl_trans hb (bl_alloc _ _)⟩
    · have hin : i = ls.length := by omega
      subst hin
      clear hi
      have hr2 := hr1.below hb
      have hB2 := bl_trans hb1 hb
      clear q1 q2
      go_wp2_with fail
      refine (clone_walk a cap ls _ hr2 (by omega)).mono ?_
      rintro e w3 ⟨v3, rfl, ho3, _, hb3⟩
      obtain ⟨a3, c3, rfl, hr3, _, hc3m, hc3⟩ := ho3.read
      have hB3 := bl_trans hB2 hb3
      have hlt3 : ∀ ad, a3 = some ad → ad.block < w3.heap.size := fun ad e => by
        subst e
        exact Own.lt ho3 rfl
      clear ho3 hb3 hB2 hr2 hb
      have hA := bl_alloc w3 (.cells #[.slice a3 ls.length c3] 22)
      have hrow : Row (w3.alloc (.cells #[.slice a3 ls.length c3] 22)) w3.heap.size 22 1 1 [.slice a3 ls.length c3] := row_lit w3 [.slice a3 ls.length c3] _ (by unfold maxLen; simp)
      have hPT : PRows (w3.alloc (.cells #[.slice a3 ls.length c3] 22)) w3.heap.size (.slice (some ⟨w3.heap.size, 0, none⟩) 1 1) [.slice a3 ls.length c3] [ls] := by
        refine ⟨rfl, ⟨rfl, .inr ⟨_, 1, rfl, Nat.le_refl _, hrow⟩⟩, fun g hg => by have e : w3.heap.size = g := Option.some.inj hg; omega, fun i r hi => ?_⟩
        match i with
        | 0 =>
          simp at hi; subst hi
          exact ⟨a3, c3, rfl, hr3.below hA, hc3, hc3m, fun ad e => by have := hlt3 ad e; simp; omega⟩
        | i + 1 => simp at hi
      have hfr3 : FreeB [.slice a3 ls.length c3] w3.heap.size := fun i a n c ad hv e => by
        match i with
        | 0 =>
          simp at hv
          obtain ⟨rfl, _, _⟩ := hv
          have := hlt3 ad e
          omega
        | i + 1 => simp at hv
      have hB4 := bl_trans hB3 hA
      have HPT := Lib.hid hPT; have Hfr3 := Lib.hid hfr3
      clear hPT hfr3 hrow hlt3 hr3
      go_upto_region 13 with (fail)
      have hB3s := hB3.size
      generalize w3.alloc (.cells #[.slice a3 ls.length c3] 22) = w4 at HPT hA hB4 ⊢
      obtain ⟨B, hBe⟩ : ∃ B, B = w3.heap.size := ⟨_, rfl⟩
      have hBw : w.heap.size ≤ B := by rw [hBe]; exact hB3s
      rw [← hBe] at HPT Hfr3 ⊢
      clear hBe hA hB3s hB3
      have hfm0 : fmL [ls] ≤ 997 := by unfold fmL; simp; omega
      have Hfm0 := Lib.hid hfm0; clear hfm0
      go_wp2_with fail
      go_step3
      go_wp2_with fail
      go_loopg [1, 9, 10] (2 * fmL [ls] + 1) (fun r nv ov tv wj => ∃ (s : SpS) (vt vo : Value) (valsT valsO : List Value), nv = .int .i64 s.next ∧ vo = ov ∧ vt = tv ∧ 2 * fmL s.todo + s.todo.length = r ∧ (∃ k, SpS.steps k ⟨[ls], [], next⟩ = s) ∧ PRows wj B vt valsT s.todo ∧ PRows wj B vo valsO s.out ∧ CrossB vt vo valsT valsO ∧
        (∀ t ∈ s.todo, t.length ≤ 1000) ∧ (∀ t ∈ s.out, t.length ≤ 1000) ∧ s.todo.length + s.out.length + fmL s.todo ≤ 1000 ∧ 1 ≤ s.next ∧ s.next + fmL s.todo ≤ next + 1000 ∧ B ≤ wj.heap.size ∧ Below w.heap.size w wj)
      case atStart =>
        have h1 := Hfm0.out
        exact ⟨⟨[ls], [], next⟩, _, _, _, [], rfl, rfl, rfl, rfl, ⟨0, rfl⟩, HPT.out, PRows.start _ _, ⟨fun g hg => by have e : B = g := Option.some.inj hg; subst e; exact ⟨fun h => by simp [Value.ownBlock] at h, Hfr3.out, FreeB.nil _⟩, fun g hg => by simp [Value.ownBlock] at hg⟩,
          fun t ht => by simp at ht; subst ht; exact hn, fun t ht => by simp at ht, by simp only [List.length_cons, List.length_nil]; omega, hn1, by simp only; omega, by have := Own.lt HPT.out.outer (g := B) rfl; omega, hB4⟩
      case round =>
        obtain ⟨s, vt, vo, valsT, valsO, rfl, rfl, rfl, hgk, hst, hT, hO, hX, hsz, hszo, hcnt, hnx1, hnx2, hBj, hbj⟩ := hrel
        have Hgk := Lib.hid hgk; have Hst := Lib.hid hst; have HO := Lib.hid hO; have HX := Lib.hid hX; have Hsz := Lib.hid hsz; have Hszo := Lib.hid hszo; have Hcnt := Lib.hid hcnt; have Hnx2 := Lib.hid hnx2
        clear hgk hst hO hX hsz hszo hcnt hnx2
        obtain ⟨todo, out, nx⟩ := s
        simp only at Hgk Hst hT HO Hsz Hszo Hcnt hnx1 Hnx2 ⊢
        rcases List.eq_nil_or_concat todo with rfl | ⟨T, top, rfl⟩
        · obtain ⟨at_, ct, rfl, _, _, _⟩ := hT.read
          obtain ⟨ao, co, rfl, hro, _, _⟩ := HO.out.read
          obtain ⟨k, hk⟩ := Hst.out
          have hsp : SplitTo ls next out nx := ⟨k, hk⟩
          have Hsp := Lib.hid hsp
          have hol : out.length ≤ 1001 := by have := Hcnt.out; omega
          clear hT hk hsp
          go_wp2_with fail
          try rw [Exit.noGoto_ret]
          exact bodyPost_ret (v := .tuple #[.slice ao out.length co, .int .i64 nx, .int .i64 0]) (by simp [results, Try.results6, go_sem]) rfl ⟨ao, co, out, nx, rfl, hro, Hsp.out, hol, Hszo.out, hbj⟩
        · rw [List.concat_eq_append] at Hgk Hst hT Hsz Hcnt Hnx2
          rcases List.eq_nil_or_concat valsT with rfl | ⟨VT, u, rfl⟩
          · have := hT.len; simp at this
          rw [List.concat_eq_append] at hT HX
          obtain ⟨gt, n, ct, hvt⟩ : ∃ gt n ct, vt = .slice (some ⟨gt, 0, none⟩) n ct := by
            rcases hT.outer.2 with ⟨_, h0⟩ | ⟨g, c, e, _, _⟩
            · simp at h0
            · exact ⟨g, _, c, e⟩
          subst hvt
          have hrowT : Row wr gt 22 1 ct (VT ++ [u]) ∧ (VT ++ [u]).length ≤ ct := by
            rcases hT.outer.2 with ⟨e, _⟩ | ⟨g, c, e, hc, hr⟩
            · cases e
            · cases e; exact ⟨hr, hc⟩
          obtain ⟨hT2, hVT, hnn, au, cu, rfl, hru, hcu1, hcu2, hult⟩ := hT.pop
          have c0 : wr.cell? ⟨gt, VT.length, none⟩ = some (.slice au top.length cu) := by rw [hrowT.1.cell? _ (by simp)]; simp
          have hctl : VT.length ≤ ct := by have := hrowT.2; simp at this; omega
          obtain ⟨m, hm⟩ : ∃ m, m = VT.length := ⟨_, rfl⟩
          rw [← hm] at c0 hT2 hnn hVT hctl
          have htl : top.length ≤ 1000 := Hsz.out top (by simp)
          have hml : m ≤ 1000 := by have := Hcnt.out; simp at this; omega
          have i1 : IntKind.i64.wrap ((n : Int) - 1) = (m : Int) := by rw [show (n : Int) - 1 = (m : Int) by omega]; exact IntWalk.i64_in _ (by omega)
          have i2 : (n : Int) - 1 = (m : Int) := by omega
          have n0 : decide ((0 : Int) < (n : Int)) = true := by simp; omega
          have n0' : decide (0 < n) = true := by simp; omega
          have m1 : (m : Int) < (n : Int) := by omega
          have m2 : m < n := by omega
          have HT2 := Lib.hid hT2; have Hnn := Lib.hid hnn; have HVT := Lib.hid hVT; have Hm := Lib.hid hm; have Hult := Lib.hid hult
          clear hT hT2 hnn hVT hm hrowT hult
          obtain ⟨⟨p, q, ok, er⟩, hf⟩ : ∃ f, f = firstC top := ⟨_, rfl⟩
          have Hf := Lib.hid hf
          clear hf
          go_wp2_with fail
          refine (first_walk au cu top _ hru (by omega)).mono ?_
          rw [first_c, ← Hf.out]
          rintro e w5 ⟨rfl, hb5⟩
          have hru5 := hru.below hb5
          have hB5 := bl_trans hbj hb5
          have hs5 := hb5.size
          have hT5 := HT2.out.ext hb5
          have hO5 := HO.out.ext hb5
          have hgt5 : gt < w5.heap.size := by have := Own.lt HT2.out.outer (g := gt) rfl; omega
          have hult5 : ∀ ad, au = some ad → ad.block < w5.heap.size := fun ad h => by have := Hult.out ad h; omega
          have hfmT : fmL (T ++ [top]) = fmL T + (top.length - 3) := by rw [fm_append]; simp [fmL]
          have HT5 := Lib.hid hT5; have HO5 := Lib.hid hO5; have Hult5 := Lib.hid hult5; have Hfm := Lib.hid hfmT
          have hbB5 : B ≤ w5.heap.size := by omega
          clear hT5 hO5 hult5 hfmT hru hb5
          cases ok with
          | false =>
            have hb6 := bl_alloc w5 (.cells #[.slice au top.length cu] 22)
            have hO6 := HO5.out.ext hb6
            have hT6 := HT5.out.ext hb6
            have hru6 := hru5.below hb6
            have hol := hO6.outer
            have hcn := Hcnt.out
            simp at hcn
            have hvb : valsO.length ≤ 1000 := by rw [HO5.out.len]; omega
            have hn1 : (w5.alloc (.cells #[.slice au top.length cu] 22)).cell? ⟨w5.heap.size, 0, none⟩ = some (.slice au top.length cu) := cell_new1 rfl
            have hone : ∀ u ∈ [Value.slice au top.length cu], u.oneCell' = true := by intro u hu; rw [List.mem_singleton] at hu; subst hu; rfl
            go_wp2_with (at_builtin; refine wpList_append_row _ rfl (.tmp 64) (.tmp 66) 28 rfl 22 (.slice none 0 0) 1 24 Try.underlying28 links_info rfl vo valsO.length valsO rfl hol ⟨w5.heap.size, 0, none⟩ 1 1 [.slice au top.length cu] rfl rfl (one_new hn1) hone (by omega) (by unfold maxLen; omega) (by omega) ?_)
            intro g' cap' w7 hr7 hc7 hg7 hor7
            have hs7 := hg7.size
            simp at hs7
            have hor8 : vo.ownBlock = some g' ∨ (w5.alloc (.cells #[.slice au top.length cu] 22)).heap.size ≤ g' := hor7.imp id (fun h => by simpa using h)
            have hlo := HO5.out.lo
            have hO7 := hO6.push hru6 hcu1 hcu2 (fun ad h => by have := Hult5.out ad h; simp; omega) hr7 hc7 hg7 hor8 (by simp; omega) (fun g hg => (HX.out.o g hg).2) (fun g hg => (HX.out.o g hg).1.last)
            have hT7 := hT6.grown hg7 (fun g hg hk => by have e : gt = g := Option.some.inj hg; subst e; exact (HX.out.t gt rfl).1 hk) (fun g hk => (HX.out.o g hk).1.sub)
            have hX7 : CrossB (.slice (some ⟨gt, 0, none⟩) m ct) (.slice (some ⟨g', 0, none⟩) (valsO.length + 1) cap') VT (valsO ++ [.slice au top.length cu]) := by
              refine ⟨fun g hg => ?_, fun g hg => ?_⟩
              · have e : gt = g := Option.some.inj hg
                subst e
                obtain ⟨x1, x2, x3⟩ := HX.out.t gt rfl
                refine ⟨fun h => ?_, x2.sub, x3.app x2.last⟩
                have e : g' = gt := Option.some.inj h
                subst e
                rcases hor7 with h | h
                · exact x1 h
                · omega
              · have e : g' = g := Option.some.inj hg
                subst e
                rcases hor8 with h | h
                · obtain ⟨x1, x2⟩ := HX.out.o g' h
                  exact ⟨x1.sub, x2.app x1.last⟩
                · exact ⟨hT6.free_new h, (hO6.free_new h).app fun ad ha e => by have h8 := Hult5.out ad ha; simp at h; omega⟩
            have hb7 : Below w.heap.size w w7 := (bl_trans hB5 hb6).grown hg7 (by have := hB5.size; simp; omega) (fun j hj => by have := hlo j hj; omega)
            have HO7 := Lib.hid hO7; have HT7 := Lib.hid hT7; have HX7 := Lib.hid hX7
            clear hO7 hT7 hX7 hol hn1 hone hr7 hc7 hg7 hor7 hor8 hO6 hT6 hru6 hb6
            go_wp2_with fail
            go_roundg (2 * fmL T + T.length)
            case measure =>
              have := Hgk.out; have h2 := Hfm.out
              rw [h2] at this
              simp at this
              omega
            case rel =>
              refine ⟨⟨T, out ++ [top], nx⟩, _, _, VT, _, rfl, rfl, rfl, rfl, ?_, HT7.out, HO7.out, HX7.out, ?_, ?_, ?_, hnx1, ?_, by omega, hb7⟩
              · obtain ⟨k, hk⟩ := Hst.out
                exact ⟨k + 1, by rw [steps_succ, hk]; simp [SpS.step, ← Hf.out]⟩
              · exact fun t ht => Hsz.out t (by simp [ht])
              · exact fun t ht => by
                  rcases List.mem_append.1 ht with h | h
                  · exact Hszo.out t h
                  · simp at h; subst h; exact htl
              · have := Hcnt.out; have h2 := Hfm.out; simp at this ⊢; omega
              · have := Hnx2.out; have h2 := Hfm.out; simp only at this ⊢; omega
          | true =>
            obtain ⟨t2, hp, hq, hpq, hpr, _⟩ := firstC_true Hf.out.symm
            have hmay : mayB top p q = true := by
              unfold mayB
              simp only [t2, Bool.and_true, Bool.and_eq_true, Bool.not_eq_true', beq_eq_false_iff_ne, ne_eq, List.contains_iff_mem]
              exact ⟨⟨by omega, hp⟩, hq⟩
            have hok : ∀ z ∈ vertsL top, WfZ z := fun z hz => by
              obtain ⟨x, hx, e⟩ := (mem_vertsL top z).1 hz
              have h1 := (two_right t2).2.1 x hx
              unfold OkL at h1
              rcases e with rfl | rfl <;> exact wfZ_of (by omega)
            have hwp : WfZ p := hok p hp
            have hwq : WfZ q := hok q hq
            clear hok
            obtain ⟨S1, hS1⟩ : ∃ S1, S1 = (sidesL top p q nx).1 := ⟨_, rfl⟩
            obtain ⟨S2, hS2⟩ : ∃ S2, S2 = (sidesL top p q nx).2 := ⟨_, rfl⟩
            have hfs := fm_sides (num := nx) Hf.out.symm
            rw [← hS1, ← hS2] at hfs
            have HS1 := Lib.hid hS1; have HS2 := Lib.hid hS2; have Hfs := Lib.hid hfs
            have hl1 : S1.length ≤ 1000 := by omega
            have hl2 : S2.length ≤ 1000 := by omega
            have Hmay := Lib.hid hmay; have Ht2 := Lib.hid t2
            clear hp hq hpq hpr hmay hS1 hS2 hfs t2
            go_wp2_with fail
            refine (sides_walk au cu top p q nx _ hru5 Ht2.out Hmay.out hwp hwq).mono ?_
            rintro e w6 ⟨v1, v2, rfl, ho1, ho2, hg1, hg2, hb6⟩
            rw [← HS1.out] at ho1
            rw [← HS2.out] at ho2
            have hl1' : ∀ g, v1.ownBlock = some g → g < w6.heap.size := fun g h => Own.lt ho1 h
            have hl2' : ∀ g, v2.ownBlock = some g → g < w6.heap.size := fun g h => Own.lt ho2 h
            obtain ⟨a1, c1, rfl, hr1, he1, hcm1, hc1⟩ := OwnL.read ho1
            obtain ⟨a2, c2, rfl, hr2, he2, hcm2, hc2⟩ := OwnL.read ho2
            have hlt1 : ∀ ad, a1 = some ad → w5.heap.size ≤ ad.block ∧ ad.block < w6.heap.size := fun ad h => ⟨hg1 _ (he1 _ h), hl1' _ (he1 _ h)⟩
            have hlt2 : ∀ ad, a2 = some ad → w5.heap.size ≤ ad.block ∧ ad.block < w6.heap.size := fun ad h => ⟨hg2 _ (he2 _ h), hl2' _ (he2 _ h)⟩
            have hs6 := hb6.size
            have hB6 := bl_trans hB5 hb6
            have i3 : IntKind.i64.wrap (nx + 1) = nx + 1 := IntWalk.i64_in _ (by have := Hnx2.out; omega)
            have hA := bl_alloc w6 (.cells #[.slice a2 S2.length c2, .slice a1 S1.length c1] 22)
            have hO6 := (HO5.out.ext hb6).ext hA
            have hT6 := (HT5.out.ext hb6).ext hA
            have hr1' := hr1.below hA
            have hr2' := hr2.below hA
            have hol := hT6.outer
            rw [← Hm.out] at hol
            have Hlt1 := Lib.hid hlt1; have Hlt2 := Lib.hid hlt2; have HO6 := Lib.hid hO6; have HT6 := Lib.hid hT6
            clear ho1 ho2 hl1' hl2' he1 he2 hg1 hg2 hlt1 hlt2 hb6 hO6 hT6 hr1 hr2
            have h0c : (w6.alloc (.cells #[.slice a2 S2.length c2, .slice a1 S1.length c1] 22)).cell? ⟨w6.heap.size, 0, none⟩ = some (.slice a2 S2.length c2) := (two_cells _ _ _ _ rfl).1
            have h1c : (w6.alloc (.cells #[.slice a2 S2.length c2, .slice a1 S1.length c1] 22)).cell? ⟨w6.heap.size, 1, none⟩ = some (.slice a1 S1.length c1) := (two_cells _ _ _ _ rfl).2
            go_wp2_with (at_builtin; refine wpList_append_row _ rfl (.tmp 78) (.tmp 81) 28 rfl 22 (.slice none 0 0) 1 24 Try.underlying28 links_info rfl (.slice (some ⟨gt, 0, none⟩) m ct) m VT rfl hol ⟨w6.heap.size, 0, none⟩ 2 2 [.slice a2 S2.length c2, .slice a1 S1.length c1] rfl rfl ?c1 ?c2 (by omega) (by unfold maxLen; omega) (by omega) ?_)
            case c1 =>
              intro j u hj
              match j with
              | 0 => simp at hj; subst hj; simp [Addr.add]
              | 1 => simp at hj; subst hj; simp [Addr.add]
              | j + 2 => simp at hj
            case c2 => intro u hu; simp at hu; rcases hu with rfl | rfl <;> rfl
            intro g' cap' w7 hr7 hc7 hg7 hor7
            have hs7 := hg7.size
            simp at hs7
            have hlo := HO5.out.lo
            have hltO : ∀ g, vo.ownBlock = some g → g < w5.heap.size := fun g hg => Own.lt HO5.out.outer hg
            have hor8 : some gt = some g' ∨ (w6.alloc (.cells #[.slice a2 S2.length c2, .slice a1 S1.length c1] 22)).heap.size ≤ g' := hor7.imp (fun h => h) (fun h => by rw [alloc_size]; exact h)
            have hT7 := HT6.out.push2 (r := S2) (r' := S1) hr2' hc2 hcm2 (fun ad h => by have := Hlt2.out ad h; have h9 := alloc_size w6 (.cells #[.slice a2 S2.length c2, .slice a1 S1.length c1] 22); omega) hr1' hc1 hcm1 (fun ad h => by have := Hlt1.out ad h; simp; omega) (by simpa using hr7) (by have := Hm.out; omega) hg7 hor8 (by simp; omega) (fun g hg => by have e : gt = g := Option.some.inj hg; subst e; exact (HX.out.t gt rfl).2.1.sub) (fun g hg ad ha e => by have e2 : gt = g := Option.some.inj hg; have := Hlt2.out ad ha; omega) (fun g hg ad ha e => by have e2 : gt = g := Option.some.inj hg; have := Hlt1.out ad ha; omega)
            have hO7 := HO6.out.grown hg7 (fun g hg hk => by have e : gt = g := Option.some.inj hk; subst e; exact (HX.out.t gt rfl).1 hg) (fun g hk => by have e : gt = g := Option.some.inj hk; subst e; exact (HX.out.t gt rfl).2.2)
            have hX7 : CrossB (.slice (some ⟨g', 0, none⟩) (VT.length + 2) cap') vo (VT ++ [.slice a2 S2.length c2] ++ [.slice a1 S1.length c1]) valsO := by
              refine ⟨fun g hg => ?_, fun g hg => ?_⟩
              · have e : g' = g := Option.some.inj hg
                subst e
                rcases hor8 with h | h
                · have e : gt = g' := Option.some.inj h
                  subst e
                  obtain ⟨x1, x2, x3⟩ := HX.out.t gt rfl
                  exact ⟨x1, (x2.sub.app fun ad ha e => by have := Hlt2.out ad ha; omega).app fun ad ha e => by have := Hlt1.out ad ha; omega, x3⟩
                · have h9 : w6.heap.size + 1 ≤ g' := by simpa using h
                  refine ⟨fun hk => by have := hltO _ hk; omega, ((HT6.out.free_new h).app fun ad ha e => by have := Hlt2.out ad ha; omega).app fun ad ha e => by have := Hlt1.out ad ha; omega, HO6.out.free_new h⟩
              · have hgl := hltO g hg
                obtain ⟨x1, x2⟩ := HX.out.o g hg
                exact ⟨(x1.sub.app fun ad ha e => by have := Hlt2.out ad ha; omega).app fun ad ha e => by have := Hlt1.out ad ha; omega, x2⟩
            have hb7 : Below w.heap.size w w7 := (bl_trans hB6 hA).grown hg7 (by have := hB6.size; simp; omega) (fun j hj => by have e : gt = j := Option.some.inj hj; have := HT2.out.lo gt rfl; omega)
            have hT8 := hT7
            rw [← Hm.out] at hT8
            have hX8 := hX7
            rw [← Hm.out] at hX8
            have HO7 := Lib.hid hO7; have HT7 := Lib.hid hT8; have HX7 := Lib.hid hX8
            clear hO7 hT7 hX7 hT8 hX8 hol hr7 hc7 hg7 hor7 hor8 hr1' hr2' h0c h1c hlo hltO hA hru5
            go_wp2_with fail
            go_roundg (2 * fmL (T ++ [S2] ++ [S1]) + (T ++ [S2] ++ [S1]).length)
            case measure =>
              have := Hgk.out; have h2 := Hfm.out; have h3 := Hfs.out
              rw [h2] at this
              rw [List.append_assoc, fm_append]
              simp at this h3 ⊢
              omega
            case rel =>
              refine ⟨⟨T ++ [S2] ++ [S1], out, nx + 1⟩, _, _, _, valsO, rfl, rfl, rfl, rfl, ?_, HT7.out, HO7.out, HX7.out, ?_, Hszo.out, ?_, by simp only; omega, ?_, by omega, hb7⟩
              · obtain ⟨k, hk⟩ := Hst.out
                exact ⟨k + 1, by rw [steps_succ, hk, HS1.out, HS2.out]; simp [SpS.step, ← Hf.out]⟩
              · intro t ht
                simp at ht
                rcases ht with ht | rfl | rfl
                · exact Hsz.out t (by simp [ht])
                · exact hl2
                · exact hl1
              · have := Hcnt.out; have h2 := Hfm.out; have h3 := Hfs.out; simp only [List.append_assoc, fm_append, List.length_append, List.length_cons, List.length_nil] at this h3 ⊢; simp [fmL] at this h3 h2 ⊢; omega
              · have := Hnx2.out; have h2 := Hfm.out; have h3 := Hfs.out; simp only [List.append_assoc, fm_append] at this h3 ⊢; simp [fmL] at this h3 h2 ⊢; omega
end Go.Proofs.Ytagcbnpahgfgmaa
