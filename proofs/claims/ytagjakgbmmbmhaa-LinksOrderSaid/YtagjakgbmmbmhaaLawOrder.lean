/- The law LinksOrder: whatever links come in (of more than 60 only the chapter's examples are asked): put in order they are right just if all are such and no two the same; turned about they are put in the same order. It holds for every input. -/
import Derived.Test.YtagjakgbmmbmhaaAwakeL
import Derived.Test.YtagjakgbmmbmhaaLkT
import Derived.Test.YtagjakgbmmbmhaaRowL
namespace Go.Proofs.Ytagjakgbmmbmhaa
open Go Go.RowKit Go.ChangeShapes Go.WideShapes Go.ChangeAt Go.Joins Go.Deep

def flipL (k : Lk) : Lk := (k.2.1, k.1, k.2.2)
def backL (ls : List Lk) : List Lk := ls.reverse.map flipL
theorem back_len (ls : List Lk) : (backL ls).length = ls.length := by simp [backL]
theorem swap_flip (k : Lk) : swapL (flipL k) = swapL k := by
  obtain ⟨a, b, v⟩ := k
  unfold swapL flipL
  simp only
  by_cases h1 : b < a
  · rw [if_pos h1, if_neg (by omega)]
  · rw [if_neg h1]
    by_cases h2 : a < b
    · rw [if_pos h2]
    · rw [if_neg h2]
      have : a = b := by omega
      rw [this]
theorem sort_back (ls : List Lk) : sortL (backL ls) = sortL ls := by
  refine sortL_congr ?_
  unfold backL
  rw [List.map_map, show swapL ∘ flipL = swapL from funext swap_flip]
  exact (List.reverse_perm ls).map swapL
theorem back_get (ls : List Lk) (k : Nat) (h : k < ls.length) : (backL ls).take (k + 1) = (backL ls).take k ++ [flipL (ls[ls.length - 1 - k]'(by omega))] := by
  have hk : k < (backL ls).length := by rw [back_len]; exact h
  rw [List.take_succ_eq_append_getElem hk]
  congr 1
  simp [backL]
/-- what the law reckons -/
def fineL (s : List Lk) (k : Nat) : Prop := ∀ j (h : j < s.length), j < k → OkL s[j] ∧ (j = 0 ∨ ∀ h2 : j - 1 < s.length, s[j-1] ≠ s[j])
theorem fine_right {s : List Lk} (hs : s.Pairwise LeL) (hl : s.length ≤ 1000) : fineL s s.length ↔ rightL s = true := by
  rw [rightL_at]
  have hp := List.pairwise_iff_getElem.1 hs
  constructor
  · intro h
    refine ⟨hl, fun i hi => (h i hi hi).1, fun i hi => ?_⟩
    have h1 := (h (i + 1) hi hi).2
    rcases h1 with h1 | h1
    · omega
    · have h2 := h1 (by omega)
      have h3 := hp i (i + 1) (by omega) hi (by omega)
      refine Classical.byContradiction fun hno => ?_
      exact h2 (by simpa using LtL.total _ _ hno h3)
  · rintro ⟨_, h1, h2⟩ j hj _
    refine ⟨h1 j hj, ?_⟩
    rcases Nat.eq_zero_or_pos j with e | e
    · exact .inl e
    · right
      intro h3 he
      have h4 := h2 (j - 1) (by omega)
      rw [he] at h4
      have e2 : j - 1 + 1 = j := by omega
      simp only [e2] at h4
      exact LtL.irrefl _ h4
theorem fine_yes {s : List Lk} {k : Nat} (h : fineL s k) (hk : k < s.length) (ho : OkL s[k]) (hd : k = 0 ∨ ∀ h2 : k - 1 < s.length, s[k-1] ≠ s[k]) : fineL s (k + 1) := by
  intro j hj hjk
  by_cases e : j < k
  · exact h j hj e
  · obtain rfl : j = k := by omega
    exact ⟨ho, hd⟩
theorem fine_no {s : List Lk} {k : Nat} (hk : k < s.length) (h : ¬ (OkL s[k] ∧ (k = 0 ∨ ∀ h2 : k - 1 < s.length, s[k-1] ≠ s[k]))) : ¬ fineL s (k + 1) := fun hf => h (hf k hk (by omega))

set_option maxRecDepth 100000 in
set_option maxHeartbeats 8000000 in
theorem linksOrder_walk (a : Option Addr) (cap : Nat) (ls : List Lk) (w : World) (hr : RdL w a ls) (hl : ls.length ≤ cap) (hm : cap ≤ maxLen) (_hw : ∀ k ∈ ls, WfZ k.1 ∧ WfZ k.2.1 ∧ WfZ k.2.2) :
    Calls Try.prog 6 #[.slice a ls.length cap] w (RetT w true) := by
  have hcap : ls.length ≤ 9223372036854775807 := by unfold maxLen at hm; omega
  clear _hw hm hl
  by_cases h60 : 60 < ls.length
  · have g0 : decide ((60 : Int) < (ls.length : Int)) = true := by simp; omega
    go_enter Try.func6, Try.ntmps6
    go_wp2_with fail
    refine (awake_walk _).mono ?_
    rintro e w1 ⟨rfl, hb1⟩
    go_wp2_with fail
    go_ret
    exact ⟨rfl, hb1⟩
  have h60' : ls.length ≤ 60 := by omega
  have g0 : decide ((60 : Int) < (ls.length : Int)) = false := by simp; omega
  have hbl := back_len ls
  have Hbl := Lib.hid hbl; clear hbl h60
  go_enter Try.func6, Try.ntmps6
  go_wp2_with fail
  go_loopg [3, 16] ls.length (fun r so i wr => ∃ (k : Nat) (vo : Value), vo = so ∧ k + r = ls.length ∧ i = .int .i64 k ∧ OwnL wr vo ((backL ls).take k) ∧ (∀ g, vo.ownBlock = some g → w.heap.size ≤ g) ∧ Below w.heap.size w wr)
  case atStart => exact ⟨0, _, rfl, by omega, rfl, by rw [List.take_zero]; exact own_nil _ _ _, fun g hg => by simp [Value.ownBlock] at hg, bl_refl _⟩
  case round =>
    obtain ⟨k, vo, rfl, hk, rfl, hown, hnew, hb⟩ := hrel
    by_cases hlt : k < ls.length
    · obtain ⟨b, o, rfl, c0, c1, c2⟩ := (hr.below hb).at (ls.length - 1 - k) (by omega)
      have hst := back_get ls k hlt
      obtain ⟨⟨x, y, z⟩, hx⟩ : ∃ x : Lk, ls[ls.length - 1 - k]'(by omega) = x := ⟨_, rfl⟩
      rw [hx] at c0 c1 c2 hst
      simp only [flipL] at c0 c1 c2 hst
      have im1 : k ≤ ls.length - 1 := by omega
      have im2 : ls.length - 1 - k < ls.length := by omega
      have hown2 : Own (wr.alloc (.cells #[.int .i64 y, .int .i64 x, .int .i64 z] 29)) vo 29 3 ((backL ls).take k).length (lkCells ((backL ls).take k)) := hown.alloc _
      have htl : ((backL ls).take k).length = k := by rw [List.length_take, Hbl.out]; omega
      have Hst := Lib.hid hst; have Hk := Lib.hid hk; have Hnew := Lib.hid hnew; have Htl := Lib.hid htl
      clear hst hk hnew hx htl hown
      go_upto_region 9 with (fail)
      have hb1 : Below w.heap.size w (wr.alloc (.cells #[.int .i64 y, .int .i64 x, .int .i64 z] 29)) := bl_trans hb (bl_alloc _ _)
      have hsz : w.heap.size ≤ wr.heap.size := hb.size
      have hownZ := hown2.alloc (.cells #[.int .i64 y, .int .i64 x, .int .i64 z] 29)
      rw [Htl.out] at hownZ
      have hone3 : ∀ u ∈ [Value.int .i64 y, Value.int .i64 x, Value.int .i64 z], u.oneCell' = true := by intro u hu; simp only [List.mem_cons, List.not_mem_nil, or_false] at hu; rcases hu with rfl | rfl | rfl <;> rfl
      have hnews3 : ∀ (j : Nat) v, [Value.int .i64 y, Value.int .i64 x, Value.int .i64 z][j]? = some v → ((wr.alloc (.cells #[.int .i64 y, .int .i64 x, .int .i64 z] 29)).alloc (.cells #[.int .i64 y, .int .i64 x, .int .i64 z] 29)).cell? ((⟨wr.heap.size + 1, 0, none⟩ : Addr).add j) = some v := by
        intro j v hj
        match j with
        | 0 => simp at hj; subst hj; simp [Addr.add]
        | 1 => simp at hj; subst hj; simp [Addr.add]
        | 2 => simp at hj; subst hj; simp [Addr.add]
        | j + 3 => simp at hj
      have Hone3 := Lib.hid hone3; have Hnews3 := Lib.hid hnews3
      clear hone3 hnews3 hown2 c0 c1 c2
      go_wp2_with (at_builtin; refine wpList_append_row _ rfl (.tmp 33) (.tmp 35) 22 rfl 29 (.agg #[.int .i64 0, .int .i64 0, .int .i64 0]) 3 24 Try.underlying22 link_info rfl _ k _ rfl hownZ ⟨wr.heap.size + 1, 0, none⟩ 1 1 [.int .i64 y, .int .i64 x, .int .i64 z] rfl rfl Hnews3.out Hone3.out (by omega) (by unfold maxLen; omega) (by omega) ?_)
      intro g5 c5 w5 hr5 hc5 hg5 hor5
      have hb5 : Below w.heap.size w w5 := (bl_trans hb1 (bl_alloc _ _)).grown hg5 (by simp; omega) (fun j hj => Hnew.out j hj)
      have hg6 : w.heap.size ≤ g5 := by
        rcases hor5 with h | h
        · exact Hnew.out g5 h
        · omega
      have hown5 : OwnL w5 (.slice (some ⟨g5, 0, none⟩) (k + 1) c5) ((backL ls).take (k + 1)) := by
        rw [Hst.out]
        have hl2 : ((backL ls).take k ++ [((y, x, z) : Lk)]).length = k + 1 := by rw [List.length_append, Htl.out]; rfl
        unfold OwnL
        rw [hl2, lkCells_append]
        exact hr5.own (by rw [List.length_append, lkCells_length, Htl.out]; simp; omega) hc5
      clear hr5 hg5 hor5 hownZ
      go_wp2_with fail
      go_roundg (gk - 1)
      case measure => have := Hk.out; omega
      case rel => exact ⟨k + 1, _, rfl, by have := Hk.out; omega, by go_num, hown5, fun g hg => by cases hg; exact hg6, hb5⟩
    · have hkl : k = ls.length := by omega
      subst hkl
      rw [show (backL ls).take ls.length = backL ls by rw [← Hbl.out, List.take_length]] at hown
      obtain ⟨ab, cb, rfl, hrb, _, hcb, _⟩ := hown.read
      have hr1 := hr.below hb
      have hlb : (backL ls).length ≤ 60 := by rw [Hbl.out]; exact h60'
      have hsl := sortL_length ls
      have Hsl := Lib.hid hsl
      clear hown hnew hk hr hsl
      rw [Hbl.out]
      go_wp2_with fail
      refine (sorted_walk a cap ls _ hr1 (by omega)).mono ?_
      rintro e w1 ⟨v1, rfl, ho1, hn1, hb1⟩
      obtain ⟨a1, c1, rfl, hs1, _, hc1, hl1⟩ := ho1.read
      have hB1 := bl_trans hb hb1
      have hrb1 := hrb.below hb1
      have hsl2 : (sortL ls).length ≤ 60 := by rw [Hsl.out]; exact h60'
      clear ho1 hn1 hb1 hb hrb hr1
      have hcall2 := sorted_walk ab cb (backL ls) w1 hrb1 (by omega)
      rw [sort_back, Hbl.out] at hcall2
      go_wp2_with fail
      refine hcall2.mono ?_
      rintro e w2 ⟨v2, rfl, ho2, hn2, hb2⟩
      obtain ⟨a2, c2, rfl, hs2, _, hc2, hl2⟩ := ho2.read
      have hB2 := bl_trans hB1 hb2
      have hs1b := hs1.below hb2
      clear ho2 hn2 hb2 hs1 hcall2 hrb1 hB1
      have hcall3 := same_walk a1 a2 c1 c2 (sortL ls) (sortL ls) w2 hs1b hs2 (by omega) (by omega)
      rw [show decide (sortL ls = sortL ls) = true by simp] at hcall3
      go_wp2_with fail
      refine hcall3.mono ?_
      rintro e w3 ⟨rfl, d3, rfl⟩
      have hs1c := hs1b.below (below_drewN (bl_refl w2) d3)
      have hB3 := below_drewN hB2 d3
      clear hcall3 hs2 hs1b hB2
      generalize w2.drewN d3 = w3 at hs1c hB3 ⊢
      have hcall4 := sorted_walk a1 c1 (sortL ls) w3 hs1c (by omega)
      rw [sortL_idem] at hcall4
      go_wp2_with fail
      refine hcall4.mono ?_
      rintro e w4 ⟨v4, rfl, ho4, hn4, hb4⟩
      obtain ⟨a4, c4, rfl, hs4, _, hc4, hl4⟩ := ho4.read
      have hB4 := bl_trans hB3 hb4
      have hs1d := hs1c.below hb4
      clear ho4 hn4 hb4 hs1c hcall4 hB3
      have hcall5 := same_walk a4 a1 c4 c1 (sortL ls) (sortL ls) w4 hs4 hs1d (by omega) (by omega)
      rw [show decide (sortL ls = sortL ls) = true by simp] at hcall5
      go_wp2_with fail
      refine hcall5.mono ?_
      rintro e w5 ⟨rfl, d5, rfl⟩
      have hs := hs1d.below (below_drewN (bl_refl w4) d5)
      have hB5 := below_drewN hB4 d5
      have hsorted := sortL_sorted ls
      clear hcall5 hs4 hs1d hB4
      generalize w4.drewN d5 = w5 at hs hB5 ⊢
      have Hsorted := Lib.hid hsorted; clear hsorted
      generalize sortL ls = s at *
      clear Hsl Hbl hlb hl1 hl2 hl4 hc1 hc2 hc4 hcb
      have hgt : Try.prog.eqGuardType Try.prog.depth 29 = false := by kernel_rfl
      go_wp2_with fail
      go_loopg [7, 54] s.length (fun r vf i wr => ∃ (k : Nat) (f : Bool), k + r = s.length ∧ i = .int .i64 k ∧ vf = .bool f ∧ (f = true ↔ fineL s k) ∧ Below w5.heap.size w5 wr)
      case atStart => exact ⟨0, true, by omega, rfl, rfl, by simp [fineL], bl_refl _⟩
      case round =>
        obtain ⟨k, f, hk, rfl, rfl, hf, hB⟩ := hrel
        have hgt : Try.prog.eqGuardType Try.prog.depth 29 = false := by kernel_rfl
        by_cases hlt : k < s.length
        · obtain ⟨b, o, rfl, c0, c1, c2⟩ := (hs.below hB).at k hlt
          have hfy := fun (h : fineL s k) => fine_yes h hlt
          have hfn := fine_no hlt
          have hfk : ¬ fineL s k → ¬ fineL s (k + 1) := fun h h2 => h fun j hj hjk => h2 j hj (by omega)
          have hprev : ∀ m, k = m + 1 → ∃ p : Lk, (∀ h2 : k - 1 < s.length, s[k-1] = p) ∧ wr.cell? ⟨b, o + m * 3, none⟩ = some (.int .i64 p.1) ∧ wr.cell? ⟨b, o + m * 3 + 1, none⟩ = some (.int .i64 p.2.1) ∧ wr.cell? ⟨b, o + m * 3 + 2, none⟩ = some (.int .i64 p.2.2) := fun m hm => by
            obtain ⟨b', o', e, p0, p1, p2⟩ := (hs.below hB).at m (by omega)
            cases e
            exact ⟨s[m]'(by omega), fun h2 => by congr 1; omega, p0, p1, p2⟩
          obtain ⟨⟨x, y, z⟩, hx⟩ : ∃ x : Lk, s[k] = x := ⟨_, rfl⟩
          rw [hx] at c0 c1 c2 hfy hfn
          simp only [OkL] at c0 c1 c2 hfy hfn
          have Hprev := Lib.hid hprev
          clear hprev hx
          cases f with
          | false =>
            have hfk2 := hfk (by simpa using hf)
            clear hf hfy hfn hfk
            have hno : ¬ fineL s (k + 1) := hfk2
            have Hno := Lib.hid hno; have Hk := Lib.hid hk; clear hno hk
            go_wp2_with fail
            go_quiet (fail)
            go_wp2_with fail
            go_roundg (gk - 1)
            case measure => have := Hk.out; omega
            case rel => exact ⟨k + 1, false, by have := Hk.out; omega, by go_num, rfl, by simpa using Hno.out, bl_trans hB (below_drewN (bl_alloc _ _) _)⟩
          | true =>
            have hf0 := hf.1 rfl
            have hfy2 := hfy hf0
            clear hf hf0 hfy hfk
            have Hfy := Lib.hid hfy2; have Hfn := Lib.hid hfn; clear hfy2 hfn
            by_cases b1 : 0 ≤ x
            · have q1 : decide (0 ≤ x) = true := by simpa using b1
              by_cases b2 : x < y
              · have q2 : decide (x < y) = true := by simpa using b2
                by_cases b3 : y < 1048576
                · have q3 : decide (y < 1048576) = true := by simpa using b3
                  by_cases b4 : 0 ≤ z
                  · have q4 : decide (0 ≤ z) = true := by simpa using b4
                    by_cases b5 : z ≤ 1048576
                    · have q5 : decide (z ≤ 1048576) = true := by simpa using b5
                      by_cases b6 : k = 0
                      · subst b6
                        have q6 : (((0 : Nat) : Int) == 0) = true := by simp
                        simp only [Nat.zero_mul, Nat.add_zero] at c0 c1 c2
                        have hyes : fineL s (0 + 1) := (Hfy.out ⟨b1, b2, b3, b4, b5⟩ (.inl rfl))
                        have Hyes := Lib.hid hyes; have Hk := Lib.hid hk; clear hyes hk
                        go_wp2_with fail
                        go_quiet (fail)
                        go_wp2_with fail
                        go_roundg (gk - 1)
                        case measure => have := Hk.out; omega
                        case rel => exact ⟨0 + 1, true, by have := Hk.out; omega, by go_num, rfl, by simpa using Hyes.out, bl_trans hB (below_drewN (bl_alloc _ _) _)⟩
                      · have q6 : ((k : Int) == 0) = false := by simp; omega
                        obtain ⟨m, rfl⟩ : ∃ m, k = m + 1 := ⟨k - 1, by omega⟩
                        obtain ⟨⟨p, q, r⟩, hpe, p0, p1, p2⟩ := Hprev.out m rfl
                        simp only at p0 p1 p2
                        replace p0 := keep_cell (bl_alloc wr (.cells #[.int .i64 x, .int .i64 y, .int .i64 z] 29)) p0
                        replace p1 := keep_cell (bl_alloc wr (.cells #[.int .i64 x, .int .i64 y, .int .i64 z] 29)) p1
                        replace p2 := keep_cell (bl_alloc wr (.cells #[.int .i64 x, .int .i64 y, .int .i64 z] 29)) p2
                        have hpe2 := fun w => lk_eq (p, q, r) (x, y, z) w
                        unfold lkV at hpe2
                        simp only at hpe2
                        have Hpe := Lib.hid hpe; clear hpe
                        have i1 : IntKind.i64.wrap ((m : Int) + 1 - 1) = (m : Int) := by rw [show ((m : Int) + 1 - 1) = m by omega]; exact IntWalk.i64_in _ (by omega)
                        have i2 : IntKind.i64.wrap (m : Int) = (m : Int) := IntWalk.i64_in _ (by omega)
                        have i5 : m < s.length := by omega
                        have i3 : (0 : Int) ≤ (m : Int) := by omega
                        have i4 : (m : Int) < (s.length : Int) := by omega
                        by_cases b7 : ((p, q, r) : Lk) = (x, y, z)
                        · rw [show decide (((p, q, r) : Lk) = (x, y, z)) = true by simpa using b7] at hpe2
                          have hpf : ¬ fineL s (m + 1 + 1) := Hfn.out fun h => h.2.elim (fun e => by omega) (fun h => h (by omega) (by rw [Hpe.out (by omega)]; exact b7))
                          have Hpf := Lib.hid hpf; clear hpf b7
                          have hno : ¬ fineL s ((m+1) + 1) := Hpf.out
                          have Hno := Lib.hid hno; have Hk := Lib.hid hk; clear hno hk
                          go_wp2_with fail
                          go_quiet (fail)
                          go_wp2_with fail
                          go_roundg (gk - 1)
                          case measure => have := Hk.out; omega
                          case rel => exact ⟨(m+1) + 1, false, by have := Hk.out; omega, by go_num, rfl, by simpa using Hno.out, bl_trans hB (below_drewN (bl_alloc _ _) _)⟩
                        · rw [show decide (((p, q, r) : Lk) = (x, y, z)) = false by simpa using b7] at hpe2
                          have hpf : fineL s (m + 1 + 1) := Hfy.out ⟨b1, b2, b3, b4, b5⟩ (.inr fun h2 e => b7 (by rw [← Hpe.out h2]; exact e))
                          have Hpf := Lib.hid hpf; clear hpf b7
                          have hyes : fineL s ((m+1) + 1) := Hpf.out
                          have Hyes := Lib.hid hyes; have Hk := Lib.hid hk; clear hyes hk
                          go_wp2_with fail
                          go_quiet (fail)
                          go_wp2_with fail
                          go_roundg (gk - 1)
                          case measure => have := Hk.out; omega
                          case rel => exact ⟨(m+1) + 1, true, by have := Hk.out; omega, by go_num, rfl, by simpa using Hyes.out, bl_trans hB (below_drewN (bl_alloc _ _) _)⟩
                    · have q5 : decide (z ≤ 1048576) = false := by simpa using b5
                      have hno : ¬ fineL s (k + 1) := (Hfn.out (fun h => b5 h.1.2.2.2.2))
                      have Hno := Lib.hid hno; have Hk := Lib.hid hk; clear hno hk
                      go_wp2_with fail
                      go_quiet (fail)
                      go_wp2_with fail
                      go_roundg (gk - 1)
                      case measure => have := Hk.out; omega
                      case rel => exact ⟨k + 1, false, by have := Hk.out; omega, by go_num, rfl, by simpa using Hno.out, bl_trans hB (below_drewN (bl_alloc _ _) _)⟩
                  · have q4 : decide (0 ≤ z) = false := by simpa using b4
                    have hno : ¬ fineL s (k + 1) := (Hfn.out (fun h => b4 h.1.2.2.2.1))
                    have Hno := Lib.hid hno; have Hk := Lib.hid hk; clear hno hk
                    go_wp2_with fail
                    go_quiet (fail)
                    go_wp2_with fail
                    go_roundg (gk - 1)
                    case measure => have := Hk.out; omega
                    case rel => exact ⟨k + 1, false, by have := Hk.out; omega, by go_num, rfl, by simpa using Hno.out, bl_trans hB (below_drewN (bl_alloc _ _) _)⟩
                · have q3 : decide (y < 1048576) = false := by simpa using b3
                  have hno : ¬ fineL s (k + 1) := (Hfn.out (fun h => b3 h.1.2.2.1))
                  have Hno := Lib.hid hno; have Hk := Lib.hid hk; clear hno hk
                  go_wp2_with fail
                  go_quiet (fail)
                  go_wp2_with fail
                  go_roundg (gk - 1)
                  case measure => have := Hk.out; omega
                  case rel => exact ⟨k + 1, false, by have := Hk.out; omega, by go_num, rfl, by simpa using Hno.out, bl_trans hB (below_drewN (bl_alloc _ _) _)⟩
              · have q2 : decide (x < y) = false := by simpa using b2
                have hno : ¬ fineL s (k + 1) := (Hfn.out (fun h => b2 h.1.2.1))
                have Hno := Lib.hid hno; have Hk := Lib.hid hk; clear hno hk
                go_wp2_with fail
                go_quiet (fail)
                go_wp2_with fail
                go_roundg (gk - 1)
                case measure => have := Hk.out; omega
                case rel => exact ⟨k + 1, false, by have := Hk.out; omega, by go_num, rfl, by simpa using Hno.out, bl_trans hB (below_drewN (bl_alloc _ _) _)⟩
            · have q1 : decide (0 ≤ x) = false := by simpa using b1
              have hno : ¬ fineL s (k + 1) := (Hfn.out (fun h => b1 h.1.1))
              have Hno := Lib.hid hno; have Hk := Lib.hid hk; clear hno hk
              go_wp2_with fail
              go_quiet (fail)
              go_wp2_with fail
              go_roundg (gk - 1)
              case measure => have := Hk.out; omega
              case rel => exact ⟨k + 1, false, by have := Hk.out; omega, by go_num, rfl, by simpa using Hno.out, bl_trans hB (below_drewN (bl_alloc _ _) _)⟩
        · have hkl : k = s.length := by omega
          subst hkl
          have hfr := fine_right Hsorted.out (by omega)
          have hfe : f = rightL s := by
            rw [Bool.eq_iff_iff]; rw [hf, hfr]
          subst hfe
          have hB6 := bl_trans hB5 hB
          have hs6 := hs.below hB
          have hbb : (rightL s == rightL s) = true := by simp
          clear hf hfr hB hs hB5 hk
          go_wp2_with fail
          refine (lright_walk a1 c1 s _ hs6 (by omega)).mono ?_
          rintro e w7 ⟨rfl, hb7⟩
          have hB7 := bl_trans hB6 hb7
          clear hs6 hb7 hB6
          go_wp2_with fail
          refine (awake_walk _).mono ?_
          rintro e w8 ⟨rfl, hb8⟩
          have hB8 := bl_trans hB7 hb8
          clear hb8 hB7
          go_wp2_with fail
          go_ret
          exact ⟨by simp, hB8⟩
namespace linksOrder
open Go Go.RowKit Go.ChangeShapes Go.WideShapes Go.ChangeAt
set_option maxRecDepth 100000 in
theorem lifted (os : Os) (started : os.Started) (H : Type) (enc : TypeId × Value → H) :
    ReturnsInHanded {} Try.checked os 6 .any (Rows.linksOrderSpec.pre6 enc Try.prog Try.f6 Rows.linksOrderRow.domain false) (Rows.linksOrderSpec.post enc Try.prog Try.f6 false true false false) := by
  refine returnsInHanded_of_change (C := Try.checked) rowOwn started (by kernel_rfl) Try.func6
    (ChangeSpec.witness6 (enc := enc) (C := Try.checked) false ⟨#[], #[.slice none 0 0], []⟩ 8 (by kernel_rfl) (by kernel_rfl) (by kernel_rfl) (by kernel_rfl)) ?_
  intro W base args ds gs before hval0 hW hcnd _
  have hval : ∀ (j : Nat) t v, Try.f6.params[j]? = some t → args[j]? = some v → Value.okWide Try.prog W .any base t v := hval0
  have hW' := hW
  obtain ⟨p, q, hA0, hV, rfl, hfz, hnd⟩ := hW
  have hA : DataW.TrodAll enc Try.prog W 0 (fun _ => true) true Try.f6.params.toList args.toList ds p := hA0
  rw [Try.params6] at hA hval
  obtain ⟨v0, vs0, d0, ds0, p0, q0, hargs, rfl, rfl, h0, r0⟩ := trodAll_cons hA
  obtain ⟨rfl, rfl, rfl⟩ := trodAll_nil r0
  obtain rfl : args = #[v0] := by cases args; simp_all
  obtain ⟨rfl, rfl⟩ := trodVars_none hV
  have k0 := h0
  have lt0 : ∀ x ∈ p0, x.block < W.heap.size := by obtain ⟨m, hm⟩ := k0; exact DataW.trod_lt m _ _ _ hm
  obtain ⟨a0, cap0, es0, rfl, rd0, hl0, hm0, wn0⟩ := open_links (hval 0 22 v0 rfl rfl) h0
  clear hA0 hval0
  refine (linksOrder_walk a0 cap0 es0 W rd0 hl0 hm0 wn0).mono fun e W' ⟨he, bel⟩ => ?_
  subst he
  exact ⟨_, rfl, _, _, _, [], _, [], hW', trodAll_mk1 (shut_bool Try.underlying4 _), (trodAll_cons_mk (Below.trod rowLaid (by kernel_rfl) (of_decide_eq_true (by kernel_rfl)) k0 bel lt0) trodAll_mk0), rfl, bel.frame _, fun h => by cases h⟩
theorem over : Rows.linksOrderRow.holds Try.pinned (OpenSpec.ofChange Rows.linksOrderSpec) :=
  OpenClaim.holds_of_wide 6 Try.f6 rfl rfl rfl rfl rfl rfl rfl ⟨rfl, rfl, rfl, rfl, rfl⟩ rfl rfl rfl rfl rfl (by kernel_rfl) Try.func6 (by kernel_rfl)
    (of_decide_eq_true (by kernel_rfl)) (by unfold Func.isWrapper; first | (rw [if_pos (by decide +kernel)]; kernel_rfl) | (rw [if_neg (by decide +kernel)]; exact ⟨rfl, rfl⟩))
    (fun os started H enc _ => lifted os started H enc)
/-- The statement. -/
theorem proved : Rows.LinksOrderSaid := over
#print axioms proved
end linksOrder
end Go.Proofs.Ytagjakgbmmbmhaa
