/- fretworklaw13.shared. -/
import Derived.Test.YtagjakgbmmbmhaaPaR
import Derived.Test.YtagjakgbmmbmhaaPaH
namespace Go.Proofs.Ytagjakgbmmbmhaa
open Go Go.RowKit

theorem shr_succ (v : Int) (ys : List Int) (j : Nat) (h : j < ys.length) : shr v (ys.take (j + 1)) = shr v (ys.take j) ++ if v == ys[j] then [ys[j]] else [] := by
  unfold shr
  rw [List.take_succ_eq_append_getElem h, List.filter_append]
  congr 1
  rw [List.filter_cons]; simp
theorem sharedL_succ (xs ys : List Int) (i : Nat) (h : i < xs.length) : sharedL (xs.take (i + 1)) ys = sharedL (xs.take i) ys ++ shr xs[i] ys := by
  unfold sharedL
  rw [List.take_succ_eq_append_getElem h, List.flatMap_append]; simp
theorem shr_len (v : Int) (ys : List Int) : (shr v ys).length ≤ ys.length := List.length_filter_le _ _

set_option maxRecDepth 100000 in
set_option maxHeartbeats 4000000 in
theorem shared_walk (a b : Option Addr) (ca cb : Nat) (x y : List Lk) (w : World) (hx : RdL w a x) (hy : RdL w b y) (hxl : x.length ≤ 100) (hyl : y.length ≤ 100) :
    Calls Try.prog 35 #[.slice a x.length ca, .slice b y.length cb] w (RetZs w (sharedL (vertsL x) (vertsL y))) := by
  have hvx := vertsL_length x
  have hvy := vertsL_length y
  obtain ⟨xs, hxs⟩ : ∃ xs, xs = vertsL x := ⟨_, rfl⟩
  obtain ⟨ys, hys⟩ : ∃ ys, ys = vertsL y := ⟨_, rfl⟩
  rw [← hxs] at hvx; rw [← hys] at hvy
  have hxs2 : xs.length ≤ 200 := by omega
  have hys2 : ys.length ≤ 200 := by omega
  have Hxs := Lib.hid hxs; have Hys := Lib.hid hys
  rw [← Hxs.out, ← Hys.out]
  clear hxs hys hvx hvy
  go_enter Try.func35, Try.ntmps35
  go_wp2_with fail
  refine (verts_walk a ca x _ hx (by omega)).mono ?_
  rw [← Hxs.out]
  rintro e w1 ⟨a1, c1, rfl, hr1, _, _, _, hb1⟩
  have hy1 := hy.below hb1
  clear hx hy
  go_wp2_with fail
  go_loopg [5, 13] xs.length (fun r uv iv wj => ∃ (i : Nat) (u : Value) (o : List Int), u = uv ∧ i + r = xs.length ∧ iv = .int .i64 i ∧ o = sharedL (xs.take i) ys ∧ Own wj u 3 1 o.length (o.map (Value.int .i64)) ∧ (∀ g, u.ownBlock = some g → w1.heap.size ≤ g) ∧ Below w1.heap.size w1 wj)
  case atStart => exact ⟨0, _, [], rfl, by omega, rfl, rfl, own_nil _ _ _, fun g hg => by simp [Value.ownBlock] at hg, bl_refl _⟩
  case round =>
    obtain ⟨i, u, o, rfl, hi, rfl, ho, hu, hub, hb⟩ := hrel
    have Hi := Lib.hid hi; have Hub := Lib.hid hub; have Hu := Lib.hid hu
    have hol : o.length ≤ 40000 := by
      have h1 := shared_len (xs.take i) ys
      rw [← ho] at h1
      have h2 : (xs.take i).length * ys.length ≤ 200 * 200 := Nat.mul_le_mul (by rw [List.length_take]; omega) hys2
      omega
    by_cases hil : i < xs.length
    · obtain ⟨gO, rfl⟩ : ∃ n : Nat, n = gk := ⟨_, rfl⟩
      have hnx := sharedL_succ xs ys i hil
      obtain ⟨b1, o1, eax, c0⟩ := (hr1.below hb).at i hil
      obtain ⟨v, hv⟩ : ∃ v, xs[i] = v := ⟨_, rfl⟩
      rw [hv] at c0 hnx
      rw [← ho] at hnx
      subst eax
      have Hnx := Lib.hid hnx
      clear hi hu hub hv hnx ho
      go_wp2_with fail
      refine (verts_walk b cb y _ (hy1.below hb) (by omega)).mono ?_
      rw [← Hys.out]
      rintro e w2 ⟨a2, c2, rfl, hr2, hnew2, _, _, hb2⟩
      have hb12 := bl_trans hb hb2
      have hu2 : Own w2 u 3 1 o.length (o.map (Value.int .i64)) := Own.ext Hu.out hb2
      have hap : ∀ g ad, u.ownBlock = some g → a2 = some ad → g ≠ ad.block := fun g ad h1 h2 => by
        have := Own.lt Hu.out h1
        have := hnew2 ad h2
        omega
      have Hu2 := Lib.hid hu2; have Hap := Lib.hid hap
      clear hu2 hap hnew2
      go_wp2_with fail
      go_loopg [5, 20] ys.length (fun r uv jv wj => ∃ (j : Nat) (u : Value) (o2 : List Int), u = uv ∧ j + r = ys.length ∧ jv = .int .i64 j ∧ o2 = o ++ shr v (ys.take j) ∧ Own wj u 3 1 o2.length (o2.map (Value.int .i64)) ∧ (∀ g, u.ownBlock = some g → w1.heap.size ≤ g) ∧ RdI wj a2 ys ∧ (∀ g ad, u.ownBlock = some g → a2 = some ad → g ≠ ad.block) ∧ Below w1.heap.size w1 wj)
      case atStart => exact ⟨0, _, o, rfl, by omega, rfl, by simp [shr], Hu2.out, Hub.out, hr2, Hap.out, hb12⟩
      case round =>
        clear hr2 hb12 hb2 hb
        clear Hu2 Hu Hub Hap u
        obtain ⟨j, u, o2, rfl, hj, rfl, ho2, hu, hub, hr2, hap, hb⟩ := hrel
        have Hap := Lib.hid hap
        clear hap
        have Hj := Lib.hid hj; have Hub := Lib.hid hub; have Hu := Lib.hid hu
        have hol2 : o2.length ≤ 40200 := by
          rw [ho2, List.length_append]
          have h1 := shr_len v (ys.take j)
          rw [List.length_take] at h1
          omega
        by_cases hjl : j < ys.length
        · have hst := shr_succ v ys j hjl
          obtain ⟨b2, o3, eay, d0⟩ := hr2.at j hjl
          obtain ⟨z, hz⟩ : ∃ z, ys[j] = z := ⟨_, rfl⟩
          rw [hz] at d0 hst
          subst eay
          clear hj hu hub hz
          by_cases hvz : v = z
          · have q1 : (v == z) = true := by simpa using hvz
            rw [if_pos q1] at hst
            subst hvz
            have hst2 : o ++ shr v (ys.take (j + 1)) = o2 ++ [v] := by rw [hst, ho2, List.append_assoc]
            have hownZ : Own (wr.alloc (.cells #[.int .i64 v] 3)) u 3 1 o2.length (o2.map (Value.int .i64)) := Own.alloc Hu.out _
            have hn1 : (wr.alloc (.cells #[.int .i64 v] 3)).cell? ⟨wr.heap.size, 0, none⟩ = some (.int .i64 v) := by simp
            have Hone := Lib.hid (one_ok .i64 v); have Hnews := Lib.hid (one_new hn1); have Hst2 := Lib.hid hst2
            clear hst hst2 ho2 hn1
            go_wp2_with (at_builtin; refine wpList_append_row _ rfl (.tmp 27) (.tmp 29) 25 rfl 3 (.int .i64 0) 1 8 Try.underlying25 int_info rfl u o2.length _ rfl hownZ ⟨wr.heap.size, 0, none⟩ 1 1 [.int .i64 v] rfl rfl Hnews.out Hone.out (by omega) (by unfold maxLen; omega) (by omega) ?_)
            intro g5 c5 w5 hr5 hc5 hg5 hor5
            have hbA := bl_alloc wr (.cells #[.int .i64 v] 3)
            have hb5 : Below w1.heap.size w1 w5 := (bl_trans hb hbA).grown hg5 (by have := (bl_trans hb hbA).size; exact this) (fun j hj => Hub.out j hj)
            have hg6 : w1.heap.size ≤ g5 := by
              rcases hor5 with h | h
              · exact Hub.out g5 h
              · have := hb.size; first | omega | (simp at h; omega)
            have hr6 : Own w5 (.slice (some ⟨g5, 0, none⟩) (o2.length + 1) c5) 3 1 (o2 ++ [v]).length ((o2 ++ [v]).map (Value.int .i64)) := by
              have h1 : Row w5 g5 3 1 c5 ((o2 ++ [v]).map (Value.int .i64)) := by rw [List.map_append]; exact hr5
              have := h1.own (n := o2.length + 1) (by simp) hc5
              rw [List.length_append]; exact this
            have hb2lt : b2 < wr.heap.size := World.block_lt_of_cell? wr ⟨b2, o3 + j, none⟩ d0
            have hr9 : RdI w5 (some ⟨b2, o3, none⟩) ys := by
              intro m z hz
              obtain ⟨b', o', e', hc'⟩ := hr2 m z hz
              cases e'
              exact ⟨b2, o3, rfl, grown_cell hg5 (keep_cell hbA hc') (fun h => Hap.out b2 _ h rfl rfl)⟩
            have hap5 : ∀ g ad, (Value.slice (some ⟨g5, 0, none⟩) (o2.length + 1) c5).ownBlock = some g → (some ⟨b2, o3, none⟩ : Option Addr) = some ad → g ≠ ad.block := fun g ad h1 h2 => by
              cases h1; cases h2
              rcases hor5 with h | h
              · exact Hap.out _ _ h rfl
              · simp at h ⊢; omega
            have Hr6 := Lib.hid hr6; have Hap5 := Lib.hid hap5
            clear hr5 hg5 hor5 hownZ hr6 hap5 hr2 d0
            go_wp2_with fail
            go_roundg (gk - 1)
            case measure => have := Hj.out; omega
            case rel => exact ⟨j + 1, _, o2 ++ [v], rfl, by have := Hj.out; omega, by go_num, Hst2.out.symm, Hr6.out, fun g hg => by cases hg; exact hg6, hr9, Hap5.out, hb5⟩
          · have q1 : (v == z) = false := by simpa using hvz
            rw [if_neg (by rw [q1]; simp), List.append_nil] at hst
            have Hst := Lib.hid hst; have Ho2 := Lib.hid ho2
            clear hst hvz ho2
            go_wp2_with fail
            go_roundg (gk - 1)
            case measure => have := Hj.out; omega
            case rel => exact ⟨j + 1, _, o2, rfl, by have := Hj.out; omega, by go_num, by rw [Hst.out]; exact Ho2.out, Hu.out, Hub.out, hr2, Hap.out, hb⟩
        · have hjn : j = ys.length := by omega
          subst hjn
          rw [List.take_length] at ho2
          have Ho2 := Lib.hid ho2
          clear hj hu hub ho2
          go_wp2_with fail
          go_roundg (gO - 1)
          case measure => have := Hi.out; omega
          case rel => exact ⟨i + 1, _, o2, rfl, by have := Hi.out; omega, by go_num, by rw [Hnx.out]; exact Ho2.out, Hu.out, Hub.out, hb⟩
    · have hin : i = xs.length := by omega
      subst hin
      rw [List.take_length] at ho
      subst ho
      clear hi hub hu
      go_wp2_with fail
      go_ret
      have hs1 := hb1.size
      rcases Hu.out.2 with ⟨rfl, h0⟩ | ⟨g, cap', rfl, hc, hrow⟩
      · have := List.eq_nil_of_length_eq_zero h0
        rw [this]
        exact ⟨none, 0, rfl, (fun i u hu => by simp at hu), (fun ad h => by cases h), by simp, by unfold maxLen; omega, bl_trans hb1 hb⟩
      · exact ⟨_, cap', rfl, hrow.at_, (fun ad h => by cases h; have := Hub.out g rfl; simp only; omega), hc, hrow.cap_le, bl_trans hb1 hb⟩
end Go.Proofs.Ytagjakgbmmbmhaa
