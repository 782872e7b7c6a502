/- The program's functions, told in the words of the document's. -/
import Derived.Test.YtddndhhhmlcgjaaRefPath
import Derived.Test.YtddndhhhmlcgjaaPath
import Derived.Test.YtddndhhhmlcgjaaParts
namespace Go.Proofs.Ytddndhhhmlcgjaa
open Go Go.RowKit

theorem ask_20 {n : Int} {es : List (Int × Int)} {v : Int} (h : rightB n es = false) : askE n es v = 20 := by simp [askE, h]
theorem ask_2 {n : Int} {es : List (Int × Int)} {v : Int} (h : rightB n es = true) (hv : inR n v = false) : askE n es v = 2 := by simp [askE, h, hv]
theorem ask_0 {n : Int} {es : List (Int × Int)} {v : Int} (h : rightB n es = true) (hv : inR n v = true) : askE n es v = 0 := by simp [askE, h, hv]

theorem walkFn_R (n : Int) (a : Option Addr) (cap : Nat) (es : List (Int × Int)) (st : Int) (w : World) (hr : RdP w a es) (hcap : es.length ≤ 9223372036854775807) :
    Calls Try.prog 12 #[.agg #[.int .i64 n, .slice a es.length cap], .int .i64 st] w (RetLL w (walkR n es st).1 (walkR n es st).2 (askE n es st)) := by
  refine (walkFn_walk n a cap es st w hr hcap).mono ?_
  rintro e w' ⟨hb, hcase⟩
  refine ⟨hb, ?_⟩
  rcases hcase with ⟨h1, rfl⟩ | ⟨h1, h2, rfl⟩ | ⟨h1, h2, go, co, gu, rfl, hro, hru, hul, _, _, _⟩
  · have hw : walkR n es st = ([], []) := by simp [walkR, ask_20 h1]
    rw [hw, ask_20 h1]
    exact ⟨none, 0, none, 0, rfl, rdI_nil _ _, rdI_nil _ _⟩
  · have hw : walkR n es st = ([], []) := by simp [walkR, ask_2 h1 h2]
    rw [hw, ask_2 h1 h2]
    exact ⟨none, 0, none, 0, rfl, rdI_nil _ _, rdI_nil _ _⟩
  · have hw : walkR n es st = (castL (walkL (besideL n.toNat es) st.toNat).1, (walkL (besideL n.toNat es) st.toNat).2) := by simp [walkR, ask_0 h1 h2]
    rw [hw, ask_0 h1 h2]
    rw [vN_cast] at hro
    exact ⟨some ⟨go, 0, none⟩, co, some ⟨gu, 0, none⟩, n.toNat, by rw [castL_len, hul], hro.rdI2, hru.rdI2⟩

theorem awayFn_R (n : Int) (a : Option Addr) (cap : Nat) (es : List (Int × Int)) (st : Int) (w : World) (hr : RdP w a es) (hcap : es.length ≤ 9223372036854775807) :
    Calls Try.prog 14 #[.agg #[.int .i64 n, .slice a es.length cap], .int .i64 st] w (RetL w (awayR n es st) (askE n es st)) := by
  refine (awayFn_walk n a cap es st w hr hcap).mono ?_
  rintro e w' ⟨hb, hcase⟩
  refine ⟨hb, ?_⟩
  rcases hcase with ⟨h1, rfl⟩ | ⟨h1, h2, rfl⟩ | ⟨h1, h2, g, c, rfl, hro, _⟩
  · have hw : awayR n es st = [] := by simp [awayR, ask_20 h1]
    rw [hw, ask_20 h1]
    exact ⟨none, 0, rfl, rdI_nil _ _⟩
  · have hw : awayR n es st = [] := by simp [awayR, ask_2 h1 h2]
    rw [hw, ask_2 h1 h2]
    exact ⟨none, 0, rfl, rdI_nil _ _⟩
  · have hw : awayR n es st = awayL (besideL n.toNat es) st.toNat := by simp [awayR, ask_0 h1 h2]
    rw [hw, ask_0 h1 h2]
    exact ⟨some ⟨g, 0, none⟩, c, rfl, hro.rdI2⟩

theorem pathFn_R (n : Int) (a : Option Addr) (cap : Nat) (es : List (Int × Int)) (st tt : Int) (w : World) (hr : RdP w a es) (hcap : es.length ≤ 9223372036854775807) :
    Calls Try.prog 16 #[.agg #[.int .i64 n, .slice a es.length cap], .int .i64 st, .int .i64 tt] w (RetL w (pathR n es st tt).1 (pathR n es st tt).2) := by
  refine (pathFn_walk n a cap es st tt w hr hcap).mono ?_
  rintro e w' ⟨hb, hcase⟩
  refine ⟨hb, ?_⟩
  have hsym : rightB n es = true → inR n st = true → inR n tt = true → (awayL (besideL n.toNat es) st.toNat).getD tt.toNat 0 = (awayL (besideL n.toNat es) tt.toNat).getD st.toNat 0 := by
    intro h1 h2 h3
    obtain ⟨a1, a2⟩ := (inR_iff _ _).1 h2
    obtain ⟨b1, b2⟩ := (inR_iff _ _).1 h3
    obtain ⟨m, rfl⟩ : ∃ m : Nat, n = m := ⟨n.toNat, by omega⟩
    have hs : st.toNat < m := by omega
    have ht : tt.toNat < m := by omega
    have := (away_dist h1 hs).symm (adj_sym h1) (away_dist h1 ht) ht hs
    simp only [Int.toNat_natCast, List.getD]
    rw [this]
  rcases hcase with ⟨h1, rfl⟩ | ⟨h1, h2, rfl⟩ | ⟨h1, h2, h3, h4, rfl⟩ | ⟨h1, h2, h3, h4, g, c, rfl, hro, _⟩
  · have hw : pathR n es st tt = ([], 20) := by simp [pathR, ask_20 h1]
    rw [hw]
    exact ⟨none, 0, rfl, rdI_nil _ _⟩
  · have hw : pathR n es st tt = ([], 2) := by
      cases hst : inR n st with
      | false => simp [pathR, ask_2 h1 hst]
      | true =>
        rw [hst, Bool.true_and] at h2
        simp [pathR, ask_0 h1 hst, ask_2 h1 h2]
    rw [hw]
    exact ⟨none, 0, rfl, rdI_nil _ _⟩
  · have hw : pathR n es st tt = ([], 60) := by
      unfold pathR
      rw [if_neg (by simp [ask_0 h1 h2]), if_neg (by simp [ask_0 h1 h3]), if_pos (by rw [hsym h1 h2 h3]; exact h4)]
    rw [hw]
    exact ⟨none, 0, rfl, rdI_nil _ _⟩
  · have hw : pathR n es st tt = (castL (pathL (besideL n.toNat es) st.toNat tt.toNat), 0) := by
      unfold pathR
      rw [if_neg (by simp [ask_0 h1 h2]), if_neg (by simp [ask_0 h1 h3]), if_neg (by rw [hsym h1 h2 h3]; omega)]
    rw [hw]
    rw [vN_cast] at hro
    exact ⟨some ⟨g, 0, none⟩, c, by rw [castL_len], hro.rdI2⟩

/-- none of the lists is long -/
theorem tells_len {n : Int} {es : List (Int × Int)} {x y : Int} (hn : n ≤ 200) : (walkR n es x).1.length ≤ 200 ∧ (walkR n es x).2.length ≤ 200 ∧ (awayR n es x).length ≤ 200 ∧ (pathR n es x y).1.length ≤ 200 := by
  by_cases h : askE n es x = 0
  · obtain ⟨hr, h0, h1⟩ := ask_zero h
    obtain ⟨m, rfl⟩ : ∃ m : Nat, n = m := ⟨n.toNat, by omega⟩
    have hx : x.toNat < m := by omega
    obtain ⟨f, hi⟩ := walkL_inv (besideL_length m es) (beside_lt hr) hx
    have hd := (away_dist hr hx).len
    have e1 : walkR m es x = (castL (walkL (besideL m es) x.toNat).1, (walkL (besideL m es) x.toNat).2) := by simp [walkR, h]
    have e2 : awayR m es x = awayL (besideL m es) x.toNat := by simp [awayR, h]
    have hl := hi.len
    have hu := hi.ul
    rw [e1, e2]
    refine ⟨by simp only [castL_len]; omega, by simp only; omega, by omega, ?_⟩
    by_cases h2 : askE m es y = 0
    · obtain ⟨_, h3, h4⟩ := ask_zero h2
      have hy : y.toNat < m := by omega
      by_cases hneg : (awayL (besideL m es) x.toNat).getD y.toNat 0 < 0
      · have e3 : pathR m es x y = ([], 60) := by
          unfold pathR
          rw [if_neg (by simp [h]), if_neg (by simp [h2])]
          simp only [Int.toNat_natCast]
          rw [if_pos hneg]
        rw [e3]; simp
      · have e3 : pathR m es x y = (castL (pathL (besideL m es) x.toNat y.toNat), 0) := by
          unfold pathR
          rw [if_neg (by simp [h]), if_neg (by simp [h2])]
          simp only [Int.toNat_natCast]
          rw [if_neg hneg]
        rw [e3]
        simp only [castL_len]
        have hsym := (away_dist hr hx).symm (adj_sym hr) (away_dist hr hy) hy hx
        obtain ⟨z, hz⟩ : ∃ z, (awayL (besideL m es) y.toNat)[x.toNat]? = some z := ⟨_, List.getElem?_eq_getElem (by rw [(away_dist hr hy).len]; exact hx)⟩
        rw [List.getD, hsym, hz] at hneg
        simp at hneg
        obtain ⟨k, rfl⟩ := Int.eq_ofNat_of_zero_le hneg
        have hv := (away_dist hr hy).val _ _ hz
        have := (path_good hr hy hz).2.1
        omega
    · have e3 : pathR m es x y = ([], askE m es y) := by simp [pathR, h, h2]
      rw [e3]; simp
  · have e1 : walkR n es x = ([], []) := by simp [walkR, h]
    have e2 : awayR n es x = [] := by simp [awayR, h]
    have e3 : pathR n es x y = ([], askE n es x) := by simp [pathR, h]
    rw [e1, e2, e3]; simp

theorem partsFn_R (n : Int) (a : Option Addr) (cap : Nat) (es : List (Int × Int)) (w : World) (hr : RdP w a es) (hcap : es.length ≤ 9223372036854775807) :
    Calls Try.prog 20 #[.agg #[.int .i64 n, .slice a es.length cap]] w (RetRR w (partsR n es)) := by
  refine (partsFn_walk n a cap es w hr hcap).mono ?_
  rintro e w' ⟨hb, hcase⟩
  refine ⟨hb, ?_⟩
  rcases hcase with ⟨h1, rfl⟩ | ⟨h1, G, c, vals, rfl, hfr⟩
  · have hw : partsR n es = [] := by simp [partsR, h1]
    rw [hw]
    exact ⟨none, 0, rfl, by intro i r h; simp at h⟩
  · have hw : partsR n es = (partsL (besideL n.toNat es)).map castL := by simp [partsR, h1]
    rw [hw]
    refine ⟨some ⟨G, 0, none⟩, c, by rw [List.length_map], ?_⟩
    intro i r hr'
    rw [List.getElem?_map] at hr'
    cases hri : (partsL (besideL n.toNat es))[i]? with
    | none => rw [hri] at hr'; cases hr'
    | some r0 =>
      rw [hri] at hr'
      have hr0 : r = castL r0 := by simpa using hr'.symm
      subst hr0
      have hil : i < vals.length := by rw [hfr.len]; simpa [rowsV] using (List.getElem?_eq_some_iff.1 hri).1
      obtain ⟨u, r1, g, cc, hu, hr1, rfl, hrow, _, _⟩ := hfr.rowAt hil
      have hr1' : r1 = r0.map vN := by simp [rowsV, hri] at hr1; exact hr1.symm
      subst hr1'
      have hcell := hfr.outer.cell? i hil
      rw [hu] at hcell
      rw [vN_cast] at hrow hcell
      refine ⟨G, 0, rfl, some ⟨g, 0, none⟩, cc, by rw [Nat.zero_add, hcell, List.length_map], hrow.rdI2, ?_⟩
      have h2 := hrow.len_le; have h3 := hrow.cap_le
      simp [maxLen] at h2 h3
      omega
end Go.Proofs.Ytddndhhhmlcgjaa
