/- Memory that a call makes itself: rows by their block's number. No program in sight. -/
import Derived.Test.YtagcbnpahgfgmaaLib
import Derived.Deep.OwnRows
import Derived.WalkSmall
import Derived.Laws.CopyOwn
namespace Go.Proofs.Ytagcbnpahgfgmaa
open Go Go.RowKit

/-- Block g is a row of elements of type e (s cells each), room for cap, not frozen, whose first cells are vs. -/
def Row (w : World) (g : Nat) (e : TypeId) (s cap : Nat) (vs : List Value) : Prop :=
  ∃ cur : Array Value, w.heap[g]? = some (.cells cur e (0, 0)) ∧ cur.size = cap * s ∧ vs.length ≤ cap * s ∧ cap ≤ maxLen ∧ cur.toList.take vs.length = vs

namespace Row
variable {w w' : World} {g g' : Nat} {e : TypeId} {s cap : Nat} {vs : List Value}
theorem lt (h : Row w g e s cap vs) : g < w.heap.size := by
  obtain ⟨cur, hg, _⟩ := h
  exact (Array.getElem?_eq_some_iff.1 hg).1
theorem cell? (h : Row w g e s cap vs) (i : Nat) (hi : i < vs.length) : w.cell? ⟨g, i, none⟩ = vs[i]? := by
  obtain ⟨cur, hg, hs, hl, hm, ht⟩ := h
  rw [cell_of_row w g i cur e (0, 0) hg]
  conv => rhs; rw [← ht]
  rw [List.getElem?_take, if_pos hi]
  simp
theorem cell (h : Row w g e s cap vs) (i : Nat) (hi : i < vs.length) : w.cell? ⟨g, i, none⟩ = some vs[i] := by
  rw [h.cell? i hi]; simp [hi]
theorem frozen (h : Row w g e s cap vs) (i : Nat) : w.frozen? ⟨g, i, none⟩ = false := by
  obtain ⟨cur, hg, _⟩ := h
  exact frozen_of_row w g i cur e hg
theorem block (h : Row w g e s cap vs) (e' : w'.heap[g]? = w.heap[g]?) : Row w' g e s cap vs := by
  obtain ⟨cur, hg, r⟩ := h
  exact ⟨cur, by rw [e']; exact hg, r⟩
theorem grown (h : Row w g e s cap vs) {r : Option Nat} (hg : w.grownBy w' r) (hne : r ≠ some g) : Row w' g e s cap vs :=
  h.block (hg.block g h.lt (fun e => hne e.symm))
theorem below {B : Nat} (h : Row w g e s cap vs) (hb : Below B w w') (hlt : g < B) : Row w' g e s cap vs := h.block (hb.block g hlt)
theorem alloc (h : Row w g e s cap vs) (o : Obj) : Row (w.alloc o) g e s cap vs := h.block (Below.heap_alloc w o g h.lt)
theorem drew (h : Row w g e s cap vs) : Row w.drew g e s cap vs := h
theorem drewN (h : Row w g e s cap vs) (n : Nat) : Row (w.drewN n) g e s cap vs := h
theorem other (h : Row w g e s cap vs) {a : Addr} (hne : g ≠ a.block) (u : Value) : Row (w.setCell a u) g e s cap vs :=
  h.block (Below.heap_setCell w a u g hne)
theorem set (h : Row w g e s cap vs) (i : Nat) (u : Value) : Row (w.setCell ⟨g, i, none⟩ u) g e s cap (vs.set i u) := by
  obtain ⟨cur, hg, hs, hl, hm, ht⟩ := h
  refine ⟨cur.setIfInBounds i u, heap_setCell_same w g i cur e u hg, by simpa using hs, by simpa using hl, hm, ?_⟩
  rw [Array.toList_setIfInBounds, List.length_set]
  conv => rhs; rw [← ht]
  rw [List.take_set]
/-- a shorter view of the same row -/
theorem take (h : Row w g e s cap vs) (k : Nat) : Row w g e s cap (vs.take k) := by
  obtain ⟨cur, hg, hs, hl, hm, ht⟩ := h
  refine ⟨cur, hg, hs, ?_, hm, ?_⟩
  · rw [List.length_take]; omega
  · rw [List.length_take]
    by_cases hk : k ≤ vs.length
    · rw [Nat.min_eq_left hk]
      conv => rhs; rw [← ht]
      rw [List.take_take, Nat.min_eq_left hk]
    · rw [Nat.min_eq_right (by omega), ht, List.take_of_length_le (by omega)]
theorem owns (h : Row w g e s cap vs) {n base : Nat} (hn : vs.length = n * s) (hc : n ≤ cap) (hb : base ≤ g) :
    w.ownsRow base e s (.slice (some ⟨g, 0, none⟩) n cap) n vs := by
  obtain ⟨cur, hg, hs, hl, hm, ht⟩ := h
  exact ⟨hn, .inr ⟨g, cap, cur, rfl, hb, hg, hc, hm, hs, by rw [← hn]; exact ht⟩⟩
theorem at_ (h : Row w g e s cap vs) : CellsAt w (some ⟨g, 0, none⟩) vs := by
  intro i u hu
  have hi : i < vs.length := (List.getElem?_eq_some_iff.1 hu).1
  exact ⟨g, 0, rfl, by rw [Nat.zero_add, h.cell? i hi, hu]⟩
theorem len_le (h : Row w g e 1 cap vs) : vs.length ≤ cap := by obtain ⟨_, _, _, h, _⟩ := h; omega
theorem cap_le (h : Row w g e s cap vs) : cap ≤ maxLen := by obtain ⟨_, _, _, _, h, _⟩ := h; exact h
end Row

theorem row_new (w : World) (cs : Array Value) (e : TypeId) (s n : Nat) (hs : cs.size = n * s) (hm : n ≤ maxLen) :
    Row (w.alloc (.cells cs e)) w.heap.size e s n cs.toList :=
  ⟨cs, heap_alloc_new w _, hs, by simp [hs], hm, List.take_of_length_le (by simp)⟩
theorem row_lit (w : World) (vs : List Value) (e : TypeId) (hm : vs.length ≤ maxLen) : Row (w.alloc (.cells vs.toArray e)) w.heap.size e 1 vs.length vs := by
  simpa using row_new w vs.toArray e 1 vs.length (by simp) hm
theorem row_made (w : World) (z : Value) (n : Nat) (e : TypeId) (hm : n ≤ maxLen) :
    Row (w.alloc (.cells (madeCells #[z] n) e)) w.heap.size e 1 n (List.replicate n z) := by
  have := row_new w (madeCells #[z] n) e 1 n (by simp [size_madeCells]) hm
  rwa [toList_madeCells_one] at this

/-- The slice value v (n elements of s cells each) is the call's own: nil, or at the head of a row. -/
def Own (w : World) (v : Value) (e : TypeId) (s n : Nat) (vs : List Value) : Prop :=
  vs.length = n * s ∧ ((v = .slice none 0 0 ∧ n = 0) ∨ ∃ g cap, v = .slice (some ⟨g, 0, none⟩) n cap ∧ n ≤ cap ∧ Row w g e s cap vs)

theorem Row.own {w : World} {g : Nat} {e : TypeId} {s cap n : Nat} {vs : List Value} (h : Row w g e s cap vs) (hn : vs.length = n * s) (hc : n ≤ cap) :
    Own w (.slice (some ⟨g, 0, none⟩) n cap) e s n vs := ⟨hn, .inr ⟨g, cap, rfl, hc, h⟩⟩
theorem Row.own1 {w : World} {g : Nat} {e : TypeId} {cap : Nat} {vs : List Value} (h : Row w g e 1 cap vs) :
    Own w (.slice (some ⟨g, 0, none⟩) vs.length cap) e 1 vs.length vs := h.own (by simp) h.len_le
theorem own_nil (w : World) (e : TypeId) (s : Nat) : Own w (.slice none 0 0) e s 0 [] := ⟨by simp, .inl ⟨rfl, rfl⟩⟩

section
variable {P : Program} (w : World)
/-- append, of one element at least, to what is the call's own: the new row stands where the old one stood, or is the newest block but for nothing. -/
theorem run_append_row (t ty e : TypeId) (i : TypeInfo) (z : Value) (s bytes : Nat) (ht : P.underlying t = some (.slice e)) (hi : P.info? e = some i) (hz : i.zero = some z)
    (hsize : i.size = s) (hby : i.bytes = bytes) (hzs : z.cells.size = s)
    (v : Value) (n : Nat) (vs : List Value) (hown : Own w v e s n vs)
    (a : Addr) (m c : Nat) (news : List Value) (hl : news.length = m * s) (hnews : ∀ j u, news[j]? = some u → w.cell? (a.add j) = some u) (h1 : ∀ u ∈ news, u.oneCell' = true)
    (h0 : 0 < m) (h63 : n + m ≤ maxLen) (hbytes : (n + m) * bytes ≤ 140737488355328) :
    ∃ g' cap' w', (Builtin.append_ #[t, t] ty #[v, .slice (some a) m c]).run P w = .ok (.slice (some ⟨g', 0, none⟩) (n + m) cap') w' ∧
      Row w' g' e s cap' (vs ++ news) ∧ n + m ≤ cap' ∧ w.grownBy w' v.ownBlock ∧ (v.ownBlock = some g' ∨ w.heap.size ≤ g') := by
  subst hsize
  subst hby
  have hsmall : n + m ≤ 9223372036854775807 := by simp only [maxLen] at h63; omega
  have hlen : (vs ++ news).length = (n + m) * i.size := by rw [List.length_append, hown.1, hl, Nat.add_mul]
  have fresh : ∀ old, old < n + m → ∀ r : Option Nat,
      Row (w.drew.alloc (.cells (vs.toArray ++ news.toArray ++ Builtin.zeroCells z.cells (grownCap w (n + m) old e - (n + m))) e)) w.heap.size e i.size (grownCap w (n + m) old e) (vs ++ news) ∧
      w.grownBy (w.drew.alloc (.cells (vs.toArray ++ news.toArray ++ Builtin.zeroCells z.cells (grownCap w (n + m) old e - (n + m))) e)) r := by
    intro old ho r
    have hge := grownCap_ge w (n + m) old e
    have hcm := grownCap_le_maxLen w (n + m) old e h63
    refine ⟨⟨_, heap_alloc_new w.drew _, ?_, ?_, hcm, ?_⟩, ⟨rfl, rfl, rfl, by simp, fun k hk _ => Below.heap_alloc w.drew _ k hk⟩⟩
    · simp only [Array.size_append, List.size_toArray, size_zeroCells, hzs, hown.1, hl, ← Nat.add_mul]
      congr 1
      omega
    · rw [hlen]; exact Nat.mul_le_mul_right _ hge
    · simp only [Array.toList_append, List.append_assoc]
      rw [← List.append_assoc]
      exact List.take_left
  rcases hown.2 with ⟨rfl, rfl⟩ | ⟨g, cap, rfl, hnc, cur, hg, hcs, hvl, hcm, htake⟩
  · have hx : vs = [] := List.eq_nil_of_length_eq_zero (by simpa using hown.1)
    subst hx
    have hr := run_append_nil (P := P) w t ty e i z ht hi hz a m c news hl hnews h0 (by omega) (by have hb := hbytes; simp only [Nat.zero_add] at hb; omega)
    have hgr := fresh 0 (by omega) (Value.ownBlock (.slice none 0 0))
    have hge := grownCap_ge w m 0 e
    simp only [Nat.zero_add, List.nil_append, Array.empty_append] at hgr ⊢
    exact ⟨_, _, _, hr, hgr.1, hge, hgr.2, .inr (Nat.le_refl _)⟩
  · by_cases hroom : n + m ≤ cap
    · have hfit : n * i.size + news.length ≤ cur.size := by rw [hl, hcs, ← Nat.add_mul]; exact Nat.mul_le_mul_right _ hroom
      have hr := run_append_room (P := P) w t ty e i ht hi g n cap cur hg a m c news hl hnews h1 hroom hfit
      refine ⟨_, _, _, hr, ⟨_, setRow_heap w g cur _ e _ hg, ?_, ?_, hcm, ?_⟩, hroom, ⟨rfl, rfl, rfl, by simp, fun k _ hk => setRow_other w g k _ (fun e => hk (by simp [Value.ownBlock, e]))⟩, .inl rfl⟩
      · simp only [List.size_toArray, List.length_append, List.length_take, List.length_drop, Array.length_toList]
        omega
      · rw [hlen]; exact Nat.mul_le_mul_right _ hroom
      · rw [← hown.1, htake]
        exact List.take_left
    · have holds : ∀ j u, vs[j]? = some u → w.cell? ((⟨g, 0, none⟩ : Addr).add j) = some u := by
        intro j u hu
        have hj : j < vs.length := (List.getElem?_eq_some_iff.1 hu).1
        have hadd : (⟨g, 0, none⟩ : Addr).add j = ⟨g, j, none⟩ := by unfold Addr.add; split <;> simp_all
        rw [hadd, cell_of_row w g j cur e (0, 0) hg]
        rw [← htake, List.getElem?_take, if_pos hj] at hu
        simpa using hu
      have hr := run_append_grow (P := P) w t ty e i z ht hi hz ⟨g, 0, none⟩ n cap vs hown.1 holds a m c news hl hnews (by omega) (by omega) (growslice_fits (by omega) hbytes)
      have hgr := fresh cap (by omega) (Value.ownBlock (.slice (some ⟨g, 0, none⟩) n cap))
      exact ⟨_, _, _, hr, hgr.1, grownCap_ge w (n + m) cap e, hgr.2, .inr (Nat.le_refl _)⟩

/-- The same as a law for the walk. -/
theorem wpList_append_row {ops : Array Oper} {rest : List Oper} {o : Oper} {a : Act} {Q : Exit → Act → World → Prop} (hgd : o.guard = none) (sl x : Operand) (t : TypeId)
    (ho : o.op = .call { callee := .builtin .append, args := #[sl, x], argTypes := #[t, t] })
    (e : TypeId) (z : Value) (s bytes : Nat) (ht : P.underlying t = some (.slice e)) (hinfo : (P.info? e).map (fun i => (i.zero, i.size, i.bytes)) = some (some z, s, bytes)) (hzs : z.cells.size = s)
    (v : Value) (n : Nat) (vs : List Value) (hs : a.eval sl = v) (hown : Own w v e s n vs)
    (ad : Addr) (m c : Nat) (news : List Value) (hx : a.eval x = .slice (some ad) m c) (hl : news.length = m * s) (hnews : ∀ j u, news[j]? = some u → w.cell? (ad.add j) = some u) (h1 : ∀ u ∈ news, u.oneCell' = true)
    (h0 : 0 < m) (h63 : n + m ≤ maxLen) (hbytes : (n + m) * bytes ≤ 140737488355328)
    (h : ∀ g' cap' w', Row w' g' e s cap' (vs ++ news) → n + m ≤ cap' → w.grownBy w' v.ownBlock → (v.ownBlock = some g' ∨ w.heap.size ≤ g') → wpList P ops Q rest (a.put o.dst (.slice (some ⟨g', 0, none⟩) (n + m) cap')) w') :
    wpList P ops Q (o :: rest) a w := by
  obtain ⟨i, hi, hz, hsize, hby⟩ := info_parts hinfo
  refine wpList_plain hgd fun K hK => ?_
  obtain ⟨g', cap', w', hr, h2, h3, h4, h5⟩ := run_append_row (P := P) w t o.type e i z s bytes ht hi hz hsize hby hzs v n vs hown ad m c news hl hnews h1 h0 h63 hbytes
  unfold Oper.wp execOp
  simp only [ho, resolve, invoke, builtin, Sem.run_bind, Sem.run_pure, Result.andThen_ok, List.map_toArray, List.map_cons, List.map_nil, hs, hx, hr]
  exact hK _ _ (h g' cap' w' h2 h3 h4 h5)
end

/-- .. and as a step of a region that draws its order. -/
theorem step_append_row {P : Program} {w : World} {ops : Array Oper} {o : Oper} {a : Act} {K : Act → World → Prop} {Q : Exit → Act → World → Prop} {E : Prop} (hgd : o.guard = none) (sl x : Operand) (t : TypeId)
    (ho : o.op = .call { callee := .builtin .append, args := #[sl, x], argTypes := #[t, t] })
    (e : TypeId) (z : Value) (s bytes : Nat) (ht : P.underlying t = some (.slice e)) (hinfo : (P.info? e).map (fun i => (i.zero, i.size, i.bytes)) = some (some z, s, bytes)) (hzs : z.cells.size = s)
    (v : Value) (n : Nat) (vs : List Value) (hs : a.eval sl = v) (hown : Own w v e s n vs)
    (ad : Addr) (m c : Nat) (news : List Value) (hx : a.eval x = .slice (some ad) m c) (hl : news.length = m * s) (hnews : ∀ j u, news[j]? = some u → w.cell? (ad.add j) = some u) (h1 : ∀ u ∈ news, u.oneCell' = true)
    (h0 : 0 < m) (h63 : n + m ≤ maxLen) (hbytes : (n + m) * bytes ≤ 140737488355328)
    (h : ∀ g' cap' w', Row w' g' e s cap' (vs ++ news) → n + m ≤ cap' → w.grownBy w' v.ownBlock → (v.ownBlock = some g' ∨ w.heap.size ≤ g') → K (a.put o.dst (.slice (some ⟨g', 0, none⟩) (n + m) cap')) w') :
    if Region.wanted o (yielded ops a.tmps) = true then Oper.wp P o a w K Q else E := by
  rw [if_pos (by simp [Region.wanted, hgd])]
  obtain ⟨i, hi, hz, hsize, hby⟩ := info_parts hinfo
  obtain ⟨g', cap', w', hr, h2, h3, h4, h5⟩ := run_append_row (P := P) w t o.type e i z s bytes ht hi hz hsize hby hzs v n vs hown ad m c news hl hnews h1 h0 h63 hbytes
  unfold Oper.wp execOp
  simp only [ho, resolve, invoke, builtin, Sem.run_bind, Sem.run_pure, Result.andThen_ok, List.map_toArray, List.map_cons, List.map_nil, hs, hx, hr]
  exact h g' cap' w' h2 h3 h4 h5

/-- what a copy leaves -/
def spliced (vs : List Value) (off : Nat) (cs : List Value) : List Value := vs.take off ++ (cs ++ vs.drop (off + cs.length))
theorem spliced_length {vs cs : List Value} {off : Nat} (h : off + cs.length ≤ vs.length) : (spliced vs off cs).length = vs.length := by simp [spliced]; omega
theorem Row.spliced {w : World} {g : Nat} {e : TypeId} {cap : Nat} {vs : List Value} (h : Row w g e 1 cap vs) (off : Nat) (cs : List Value) (hfit : off + cs.length ≤ vs.length) :
    ∃ cur : Array Value, w.heap[g]? = some (.cells cur e (0, 0)) ∧ off + cs.length ≤ cur.size ∧ w.grownBy (w.setRow g (cur.toList.take off ++ (cs ++ cur.toList.drop (off + cs.length))).toArray) (some g) ∧
      Row (w.setRow g (cur.toList.take off ++ (cs ++ cur.toList.drop (off + cs.length))).toArray) g e 1 cap (spliced vs off cs) := by
  obtain ⟨cur, hg, hs, hl, hm, ht⟩ := h
  have hcl : vs.length ≤ cur.toList.length := by simp; omega
  refine ⟨cur, hg, by omega, ⟨rfl, rfl, rfl, by simp [World.setRow], fun k _ hk => setRow_other w g k _ (fun e => hk (by simp [e]))⟩, ⟨_, setRow_heap w g cur _ e _ hg, ?_, ?_, hm, ?_⟩⟩
  · simp; omega
  · rw [spliced_length hfit]; exact hl
  · rw [spliced_length hfit]
    conv => rhs; rw [← ht]
    unfold Go.Proofs.Ytagcbnpahgfgmaa.spliced
    rw [List.take_append, List.take_append, List.take_take, List.take_take]
    rw [List.drop_take, List.length_take, Nat.min_eq_left (by omega : off ≤ cur.toList.length)]
    rw [Nat.min_eq_right (by omega : off ≤ vs.length), Nat.min_eq_left (by omega : off ≤ vs.length)]
    rw [List.take_of_length_le (by omega : cs.length ≤ vs.length - off)]
    congr 3
    omega

theorem wpList_copy_row {P : Program} {w : World} {ops : Array Oper} {rest : List Oper} {o : Oper} {a : Act} {Q : Exit → Act → World → Prop} (hgd : o.guard = none) (d s : Operand) (dT sT : TypeId)
    (ho : o.op = .call { callee := .builtin .copy, args := #[d, s], argTypes := #[dT, sT] }) (e : TypeId) (hu : P.underlying dT = some (.slice e)) (hsz : (P.info? e).map (·.size) = some 1)
    (dp sp : Option Addr) (dLen dCap sLen sCap : Nat) (hd : a.eval d = .slice dp dLen dCap) (hs : a.eval s = .slice sp sLen sCap)
    (g off cap : Nat) (vs : List Value) (hrow : Row w g e 1 cap vs) (cs : List Value) (hn : cs.length = Nat.min sLen dLen)
    (hpos : 0 < cs.length → dp = some ⟨g, off, none⟩ ∧ ∃ ad, sp = some ad ∧ ∀ j v, cs[j]? = some v → w.cell? (ad.add j) = some v)
    (hfit : off + cs.length ≤ vs.length) (h1 : ∀ v ∈ cs, v.oneCell' = true)
    (h : ∀ w', Row w' g e 1 cap (spliced vs off cs) → w.grownBy w' (some g) → wpList P ops Q rest (a.put o.dst (goInt cs.length)) w') :
    wpList P ops Q (o :: rest) a w := by
  by_cases h0 : cs.length = 0
  · obtain rfl : cs = [] := List.eq_nil_of_length_eq_zero h0
    refine wpList_copy_nothing hgd d s dT sT ho e hu hsz dp sp dLen dCap sLen sCap hd hs (by simpa using hn.symm) ?_
    have := h w (by simpa [Go.Proofs.Ytagcbnpahgfgmaa.spliced] using hrow) (World.grownBy.refl _ _)
    simpa using this
  · obtain ⟨rfl, ad, rfl, hsrc⟩ := hpos (by omega)
    obtain ⟨cur, hg, hc, hgr, hr⟩ := hrow.spliced off cs hfit
    exact wpList_copy_own hgd d s dT sT ho e hu hsz g off dLen dCap ad sLen sCap hd hs cur e hg cs hn hsrc hc h1 (h _ hr hgr)

/-- .. and as a step of a region that draws its order. -/
theorem step_copy_row {P : Program} {w : World} {ops : Array Oper} {o : Oper} {a : Act} {K : Act → World → Prop} {Q : Exit → Act → World → Prop} {E : Prop} (hgd : o.guard = none) (d s : Operand) (dT sT : TypeId)
    (ho : o.op = .call { callee := .builtin .copy, args := #[d, s], argTypes := #[dT, sT] }) (e : TypeId) (hu : P.underlying dT = some (.slice e)) (hsz : (P.info? e).map (·.size) = some 1)
    (dp sp : Option Addr) (dLen dCap sLen sCap : Nat) (hd : a.eval d = .slice dp dLen dCap) (hs : a.eval s = .slice sp sLen sCap)
    (g off cap : Nat) (vs : List Value) (hrow : Row w g e 1 cap vs) (cs : List Value) (hn : cs.length = Nat.min sLen dLen)
    (hpos : 0 < cs.length → dp = some ⟨g, off, none⟩ ∧ ∃ ad, sp = some ad ∧ ∀ j v, cs[j]? = some v → w.cell? (ad.add j) = some v)
    (hfit : off + cs.length ≤ vs.length) (h1 : ∀ v ∈ cs, v.oneCell' = true)
    (h : ∀ w', Row w' g e 1 cap (spliced vs off cs) → w.grownBy w' (some g) → K (a.put o.dst (goInt cs.length)) w') :
    if Region.wanted o (yielded ops a.tmps) = true then Oper.wp P o a w K Q else E := by
  rw [if_pos (by simp [Region.wanted, hgd])]
  by_cases h0 : cs.length = 0
  · obtain rfl : cs = [] := List.eq_nil_of_length_eq_zero h0
    have hrun := run_copy_none (P := P) w dT sT o.type e dp sp dLen dCap sLen sCap hu hsz (by simpa using hn.symm)
    unfold Oper.wp
    simp [execOp, ho, resolve, invoke, builtin, hd, hs, hrun, Result.andThen]
    exact h w (by simpa [Go.Proofs.Ytagcbnpahgfgmaa.spliced] using hrow) (World.grownBy.refl _ _)
  · obtain ⟨rfl, ad, rfl, hsrc⟩ := hpos (by omega)
    obtain ⟨cur, hg, hc, hgr, hr⟩ := hrow.spliced off cs hfit
    have hrun := run_copy_row (P := P) w dT sT o.type e g off dLen dCap ad sLen sCap cur e cs hu hsz hg hn hsrc hc h1
    unfold Oper.wp
    simp [execOp, ho, resolve, invoke, builtin, hd, hs, hrun, Result.andThen]
    exact h _ hr hgr

/-! ### rows of rows -/
theorem Own.below {w w' : World} {v : Value} {e : TypeId} {s n : Nat} {vs : List Value} (h : Own w v e s n vs) (hb : ∀ g, v.ownBlock = some g → w'.heap[g]? = w.heap[g]?) : Own w' v e s n vs := by
  refine ⟨h.1, ?_⟩
  rcases h.2 with h2 | ⟨g, cap, rfl, hc, hr⟩
  · exact .inl h2
  · exact .inr ⟨g, cap, rfl, hc, hr.block (hb g rfl)⟩
theorem Own.lt {w : World} {v : Value} {e : TypeId} {s n : Nat} {vs : List Value} (h : Own w v e s n vs) {g : Nat} (hg : v.ownBlock = some g) : g < w.heap.size := by
  rcases h.2 with ⟨rfl, _⟩ | ⟨g', cap, rfl, hc, hr⟩
  · simp [Value.ownBlock] at hg
  · simp [Value.ownBlock] at hg; subst hg; exact hr.lt

theorem Own.ext {w w' : World} {v : Value} {e : TypeId} {s n : Nat} {vs : List Value} (h : Own w v e s n vs) (hb : Below w.heap.size w w') : Own w' v e s n vs :=
  h.below fun g hg => hb.block g (h.lt hg)
theorem Own.alloc {w : World} {v : Value} {e : TypeId} {s n : Nat} {vs : List Value} (h : Own w v e s n vs) (o : Obj) : Own (w.alloc o) v e s n vs := h.ext (bl_alloc _ _)
theorem Own.drew {w : World} {v : Value} {e : TypeId} {s n : Nat} {vs : List Value} (h : Own w v e s n vs) : Own w.drew v e s n vs := h

/-- Block G is a row of slices (type tO), each the call's own, of elements of type e (one cell each), that read as 'rows'; no two share a block; all of their blocks are younger than G. -/
structure OwnRows (w : World) (G : Nat) (tO e : TypeId) (cap : Nat) (vals : List Value) (rows : List (List Value)) : Prop where
  len : vals.length = rows.length
  outer : Row w G tO 1 cap vals
  own : ∀ (v : Nat) (u : Value) (r : List Value), vals[v]? = some u → rows[v]? = some r → Own w u e 1 r.length r
  young : ∀ (v : Nat) (u : Value) (g : Nat), vals[v]? = some u → u.ownBlock = some g → G < g
  apart : ∀ (v v' : Nat) (u u' : Value) (g : Nat), v ≠ v' → vals[v]? = some u → vals[v']? = some u' → u.ownBlock = some g → u'.ownBlock ≠ some g

namespace OwnRows
variable {w w' : World} {G : Nat} {tO e : TypeId} {cap : Nat} {vals : List Value} {rows : List (List Value)}
theorem lt (h : OwnRows w G tO e cap vals rows) {v : Nat} {u : Value} {g : Nat} (hu : vals[v]? = some u) (hg : u.ownBlock = some g) : g < w.heap.size := by
  have hv : v < vals.length := (List.getElem?_eq_some_iff.1 hu).1
  obtain ⟨r, hr⟩ : ∃ r, rows[v]? = some r := ⟨rows[v]'(by rw [← h.len]; exact hv), by simp⟩
  exact (h.own v u r hu hr).lt hg
/-- nothing of it has turned -/
theorem keep (h : OwnRows w G tO e cap vals rows) (hb : ∀ g, G ≤ g → g < w.heap.size → w'.heap[g]? = w.heap[g]?) : OwnRows w' G tO e cap vals rows where
  len := h.len
  outer := h.outer.block (hb G (Nat.le_refl _) h.outer.lt)
  own v u r hu hr := (h.own v u r hu hr).below fun g hg => hb g (Nat.le_of_lt (h.young v u g hu hg)) (h.lt hu hg)
  young := h.young
  apart := h.apart
theorem below (h : OwnRows w G tO e cap vals rows) (hb : Below w.heap.size w w') : OwnRows w' G tO e cap vals rows := h.keep fun g _ hg => hb.block g hg
theorem alloc (h : OwnRows w G tO e cap vals rows) (o : Obj) : OwnRows (w.alloc o) G tO e cap vals rows := h.keep fun g _ hg => Below.heap_alloc w o g hg
theorem drew (h : OwnRows w G tO e cap vals rows) : OwnRows w.drew G tO e cap vals rows := h.keep fun _ _ _ => rfl
theorem drewN (h : OwnRows w G tO e cap vals rows) (n : Nat) : OwnRows (w.drewN n) G tO e cap vals rows := h.keep fun _ _ _ => rfl
/-- one row has been appended to, and the new slice is stored back -/
theorem stored (h : OwnRows w G tO e cap vals rows) {v : Nat} {u : Value} {r r' : List Value} (hu : vals[v]? = some u) (_hr : rows[v]? = some r)
    {g' cap' : Nat} (hrow : Row w' g' e 1 cap' r') (hgr : w.grownBy w' u.ownBlock) (hg' : u.ownBlock = some g' ∨ w.heap.size ≤ g') :
    OwnRows (w'.setCell ⟨G, v, none⟩ (.slice (some ⟨g', 0, none⟩) r'.length cap')) G tO e cap (vals.set v (.slice (some ⟨g', 0, none⟩) r'.length cap')) (rows.set v r') := by
  have hv : v < vals.length := (List.getElem?_eq_some_iff.1 hu).1
  have hGg : G < g' := by
    rcases hg' with hg' | hg'
    · exact h.young v u g' hu hg'
    · exact Nat.lt_of_lt_of_le h.outer.lt hg'
  have houter : Row w' G tO 1 cap vals := h.outer.grown hgr (fun e => by have := h.young v u G hu e; omega)
  have hother : ∀ (v' : Nat) (u' : Value) (g : Nat), v' ≠ v → vals[v']? = some u' → u'.ownBlock = some g → g ≠ g' ∧ (w'.heap[g]? = w.heap[g]?) := by
    intro v' u' g hne hu' hg
    refine ⟨?_, hgr.block g (h.lt hu' hg) (fun e => h.apart v' v u' u g hne hu' hu hg e.symm)⟩
    rintro rfl
    rcases hg' with hg' | hg'
    · exact h.apart v' v u' u g hne hu' hu hg hg'
    · have := h.lt hu' hg; omega
  refine ⟨by simpa using h.len, houter.set v _, ?_, ?_, ?_⟩
  · intro v' u' r1 hu' hr'
    rw [List.getElem?_set] at hu' hr'
    by_cases hvv : v = v'
    · subst hvv
      rw [if_pos rfl, if_pos hv] at hu'
      rw [if_pos rfl, if_pos (by rw [← h.len]; exact hv)] at hr'
      cases hu'; cases hr'
      exact (hrow.other (a := ⟨G, v, none⟩) (by simp; omega) _).own1
    · rw [if_neg hvv] at hu' hr'
      refine (h.own v' u' r1 hu' hr').below fun g hg => ?_
      obtain ⟨h1, h2⟩ := hother v' u' g (Ne.symm hvv) hu' hg
      rw [Below.heap_setCell _ _ _ _ (by have := h.young v' u' g hu' hg; simp; omega)]
      exact h2
  · intro v' u' g hu' hg
    rw [List.getElem?_set] at hu'
    by_cases hvv : v = v'
    · subst hvv
      rw [if_pos rfl, if_pos hv] at hu'
      cases hu'
      simp [Value.ownBlock] at hg
      omega
    · rw [if_neg hvv] at hu'
      exact h.young v' u' g hu' hg
  · intro v1 v2 u1 u2 g hne h1 h2 hg
    rw [List.getElem?_set] at h1 h2
    by_cases e1 : v = v1
    · subst e1
      rw [if_pos rfl, if_pos hv] at h1
      cases h1
      simp [Value.ownBlock] at hg
      subst hg
      rw [if_neg hne] at h2
      intro hc
      exact (hother v2 u2 _ (Ne.symm hne) h2 hc).1 rfl
    · rw [if_neg e1] at h1
      by_cases e2 : v = v2
      · subst e2
        rw [if_pos rfl, if_pos hv] at h2
        cases h2
        simp [Value.ownBlock]
        exact fun e => (hother v1 u1 g (Ne.symm e1) h1 hg).1 e.symm
      · rw [if_neg e2] at h2
        exact h.apart v1 v2 u1 u2 g hne h1 h2 hg
theorem ne_outer (h : OwnRows w G tO e cap vals rows) {v : Nat} {u : Value} (hu : vals[v]? = some u) : u.ownBlock ≠ some G := fun hg => by
  have := h.young v u G hu hg; omega
theorem ne_new (h : OwnRows w G tO e cap vals rows) {v : Nat} {u : Value} (hu : vals[v]? = some u) {b : Nat} (hb : w.heap.size ≤ b) : u.ownBlock ≠ some b := fun hg => by
  have := h.lt hu hg; omega
end OwnRows

/-- a new row of nil slices -/
theorem ownRows_made (w : World) (n : Nat) (tO e : TypeId) (hm : n ≤ maxLen) :
    OwnRows (w.alloc (.cells (madeCells #[.slice none 0 0] n) tO)) w.heap.size tO e n (List.replicate n (.slice none 0 0)) (List.replicate n []) where
  len := by simp
  outer := row_made w _ n tO hm
  own v u r hu hr := by
    obtain ⟨_, hu⟩ := List.getElem?_eq_some_iff.1 hu
    obtain ⟨_, hr⟩ := List.getElem?_eq_some_iff.1 hr
    simp at hu hr
    subst hu; subst hr
    exact own_nil _ _ _
  young v u g hu hg := by
    obtain ⟨_, hu⟩ := List.getElem?_eq_some_iff.1 hu
    simp at hu; subst hu; simp [Value.ownBlock] at hg
  apart v v' u u' g _ hu _ hg := by
    obtain ⟨_, hu⟩ := List.getElem?_eq_some_iff.1 hu
    simp at hu; subst hu; simp [Value.ownBlock] at hg

/-- the one element that an append lays ahead of itself -/
theorem one_new {W : World} {b : Nat} {x : Value} (h : W.cell? ⟨b, 0, none⟩ = some x) : ∀ j u, [x][j]? = some u → W.cell? ((⟨b, 0, none⟩ : Addr).add j) = some u := by
  intro j u hj
  cases j with
  | zero => simp at hj; subst hj; simpa [Addr.add] using h
  | succ j => simp at hj
theorem one_ok (k : IntKind) (x : Int) : ∀ u ∈ [Value.int k x], u.oneCell' = true := by intro u hu; simp at hu; subst hu; rfl

theorem grown_cell {w w' : World} {r : Option Nat} {b o : Nat} {x : Value} (hg : w.grownBy w' r) (h : w.cell? ⟨b, o, none⟩ = some x) (hne : r ≠ some b) : w'.cell? ⟨b, o, none⟩ = some x :=
  hg.cell h (fun e => hne e.symm)
theorem grown_frozen {w w' : World} {r : Option Nat} {b o : Nat} (hg : w.grownBy w' r) (hlt : b < w.heap.size) (h : w.frozen? ⟨b, o, none⟩ = false) (hne : r ≠ some b) : w'.frozen? ⟨b, o, none⟩ = false :=
  (World.frozen?_of_block (w := w) (w' := w') (a := ⟨b, o, none⟩) (hg.block b hlt (fun e => hne e.symm))).trans h

theorem Below.ofGrown {B : Nat} {w w' : World} {r : Option Nat} (hg : w.grownBy w' r) (hB : B ≤ w.heap.size) (hr : ∀ k, r = some k → B ≤ k) : Below B w w' :=
  (Below.refl B w).grown hg hB hr
end Go.Proofs.Ytagcbnpahgfgmaa
