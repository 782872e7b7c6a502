/- Facts that the claim rests on, part 14. -/
import Derived.Test.YtagcbnpahgfgmaaGreatKO12
namespace Go.Proofs.YtagcbnpahgfgmaaGreat
def okV (Q : List Pt) (v : Int) : Prop := (atV v (allQ Q)).length = 2 ∧ pairB Q (atV v (allQ Q)) = true
def passV (Q : List Pt) (l : List Oc) : Prop := ∀ p ∈ l, p.2.2.2 ≠ 0 → okV Q p.2.2.2
theorem RightQ.okV {Q : List Pt} (h : RightQ Q) {p : Oc} (hp : p ∈ allQ Q) (hv : p.2.2.2 ≠ 0) : okV Q p.2.2.2 := by
 refine ⟨?_, h.bes.1.2 _ hv⟩
 rcases h.bes.2.1 _ hv with h0 | h2
 ·
  have : p ∈ atV p.2.2.2 (allQ Q) := mem_atV.2 ⟨hp, rfl⟩
  rw [List.eq_nil_of_length_eq_zero h0] at this; simp at this
 · exact h2
def nvO (l : List Oc) : Nat := (l.filter fun p => p.2.2.2 != 0).length
theorem sum_atV (l : List Oc) : ∀ N : List Int, N.Nodup → (l.filter fun p => decide (p.2.2.2 ∈ N)).length = (N.map fun v => (atV v l).length).sum := by
 intro N
 induction N with
 | nil => intro _; simp
 | cons v N ih =>
  intro hn
  have hn' := List.nodup_cons.1 hn
  rw [List.map_cons, List.sum_cons, ← ih hn'.2]
  clear ih
  induction l with
  | nil => rfl
  | cons p l ih =>
   unfold atV at ih ⊢; simp only [List.filter_cons, List.mem_cons] at ih ⊢; by_cases h1 : p.2.2.2 = v
   ·
    have h2 : p.2.2.2 ∉ N := by rw [h1]; exact hn'.1
    simp [h1, hn'.1] at ih ⊢; omega
   ·
    have h3 : (p.2.2.2 == v) = false := by simpa using h1
    by_cases h2 : p.2.2.2 ∈ N
    · simp [h1, h2] at ih ⊢; omega
    · simp [h1, h2] at ih ⊢; omega
theorem nums_two {l : List Oc} (h : bothP l) : nvO l = 2 * (numsO l).length := by
 have h1 := sum_atV l (numsO l) (numsO_nodup l)
 have e : (fun p : Oc => decide (p.2.2.2 ∈ numsO l)) = fun p => decide (p.2.2.2 ∈ numsO l) := rfl
 have h2 : (l.filter fun p => decide (p.2.2.2 ∈ numsO l)) = l.filter fun p => p.2.2.2 != 0 := by
  refine List.filter_congr fun p hp => ?_
  rw [Bool.eq_iff_iff]
  simp only [decide_eq_true_eq, bne_iff_ne, ne_eq]
  rw [mem_numsO]
  exact ⟨fun h => h.1, fun h => ⟨h, p, hp, rfl⟩⟩
 rw [h2] at h1
 unfold nvO
 rw [h1]
 have h3 : ∀ N : List Int, (∀ v ∈ N, (atV v l).length = 2) → (N.map fun v => (atV v l).length).sum = 2 * N.length := by
  intro N
  induction N with
  | nil => intro _; rfl
  | cons v N ih =>
   intro hN; rw [List.map_cons, List.sum_cons, ih fun x hx => hN x (by simp [hx]), hN v (by simp), List.length_cons]; omega
 refine h3 _ fun v hv => ?_
 obtain ⟨h0, p, hp, hpv⟩ := mem_numsO.1 hv
 rcases h v h0 with h4 | h4
 ·
  have : p ∈ atV v l := mem_atV.2 ⟨hp, hpv⟩
  rw [List.eq_nil_of_length_eq_zero h4] at this; simp at this
 · exact h4
theorem passV_both {Q : List Pt} (h : passV Q (allQ Q)) : bothP (allQ Q) ∧ ∀ v, v ≠ 0 → pairB Q (atV v (allQ Q)) = true := by
 refine ⟨fun v hv => ?_, fun v hv => ?_⟩ <;> cases he : atV v (allQ Q) with
 | nil => simp [pairB]
 | cons p l =>
  have hp : p ∈ atV v (allQ Q) := by rw [he]; simp
  obtain ⟨h1, h2⟩ := mem_atV.1 hp
  have := h p h1 (by rw [h2]; exact hv)
  rw [h2] at this
  first
  | (rw [← he]; exact .inr this.1)
  | (rw [← he]; exact this.2)
def stepS (Q : List Pt) (G : Nat → Bool) (p : Oc) : Nat → Bool := if p.2.2.2 = 0 then G else match atV p.2.2.2 (allQ Q) with
 | a :: b :: _ => if G a.1 || G b.1 then (fun j => G j || (decide (j = a.1) || decide (j = b.1))) else G
 | _ => G
def foldS (Q : List Pt) (G : Nat → Bool) (l : List Oc) : Nat → Bool := l.foldl (stepS Q) G
theorem foldS_snoc (Q : List Pt) (G : Nat → Bool) (l : List Oc) (p : Oc) : foldS Q G (l ++ [p]) = stepS Q (foldS Q G l) p := by unfold foldS; rw [List.foldl_append]; rfl
theorem foldS_append (Q : List Pt) (G : Nat → Bool) (l m : List Oc) : foldS Q G (l ++ m) = foldS Q (foldS Q G l) m := by unfold foldS; rw [List.foldl_append]
def roundS (Q : List Pt) : Nat → Nat → Bool
 | 0 => fun j => decide (j = 0)
 | r + 1 => foldS Q (roundS Q r) (allQ Q)
theorem stepS_mono (Q : List Pt) (G : Nat → Bool) (p : Oc) {j : Nat} (h : G j = true) : stepS Q G p j = true := by
 unfold stepS
 by_cases h0 : p.2.2.2 = 0
 · rw [if_pos h0]; exact h
 ·
  rw [if_neg h0]
  generalize atV p.2.2.2 (allQ Q) = z
  match z with
  | [] => exact h
  | [_] => exact h
  | a :: b :: c =>
   simp only; by_cases hg : (G a.1 || G b.1) = true
   · rw [if_pos hg]; simp [h]
   · rw [if_neg hg]; exact h
theorem foldS_mono (Q : List Pt) : ∀ (l : List Oc) (G : Nat → Bool) {j : Nat}, G j = true → foldS Q G l j = true
 | [], _, _, h => h
 | p :: l, G, _, h => foldS_mono Q l _ (stepS_mono Q G p h)
theorem roundS_mono (Q : List Pt) {r s : Nat} (h : r ≤ s) {j : Nat} (hj : roundS Q r j = true) : roundS Q s j = true := by
 induction s with
 | zero =>
  obtain rfl : r = 0 := by omega
  exact hj
 | succ s ih =>
  by_cases e : r = s + 1
  · subst e; exact hj
  · exact foldS_mono Q _ _ (ih (by omega))
theorem adj_pair {Q : List Pt} {v : Int} (hv : v ≠ 0) {a b : Oc} (h : atV v (allQ Q) = [a, b]) (hp : pairB Q [a, b] = true) : adjQ Q a.1 b.1 = true := by
 simp only [pairB, Bool.and_eq_true, decide_eq_true_eq] at hp
 have ha := mem_atV.1 (by rw [h]; simp : a ∈ atV v (allQ Q))
 have hb := mem_atV.1 (by rw [h]; simp : b ∈ atV v (allQ Q))
 exact adjQ_iff.2 ⟨hp.2.1, a.2, b.2, mem_allQ.1 ha.1, mem_allQ.1 hb.1, by rw [ha.2]; exact hv, by rw [ha.2, hb.2]⟩
theorem okV_two {Q : List Pt} {v : Int} (h : okV Q v) : ∃ a b, atV v (allQ Q) = [a, b] ∧ pairB Q [a, b] = true := by
 obtain ⟨h1, h2⟩ := h
 match hl : atV v (allQ Q), h1 with
 | [a, b], _ => rw [hl] at h2; exact ⟨a, b, rfl, h2⟩
theorem step_con {Q : List Pt} {G : Nat → Bool} {p : Oc} (hp : p.2.2.2 ≠ 0 → okV Q p.2.2.2) (h : ∀ j, G j = true → Con (nbQ Q) (· < Q.length) 0 j) : ∀ j, stepS Q G p j = true → Con (nbQ Q) (· < Q.length) 0 j := by
 intro j hj
 unfold stepS at hj
 split at hj
 · exact h j hj
 ·
  rename_i h0
  obtain ⟨a, b, hab, hpr⟩ := okV_two (hp h0)
  rw [hab] at hj
  simp only at hj
  split at hj
  ·
   rename_i hg; have hadj := adj_pair h0 hab hpr; have ha := lnQ_mem (mem_allQ.1 (mem_atV.1 (by rw [hab]; simp : a ∈ atV p.2.2.2 (allQ Q))).1); have hb := lnQ_mem (mem_allQ.1 (mem_atV.1 (by rw [hab]; simp : b ∈ atV p.2.2.2 (allQ Q))).1); have hca : Con (nbQ Q) (· < Q.length) 0 a.1 ∧ Con (nbQ Q) (· < Q.length) 0 b.1 := by
    rcases Bool.or_eq_true _ _ ▸ hg with h1 | h1
    · exact ⟨h _ h1, .step (h _ h1) (mem_nbQ.2 hadj) hb⟩
    · exact ⟨.step (h _ h1) (mem_nbQ.2 (adjQ_symm hadj)) ha, h _ h1⟩
   simp only [Bool.or_eq_true, decide_eq_true_eq] at hj; rcases hj with hj | rfl | rfl
   · exact h j hj
   · exact hca.1
   · exact hca.2
  · exact h j hj
theorem fold_con {Q : List Pt} : ∀ (l : List Oc) (G : Nat → Bool), passV Q l → (∀ j, G j = true → Con (nbQ Q) (· < Q.length) 0 j) → ∀ j, foldS Q G l j = true → Con (nbQ Q) (· < Q.length) 0 j
 | [], _, _, h => h
 | p :: l, G, hp, h => fold_con l _ (fun q hq => hp q (by simp [hq])) (step_con (fun hv => hp p (by simp) hv) h)
theorem round_con {Q : List Pt} (h0 : 0 < Q.length) (hp : passV Q (allQ Q)) : ∀ r j, roundS Q r j = true → Con (nbQ Q) (· < Q.length) 0 j
 | 0, j, h => by
  have : j = 0 := by simpa [roundS] using h
  subst this; exact .refl h0
 | r + 1, j, h => fold_con _ _ hp (round_con h0 hp r) j h
def cntB (n : Nat) (G : Nat → Bool) : Nat := ((List.range n).filter G).length
theorem cntB_le (n : Nat) (G : Nat → Bool) : cntB n G ≤ n := by
 unfold cntB
 have := List.length_filter_le G (List.range n)
 simpa using this
theorem filter_len_mono {α : Type} {p q : α → Bool} : ∀ {l : List α}, (∀ x ∈ l, p x = true → q x = true) → (l.filter p).length ≤ (l.filter q).length
 | [], _ => by simp
 | a :: l, h => by
  have i1 := filter_len_mono (l := l) fun x hx => h x (by simp [hx])
  have ha := h a (by simp)
  simp only [List.filter_cons]
  cases hp : p a with
  | true => rw [ha hp]; simp; exact i1
  | false => cases q a <;> simp <;> omega
theorem filter_len_eq {α : Type} {p q : α → Bool} : ∀ {l : List α}, (∀ x ∈ l, p x = true → q x = true) → (l.filter q).length ≤ (l.filter p).length → ∀ x ∈ l, q x = true → p x = true
 | [], _, _ => fun x hx => by simp at hx
 | a :: l, h, hle => fun x hx hq => by
  have i0 := filter_len_mono (l := l) (p := p) (q := q) fun x hx => h x (by simp [hx])
  have ha := h a (by simp)
  simp only [List.filter_cons] at hle
  have hle' : (l.filter q).length ≤ (l.filter p).length ∧ (q a = true → p a = true) := by
   cases hp : p a with
   | true => rw [hp, ha hp] at hle; simp at hle; exact ⟨hle, fun _ => rfl⟩
   | false =>
    rw [hp] at hle; cases hqa : q a with
    | true => rw [hqa] at hle; simp at hle; omega
    | false => rw [hqa] at hle; simp at hle; exact ⟨hle, fun h => by cases h⟩
  rcases List.mem_cons.1 hx with rfl | hx
  · exact hle'.2 hq
  · exact filter_len_eq (l := l) (fun x hx => h x (by simp [hx])) hle'.1 x hx hq
theorem round_all {Q : List Pt} (h0 : 0 < Q.length) (hp : passV Q (allQ Q)) : (∀ j, j < Q.length → roundS Q Q.length j = true) ↔ conP Q := by
 constructor
 · exact fun h j hj => round_con h0 hp _ j (h j hj)
 ·
  intro hc
  have hex : ∃ r, r < Q.length ∧ cntB Q.length (roundS Q (r + 1)) ≤ cntB Q.length (roundS Q r) := by
   refine Classical.byContradiction fun hno => ?_; have hgrow : ∀ r, r ≤ Q.length → r + 1 ≤ cntB Q.length (roundS Q r) := by
    intro r; induction r with
    | zero =>
     intro _; unfold cntB; refine List.length_pos_iff.2 (List.ne_nil_of_mem (a := 0) ?_); rw [List.mem_filter, List.mem_range]; exact ⟨h0, by simp [roundS]⟩
    | succ r ih =>
     intro hr; have h1 := ih (by omega); have h2 : ¬ cntB Q.length (roundS Q (r + 1)) ≤ cntB Q.length (roundS Q r) := fun h => hno ⟨r, by omega, h⟩; omega
   have := hgrow Q.length (Nat.le_refl _); have := cntB_le Q.length (roundS Q Q.length); omega
  obtain ⟨r, hr, hle⟩ := hex
  have hsame := filter_len_eq (l := List.range Q.length) (p := roundS Q r) (q := roundS Q (r + 1)) (fun x _ hx => roundS_mono Q (by omega) hx) hle
  intro j hj
  refine roundS_mono Q (by omega : r ≤ Q.length) ?_
  refine Con.to (fun j => roundS Q r j = true) (roundS_mono Q (Nat.zero_le r) (by simp [roundS])) (fun y z hy hz => ?_) (hc j hj)
  obtain ⟨hne, e, f, he, hf, hv, hfe⟩ := adjQ_iff.1 (mem_nbQ.1 hz)
  have hzn := lnQ_mem hf
  have hm : (y, e) ∈ allQ Q := mem_allQ.2 he
  obtain ⟨l1, l2, hl⟩ := List.append_of_mem hm
  obtain ⟨a, b, hab, hpr⟩ := okV_two (hp (y, e) hm hv)
  simp only at hab
  have m1 : (y, e) ∈ atV e.2.2 (allQ Q) := mem_atV.2 ⟨hm, rfl⟩
  have m2 : (z, f) ∈ atV e.2.2 (allQ Q) := mem_atV.2 ⟨mem_allQ.2 hf, hfe⟩
  rw [hab] at m1 m2
  refine hsame z (List.mem_range.2 hzn) ?_
  show foldS Q (roundS Q r) (allQ Q) z = true
  rw [hl, show l1 ++ (y, e) :: l2 = (l1 ++ [(y, e)]) ++ l2 by simp, foldS_append, foldS_snoc]
  refine foldS_mono Q _ _ ?_
  have hgy := foldS_mono Q l1 (roundS Q r) hy
  unfold stepS
  rw [if_neg (by exact hv), hab]
  simp only
  have hya : y = a.1 ∨ y = b.1 := by
   simp at m1; rcases m1 with h | h
   · exact .inl (by rw [← h])
   · exact .inr (by rw [← h])
  have hza : z = a.1 ∨ z = b.1 := by
   simp at m2; rcases m2 with h | h
   · exact .inl (by rw [← h])
   · exact .inr (by rw [← h])
  have hg : (foldS Q (roundS Q r) l1 a.1 || foldS Q (roundS Q r) l1 b.1) = true := by
   rcases hya with h | h <;> rw [← h, hgy] <;> simp
  rw [if_pos hg]
  rcases hza with h | h <;> simp [h]
def seenR (Q : List Pt) (i : Nat) : Prop := ∀ j (h : j < Q.length), j < i → Q[j].1 ≠ 0 ∧ Q[j].1 = kindR Q[j].2 ∧ (∀ h0 : 0 < j, cmpLs (Q[j - 1]'(by omega)).2 Q[j].2 < 0)
theorem seenR_seen {Q : List Pt} {i : Nat} (h : seenR Q i) : seenQ Q i := fun j hj hji => by
 obtain ⟨h1, h2, h3⟩ := h j hj hji
 exact ⟨h1, by rw [h2, kind_same], fun h0 => by have := h3 h0; omega⟩
theorem RightQ.seenR {Q : List Pt} (h : RightQ Q) {j : Nat} (hj : j < Q.length) : Q[j].1 ≠ 0 ∧ Q[j].1 = kindR Q[j].2 ∧ (∀ h0 : 0 < j, cmpLs (Q[j - 1]'(by omega)).2 Q[j].2 < 0) := by
 obtain ⟨h1, h2⟩ := h.kinds _ (List.getElem_mem hj)
 refine ⟨h1, by rw [kind_same]; exact h2, fun h0 => ?_⟩
 obtain ⟨k, rfl⟩ : ∃ k, j = k + 1 := ⟨j - 1, by omega⟩
 have h3 := h.ord k hj
 have h4 := h.strict (i := k) (j := k + 1) (by omega) hj
 simp only [Nat.add_sub_cancel]
 have : cmpLs Q[k].2 Q[k + 1].2 ≠ 0 := fun e => h4 (cmpLs_zero.1 e)
 omega
theorem right_doc {Q : List Pt} (h0 : 0 < Q.length) : RightQ Q ↔ seenR Q Q.length ∧ passV Q (allQ Q) ∧ (realsO (allQ Q)).Nodup ∧ nvO (allQ Q) + 2 = 2 * Q.length ∧ ∀ j, j < Q.length → roundS Q Q.length j = true := by
 constructor
 ·
  intro h
  have hp : passV Q (allQ Q) := fun p hp hv => h.okV hp hv
  have h2 := nums_two h.bes.2.1
  have h3 := h.bes.2.2
  exact ⟨fun j hj _ => h.seenR hj, hp, h.bes.1.1, by omega, (round_all h0 hp).2 h.con⟩
 ·
  rintro ⟨h1, h2, h3, h4, h5⟩
  obtain ⟨hk, ho⟩ := seenQ_all.1 (seenR_seen h1)
  obtain ⟨hb, hpr⟩ := passV_both h2
  have hn := nums_two hb
  exact ⟨fun e => by subst e; simp at h0, hk, ho, ⟨⟨h3, hpr⟩, hb, by omega⟩, (round_all h0 h2).1 h5⟩
end Go.Proofs.YtagcbnpahgfgmaaGreat
namespace Go.Proofs.YtagcbnpahgfgmaaGreat
open Go Go.RowKit Go.Maps
theorem besQ_len {Q : List Pt} (hQ : Q.length ≤ 1000) (hR : ∀ q ∈ Q, q.2.length ≤ 1000) (v : Nat) : (besQ Q v).length ≤ 4000000 := by
 unfold besQ
 rw [srtN_len]
 have h1 := outO_len (pairsO (allQ Q)) v
 have h2 := pairsO_len (allQ Q)
 have h3 := allQ_len hQ hR Q.length 0 (Nat.le_refl _)
 rw [preQ_zero] at h3
 have h4 : (preO Q Q.length).length = (allQ Q).length := rfl
 omega
def RetTree (w : World) (Q : List Pt) (e : Ending) (w' : World) : Prop :=
 Below w.heap.size w w' ∧ ((RightQ Q ∧ ∃ G, e = .returned (.tuple #[.slice (some ⟨G, 0, none⟩) Q.length Q.length, .bool true]) ∧ RdG w' G Q.length (besQ Q)) ∨ (¬ RightQ Q ∧ ∃ v, e = .returned (.tuple #[v, .bool false])))
set_option maxRecDepth 100000 in
set_option maxHeartbeats 8000000 in
theorem tree_walk (a : Option Addr) (cap : Nat) (Q : List Pt) (w : World) (hr : RdQ w a Q) (hQ : Q.length ≤ 1000) :
  Calls Tryz.prog 41 #[.slice a Q.length cap] w (RetTree w Q) := by
 by_cases h0 : Q.length = 0
 ·
  obtain rfl := List.eq_nil_of_length_eq_zero h0
  have hbad : ¬ RightQ ([] : List Pt) := fun h => h.ne rfl
  have Hbad := Lib.hid hbad
  clear hbad h0
  go_enter Tryz.func41, Tryz.ntmps41
  go_wp2_with fail
  go_ret2
  exact ⟨bl_refl _, .inr ⟨Hbad.out, _, rfl⟩⟩
 have e0 : ((Q.length : Int) == 0) = false := beq_eq_false_iff_ne.2 (by omega)
 have H0 := Lib.hid h0
 clear h0
 go_enter Tryz.func41, Tryz.ntmps41
 go_wp2_with fail
 clear e0
 go_loopg [18] Q.length (fun r iv wj => ∃ i : Nat, i + r = Q.length ∧ iv = .int .i64 i ∧ seenQ Q i ∧ Below w.heap.size w wj)
 case atStart => exact ⟨0, by omega, rfl, seenQ_zero Q, bl_refl _⟩
 case round =>
  obtain ⟨i, hi, rfl, hseen, hB⟩ := hrel
  have Hi := Lib.hid hi; have Hseen := Lib.hid hseen
  clear hseen
  by_cases hil : i < Q.length
  ·
   clear hi; have hqi : Q[i]? = some Q[i] := List.getElem?_eq_getElem hil; obtain ⟨bp, op, au, cu, rfl, p0, p1, hrq, hcu, hcm⟩ := (hr.below hB) i _ hqi; obtain ⟨⟨kd, ls⟩, hq⟩ : ∃ q : Pt, Q[i] = q := ⟨_, rfl⟩
   rw [hq] at p0 p1 hrq hcu; simp only at p0 p1 hrq hcu; have Hq := Lib.hid hq; have hlsl : ls.length ≤ 9223372036854775807 := by unfold maxLen at hcm; omega
   clear hqi hq; have iI : (i : Int) < (Q.length : Int) := by omega
   go_upto_region 6 with (fail)
   have hbl := bl_alloc wr (.cells #[.int .i64 kd, .slice au ls.length cu] 49); have d0 : (wr.alloc (.cells #[.int .i64 kd, .slice au ls.length cu] 49)).cell? ⟨wr.heap.size, 0, none⟩ = some (.int .i64 kd) := by simp
   have d1 : (wr.alloc (.cells #[.int .i64 kd, .slice au ls.length cu] 49)).cell? ⟨wr.heap.size, 1, none⟩ = some (.slice au ls.length cu) := by simp
   have hBa := bl_trans hB hbl; have hrqa := hrq.below hbl; obtain ⟨B8, hB8⟩ : ∃ b, b = wr.heap.size := ⟨_, rfl⟩
   rw [← hB8] at d0 d1; have hra : RdQ (wr.alloc (.cells #[.int .i64 kd, .slice au ls.length cu] 49)) (some ⟨bp, op, none⟩) Q := (hr.below hB).below hbl; rw [← hB8]; generalize (wr.alloc (.cells #[.int .i64 kd, .slice au ls.length cu] 49)) = wa at *
   clear hbl hrq p0 p1 hB hB8; by_cases hk0 : kd = 0
   ·
    subst hk0; have hbad : ¬ RightQ Q := fun h => (h.kinds _ (List.getElem_mem hil)).1 (by rw [Hq.out]); have Hbad := Lib.hid hbad; clear hbad; go_wp2_with fail; go_quiet (fail)
    go_wp2_with fail; go_ret2; exact ⟨below_drewN hBa _, .inr ⟨Hbad.out, _, rfl⟩⟩
   ·
    have e1 : (kd == 0) = false := beq_eq_false_iff_ne.2 hk0; have Hk0 := Lib.hid hk0; clear hk0; have hkw := kind_walk au cu ls wa.drew hrqa hlsl; refine regionT (fun w' => w'.cell? ⟨B8, 0, none⟩ = some (.int .i64 kd) ∧ w'.cell? ⟨B8, 1, none⟩ = some (.slice au ls.length cu)) 11 (by kernel_rfl) ?_; have hS : wa.drew.cell? ⟨B8, 0, none⟩ = some (.int .i64 kd) ∧ wa.drew.cell? ⟨B8, 1, none⟩ = some (.slice au ls.length cu) := ⟨d0, d1⟩
    refine tkT 0 ?_ rfl hS ?_ ?_ (by kernel_rfl) (fun _ _ _ h => h) (by rfl); rotate_left; (· intro wS hSw; (try dsimp only at hSw); go_simp; try with_reducible rfl); simp only [Act.put, zT]; refine tkT 1 ?_ rfl hS ?_ ?_ (by kernel_rfl) (fun _ _ _ h => h) (by rfl); rotate_left; (· intro wS hSw; (try dsimp only at hSw); go_simp; try with_reducible rfl); simp only [Act.put, zT]; refine tkT 2 ?_ rfl hS ?_ ?_ (by kernel_rfl) (fun _ _ _ h => h) (by rfl); rotate_left; (· intro wS hSw; (try dsimp only at hSw); go_simp; try with_reducible rfl); simp only [Act.put, zT]; refine tkT 3 ?_ rfl hS ?_ ?_ (by kernel_rfl) (fun _ _ _ h => h) (by rfl); rotate_left; (· intro wS hSw; (try dsimp only at hSw); go_simp; try with_reducible rfl); simp only [Act.put, zT]; refine tkT 4 ?_ rfl hS ?_ ?_ (by kernel_rfl) (fun _ _ _ h => h) (by rfl); rotate_left; (· intro wS hSw; (try dsimp only at hSw); go_simp; try with_reducible rfl); simp only [Act.put, zT]; refine tkT 5 ?_ rfl hS ?_ ?_ (by kernel_rfl) (fun _ _ _ h => h) (by rfl); rotate_left; (· intro wS hSw; (try dsimp only at hSw); go_simp; try with_reducible rfl); simp only [Act.put, zT]; refine tkT 6 ?_ rfl hS ?_ ?_ (by kernel_rfl) (fun _ _ _ h => h) (by rfl); rotate_left; (· intro wS hSw; (try dsimp only at hSw); go_simp; try with_reducible rfl); simp only [Act.put, zT]; refine tkT 7 ?_ rfl hS ?_ ?_ (by kernel_rfl) (fun _ _ _ h => h) (by rfl); rotate_left; (· intro wS hSw; (try dsimp only at hSw); go_simp; try with_reducible rfl); simp only [Act.put, zT]
    refine oneT (i := 8) rfl (by kernel_rfl) (fun K hK => ?_); go_simp; refine hkw.mono ?_; rintro e w1 ⟨rfl, hb1⟩; replace hb1 : Below wa.heap.size wa w1 := bl_trans (Below.refl wa.heap.size wa).drew hb1; have hS1 : w1.cell? ⟨B8, 0, none⟩ = some (.int .i64 kd) ∧ w1.cell? ⟨B8, 1, none⟩ = some (.slice au ls.length cu) := ⟨keep_cell hb1 d0, keep_cell hb1 d1⟩
    have hrq1 := hrqa.below hb1; have hr1 := hra.below hb1; have hB1 := bl_trans hBa hb1; simp only; refine hK _ _ (fun _ => hS1) ?_; clear hK K hS hkw d0 d1 hrqa hra hBa hb1; have hS := hS1; refine tkT 9 ?_ rfl hS ?_ ?_ (by kernel_rfl) (fun _ _ _ h => h) (by rfl); rotate_left; (· intro wS hSw; (try dsimp only at hSw); go_simp; try with_reducible rfl); simp only [Act.put, zT]; refine tkT 10 ?_ rfl hS ?_ ?_ (by kernel_rfl) (fun _ _ _ h => h) (by rfl); rotate_left; (· intro wS hSw; (try dsimp only at hSw); go_simp; try with_reducible rfl); simp only [Act.put, zT]; refine doneT (by kernel_rfl) ?_ _; obtain ⟨d0, d1⟩ := hS1; by_cases hk1 : kd = kindL ls
    ·
     have e2 : (kd != kindL ls) = false := by simpa using hk1
     have Hk1 := Lib.hid hk1; clear hk1 hS; rcases Nat.eq_zero_or_pos i with hi0 | hi0
     ·
      subst hi0; go_wp2_with fail; go_quiet (fail)
      go_wp2_with fail; go_roundg (gk - 1)
      case measure => have := Hi.out; omega
      case rel => exact ⟨1, by have := Hi.out; omega, by go_num, seenQ_next Hseen.out hil (by rw [Hq.out]; exact Hk0.out) (by rw [Hq.out]; exact Hk1.out) (fun h => absurd h (by omega)), below_drewN hB1 _⟩
     ·
      have e3 : decide ((0 : Int) < (i : Int)) = true := by simp; omega
      go_wp2_with fail; have hp1 : Q[i - 1]? = some (Q[i - 1]'(by omega)) := List.getElem?_eq_getElem (by omega); obtain ⟨b2, o2, a2, c2, hb2, p0, p1, hrp, hpu, hpm⟩ := hr1 (i - 1) _ hp1; cases hb2; obtain ⟨⟨ke, ms⟩, hq2⟩ : ∃ q : Pt, Q[i - 1]'(by omega) = q := ⟨_, rfl⟩
      rw [hq2] at p1 hrp hpu; simp only at p1 hrp hpu; have Hq2 := Lib.hid hq2; have hmsl : ms.length ≤ 9223372036854775807 := by unfold maxLen at hpm; omega
      clear hp1 p0 hq2; have ei : IntKind.i64.wrap ((i : Int) - 1) = ((i - 1 : Nat) : Int) := by rw [IntWalk.i64_in _ (by omega)]; omega
      have ii : ((i - 1 : Nat) : Int) < (Q.length : Int) := by omega
      have hcw := compareP_walk a2 au c2 cu ms ls w1.drew hrp hrq1 hmsl hlsl; refine regionT (fun w' => w'.cell? ⟨bp, op + (i - 1) * 2 + 1, none⟩ = some (.slice a2 ms.length c2) ∧ w'.cell? ⟨B8, 1, none⟩ = some (.slice au ls.length cu)) 14 (by kernel_rfl) ?_; have hS : w1.drew.cell? ⟨bp, op + (i - 1) * 2 + 1, none⟩ = some (.slice a2 ms.length c2) ∧ w1.drew.cell? ⟨B8, 1, none⟩ = some (.slice au ls.length cu) := ⟨p1, d1⟩
      refine tkT 0 ?_ rfl hS ?_ ?_ (by kernel_rfl) (fun _ _ _ h => h) (by rfl); rotate_left; (· intro wS hSw; (try dsimp only at hSw); go_simp; try with_reducible rfl); simp only [Act.put, zT]; refine tkT 1 ?_ rfl hS ?_ ?_ (by kernel_rfl) (fun _ _ _ h => h) (by rfl); rotate_left; (· intro wS hSw; (try dsimp only at hSw); go_simp; try with_reducible rfl); simp only [Act.put, zT]; refine tkT 2 ?_ rfl hS ?_ ?_ (by kernel_rfl) (fun _ _ _ h => h) (by rfl); rotate_left; (· intro wS hSw; (try dsimp only at hSw); go_simp; try with_reducible rfl); simp only [Act.put, zT]; refine tkT 3 ?_ rfl hS ?_ ?_ (by kernel_rfl) (fun _ _ _ h => h) (by rfl); rotate_left; (· intro wS hSw; (try dsimp only at hSw); go_simp; try with_reducible rfl); simp only [Act.put, zT]; refine tkT 4 ?_ rfl hS ?_ ?_ (by kernel_rfl) (fun _ _ _ h => h) (by rfl); rotate_left; (· intro wS hSw; (try dsimp only at hSw); go_simp; try with_reducible rfl); simp only [Act.put, zT]; refine tkT 5 ?_ rfl hS ?_ ?_ (by kernel_rfl) (fun _ _ _ h => h) (by rfl); rotate_left; (· intro wS hSw; (try dsimp only at hSw); go_simp; try with_reducible rfl); simp only [Act.put, zT]; refine tkT 6 ?_ rfl hS ?_ ?_ (by kernel_rfl) (fun _ _ _ h => h) (by rfl); rotate_left; (· intro wS hSw; (try dsimp only at hSw); go_simp; try with_reducible rfl); simp only [Act.put, zT]; refine tkT 7 ?_ rfl hS ?_ ?_ (by kernel_rfl) (fun _ _ _ h => h) (by rfl); rotate_left; (· intro wS hSw; (try dsimp only at hSw); go_simp; try with_reducible rfl); simp only [Act.put, zT]
      refine tkT 8 ?_ rfl hS ?_ ?_ (by kernel_rfl) (fun _ _ _ h => h) (by rfl); rotate_left; (· intro wS hSw; (try dsimp only at hSw); go_simp; try with_reducible rfl); simp only [Act.put, zT]; refine tkT 9 ?_ rfl hS ?_ ?_ (by kernel_rfl) (fun _ _ _ h => h) (by rfl); rotate_left; (· intro wS hSw; (try dsimp only at hSw); go_simp; try with_reducible rfl); simp only [Act.put, zT]; refine tkT 10 ?_ rfl hS ?_ ?_ (by kernel_rfl) (fun _ _ _ h => h) (by rfl); rotate_left; (· intro wS hSw; (try dsimp only at hSw); go_simp; try with_reducible rfl); simp only [Act.put, zT]; refine oneT (i := 11) rfl (by kernel_rfl) (fun K hK => ?_); go_simp; refine hcw.mono ?_; rintro e w2 ⟨rfl, hb2⟩; replace hb2 : Below w1.heap.size w1 w2 := bl_trans (Below.refl w1.heap.size w1).drew hb2; have hS2 : w2.cell? ⟨bp, op + (i - 1) * 2 + 1, none⟩ = some (.slice a2 ms.length c2) ∧ w2.cell? ⟨B8, 1, none⟩ = some (.slice au ls.length cu) := ⟨keep_cell hb2 p1, keep_cell hb2 d1⟩
      have hB2 := bl_trans hB1 hb2; simp only; refine hK _ _ (fun _ => hS2) ?_; clear hK K hS hcw d0 d1 p1 hrq1 hr1 hB1 hb2 hrp; have hS := hS2; refine tkT 12 ?_ rfl hS ?_ ?_ (by kernel_rfl) (fun _ _ _ h => h) (by rfl); rotate_left; (· intro wS hSw; (try dsimp only at hSw); go_simp; try with_reducible rfl); simp only [Act.put, zT]; refine tkT 13 ?_ rfl hS ?_ ?_ (by kernel_rfl) (fun _ _ _ h => h) (by rfl); rotate_left; (· intro wS hSw; (try dsimp only at hSw); go_simp; try with_reducible rfl); simp only [Act.put, zT]; refine doneT (by kernel_rfl) ?_ _; clear hS hS2; have hc : cmpLs (Q[i - 1]'(by omega)).2 Q[i].2 = cmpLs ms ls := by rw [Hq.out, Hq2.out]
      obtain ⟨bb, hbb⟩ : ∃ b, b = decide (0 < cmpLs ms ls) := ⟨_, rfl⟩
      rw [← hbb]; cases bb with
      | true =>
       have hk2 : 0 < cmpLs ms ls := by simpa using hbb.symm
       have hbad : ¬ RightQ Q := fun h => by
        obtain ⟨k, hk⟩ : ∃ k, i = k + 1 := ⟨i - 1, by omega⟩
        subst hk; have h1 := h.ord k hil; simp only [Nat.add_sub_cancel] at hc; rw [hc] at h1; omega
       have Hbad := Lib.hid hbad; clear hbad hk2 hc hbb; go_wp2_with fail; go_ret2; exact ⟨hB2, .inr ⟨Hbad.out, _, rfl⟩⟩
      | false =>
       have hk2 : ¬ 0 < cmpLs ms ls := by simpa using hbb.symm
       have Hc := Lib.hid (show cmpLs (Q[i - 1]'(by omega)).2 Q[i].2 ≤ 0 by rw [hc]; omega); clear hk2 hc hbb; go_wp2_with fail; go_roundg (gk - 1)
       case measure => have := Hi.out; omega
       case rel => exact ⟨i + 1, by have := Hi.out; omega, by go_num, seenQ_next Hseen.out hil (by rw [Hq.out]; exact Hk0.out) (by rw [Hq.out]; exact Hk1.out) (fun _ => Hc.out), hB2⟩
    ·
     have e2 : (kd != kindL ls) = true := by simpa using hk1
     have hbad : ¬ RightQ Q := fun h => by
      have h1 := (h.kinds _ (List.getElem_mem hil)).2; rw [Hq.out] at h1; exact hk1 h1
     have Hbad := Lib.hid hbad; clear hbad hk1 hS; go_wp2_with fail; go_ret2; exact ⟨hB1, .inr ⟨Hbad.out, _, rfl⟩⟩
  ·
   have hin : i = Q.length := by omega
   subst hin; obtain ⟨hk, ho⟩ := seenQ_all.1 Hseen.out; have hR : ∀ q ∈ Q, RightL q.2 := fun q hq => (kind_right (by rw [← (hk q hq).2]; exact (hk q hq).1)).1; have hrj := hr.below hB; have Hk := Lib.hid hk; have Ho := Lib.hid ho; clear hi Hi hk ho; go_wp2_with fail; refine (beside_walk a cap Q _ hrj hQ hR).mono ?_; rintro e w2 ⟨hb2, ⟨hbp, G, rfl, hG⟩ | ⟨hbp, rfl⟩⟩
   ·
    have hB2 := bl_trans hB hb2; have Hbp := Lib.hid hbp; have hn0 : 0 < Q.length := Nat.pos_of_ne_zero H0.out; clear hbp hrj hB hr hR; have hwn := hb2.size; have hmk := run_make_row' (P := Tryz.prog) 78 4 (.bool false) 1 Tryz.underlying78 bool_info rfl .i64 .i64 Q.length (by omega) (by omega); clear hb2; have hrc0 : Row (w2.alloc (.cells (madeCells #[.bool false] Q.length) 4)) w2.heap.size 4 1 Q.length (List.replicate Q.length (.bool false)) := row_made w2 (.bool false) Q.length 4 (by unfold maxLen; omega); have hbA := bl_alloc w2 (.cells (madeCells #[.bool false] Q.length) 4); go_upto_region 15 with (fail)
    clear hmk; generalize w2.alloc (.cells (madeCells #[.bool false] Q.length) 4) = wM at hrc0 hbA ⊢; have f0 := hrc0.frozen 0; have c0 : wM.cell? ⟨w2.heap.size, 0, none⟩ = some (.bool false) := by
     rw [hrc0.cell? 0 (by simpa using hn0)]; simp [hn0]
    have hs1 : Row (wM.setCell ⟨w2.heap.size, 0, none⟩ (.bool true)) w2.heap.size 4 1 Q.length ((metV Q.length [0]).map Value.bool) := by
     have := hrc0.set 0 (.bool true); rw [← metV_zero, List.map_set, List.map_replicate]; exact this
    have hbs1 : Below w2.heap.size w2 (wM.setCell ⟨w2.heap.size, 0, none⟩ (.bool true)) := hbA.setCell (Nat.le_refl _) _; have hgl := hs1.lt; have hnI : (0 : Int) < (Q.length : Int) := by omega
    go_upto_region 16 with (fail)
    clear f0 c0 hrc0 hbA; generalize wM.setCell ⟨w2.heap.size, 0, none⟩ (.bool true) = wN at hs1 hbs1 hgl ⊢; have hl0 : Row (wN.alloc (.cells #[.int .i64 0] 3)) wN.heap.size 3 1 1 ([0].map vN) := row_lit wN ([0].map vN) 3 (by unfold maxLen; decide); have hs2 := hs1.alloc (.cells #[.int .i64 0] 3); have hbs2 := bl_trans hbs1 (bl_alloc wN (.cells #[.int .i64 0] 3)); have hgN : w2.heap.size < wN.heap.size := hgl; go_upto_region 18 with (fail)
    clear hs1 hbs1 hgl; go_loopg [9, 10] Q.length (fun r vo iv wj => ∃ (i : Nat) (L : List Nat), i + r = Q.length ∧ iv = .int .i64 i ∧ TrI (besQ Q) Q.length i L ∧ Row wj w2.heap.size 4 1 Q.length ((metV Q.length L).map Value.bool) ∧ Own wj vo 3 1 L.length (L.map vN) ∧ (∀ g, vo.ownBlock = some g → w2.heap.size < g) ∧ Below w2.heap.size w2 wj)
    case atStart => exact ⟨0, [0], by omega, rfl, TrI.start hn0, hs2, by simpa using hl0.own1, fun g hg => by cases hg; exact hgN, hbs2⟩
    case round =>
     clear hs2 hl0 hbs2; obtain ⟨i, L, hi, rfl, hT, hrow, hown, hyoung, hB⟩ := hrel; have hLn := hT.len; by_cases hil : i < L.length
     ·
      have hv : L[i]? = some L[i] := List.getElem?_eq_getElem hil; obtain ⟨v, hvv⟩ : ∃ v, v = L[i] := ⟨_, rfl⟩
      rw [← hvv] at hv; have hvn : v < Q.length := hT.lt v (List.mem_of_getElem? hv); rcases hown.2 with ⟨rfl, h0⟩ | ⟨g, cg, rfl, hcg, hrowL⟩
      · omega
      have cL : wr.cell? ⟨g, i, none⟩ = some (.int .i64 (v : Nat)) := by
       rw [hrowL.cell? i (by rw [List.length_map]; exact hil), List.getElem?_map, hv]; rfl
      obtain ⟨ab, cb, cG2, hbs⟩ := hG v hvn; have cG := keep_cell hB cG2; have i1 : (i : Int) < (L.length : Int) := by omega
      have i2 : (v : Int) < (Q.length : Int) := by omega
      have hbl : (besQ Q v).length ≤ 4000000 := besQ_len hQ (fun q hq => (kind_right (by rw [← (Hk.out q hq).2]; exact (Hk.out q hq).1)).1.1) v; obtain ⟨gko, hgko⟩ : ∃ g, g = gk := ⟨_, rfl⟩
      have Hgko := Lib.hid hgko; clear hgko; have Hi := Lib.hid hi; have HT := Lib.hid hT; have Hv := Lib.hid hv; clear hi hT hv hvv hrowL hcg; go_upto_region 21 with (fail)
      have hi12 : ∀ y ∈ (besQ Q v).take 0, y ∈ L := fun y hy => by simp at hy
      go_loopg [9, 76] (besQ Q v).length (fun r vo jv wj => ∃ (j : Nat) (L' : List Nat), j + r = (besQ Q v).length ∧ jv = .int .i64 j ∧ TrI (besQ Q) Q.length i L' ∧ L'[i]? = some v ∧ (∀ y ∈ (besQ Q v).take j, y ∈ L') ∧ Row wj w2.heap.size 4 1 Q.length ((metV Q.length L').map Value.bool) ∧ Own wj vo 3 1 L'.length (L'.map vN) ∧ (∀ g, vo.ownBlock = some g → w2.heap.size < g) ∧ Below w2.heap.size w2 wj)
      case atStart => exact ⟨0, L, by omega, rfl, HT.out, Hv.out, hi12, hrow, hown, hyoung, hB⟩
      case round =>
       clear hrow hown hyoung hi12 i1 i2 cL cG cG2; obtain ⟨j, L', hj, rfl, hT2, hv2, hall, hrow, hown, hyoung, hB3⟩ := hrel; have Hj := Lib.hid hj; have HT2 := Lib.hid hT2; have Hv2 := Lib.hid hv2; have Hall := Lib.hid hall; have hLn2 := hT2.len; clear hT2 hv2 hall; by_cases hjl : j < (besQ Q v).length
       ·
        clear hj; obtain ⟨x, hx⟩ : ∃ x, (besQ Q v)[j]? = some x := ⟨_, List.getElem?_eq_getElem hjl⟩
        have hxm : x ∈ besQ Q v := List.mem_of_getElem? hx; have hxn : x < Q.length := besQ_lt Hbp.out hxm; obtain ⟨bb, ob, hab, cX⟩ := (hbs.below hB3) j (vN x) (by rw [List.getElem?_map, hx]; rfl); subst hab; replace cX : wr.cell? ⟨bb, ob + j, none⟩ = some (.int .i64 (x : Nat)) := cX; have cM : wr.cell? ⟨w2.heap.size, x, none⟩ = some (.bool (decide (x ∈ L'))) := by
         rw [hrow.cell? x (by rw [List.length_map, metV_len]; exact hxn), List.getElem?_map, metV_get hxn]; rfl
        have htk : (besQ Q v).take (j + 1) = (besQ Q v).take j ++ [x] := by
         rw [List.take_add_one, hx]; rfl
        have Htk := Lib.hid htk; have i1 : (j : Int) < ((besQ Q v).length : Int) := by omega
        have i2 : (x : Int) < (Q.length : Int) := by omega
        have Hxm := Lib.hid hxm; clear htk hx hxm; by_cases hm : x ∈ L'
        ·
         have e6 : decide (x ∈ L') = true := decide_eq_true hm; rw [e6] at cM; have Hm := Lib.hid hm; clear hm e6; go_wp2_with fail; go_roundg (gk - 1)
         case measure => have := Hj.out; omega
         case rel => exact ⟨j + 1, L', by have := Hj.out; omega, by go_num, HT2.out, Hv2.out, fun y hy => (by
          rw [Htk.out, List.mem_append] at hy; rcases hy with hy | hy
          · exact Hall.out y hy
          · simp at hy; subst hy; exact Hm.out), hrow, hown, hyoung, hB3⟩
        ·
         have e6 : decide (x ∈ L') = false := decide_eq_false hm; rw [e6] at cM; have Hm := Lib.hid hm; clear hm e6; have fM := hrow.frozen x; have hrow1 : Row (wr.setCell ⟨w2.heap.size, x, none⟩ (.bool true)) w2.heap.size 4 1 Q.length ((metV Q.length (L' ++ [x])).map Value.bool) := by
          have := hrow.set x (.bool true); rw [← metV_set Hm.out, List.map_set]; exact this
         have hown1 : Own (wr.setCell ⟨w2.heap.size, x, none⟩ (.bool true)) u9 3 1 L'.length (L'.map vN) := hown.below fun g hg => Below.heap_setCell _ _ _ _ (by have := hyoung g hg; simp only; omega); have hB4 : Below w2.heap.size w2 (wr.setCell ⟨w2.heap.size, x, none⟩ (.bool true)) := hB3.setCell (Nat.le_refl _) _; have hu9 := hyoung; have Hyoung := Lib.hid hyoung; go_upto_region 25 with (fail)
         clear cM fM cX hrow hown hyoung hu9 hB3; generalize wr.setCell ⟨w2.heap.size, x, none⟩ (.bool true) = wS at hrow1 hown1 hB4 ⊢; go_upto_region 26 with (at_builtin; refine wpList_append_row _ rfl (.tmp 88) (.tmp 90) 33 rfl 3 (.int .i64 0) 1 8 Tryz.underlying33 int_info rfl u9 L'.length _ rfl (hown1.alloc _) ⟨wS.heap.size, 0, none⟩ 1 1 [.int .i64 (x : Nat)] rfl rfl (one_new (cell_new1 rfl)) (one_ok _ _) (by omega) (by unfold maxLen; omega) (by omega) ?_; intro g5 c5 w5 hr5 hc5 hg5 hor5)
         have hadd : addL L' x = L' ++ [x] := by unfold addL; rw [if_neg Hm.out]
         have hsS := hB4.size; have hgS := hrow1.lt; have hyg : w2.heap.size < g5 := by
          rcases hor5 with h | h
          · exact Hyoung.out g5 h
          · simp at h; omega
         have hrow2 := (hrow1.alloc (.cells #[.int .i64 (x : Nat)] 3)).grown hg5 (fun e => by have := Hyoung.out _ e; omega); have hown2 : Own w5 (.slice (some ⟨g5, 0, none⟩) (L' ++ [x]).length c5) 3 1 (L' ++ [x]).length ((L' ++ [x]).map vN) := by
          have h1 := hr5.own1; have e1 : L'.map vN ++ [Value.int .i64 (x : Int)] = (L' ++ [x]).map vN := by rw [List.map_append]; rfl
          rw [e1] at h1; simpa using h1
         have hB5 : Below w2.heap.size w2 w5 := (bl_trans hB4 (bl_alloc wS (.cells #[.int .i64 (x : Nat)] 3))).grown hg5 (by simp; omega) (fun k hk => by have := Hyoung.out k hk; omega); have hT3 := HT2.out.add Hv2.out Hxm.out hxn; rw [hadd] at hT3; have hv3 : (L' ++ [x])[i]? = some v := by rw [← hadd]; exact addL_at Hv2.out
         rw [List.length_append, List.length_singleton] at hown2; clear hr5 hg5 hor5 hrow1 hown1 hB4; go_wp2_with fail; go_roundg (gk - 1)
         case measure => have := Hj.out; omega
         case rel => exact ⟨j + 1, L' ++ [x], by have := Hj.out; omega, by go_num, hT3, hv3, fun y hy => (by
          rw [Htk.out, List.mem_append] at hy; rcases hy with hy | hy
          · exact List.mem_append_left _ (Hall.out y hy)
          · exact List.mem_append_right _ hy), hrow2, by rw [List.length_append, List.length_singleton]; exact hown2, fun k hk => by cases hk; exact hyg, hB5⟩
       ·
        have hjn : j = (besQ Q v).length := by omega
        subst hjn; have hall2 : ∀ y ∈ besQ Q v, y ∈ L' := by
         have := Hall.out; rw [List.take_length] at this; exact this
        have Hall2 := Lib.hid hall2; clear hall2 hj; go_wp2_with fail; go_roundg (gko - 1)
        case measure => have := Hi.out; have := Hgko.out; omega
        case rel => exact ⟨i + 1, L', by have := Hi.out; have := Hgko.out; omega, by go_num, HT2.out.next Hv2.out Hall2.out, hrow, hown, hyoung, hB3⟩
     ·
      have hiL : i = L.length := by have := hT.il; omega
      subst hiL; have hd := hT.done; rw [← con_bes Hbp.out] at hd; obtain ⟨a9, c9, hvo⟩ : ∃ a c, u9 = Value.slice a L.length c := by
       rcases hown.2 with ⟨rfl, h0⟩ | ⟨g, cg, rfl, hcg, _⟩
       · exact ⟨none, 0, by rw [h0]⟩
       · exact ⟨_, _, rfl⟩
      have hGr := hG.below hB; clear hown hrow hyoung hG; subst hvo; by_cases hn : L.length = Q.length
      ·
       have hright : RightQ Q := ⟨fun h => by rw [h] at hn0; exact absurd hn0 (by simp), Hk.out, Ho.out, Hbp.out, hd.1 hn⟩
       have Hright := Lib.hid hright; have e5 : ((L.length : Int) == (Q.length : Int)) = true := by simp; omega
       clear hright hd; go_wp2_with fail; go_ret2; exact ⟨bl_trans hB2 hB, .inl ⟨Hright.out, _, rfl, hGr⟩⟩
      ·
       have hbad : ¬ RightQ Q := fun h => hn (hd.2 h.con); have Hbad := Lib.hid hbad; have e5 : ((L.length : Int) == (Q.length : Int)) = false := by simp; omega
       clear hbad hd; go_wp2_with fail; go_ret2; exact ⟨bl_trans hB2 hB, .inr ⟨Hbad.out, _, rfl⟩⟩
   ·
    have hbad : ¬ RightQ Q := fun h => hbp h.bes; have Hbad := Lib.hid hbad; clear hbad hbp; go_wp2_with fail; go_ret2; exact ⟨bl_trans hB hb2, .inr ⟨Hbad.out, _, rfl⟩⟩
end Go.Proofs.YtagcbnpahgfgmaaGreat
namespace Go.Proofs.YtagcbnpahgfgmaaGreat
open Go Go.RowKit Go.Sort Go.Maps
open Classical in
noncomputable def rightB (Q : List Pt) : Bool := decide (RightQ Q)
theorem rightB_iff {Q : List Pt} : rightB Q = true ↔ RightQ Q := by unfold rightB; simp
theorem rightB_not {Q : List Pt} : rightB Q = false ↔ ¬ RightQ Q := by unfold rightB; simp
def realQ (Q : List Pt) : List Lk := Q.flatMap fun q => q.2.filter fun e => e.2.2 == 0
noncomputable def wholeL (Q : List Pt) : List Lk := if rightB Q then sortL (realQ Q) else []
def RetBo (w : World) (b : Bool) (e : Ending) (w' : World) : Prop := e = .returned (.bool b) ∧ Below w.heap.size w w'
theorem sright_walk (a : Option Addr) (cap : Nat) (Q : List Pt) (w : World) (hr : RdQ w a Q) (hQ : Q.length ≤ 1000) :
  Calls Tryz.prog 10 #[.slice a Q.length cap] w (RetBo w (rightB Q)) := by
 go_enter Tryz.func10, Tryz.ntmps10
 go_wp2_with fail
 refine (tree_walk a cap Q _ hr hQ).mono ?_
 rintro e w' ⟨hb, ⟨hR, G, rfl, hG⟩ | ⟨hR, v, rfl⟩⟩
 ·
  have h1 := rightB_iff.2 hR
  clear hR hG
  go_wp2_with fail
  go_ret
  exact ⟨by rw [h1] <;> rfl, hb⟩
 ·
  have h1 := rightB_not.2 hR
  clear hR
  go_wp2_with fail
  go_ret
  exact ⟨by rw [h1] <;> rfl, hb⟩
theorem cells_lit {w : World} {x : Lk} {t : TypeId} : RdL (w.alloc (.cells #[.int .i64 x.1, .int .i64 x.2.1, .int .i64 x.2.2] t)) (some ⟨w.heap.size, 0, none⟩) [x] := by
 intro i u hu
 refine ⟨w.heap.size, 0, rfl, ?_⟩
 match i with
 | 0 => simp [lkCells] at hu; subst hu; simp
 | 1 => simp [lkCells] at hu; subst hu; simp
 | 2 => simp [lkCells] at hu; subst hu; simp
 | i + 3 => simp [lkCells] at hu
theorem cmpLs_one (x y : Lk) : cmpLs [x] [y] = cmpL x y := by
 by_cases h : cmpL x y = 0
 · simp [cmpLs, orI, h]
 · simp [cmpLs, orI, h]
theorem whole1_walk (x y : Lk) (w : World) :
  Calls Tryz.prog 43 #[lkV x, lkV y] w
   fun e w' => e = .returned (.int .i64 (cmpL x y)) ∧ ∃ q os, w' = grow (w.drewN q) os := by
 have hcon := fun w' a b hx hy => compareP_walkG a b 1 1 [x] [y] w' hx hy (by simp) (by simp)
 rw [cmpLs_one] at hcon
 have hlx := fun (w : World) => cells_lit (w := w) (x := x) (t := 38)
 have hly := fun (w : World) => cells_lit (w := w) (x := y) (t := 38)
 unfold lkV
 generalize cmpL x y = r at hcon ⊢
 obtain ⟨x1, x2, x3⟩ := x
 obtain ⟨y1, y2, y3⟩ := y
 simp only [List.length_singleton] at hcon hlx hly ⊢
 have Hcon := Lib.hid hcon; have Hlx := Lib.hid hlx; have Hly := Lib.hid hly
 clear hcon hlx hly
 go_enter Tryz.func43, Tryz.ntmps43
 go_wp2_with fail
 have hx2 : RdL ((((w.alloc (.cells #[.int .i64 x1, .int .i64 x2, .int .i64 x3] 38)).alloc (.cells #[.int .i64 y1, .int .i64 y2, .int .i64 y3] 38)).alloc (.cells #[.int .i64 x1, .int .i64 x2, .int .i64 x3] 38)).alloc (.cells #[.int .i64 y1, .int .i64 y2, .int .i64 y3] 38)) (some ⟨w.heap.size + 1 + 1, 0, none⟩) [(x1, x2, x3)] := by
  have := (Hlx.out ((w.alloc (.cells #[.int .i64 x1, .int .i64 x2, .int .i64 x3] 38)).alloc (.cells #[.int .i64 y1, .int .i64 y2, .int .i64 y3] 38))).below (bl_alloc _ (.cells #[.int .i64 y1, .int .i64 y2, .int .i64 y3] 38))
  simpa using this
 have hy2 : RdL ((((w.alloc (.cells #[.int .i64 x1, .int .i64 x2, .int .i64 x3] 38)).alloc (.cells #[.int .i64 y1, .int .i64 y2, .int .i64 y3] 38)).alloc (.cells #[.int .i64 x1, .int .i64 x2, .int .i64 x3] 38)).alloc (.cells #[.int .i64 y1, .int .i64 y2, .int .i64 y3] 38)) (some ⟨w.heap.size + 1 + 1 + 1, 0, none⟩) [(y1, y2, y3)] := by
  have := Hly.out (((w.alloc (.cells #[.int .i64 x1, .int .i64 x2, .int .i64 x3] 38)).alloc (.cells #[.int .i64 y1, .int .i64 y2, .int .i64 y3] 38)).alloc (.cells #[.int .i64 x1, .int .i64 x2, .int .i64 x3] 38))
  simpa using this
 have hgr := gr_trans (gr_trans (gr_trans (gr_alloc w (.cells #[.int .i64 x1, .int .i64 x2, .int .i64 x3] 38)) (gr_alloc _ (.cells #[.int .i64 y1, .int .i64 y2, .int .i64 y3] 38))) (gr_alloc _ (.cells #[.int .i64 x1, .int .i64 x2, .int .i64 x3] 38))) (gr_alloc _ (.cells #[.int .i64 y1, .int .i64 y2, .int .i64 y3] 38))
 refine (Hcon.out _ _ _ hx2 hy2).mono ?_
 rintro e w' ⟨rfl, hg⟩
 have hg2 := gr_trans hgr hg
 clear hgr hx2 hy2 hg
 go_wp2_with fail
 go_ret
 exact ⟨rfl, hg2⟩
theorem sortW_walk (g cap : Nat) (ls : List Lk) (w : World) (h : Row w g 38 3 cap (lkCells ls)) (hsz : ls.length ≤ 1000000) :
  Calls Tryz.prog 42 #[.slice (some ⟨g, 0, none⟩) ls.length cap, .func (.func 43) #[] #[]] w
   fun e w' => e = .returned (.tuple #[]) ∧ Row w' g 38 3 cap (lkCells (ls.mergeSort fun x y => !decide (cmpL y x < 0))) ∧ w.grownBy w' (some g) := by
 have eg : ∀ args w, (callFunc 43 args).run Tryz.prog w = .ok (.enter 43 args) w := enters_of Tryz.func43 (by kernel_rfl) rfl
 have hcon := AnyQ.slices_SortFunc_total Tryz.laySortL 3 Tryz.isAgg38 Tryz.sizeOf38 lkEnc (fun _ => rfl) (fun x v hv => by simp [lkEnc] at hv; rcases hv with rfl | rfl | rfl <;> rfl) cmpL swo_cmpL 43 #[] g 0 cap ls.toArray w eg
  (fun _ _ _ _ x y => whole1_walk x y _) h.holdsK h.lt (by simp; omega) (fun x y h1 h2 => by rw [ltOf_cmpL] at h1 h2; simp only [decide_eq_false_iff_not] at h1 h2; exact LtL.total x y h1 h2)
 change Calls Tryz.prog 42 _ _ _ at hcon
 simp only [List.size_toArray] at hcon
 refine hcon.mono ?_
 rintro e w' ⟨rfl, n, os, rfl⟩
 have := h.sortedK (n := n) (os := os) (ts := ls.mergeSort fun x y => !ltOf cmpL y x) (by simp)
 exact ⟨rfl, this⟩
theorem swap_ok {ls : List Lk} (h : ∀ k ∈ ls, k.1 < k.2.1) : ls.map swapL = ls := by
 conv => rhs; rw [← List.map_id ls]
 refine List.map_congr_left fun k hk => ?_
 have := h k hk
 unfold swapL
 rw [if_neg (by omega)]; rfl
theorem realQ_take {Q : List Pt} {i : Nat} {q : Pt} (h : Q[i]? = some q) : realQ (Q.take (i + 1)) = realQ (Q.take i) ++ q.2.filter fun e => e.2.2 == 0 := by
 obtain ⟨hi, rfl⟩ := List.getElem?_eq_some_iff.1 h
 unfold realQ
 rw [List.take_succ_eq_append_getElem hi, List.flatMap_append]
 simp
theorem realQ_len {Q : List Pt} (hR : ∀ q ∈ Q, q.2.length ≤ 1000) : (realQ Q).length ≤ Q.length * 1000 := by
 induction Q with
 | nil => simp [realQ]
 | cons q Q ih =>
  have h1 := ih fun x hx => hR x (List.mem_cons_of_mem _ hx)
  have h2 := hR q (by simp)
  have h3 := List.length_filter_le (fun e : Lk => e.2.2 == 0) q.2
  unfold realQ at h1 ⊢
  rw [List.flatMap_cons, List.length_append, List.length_cons, Nat.succ_mul]
  omega
end Go.Proofs.YtagcbnpahgfgmaaGreat
namespace Go.Proofs.YtagcbnpahgfgmaaGreat
open Go Go.RowKit Go.Sort Go.Maps
def RetIs (w : World) (l : List Nat) (e : Ending) (w' : World) : Prop :=
 ∃ a c, e = .returned (.slice a l.length c) ∧ CellsAt w' a (l.map vN) ∧ Below w.heap.size w w'
set_option maxRecDepth 100000 in
set_option maxHeartbeats 4000000 in
theorem whole_walk (a : Option Addr) (cap : Nat) (Q : List Pt) (w : World) (hr : RdQ w a Q) (hQ : Q.length ≤ 1000) :
  Calls Tryz.prog 12 #[.slice a Q.length cap] w (RetLk w (wholeL Q)) := by
 cases hR : rightB Q with
 | false =>
  have hw : wholeL Q = [] := by unfold wholeL; rw [hR]; rfl
  have Hw := Lib.hid hw; have HR := Lib.hid hR
  clear hw hR
  go_enter Tryz.func12, Tryz.ntmps12
  go_wp2_with fail
  refine (sright_walk a cap Q _ hr hQ).mono ?_
  rw [HR.out]
  rintro e w1 ⟨rfl, hb⟩
  go_wp2_with fail
  go_ret
  rw [Hw.out]
  exact ⟨_, rfl, own_nil _ _ _, fun g hg => by simp [Value.ownBlock] at hg, hb⟩
 | true =>
  have hw : wholeL Q = sortL (realQ Q) := by unfold wholeL; rw [hR]; rfl
  have hRR := rightB_iff.1 hR
  have hlen : ∀ i, (realQ (Q.take i)).length ≤ 1000000 := fun i => by
   have h1 := realQ_len (Q := Q.take i) fun q hq => (hRR.right (List.mem_of_mem_take hq)).1.1; have h2 : (Q.take i).length ≤ 1000 := by rw [List.length_take]; omega
   have h3 : (Q.take i).length * 1000 ≤ 1000 * 1000 := Nat.mul_le_mul_right _ h2; omega
  have hsw : (realQ Q).mergeSort (fun x y => !decide (cmpL y x < 0)) = sortL (realQ Q) := by
   rw [← sortL_merge, swap_ok]; intro k hk; unfold realQ at hk; obtain ⟨q, hq, hkq⟩ := List.mem_flatMap.1 hk; have hok := (hRR.right hq).1.2.1 k (List.mem_filter.1 hkq).1; exact hok.2.1
  have Hw := Lib.hid hw; have HR := Lib.hid hR; have HRR := Lib.hid hRR; have Hlen := Lib.hid hlen; have Hsw := Lib.hid hsw
  clear hw hR hRR hlen hsw
  go_enter Tryz.func12, Tryz.ntmps12
  go_wp2_with fail
  refine (sright_walk a cap Q _ hr hQ).mono ?_
  rw [HR.out]
  rintro e w1 ⟨rfl, hb⟩
  go_wp2_with fail
  go_loopg [3, 13] Q.length (fun r vo iv wj => ∃ i : Nat, i + r = Q.length ∧ iv = .int .i64 i ∧ OwnL wj vo (realQ (Q.take i)) ∧ (∀ g, vo.ownBlock = some g → w.heap.size ≤ g) ∧ Below w.heap.size w wj)
  case atStart => exact ⟨0, by omega, rfl, by simpa [realQ, OwnL, lkCells] using own_nil w1 38 3, fun g hg => by simp [Value.ownBlock] at hg, hb⟩
  case round =>
   obtain ⟨i, hi, rfl, hown, hyoung, hB⟩ := hrel; have Hi := Lib.hid hi; by_cases hil : i < Q.length
   ·
    clear hi; have hqi : Q[i]? = some Q[i] := List.getElem?_eq_getElem hil; obtain ⟨bp, op, au, cu, rfl, p0, p1, hrq, hcu, hcm⟩ := hr i _ hqi; replace p0 := keep_cell hB p0; replace p1 := keep_cell hB p1; have htk := realQ_take hqi; have hL := Hlen.out (i + 1); rw [htk] at hL; obtain ⟨⟨kd, ls⟩, hq⟩ : ∃ q : Pt, Q[i] = q := ⟨_, rfl⟩
    rw [hq] at p0 p1 hrq hcu htk hL; simp only at p0 p1 hrq hcu htk hL; have hlsl : ls.length ≤ 9223372036854775807 := by unfold maxLen at hcm; omega
    have Htk := Lib.hid htk; have iI : (i : Int) < (Q.length : Int) := by omega
    have hbl := bl_alloc wr (.cells #[.int .i64 kd, .slice au ls.length cu] 49); have d1 : (wr.alloc (.cells #[.int .i64 kd, .slice au ls.length cu] 49)).cell? ⟨wr.heap.size, 1, none⟩ = some (.slice au ls.length cu) := by simp
    have hBa := bl_trans hB hbl; have howna := Own.alloc hown (.cells #[.int .i64 kd, .slice au ls.length cu] 49); obtain ⟨R, hRe⟩ : ∃ R, R = realQ (Q.take i) := ⟨_, rfl⟩
    rw [← hRe] at howna hL htk; have HT := Lib.hid htk; obtain ⟨gko, hgko⟩ : ∃ g, g = gk := ⟨_, rfl⟩
    have Hgko := Lib.hid hgko; have hlr : R.length + ls.length ≤ 2000000 := by
     have h1 := Hlen.out i; rw [← hRe] at h1; have h2 := (HRR.out.right (List.mem_of_getElem? hqi)).1.1; rw [hq] at h2; simp only at h2; omega
    clear hgko htk Htk hRe hown hB hqi hq; go_upto_region 8 with (fail)
    clear p0 p1 d1 hbl; generalize wr.alloc (.cells #[.int .i64 kd, .slice au ls.length cu] 49) = wa at *
    go_loopg [3, 20] ls.length (fun r vo kv wj => ∃ k : Nat, k + r = ls.length ∧ kv = .int .i64 k ∧ OwnL wj vo (R ++ (ls.take k).filter fun e => e.2.2 == 0) ∧ (∀ g, vo.ownBlock = some g → w.heap.size ≤ g) ∧ Below w.heap.size w wj)
    case atStart => exact ⟨0, by omega, rfl, by simpa [OwnL] using howna, hyoung, hBa⟩
    case round =>
     clear howna hyoung hBa; obtain ⟨k, hk, rfl, hown, hyoung, hB⟩ := hrel; have Hk := Lib.hid hk; by_cases hkl : k < ls.length
     ·
      clear hk; have hfl := List.length_filter_le (fun e : Lk => e.2.2 == 0) (ls.take k); have hft : (ls.take (k + 1)).filter (fun e => e.2.2 == 0) = (ls.take k).filter (fun e => e.2.2 == 0) ++ if ls[k].2.2 == 0 then [ls[k]] else [] := by
       rw [List.take_succ_eq_append_getElem hkl, List.filter_append]; congr 1; by_cases h : ls[k].2.2 == 0
       · simp [h]
       · simp [h]
      rw [List.length_take] at hfl; obtain ⟨b1, o1, rfl, q0, q1, q2⟩ := (hrq.below hB).at k hkl; obtain ⟨⟨x, y, z⟩, hxe⟩ : ∃ u : Lk, ls[k] = u := ⟨_, rfl⟩
      rw [hxe] at q0 q1 q2 hft; simp only at q0 q1 q2 hft; have i2 : (k : Int) < (ls.length : Int) := by omega
      have HB := Lib.hid hB; have hownb := Own.alloc hown (.cells #[.int .i64 x, .int .i64 y, .int .i64 z] 38); obtain ⟨F, hF⟩ : ∃ F, F = (ls.take k).filter fun e => e.2.2 == 0 := ⟨_, rfl⟩
      rw [← hF] at hfl hft hownb; have hbl := bl_alloc wr (.cells #[.int .i64 x, .int .i64 y, .int .i64 z] 38); by_cases hz : z = 0
      ·
       subst hz; have hfo : R ++ (ls.take (k + 1)).filter (fun e => e.2.2 == 0) = (R ++ F) ++ [(x, y, 0)] := by rw [hft]; simp
       have Hfo := Lib.hid hfo; have hrl : (R ++ F).length ≤ 2000000 := by rw [List.length_append]; omega
       generalize R ++ F = RF at *
       have hownc := Own.alloc hownb (.cells #[.int .i64 x, .int .i64 y, .int .i64 0] 38); clear hfo hft hfl hxe hF hB hown hownb hlr; go_upto_region 12 with (at_builtin; refine wpList_append_row _ rfl (.tmp 27) (.tmp 29) 22 rfl 38 (.agg #[.int .i64 0, .int .i64 0, .int .i64 0]) 3 24 Tryz.underlying22 link_info rfl u3 RF.length _ rfl hownc ⟨wr.heap.size + 1, 0, none⟩ 1 1 [.int .i64 x, .int .i64 y, .int .i64 0] rfl rfl (by have := news3 (wr.alloc (.cells #[.int .i64 x, .int .i64 y, .int .i64 0] 38)) 38 x y 0; simpa using this) (one3 _ _ _) (by omega) (by unfold maxLen; omega) (by omega) ?_; intro g5 c5 w5 hr5 hc5 hg5 hor5)
       have hbC := bl_trans hbl (bl_alloc _ (.cells #[.int .i64 x, .int .i64 y, .int .i64 0] 38)); have hwz := HB.out.size; have hyg : w.heap.size ≤ g5 := by
        rcases hor5 with h | h
        · exact hyoung g5 h
        · simp at h; omega
       have hB5 : Below w.heap.size w w5 := (bl_trans HB.out hbC).grown hg5 (by simp; omega) (fun j hj => hyoung j hj); have hown5 : OwnL w5 (.slice (some ⟨g5, 0, none⟩) (RF.length + 1) c5) (RF ++ [(x, y, 0)]) := by
        have e1 : lkCells RF ++ [Value.int .i64 x, Value.int .i64 y, Value.int .i64 0] = lkCells (RF ++ [(x, y, 0)]) := by rw [lkCells_append]; rfl
        rw [e1] at hr5; refine ⟨by rw [lkCells_length], .inr ⟨g5, c5, by rw [List.length_append]; rfl, by rw [List.length_append]; exact hc5, hr5⟩⟩
       clear hr5 hg5 hor5 hbC hbl hownc; go_wp2_with fail; go_roundg (gk - 1)
       case measure => have := Hk.out; omega
       case rel => exact ⟨k + 1, by have := Hk.out; omega, by go_num, by rw [Hfo.out]; exact hown5, fun j hj => by cases hj; exact hyg, hB5⟩
      ·
       have e1 : (z == 0) = false := beq_eq_false_iff_ne.2 hz; have hfo : R ++ (ls.take (k + 1)).filter (fun e => e.2.2 == 0) = R ++ F := by rw [hft, e1]; simp
       have Hfo := Lib.hid hfo; clear hfo hft hfl hxe hF hB hown hz; go_wp2_with fail; go_roundg (gk - 1)
       case measure => have := Hk.out; omega
       case rel => exact ⟨k + 1, by have := Hk.out; omega, by go_num, by rw [Hfo.out]; exact hownb, hyoung, bl_trans HB.out hbl⟩
     ·
      have hkn : k = ls.length := by omega
      subst hkn; rw [List.take_length] at hown; clear hk; go_wp2_with fail; go_roundg (gko - 1)
      case measure => have := Hi.out; have := Hgko.out; omega
      case rel => exact ⟨i + 1, by have := Hi.out; have := Hgko.out; omega, by go_num, by rw [HT.out]; exact hown, hyoung, hB⟩
   ·
    have hin : i = Q.length := by omega
    subst hin; rw [List.take_length] at hown; clear hi Hi; rcases hown.2 with ⟨rfl, h0⟩ | ⟨g, cg, rfl, hcg, hrow⟩
    ·
     have hnil := List.eq_nil_of_length_eq_zero h0; have hw2 : wholeL Q = [] := by rw [Hw.out, hnil]; rfl
     have Hw2 := Lib.hid hw2; have hnone := fun w' => AnyF.slices_SortFunc_none Tryz.laySortL none 0 (.func (.func 43) #[] #[]) w'; change ∀ w', Calls Tryz.prog 42 _ _ _ at hnone; clear hown h0 hnil hw2 hyoung; go_wp2_with fail; refine (hnone _).mono ?_; rintro e w' ⟨rfl, rfl⟩; go_wp2_with fail; go_ret; rw [Hw2.out]; exact ⟨_, rfl, own_nil _ _ _, fun g hg => by simp [Value.ownBlock] at hg, hB⟩
    ·
     have hsort := sortW_walk g cg (realQ Q) wr hrow (by have := Hlen.out Q.length; rw [List.take_length] at this; exact this); rw [Hsw.out] at hsort; have hgl := hyoung g rfl; clear hown hrow hyoung; go_wp2_with fail; refine hsort.mono ?_; rintro e w' ⟨rfl, hrow2, hgr⟩; have hb2 : Below w.heap.size w w' := hB.grown hgr (by have := hB.size; omega) (fun j hj => by cases hj; exact hgl); clear hsort hgr; go_wp2_with fail; go_ret; rw [Hw.out]; have hll : (sortL (realQ Q)).length = (realQ Q).length := (sortL_perm _).length_eq.trans (List.length_map _); exact ⟨.slice (some ⟨g, 0, none⟩) (realQ Q).length cg, rfl, ⟨by rw [lkCells_length], .inr ⟨g, cg, by rw [hll], by rw [hll]; exact hcg, hrow2⟩⟩, fun j hj => by cases hj; exact hgl, hb2⟩
end Go.Proofs.YtagcbnpahgfgmaaGreat
namespace Go.Proofs.YtagcbnpahgfgmaaGreat
open Go Go.RowKit Go.Maps
theorem nb_bes {Q : List Pt} (hR : RightQ Q) (i : Nat) : nbQ Q i = besQ Q i := by
 have h1 : (nbQ Q i).Pairwise (· < ·) := List.pairwise_lt_range.sublist List.filter_sublist
 have h2 : (besQ Q i).Pairwise (· < ·) := by
  have a1 : (besQ Q i).Pairwise (· ≤ ·) := srtN_sorted _
  have a2 : (besQ Q i).Pairwise (· ≠ ·) := hR.bes_nodup i
  exact (a1.and a2).imp fun ⟨x, y⟩ => by omega
 have hp : (nbQ Q i).Perm (besQ Q i) := (List.perm_ext_iff_of_nodup (h1.imp fun h => by omega) (h2.imp fun h => by omega)).2 fun j => by
  rw [mem_nbQ, mem_besQ hR.bes]
 exact hp.eq_of_pairwise (fun a b _ _ h k => by omega) h1 h2
end Go.Proofs.YtagcbnpahgfgmaaGreat
namespace Go.Proofs.YtagcbnpahgfgmaaGreat
open Go Go.RowKit
noncomputable def centreL (Q : List Pt) : List Nat := if rightB Q then centreQ Q else []
def vI : Int → Value := fun z => .int .i64 z
def upF (bs : Nat → List Nat) (i : Nat) : Nat → Int := fun j => if j < i then ((bs j).length : Int) else 0
theorem upF_next (bs : Nat → List Nat) (i : Nat) : updC (upF bs i) i ((bs i).length : Int) = upF bs (i + 1) := by
 funext x
 unfold updC upF
 by_cases e : x = i
 · subst e; simp
 ·
  rw [if_neg e]
  by_cases h : x < i
  · rw [if_pos h, if_pos (by omega)]
  · rw [if_neg h, if_neg (by omega)]
def lvF (bs : Nat → List Nat) (i : Nat) : List Nat := (List.range i).filter fun j => decide ((bs j).length < 2)
theorem lvF_next (bs : Nat → List Nat) (i : Nat) : lvF bs (i + 1) = lvF bs i ++ if (bs i).length < 2 then [i] else [] := by
 unfold lvF
 rw [List.range_succ, List.filter_append]
 congr 1
 by_cases h : (bs i).length < 2 <;> simp [h]
theorem lvF_le (bs : Nat → List Nat) (i : Nat) : (lvF bs i).length ≤ i := by
 unfold lvF
 have := List.length_filter_le (fun j => decide ((bs j).length < 2)) (List.range i)
 simpa using this
set_option maxRecDepth 100000 in
set_option maxHeartbeats 8000000 in
theorem centre_walk (a : Option Addr) (cap : Nat) (Q : List Pt) (w : World) (hr : RdQ w a Q) (hQ : Q.length ≤ 1000) :
  Calls Tryz.prog 28 #[.slice a Q.length cap] w (RetIs w (centreL Q)) := by
 go_enter Tryz.func28, Tryz.ntmps28
 go_wp2_with fail
 refine (tree_walk a cap Q _ hr hQ).mono ?_
 rintro e w2 ⟨hb2, ⟨hR, G, rfl, hG⟩ | ⟨hR, v, rfl⟩⟩
 ·
  have hbl : centreL Q = centreQ Q := by unfold centreL; rw [rightB_iff.2 hR]; rfl
  have ht := hR.treeG
  have hlen := fun k => besQ_len hQ (fun q hq => (hR.right hq).1.1) k
  have hbl2 : ∀ k, (besQ Q k).length ≤ Q.length := fun k => by
   have := nodup_len_le (ht.nd k) (m := List.range Q.length) fun x hx => List.mem_range.2 (ht.lt _ _ hx); simpa using this
  have hn0 : 0 < Q.length := List.length_pos_iff.2 hR.ne
  have Hbl := Lib.hid hbl; have Ht := Lib.hid ht; have Hbl2 := Lib.hid hbl2
  have hB2 : Below w.heap.size w w2 := hb2
  obtain ⟨n, hn⟩ : ∃ n, n = Q.length := ⟨_, rfl⟩
  clear hbl ht hlen hbl2 hR hr hb2
  have hwn := hB2.size
  have hmk := run_make_row' (P := Tryz.prog) 33 3 (.int .i64 0) 8 Tryz.underlying33 int_info rfl .i64 .i64 Q.length (by omega) (by omega)
  have hrc0 : Row (w2.alloc (.cells (madeCells #[.int .i64 0] Q.length) 3)) w2.heap.size 3 1 Q.length (List.replicate Q.length (.int .i64 0)) := row_made w2 (.int .i64 0) Q.length 3 (by unfold maxLen; omega)
  have hbA := bl_alloc w2 (.cells (madeCells #[.int .i64 0] Q.length) 3)
  go_upto_region 5 with (fail)
  clear hmk
  generalize w2.alloc (.cells (madeCells #[.int .i64 0] Q.length) 3) = wM at hrc0 hbA ⊢
  have hrc : Row wM w2.heap.size 3 1 Q.length ((cntV Q.length (upF (besQ Q) 0)).map vI) := by
   have e : cntV Q.length (upF (besQ Q) 0) = cntV Q.length fun _ => 0 := by
    unfold cntV upF; refine List.map_congr_left fun j _ => ?_; rw [if_neg (by omega)]
   rw [e, ← cntV_zero, List.map_replicate]; exact hrc0
  clear hrc0
  have hl0 : Own wM (.slice none 0 0) 3 1 0 [] := own_nil _ _ _
  go_upto_region 7 with (fail)
  go_loopg [6, 32] Q.length (fun r lv iv wj => ∃ i : Nat, i + r = Q.length ∧ iv = .int .i64 i ∧ Row wj w2.heap.size 3 1 Q.length ((cntV Q.length (upF (besQ Q) i)).map vI) ∧ Own wj lv 3 1 (lvF (besQ Q) i).length ((lvF (besQ Q) i).map vN) ∧ (∀ g, lv.ownBlock = some g → w2.heap.size < g) ∧ Below w2.heap.size w2 wj)
  case atStart => exact ⟨0, by omega, rfl, hrc, hl0, fun g hg => by simp [Value.ownBlock] at hg, hbA⟩
  case round =>
   clear hrc hl0 hbA; obtain ⟨i, hi, rfl, hrow, hown, hyoung, hB⟩ := hrel; have Hi := Lib.hid hi; by_cases hil : i < Q.length
   ·
    clear hi; obtain ⟨ab, cb, cG2, hbs⟩ := hG i hil; have cG := keep_cell hB cG2; have hbl := Hbl2.out i; have i1 : (i : Int) < (Q.length : Int) := by omega
    have f0 := hrow.frozen i; have c0 : wr.cell? ⟨w2.heap.size, i, none⟩ = some (vI (upF (besQ Q) i i)) := by
     rw [hrow.cell? i (by rw [List.length_map, cntV_len]; exact hil), List.getElem?_map, cntV_get hil]; rfl
    have hrow1 : Row (wr.setCell ⟨w2.heap.size, i, none⟩ (.int .i64 ((besQ Q i).length : Nat))) w2.heap.size 3 1 Q.length ((cntV Q.length (upF (besQ Q) (i + 1))).map vI) := by
     have := hrow.set i (vI ((besQ Q i).length : Nat)); rw [← List.map_set, cntV_set, upF_next] at this; exact this
    have hown1 : Own (wr.setCell ⟨w2.heap.size, i, none⟩ (.int .i64 ((besQ Q i).length : Nat))) u6 3 1 (lvF (besQ Q) i).length ((lvF (besQ Q) i).map vN) := hown.below fun g hg => Below.heap_setCell _ _ _ _ (by have := hyoung g hg; simp only; omega); have hB1 : Below w2.heap.size w2 (wr.setCell ⟨w2.heap.size, i, none⟩ (.int .i64 ((besQ Q i).length : Nat))) := hB.setCell (Nat.le_refl _) _; have Hyoung := Lib.hid hyoung; clear hyoung; go_upto_region 10 with (fail)
    clear f0 c0 cG cG2 hbs hrow hown hB; generalize wr.setCell ⟨w2.heap.size, i, none⟩ (.int .i64 ((besQ Q i).length : Nat)) = wS at hrow1 hown1 hB1 ⊢; have hlf := lvF_next (besQ Q) i; have Hlf := Lib.hid hlf; by_cases h2 : (besQ Q i).length < 2
    ·
     have e2 : decide (((besQ Q i).length : Int) < 2) = true := by simp; omega
     rw [if_pos h2] at hlf; have hle := lvF_le (besQ Q) i; have Hlf := Lib.hid hlf; clear h2 hlf; obtain ⟨L, hL⟩ : ∃ L, L = lvF (besQ Q) i := ⟨_, rfl⟩
     rw [← hL] at hown1 hle Hlf; have hAl := hown1.alloc (.cells #[.int .i64 (i : Nat)] 3); clear hL; go_wp2_with (at_builtin; refine wpList_append_row _ rfl (.tmp 45) (.tmp 47) 33 rfl 3 (.int .i64 0) 1 8 Tryz.underlying33 int_info rfl u6 L.length _ rfl hAl ⟨wS.heap.size, 0, none⟩ 1 1 [.int .i64 (i : Nat)] rfl rfl (one_new (cell_new1 rfl)) (one_ok _ _) (by omega) (by unfold maxLen; omega) (by omega) ?_; intro g5 c5 w5 hr5 hc5 hg5 hor5); have hgS := hrow1.lt; have hyg : w2.heap.size < g5 := by
      rcases hor5 with h | h
      · exact Hyoung.out g5 h
      · simp at h; omega
     have hrow2 := (hrow1.alloc (.cells #[.int .i64 (i : Nat)] 3)).grown hg5 (fun e => by have := Hyoung.out _ e; omega); have hown2 : Own w5 (.slice (some ⟨g5, 0, none⟩) (L.length + 1) c5) 3 1 (lvF (besQ Q) (i + 1)).length ((lvF (besQ Q) (i + 1)).map vN) := by
      rw [Hlf.out]; have h1 := hr5.own1; have e1 : L.map vN ++ [Value.int .i64 (i : Int)] = (L ++ [i]).map vN := by rw [List.map_append]; rfl
      rw [e1] at h1; simpa using h1
     have hB5 : Below w2.heap.size w2 w5 := (bl_trans hB1 (bl_alloc wS (.cells #[.int .i64 (i : Nat)] 3))).grown hg5 (by have := hB1.size; simp; omega) (fun k hk => by have := Hyoung.out k hk; omega); clear hr5 hg5 hor5 hrow1 hown1 hB1 hAl; go_wp2_with fail; go_roundg (gk - 1)
     case measure => have := Hi.out; omega
     case rel => exact ⟨i + 1, by have := Hi.out; omega, by go_num, hrow2, hown2, fun k hk => by cases hk; exact hyg, hB5⟩
    ·
     have e2 : decide (((besQ Q i).length : Int) < 2) = false := by simp; omega
     rw [if_neg h2, List.append_nil] at hlf; have Hlf := Lib.hid hlf; clear h2 hlf; go_wp2_with fail; go_roundg (gk - 1)
     case measure => have := Hi.out; omega
     case rel => exact ⟨i + 1, by have := Hi.out; omega, by go_num, hrow1, by rw [Hlf.out]; exact hown1, Hyoung.out, hB1⟩
   ·
    have hin : i = Q.length := by omega
    subst hin; obtain ⟨L0, hL0⟩ : ∃ L0, L0 = lvF (besQ Q) Q.length := ⟨_, rfl⟩
    rw [← hL0] at hown; have hlv : LvI (besQ Q) Q.length (peels (besQ Q) Q.length 0) L0 := by rw [hL0]; exact LvI.start Ht.out
    have hcn : cntV Q.length (upF (besQ Q) Q.length) = cntV Q.length (fun j => (degG (besQ Q) (peels (besQ Q) Q.length 0) j : Int)) := by
     unfold cntV; refine List.map_congr_left fun j hj => ?_; have := List.mem_range.1 hj; unfold upF; rw [if_pos this]; have h0 := deg_none (besQ Q) j; show ((besQ Q j).length : Int) = ((degG (besQ Q) (fun _ => false) j : Nat) : Int)
     rw [h0]
    rw [hcn] at hrow; have hlf : leftN Q.length (peels (besQ Q) Q.length 0) = Q.length := leftN_none _; have Hlv := Lib.hid hlv; have Hlf := Lib.hid hlf; have Hyoung := Lib.hid hyoung; clear hi Hi hL0 hlv hcn hlf hyoung; have hmk := run_make_row' (P := Tryz.prog) 78 4 (.bool false) 1 Tryz.underlying78 bool_info rfl .i64 .i64 Q.length (by omega) (by omega); have hrt0 : Row (wr.alloc (.cells (madeCells #[.bool false] Q.length) 4)) wr.heap.size 4 1 Q.length (List.replicate Q.length (.bool false)) := row_made wr (.bool false) Q.length 4 (by unfold maxLen; omega); have hrowA := hrow.alloc (.cells (madeCells #[.bool false] Q.length) 4); have hownA := hown.alloc (.cells (madeCells #[.bool false] Q.length) 4); have hBA := bl_trans hB (bl_alloc wr (.cells (madeCells #[.bool false] Q.length) 4)); obtain ⟨gt, hgt⟩ : ∃ gt, gt = wr.heap.size := ⟨_, rfl⟩
    have hgct : w2.heap.size < gt := by rw [hgt]; exact hrow.lt
    have hylt : ∀ g, u6.ownBlock = some g → g < gt := fun g hg => by rw [hgt]; exact Own.lt hown hg
    go_upto_region 14 with (fail)
    clear hmk hrow hown hB; rw [← hgt] at hrt0 ⊢; generalize wr.alloc (.cells (madeCells #[.bool false] Q.length) 4) = wA at hrt0 hrowA hownA hBA ⊢; have hrt : Row wA gt 4 1 Q.length ((tkV Q.length (peels (besQ Q) Q.length 0)).map Value.bool) := by
     have e : tkV Q.length (peels (besQ Q) Q.length 0) = List.replicate Q.length false := (tkV_zero _).symm; rw [e, List.map_replicate]; exact hrt0
    clear hrt0 hgt; have hlq : (Q.length : Int) = (leftN Q.length (peels (besQ Q) Q.length 0) : Nat) := by rw [Hlf.out]
    have Hlq := Lib.hid hlq; clear hlq; go_upto_region 15 with (fail)
    have Hylt := Lib.hid hylt; clear hylt; go_loopg [6, 11] Q.length (fun r lv zv wj => ∃ (k : Nat) (L : List Nat), k + r = Q.length ∧ zv = .int .i64 (leftN Q.length (peels (besQ Q) Q.length k) : Nat) ∧ leftN Q.length (peels (besQ Q) Q.length k) + k ≤ Q.length ∧ LvI (besQ Q) Q.length (peels (besQ Q) Q.length k) L ∧ Row wj w2.heap.size 3 1 Q.length ((cntV Q.length (fun j => (degG (besQ Q) (peels (besQ Q) Q.length k) j : Int))).map vI) ∧ Row wj gt 4 1 Q.length ((tkV Q.length (peels (besQ Q) Q.length k)).map Value.bool) ∧ Own wj lv 3 1 L.length (L.map vN) ∧ (∀ g, lv.ownBlock = some g → w2.heap.size < g ∧ g ≠ gt) ∧ Below w2.heap.size w2 wj)
    case atStart => exact ⟨0, L0, by omega, by rw [Hlf.out], by rw [Hlf.out]; omega, Hlv.out, hrowA, hrt, hownA, fun g hg => ⟨Hyoung.out g hg, by have := Hylt.out g hg; omega⟩, hBA⟩
    case round =>
     clear hrowA hrt hownA hBA Hlv Hlf Hyoung Hylt Hlq; obtain ⟨k, L, hk, rfl, hlk, hlv, hrow, hrt, hown, hyoung, hB⟩ := hrel; obtain ⟨GG, hGG⟩ : ∃ GG, GG = peels (besQ Q) Q.length k := ⟨_, rfl⟩
     have hnx : peels (besQ Q) Q.length (k + 1) = peel (besQ Q) Q.length GG := by rw [hGG]; rfl
     rw [← hGG] at hlk hlv hrow hrt ⊢; obtain ⟨ln, hln⟩ : ∃ ln, ln = leftN Q.length GG := ⟨_, rfl⟩
     rw [← hln] at hlk ⊢; have Hk := Lib.hid hk; have Hlk := Lib.hid hlk; have Hlv := Lib.hid hlv; have Hnx := Lib.hid hnx; have HGG := Lib.hid hGG; have Hln := Lib.hid hln; have Hyoung := Lib.hid hyoung; have hlnn : ln ≤ Q.length := by omega
     clear hk hlk hlv hnx hGG hyoung; by_cases h2 : 2 < ln
     ·
      have e2 : decide ((2 : Int) < (ln : Int)) = true := by simp; omega
      have h22 : 2 < leftN Q.length GG := by rw [← hln]; exact h2
      have hpos := Hlv.out.pos Ht.out (by omega); have hLn := Hlv.out.le; have hleft := Hlv.out.left h22; rw [← hln] at hleft; obtain ⟨lm, hlm⟩ : ∃ lm, lm = leftN Q.length (peel (besQ Q) Q.length GG) := ⟨_, rfl⟩
      rw [← hlm] at hleft; obtain ⟨gl, cl, hu6, hcl, hrl⟩ : ∃ gl cl, u6 = .slice (some ⟨gl, 0, none⟩) L.length cl ∧ L.length ≤ cl ∧ Row wr gl 3 1 cl (L.map vN) := by
       rcases hown.2 with ⟨_, h0⟩ | ⟨g, cg, h, hc, hr⟩
       · omega
       · exact ⟨g, cg, h, hc, hr⟩
      subst hu6; obtain ⟨hgl1, hgl2⟩ := Hyoung.out gl rfl; have H22 := Lib.hid h22; have Hlm := Lib.hid hlm; have Hpos := Lib.hid hpos; clear hown Hyoung hln h2 h22 hlm hcl hpos; have ho0 : ∀ j ∈ L.take 0, j ∈ L := fun j hj => by simp at hj
      have hrt0 : Row wr gt 4 1 Q.length ((tkV Q.length (orL GG (L.take 0))).map Value.bool) := by rw [List.take_zero, orL_nil]; exact hrt
      obtain ⟨gko, hgko⟩ : ∃ g, g = gk := ⟨_, rfl⟩
      have Hgko := Lib.hid hgko; clear ho0 hrt hgko; go_upto_region 18 with (fail)
      go_loopg [63] L.length (fun r iv wj => ∃ a : Nat, a + r = L.length ∧ iv = .int .i64 a ∧ Row wj gt 4 1 Q.length ((tkV Q.length (orL GG (L.take a))).map Value.bool) ∧ Row wj w2.heap.size 3 1 Q.length ((cntV Q.length (fun j => (degG (besQ Q) GG j : Int))).map vI) ∧ Row wj gl 3 1 cl (L.map vN) ∧ Below w2.heap.size w2 wj)
      case atStart => exact ⟨0, by omega, rfl, hrt0, hrow, hrl, hB⟩
      case round =>
       clear hrt0 hrow hrl hB; obtain ⟨a, ha, rfl, hrt, hrow, hrl, hB⟩ := hrel; have Ha := Lib.hid ha; by_cases hal : a < L.length
       ·
        clear ha; obtain ⟨x, hx⟩ : ∃ x, L[a]? = some x := ⟨_, List.getElem?_eq_getElem hal⟩
        have hxn : x < Q.length := Hlv.out.lt (List.mem_of_getElem? hx); have cL : wr.cell? ⟨gl, a, none⟩ = some (.int .i64 (x : Nat)) := by
         rw [hrl.cell? a (by rw [List.length_map]; exact hal), List.getElem?_map, hx]; rfl
        have cT : wr.cell? ⟨gt, x, none⟩ = some (.bool (orL GG (L.take a) x)) := by
         rw [hrt.cell? x (by rw [List.length_map, tkV_len]; exact hxn), List.getElem?_map, tkV_get hxn]; rfl
        have fT := hrt.frozen x; have htk : L.take (a + 1) = L.take a ++ [x] := by rw [List.take_add_one, hx]; rfl
        have i1 : (a : Int) < (L.length : Int) := by omega
        have i2 : (x : Int) < (Q.length : Int) := by omega
        have hrt1 : Row (wr.setCell ⟨gt, x, none⟩ (.bool true)) gt 4 1 Q.length ((tkV Q.length (orL GG (L.take (a + 1)))).map Value.bool) := by
         have := hrt.set x (.bool true); rw [htk, ← tkV_set, List.map_set]; exact this
        have hrow1 : Row (wr.setCell ⟨gt, x, none⟩ (.bool true)) w2.heap.size 3 1 Q.length ((cntV Q.length (fun j => (degG (besQ Q) GG j : Int))).map vI) := hrow.other (a := ⟨gt, x, none⟩) (by simp only; omega) _; have hrl1 : Row (wr.setCell ⟨gt, x, none⟩ (.bool true)) gl 3 1 cl (L.map vN) := hrl.other (a := ⟨gt, x, none⟩) (by simp only; omega) _; have hB1 : Below w2.heap.size w2 (wr.setCell ⟨gt, x, none⟩ (.bool true)) := hB.setCell (by simp only; omega) _; clear hx htk hrt hrow hrl hB; go_wp2_with fail; go_roundg (gk - 1)
        case measure => have := Ha.out; omega
        case rel => exact ⟨a + 1, by have := Ha.out; omega, by go_num, hrt1, hrow1, hrl1, hB1⟩
       ·
        have han : a = L.length := by omega
        subst han; rw [List.take_length, tkV_peel Hlv.out H22.out] at hrt; have hmo : MoI Q.length (peel (besQ Q) Q.length GG) (cntC (besQ Q) GG (L.take 0) []) [] := by
         rw [List.take_zero, cntC_start]; exact MoI.start H22.out
        have hrow0 : Row wr w2.heap.size 3 1 Q.length ((cntV Q.length (cntC (besQ Q) GG (L.take 0) [])).map vI) := by
         rw [List.take_zero, cntC_start]; exact hrow
        have hm0 : Own wr (.slice none 0 0) 3 1 0 [] := own_nil _ _ _; have Hmo := Lib.hid hmo; clear ha Ha hrow hmo; go_upto_region 24 with (fail)
        go_loopg [14, 73] L.length (fun r mv iv wj => ∃ (a : Nat) (M : List Nat), a + r = L.length ∧ iv = .int .i64 a ∧ Row wj w2.heap.size 3 1 Q.length ((cntV Q.length (cntC (besQ Q) GG (L.take a) [])).map vI) ∧ Row wj gt 4 1 Q.length ((tkV Q.length (peel (besQ Q) Q.length GG)).map Value.bool) ∧ Row wj gl 3 1 cl (L.map vN) ∧ MoI Q.length (peel (besQ Q) Q.length GG) (cntC (besQ Q) GG (L.take a) []) M ∧ Own wj mv 3 1 M.length (M.map vN) ∧ (∀ g, mv.ownBlock = some g → w2.heap.size < g ∧ g ≠ gt ∧ g ≠ gl) ∧ Below w2.heap.size w2 wj)
        case atStart => exact ⟨0, [], by omega, rfl, hrow0, hrt, hrl, Hmo.out, hm0, fun g hg => by simp [Value.ownBlock] at hg, hB⟩
        case round =>
         clear hrow0 hrt hrl Hmo hm0 hB; obtain ⟨a, M, ha, rfl, hrow, hrt, hrl, hmo, hown, hyoung, hB⟩ := hrel; have Ha := Lib.hid ha; by_cases hal : a < L.length
         ·
          clear ha; obtain ⟨x, hx⟩ : ∃ x, L[a]? = some x := ⟨_, List.getElem?_eq_getElem hal⟩
          have hxn : x < Q.length := Hlv.out.lt (List.mem_of_getElem? hx); have cL : wr.cell? ⟨gl, a, none⟩ = some (.int .i64 (x : Nat)) := by
           rw [hrl.cell? a (by rw [List.length_map]; exact hal), List.getElem?_map, hx]; rfl
          have htk : L.take (a + 1) = L.take a ++ [x] := by rw [List.take_add_one, hx]; rfl
          have Htk := Lib.hid htk; obtain ⟨P, hP⟩ : ∃ P, P = L.take a := ⟨_, rfl⟩
          have hPl : P.length ≤ Q.length := by rw [hP, List.length_take]; omega
          rw [← hP] at hrow hmo; have HP := Lib.hid hP; obtain ⟨ab, cb, cG2, hbs⟩ := hG x hxn; have cG := keep_cell hB cG2; have i1 : (a : Int) < (L.length : Int) := by omega
          have i2 : (x : Int) < (Q.length : Int) := by omega
          have hbl := Hbl2.out x; have hmo0 : MoI Q.length (peel (besQ Q) Q.length GG) (cntC (besQ Q) GG P ((besQ Q x).take 0)) M := by rw [List.take_zero]; exact hmo
          have hrow0 : Row wr w2.heap.size 3 1 Q.length ((cntV Q.length (cntC (besQ Q) GG P ((besQ Q x).take 0))).map vI) := by rw [List.take_zero]; exact hrow
          obtain ⟨gk4, hgk4⟩ : ∃ g, g = gk := ⟨_, rfl⟩
          have Hgk4 := Lib.hid hgk4; have Hmo0 := Lib.hid hmo0; clear hx htk hP hrow hmo hmo0 hgk4; go_upto_region 27 with (fail)
          go_loopg [14, 82] (besQ Q x).length (fun r mv iv wj => ∃ (b : Nat) (M : List Nat), b + r = (besQ Q x).length ∧ iv = .int .i64 b ∧ Row wj w2.heap.size 3 1 Q.length ((cntV Q.length (cntC (besQ Q) GG P ((besQ Q x).take b))).map vI) ∧ Row wj gt 4 1 Q.length ((tkV Q.length (peel (besQ Q) Q.length GG)).map Value.bool) ∧ Row wj gl 3 1 cl (L.map vN) ∧ MoI Q.length (peel (besQ Q) Q.length GG) (cntC (besQ Q) GG P ((besQ Q x).take b)) M ∧ Own wj mv 3 1 M.length (M.map vN) ∧ (∀ g, mv.ownBlock = some g → w2.heap.size < g ∧ g ≠ gt ∧ g ≠ gl) ∧ Below w2.heap.size w2 wj)
          case atStart => exact ⟨0, M, by omega, rfl, hrow0, hrt, hrl, Hmo0.out, hown, hyoung, hB⟩
          case round =>
           clear hrow0 hrt hrl Hmo0 hown hyoung hB i1 i2 cL cG cG2; obtain ⟨b, M, hb, rfl, hrow, hrt, hrl, hmo, hown, hyoung, hB⟩ := hrel; have Hb := Lib.hid hb; by_cases hbb : b < (besQ Q x).length
           ·
            clear hb; obtain ⟨j, hj⟩ : ∃ j, (besQ Q x)[b]? = some j := ⟨_, List.getElem?_eq_getElem hbb⟩
            have hjm : j ∈ besQ Q x := List.mem_of_getElem? hj; have hjn : j < Q.length := Ht.out.lt _ _ hjm; have hjt : j ∉ (besQ Q x).take b := fun hm => by
             have hnd := Ht.out.nd x; rw [← List.take_append_drop b (besQ Q x), List.nodup_append] at hnd; refine hnd.2.2 j hm j ?_ rfl; rw [List.mem_iff_getElem?]; exact ⟨0, by rw [List.getElem?_drop]; exact hj⟩
            obtain ⟨bb, ob, hab, cX⟩ := (hbs.below hB) b (vN j) (by rw [List.getElem?_map, hj]; rfl); subst hab; replace cX : wr.cell? ⟨bb, ob + b, none⟩ = some (.int .i64 (j : Nat)) := cX; have htk : (besQ Q x).take (b + 1) = (besQ Q x).take b ++ [j] := by rw [List.take_add_one, hj]; rfl
            obtain ⟨cj, hcj⟩ : ∃ c, c = cntC (besQ Q) GG P ((besQ Q x).take b) j := ⟨_, rfl⟩
            have hcb : -2000 ≤ cj ∧ cj ≤ 1000 := by
             have h1 : degG (besQ Q) GG j ≤ (besQ Q j).length := List.length_filter_le _ _; have h2 := Hbl2.out j; have h3 : hitC (besQ Q) P j ≤ P.length := List.length_filter_le _ _; rw [hcj]; unfold cntC; split <;> omega
            have hdec := cntC_dec (bs := besQ Q) (G := GG) (P := P) hjt; rw [← htk, ← hcj] at hdec; have cC : wr.cell? ⟨w2.heap.size, j, none⟩ = some (.int .i64 cj) := by
             rw [hrow.cell? j (by rw [List.length_map, cntV_len]; exact hjn), List.getElem?_map, cntV_get hjn, ← hcj]; rfl
            have fC := hrow.frozen j; have cT : wr.cell? ⟨gt, j, none⟩ = some (.bool (peel (besQ Q) Q.length GG j)) := by
             rw [hrt.cell? j (by rw [List.length_map, tkV_len]; exact hjn), List.getElem?_map, tkV_get hjn]; rfl
            have i1 : (b : Int) < ((besQ Q x).length : Int) := by omega
            have i2 : (j : Int) < (Q.length : Int) := by omega
            have hcb1 := hcb.1; have hcb2 := hcb.2; obtain ⟨tk, htkk⟩ : ∃ t, t = peel (besQ Q) Q.length GG j := ⟨_, rfl⟩
            rw [← htkk] at cT; have hrow1 : Row (wr.setCell ⟨w2.heap.size, j, none⟩ (.int .i64 (cj - 1))) w2.heap.size 3 1 Q.length ((cntV Q.length (cntC (besQ Q) GG P ((besQ Q x).take (b + 1)))).map vI) := by
             have := hrow.set j (vI (cj - 1)); rw [← hdec, ← cntV_set, List.map_set]; exact this
            have cS : (wr.setCell ⟨w2.heap.size, j, none⟩ (.int .i64 (cj - 1))).cell? ⟨w2.heap.size, j, none⟩ = some (.int .i64 (cj - 1)) := by
             rw [hrow1.cell? j (by rw [List.length_map, cntV_len]; exact hjn), List.getElem?_map, cntV_get hjn, ← hdec]; simp [updC, vI]
            have hrt1 : Row (wr.setCell ⟨w2.heap.size, j, none⟩ (.int .i64 (cj - 1))) gt 4 1 Q.length ((tkV Q.length (peel (besQ Q) Q.length GG)).map Value.bool) := hrt.other (a := ⟨w2.heap.size, j, none⟩) (by simp only; omega) _; have hrl1 : Row (wr.setCell ⟨w2.heap.size, j, none⟩ (.int .i64 (cj - 1))) gl 3 1 cl (L.map vN) := hrl.other (a := ⟨w2.heap.size, j, none⟩) (by simp only; omega) _; have cT1 : (wr.setCell ⟨w2.heap.size, j, none⟩ (.int .i64 (cj - 1))).cell? ⟨gt, j, none⟩ = some (.bool tk) := (World.cell?_setCell_far _ _ _ _ (by simp; omega)).trans cT; have hown1 : Own (wr.setCell ⟨w2.heap.size, j, none⟩ (.int .i64 (cj - 1))) u14 3 1 M.length (M.map vN) := hown.below fun g hg => Below.heap_setCell _ _ _ _ (by have := hyoung g hg; simp only; omega); have hB1 : Below w2.heap.size w2 (wr.setCell ⟨w2.heap.size, j, none⟩ (.int .i64 (cj - 1))) := hB.setCell (Nat.le_refl _) _; have Hmo := Lib.hid hmo; have Hdec := Lib.hid hdec; have Hcj := Lib.hid hcj; have Htkk := Lib.hid htkk; have Hyoung := Lib.hid hyoung; have Hjn := Lib.hid hjn; clear hj hjm hjt htk hcj hcb hdec hmo htkk hrow hrt hrl hown hB hyoung cT hbs; go_upto_region 30 with (fail)
            clear cC fC cX; generalize wr.setCell ⟨w2.heap.size, j, none⟩ (.int .i64 (cj - 1)) = wS at hrow1 hrt1 hrl1 hown1 hB1 cS cT1 ⊢; cases tk with
            | true =>
             have hmo1 := Hmo.out.no (j := j) (.inl Htkk.out.symm); rw [← Hcj.out, Hdec.out] at hmo1; have Hmo1 := Lib.hid hmo1; clear hmo1; go_wp2_with fail; go_roundg (gk - 1)
             case measure => have := Hb.out; omega
             case rel => exact ⟨b + 1, M, by have := Hb.out; omega, by go_num, hrow1, hrt1, hrl1, Hmo1.out, hown1, Hyoung.out, hB1⟩
            | false =>
             by_cases hc1 : cj - 1 = 1
             ·
              have e4 : (cj - 1 == 1) = true := by simpa using hc1
              have hmo1 := Hmo.out.yes Hjn.out Htkk.out.symm (by rw [← Hcj.out]; exact hc1); rw [← Hcj.out, Hdec.out] at hmo1; have hMl := Hmo.out.le; have Hmo1 := Lib.hid hmo1; have hAl := hown1.alloc (.cells #[.int .i64 (j : Nat)] 3); clear hmo1 hc1; go_wp2_with (at_builtin; refine wpList_append_row _ rfl (.tmp 104) (.tmp 106) 33 rfl 3 (.int .i64 0) 1 8 Tryz.underlying33 int_info rfl u14 M.length _ rfl hAl ⟨wS.heap.size, 0, none⟩ 1 1 [.int .i64 (j : Nat)] rfl rfl (one_new (cell_new1 rfl)) (one_ok _ _) (by omega) (by unfold maxLen; omega) (by omega) ?_; intro g5 c5 w5 hr5 hc5 hg5 hor5); have z1 := hrow1.lt; have z2 := hrt1.lt; have z3 := hrl1.lt; have hyg : w2.heap.size < g5 ∧ g5 ≠ gt ∧ g5 ≠ gl := by
               rcases hor5 with h | h
               · exact Hyoung.out g5 h
               · simp at h; omega
              have hne : ∀ q, (q = w2.heap.size ∨ q = gt ∨ q = gl) → u14.ownBlock ≠ some q := fun q hq e => by have := Hyoung.out _ e; omega
              have hrow2 := (hrow1.alloc (.cells #[.int .i64 (j : Nat)] 3)).grown hg5 (hne _ (.inl rfl)); have hrt2 := (hrt1.alloc (.cells #[.int .i64 (j : Nat)] 3)).grown hg5 (hne _ (.inr (.inl rfl))); have hrl2 := (hrl1.alloc (.cells #[.int .i64 (j : Nat)] 3)).grown hg5 (hne _ (.inr (.inr rfl))); have hown2 : Own w5 (.slice (some ⟨g5, 0, none⟩) (M.length + 1) c5) 3 1 (M ++ [j]).length ((M ++ [j]).map vN) := by
               have h1 := hr5.own1; have e1 : M.map vN ++ [Value.int .i64 (j : Int)] = (M ++ [j]).map vN := by rw [List.map_append]; rfl
               rw [e1] at h1; simpa using h1
              have hB5 : Below w2.heap.size w2 w5 := (bl_trans hB1 (bl_alloc wS (.cells #[.int .i64 (j : Nat)] 3))).grown hg5 (by have := hB1.size; simp; omega) (fun k hk => by have := Hyoung.out k hk; omega); clear hr5 hg5 hor5 hrow1 hrt1 hrl1 hown1 hB1 hAl hne cS cT1; go_wp2_with fail; go_roundg (gk - 1)
              case measure => have := Hb.out; omega
              case rel => exact ⟨b + 1, M ++ [j], by have := Hb.out; omega, by go_num, hrow2, hrt2, hrl2, Hmo1.out, hown2, fun k hk => by cases hk; exact hyg, hB5⟩
             ·
              have e4 : (cj - 1 == 1) = false := by simpa using hc1
              have hmo1 := Hmo.out.no (j := j) (.inr (by rw [← Hcj.out]; exact hc1)); rw [← Hcj.out, Hdec.out] at hmo1; have Hmo1 := Lib.hid hmo1; clear hmo1 hc1; go_wp2_with fail; go_roundg (gk - 1)
              case measure => have := Hb.out; omega
              case rel => exact ⟨b + 1, M, by have := Hb.out; omega, by go_num, hrow1, hrt1, hrl1, Hmo1.out, hown1, Hyoung.out, hB1⟩
           ·
            have hbn : b = (besQ Q x).length := by omega
            subst hbn; rw [List.take_length, cntC_next, HP.out, ← Htk.out] at hrow hmo; have Hmo := Lib.hid hmo; clear hb Hb hmo; go_wp2_with fail; go_roundg (gk4 - 1)
            case measure => have := Ha.out; have := Hgk4.out; omega
            case rel => exact ⟨a + 1, M, by have := Ha.out; have := Hgk4.out; omega, by go_num, hrow, hrt, hrl, Hmo.out, hown, hyoung, hB⟩
         ·
          have han : a = L.length := by omega
          subst han; rw [List.take_length, cntC_end Hlv.out Ht.out H22.out] at hrow hmo; have hlv2 := hmo.lv; have Hlv2 := Lib.hid hlv2; have hz : (ln : Int) - (L.length : Int) = (lm : Int) := by omega
          have Hhl := Lib.hid hleft; clear ha Ha hmo hlv2; go_wp2_with fail; go_roundg (gko - 1)
          case measure => have := Hk.out; have := Hlk.out; have := Hgko.out; have := Hpos.out; omega
          case rel => exact ⟨k + 1, M, by have := Hk.out; have := Hlk.out; have := Hgko.out; have := Hhl.out; have := Hpos.out; omega, by rw [Hnx.out, ← Hlm.out] <;> go_num, by rw [Hnx.out, ← Hlm.out]; have := Hlk.out; have := Hhl.out; have := Hpos.out; omega, by rw [Hnx.out]; exact Hlv2.out, by rw [Hnx.out]; exact hrow, by rw [Hnx.out]; exact hrt, hown, fun g hg => ⟨(hyoung g hg).1, (hyoung g hg).2.1⟩, hB⟩
     ·
      have e2 : decide ((2 : Int) < (ln : Int)) = false := by simp; omega
      have hfin : peels (besQ Q) Q.length Q.length = GG := by
       have h22 : ¬ 2 < leftN Q.length (peels (besQ Q) Q.length k) := by rw [← HGG.out, ← Hln.out]; exact h2
       have h1 := peels_end h22 (Q.length - k); have := Hlk.out; rw [show k + (Q.length - k) = Q.length by omega] at h1; rw [h1, HGG.out]
      have hcq : centreQ Q = (List.range Q.length).filter fun j => !GG j := by unfold centreQ; rw [hfin]
      have Hcq := Lib.hid hcq; have ho0 : Own wr (.slice none 0 0) 3 1 0 [] := own_nil _ _ _; have hgtw := hrt.lt; clear hfin hcq h2 hln hrow hown; go_upto_region 36 with (fail)
      go_loopg [7, 113] Q.length (fun r ov iv wj => ∃ (i : Nat) (O : List Nat), i + r = Q.length ∧ iv = .int .i64 i ∧ O = (List.range i).filter (fun j => !GG j) ∧ Row wj gt 4 1 Q.length ((tkV Q.length GG).map Value.bool) ∧ Own wj ov 3 1 O.length (O.map vN) ∧ (∀ g, ov.ownBlock = some g → w2.heap.size < g ∧ g ≠ gt) ∧ Below w2.heap.size w2 wj)
      case atStart => exact ⟨0, [], by omega, rfl, by simp, hrt, ho0, fun g hg => by simp [Value.ownBlock] at hg, hB⟩
      case round =>
       clear hrt ho0 hB hgtw; obtain ⟨i, O, hi, rfl, hO, hrt, hown, hyoung, hB⟩ := hrel; have Hi := Lib.hid hi; have HO := Lib.hid hO; have Hyoung := Lib.hid hyoung; have hOl : O.length ≤ i := by
        rw [hO]; have := List.length_filter_le (fun j => !GG j) (List.range i); simpa using this
       have hstep : (List.range (i + 1)).filter (fun j => !GG j) = O ++ if GG i = false then [i] else [] := by
        rw [List.range_succ, List.filter_append, hO]; congr 1; by_cases h : GG i = true <;> simp [h]
       clear hO hyoung; by_cases hil : i < Q.length
       ·
        clear hi; have cT : wr.cell? ⟨gt, i, none⟩ = some (.bool (GG i)) := by
         rw [hrt.cell? i (by rw [List.length_map, tkV_len]; exact hil), List.getElem?_map, tkV_get hil]; rfl
        have i1 : (i : Int) < (Q.length : Int) := by omega
        cases hgi : GG i with
        | true =>
         rw [hgi] at cT hstep; simp only [Bool.true_eq_false, if_false, List.append_nil] at hstep; have Hstep := Lib.hid hstep; clear hstep hgi; go_wp2_with fail; go_roundg (gk - 1)
         case measure => have := Hi.out; omega
         case rel => exact ⟨i + 1, O, by have := Hi.out; omega, by go_num, Hstep.out.symm, hrt, hown, Hyoung.out, hB⟩
        | false =>
         rw [hgi] at cT hstep; simp only [if_true] at hstep; have Hstep := Lib.hid hstep; have hAl := hown.alloc (.cells #[.int .i64 (i : Nat)] 3); have hBa := hB.size; clear hstep hgi; go_wp2_with (at_builtin; refine wpList_append_row _ rfl (.tmp 121) (.tmp 123) 33 rfl 3 (.int .i64 0) 1 8 Tryz.underlying33 int_info rfl u7 O.length _ rfl hAl ⟨wr.heap.size, 0, none⟩ 1 1 [.int .i64 (i : Nat)] rfl rfl (one_new (cell_new1 rfl)) (one_ok _ _) (by omega) (by unfold maxLen; omega) (by omega) ?_; intro g5 c5 w5 hr5 hc5 hg5 hor5); have z2 := hrt.lt; have hyg : w2.heap.size < g5 ∧ g5 ≠ gt := by
          rcases hor5 with h | h
          · exact Hyoung.out g5 h
          · simp at h; omega
         have hrt2 := (hrt.alloc (.cells #[.int .i64 (i : Nat)] 3)).grown hg5 (fun e => (Hyoung.out _ e).2 rfl); have hown2 : Own w5 (.slice (some ⟨g5, 0, none⟩) (O.length + 1) c5) 3 1 (O ++ [i]).length ((O ++ [i]).map vN) := by
          have h1 := hr5.own1; have e1 : O.map vN ++ [Value.int .i64 (i : Int)] = (O ++ [i]).map vN := by rw [List.map_append]; rfl
          rw [e1] at h1; simpa using h1
         have hB5 : Below w2.heap.size w2 w5 := (bl_trans hB (bl_alloc wr (.cells #[.int .i64 (i : Nat)] 3))).grown hg5 (by simp; omega) (fun k hk => by have := Hyoung.out k hk; omega); clear hr5 hg5 hor5 hrt hown hB hAl cT; go_wp2_with fail; go_roundg (gk - 1)
         case measure => have := Hi.out; omega
         case rel => exact ⟨i + 1, O ++ [i], by have := Hi.out; omega, by go_num, Hstep.out.symm, hrt2, hown2, fun k hk => by cases hk; exact hyg, hB5⟩
       ·
        have hin : i = Q.length := by omega
        subst hin; have hO2 : O = centreQ Q := by rw [HO.out, Hcq.out]
        subst hO2; have hfin := hown; have Hfin := Lib.hid hfin; obtain ⟨a9, c9, hvo, hca⟩ : ∃ a c, u7 = Value.slice a (centreQ Q).length c ∧ CellsAt wr a ((centreQ Q).map vN) := by
         rcases hown.2 with ⟨rfl, h0⟩ | ⟨g, cg, rfl, hcg, hr9⟩
         · exact ⟨none, 0, by rw [h0], fun i u hu => by rw [List.eq_nil_of_length_eq_zero h0] at hu; simp at hu⟩
         · exact ⟨_, _, rfl, hr9.at_⟩
        subst hvo; have hBw := bl_trans hB2 hB; clear hi Hi hstep hown hfin Hfin hrt hOl; go_wp2_with fail; go_ret; rw [Hbl.out]; exact ⟨a9, c9, rfl, hca, hBw⟩
 ·
  have hbl : centreL Q = [] := by unfold centreL; rw [rightB_not.2 hR]; rfl
  have Hbl := Lib.hid hbl
  clear hbl hR hr
  go_wp2_with fail
  go_ret
  rw [Hbl.out]
  exact ⟨none, 0, rfl, fun i u hu => by simp at hu, hb2⟩
end Go.Proofs.YtagcbnpahgfgmaaGreat
namespace Go.Proofs.YtagcbnpahgfgmaaGreat
def normB (Q : List Pt) : Bool := Q.all fun x => Q.all fun y => decide (x = y) || (decide (x.1 ≠ y.1) || (decide (x.1 = 3) || (virtL x.2).all fun e => decide (e ∉ virtL y.2)))
theorem normal_of {Q : List Pt} (hn : Q.Nodup) (hb : normB Q = true) : MNormal Q := fun e Q' hs => by
 have h : ∀ x ∈ Q, ∀ y ∈ Q, x ≠ y → x.1 = y.1 → x.1 ≠ 3 → ∀ e ∈ virtL x.2, e ∉ virtL y.2 := fun x hx y hy h1 h2 h3 e he => by
  have := List.all_eq_true.1 (List.all_eq_true.1 hb x hx) y hy
  simp only [Bool.or_eq_true, decide_eq_true_eq, List.all_eq_true] at this
  rcases this with h | h | h | h
  · exact absurd h h1
  · exact absurd h2 h
  · exact absurd h h3
  · exact h e he
 obtain ⟨x, y, R, hp, hex, hey, hk, h3, _⟩ := hs
 have hxy : x ≠ y := fun he => by
  have := hp.nodup_iff.1 hn
  rw [he] at this
  simp at this
 exact h x (hp.mem_iff.2 (by simp)) y (hp.mem_iff.2 (by simp)) hxy hk h3 e hex hey
def okC (Q : List Pt) (v : Int) : Bool := decide ((atV v (allQ Q)).length = 2) && pairB Q (atV v (allQ Q))
def seenC (Q : List Pt) : Bool := (List.range Q.length).all fun j => match Q[j]? with
 | none => true
 | some q => decide (q.1 ≠ 0) && (decide (q.1 = kindL q.2) && (decide (j = 0) || decide (cmpLs (lnQ Q (j - 1)) q.2 < 0)))
def rightC (Q : List Pt) : Bool := decide (0 < Q.length) && (seenC Q && ((allQ Q).all (fun p => decide (p.2.2.2 = 0) || okC Q p.2.2.2) && (decide (realsO (allQ Q)).Nodup && (decide (nvO (allQ Q) + 2 = 2 * Q.length) && (List.range Q.length).all fun j => roundS Q Q.length j))))
theorem rightC_right {Q : List Pt} (h : rightC Q = true) : RightQ Q := by
 unfold rightC at h
 simp only [Bool.and_eq_true, decide_eq_true_eq, List.all_eq_true, List.mem_range, Bool.or_eq_true] at h
 obtain ⟨h0, h1, h2, h3, h4, h5⟩ := h
 refine (right_doc h0).2 ⟨fun j hj _ => ?_, fun p hp hv => ?_, h3, h4, h5⟩
 ·
  unfold seenC at h1
  have := List.all_eq_true.1 h1 j (List.mem_range.2 hj)
  rw [List.getElem?_eq_getElem hj] at this
  simp only [Bool.and_eq_true, decide_eq_true_eq, Bool.or_eq_true] at this
  obtain ⟨a1, a2, a3⟩ := this
  refine ⟨a1, by rw [kind_same]; exact a2, fun hj0 => ?_⟩
  have a4 := a3.resolve_left (by omega)
  rw [lnQ_at (by omega)] at a4
  exact a4
 ·
  have := (h2 p hp).resolve_left hv
  unfold okC at this
  simp only [Bool.and_eq_true, decide_eq_true_eq] at this
  exact this
theorem tree_ex {ls : List Lk} {out : List (List Lk)} {n : Int} {k : Nat} {T : List Pt} (h1 : (SpS.steps k ⟨[ls], [], 1⟩).todo = []) (h2 : (SpS.steps k ⟨[ls], [], 1⟩).out = out) (h3 : (SpS.steps k ⟨[ls], [], 1⟩).next = n)
  (hm : MTo (out.map fun p => (kindL p, p)) T) (hn : MNormal T) (hs : T.Pairwise LeP) : TreeTo kindL ls T := by
 refine ⟨out, n, T, ⟨k, ?_⟩, hm, hn, .refl _, hs⟩
 obtain ⟨s, hs⟩ : ∃ s, s = SpS.steps k ⟨[ls], [], 1⟩ := ⟨_, rfl⟩
 rw [← hs] at h1 h2 h3 ⊢
 cases s
 simp only at h1 h2 h3
 subst h1; subst h2; subst h3; rfl
def exA : List Lk := [(0, 1, 0), (0, 3, 0), (1, 2, 0), (2, 3, 0)]
def exB : List Lk := [(0, 1, 0), (0, 2, 0), (0, 3, 0), (1, 2, 0), (1, 3, 0), (2, 3, 0)]
def exC : List Lk := [(0, 1, 0), (0, 2, 0), (0, 3, 0), (1, 2, 0), (1, 3, 0)]
def tA : List Pt := [(1, exA)]
def tB : List Pt := [(3, exB)]
def tC : List Pt := [(2, [(0, 1, 0), (0, 1, 1), (0, 1, 2)]), (1, [(0, 1, 1), (0, 2, 0), (1, 2, 0)]), (1, [(0, 1, 2), (0, 3, 0), (1, 3, 0)])]
theorem exA_s : sortL ([(0, 1), (1, 2), (2, 3), (0, 3)].map fun e : Int × Int => ((e.1, e.2, 0) : Lk)) = exA := by decide +kernel
theorem exB_s : sortL ([(0, 1), (0, 2), (0, 3), (1, 2), (1, 3), (2, 3)].map fun e : Int × Int => ((e.1, e.2, 0) : Lk)) = exB := by decide +kernel
theorem exC_s : sortL ([(0, 1), (0, 2), (1, 2), (0, 3), (1, 3)].map fun e : Int × Int => ((e.1, e.2, 0) : Lk)) = exC := by decide +kernel
theorem exA_w : wantT exA = true := by decide +kernel
theorem exB_w : wantT exB = true := by decide +kernel
theorem exC_w : wantT exC = true := by decide +kernel
theorem exA_r : RightL exA := (rightL_iff _).1 (by decide +kernel)
theorem exB_r : RightL exB := (rightL_iff _).1 (by decide +kernel)
theorem exC_r : RightL exC := (rightL_iff _).1 (by decide +kernel)
theorem one_normal (q : Pt) : MNormal [q] := fun e Q' hs => by
 obtain ⟨x, y, R, hp, _⟩ := hs
 have := hp.length_eq
 simp at this
instance instLeP (a b : Pt) : Decidable (LeP a b) := by unfold LeP; infer_instance
theorem exA_t : TreeTo kindL exA tA := by
 refine tree_ex (k := 3) (out := [[(0, 1, 0), (0, 2, 1), (1, 2, 0)], [(0, 2, 1), (0, 3, 0), (2, 3, 0)]]) (n := 2) (by decide +kernel) (by decide +kernel) (by decide +kernel) (.step (e := (0, 2, 1)) (Q1 := tA) ⟨(1, [(0, 1, 0), (0, 2, 1), (1, 2, 0)]), (1, [(0, 2, 1), (0, 3, 0), (2, 3, 0)]), [], ?_, by decide +kernel, by decide +kernel, rfl, by decide, ?_⟩ (.done (.refl _))) (one_normal _) (by decide +kernel)
 ·
  have h1 : kindL [(0, 1, 0), (0, 2, 1), (1, 2, 0)] = 1 := by decide +kernel
  have h2 : kindL [(0, 2, 1), (0, 3, 0), (2, 3, 0)] = 1 := by decide +kernel
  simp only [List.map_cons, List.map_nil, h1, h2]
  exact .refl _
 ·
  have h3 : joinL [(0, 1, 0), (0, 2, 1), (1, 2, 0)] [(0, 2, 1), (0, 3, 0), (2, 3, 0)] 1 = exA := by decide +kernel
  simp only [h3]
  exact .refl _
theorem exB_t : TreeTo kindL exB tB := by
 refine tree_ex (k := 1) (out := [exB]) (n := 1) (by decide +kernel) (by decide +kernel) (by decide +kernel) (.done ?_) (one_normal _) (by decide +kernel)
 have h1 : kindL exB = 3 := by decide +kernel
 simp only [List.map_cons, List.map_nil, h1]
 exact .refl _
theorem exC_t : TreeTo kindL exC tC := by
 refine tree_ex (k := 5) (out := [[(0, 1, 1), (0, 2, 0), (1, 2, 0)], [(0, 1, 2), (0, 3, 0), (1, 3, 0)], [(0, 1, 0), (0, 1, 1), (0, 1, 2)]]) (n := 3) (by decide +kernel) (by decide +kernel) (by decide +kernel) (.done ?_) (normal_of (by decide +kernel) (by decide +kernel)) (by decide +kernel)
 have h1 : kindL [(0, 1, 1), (0, 2, 0), (1, 2, 0)] = 1 := by decide +kernel
 have h2 : kindL [(0, 1, 2), (0, 3, 0), (1, 3, 0)] = 1 := by decide +kernel
 have h3 : kindL [(0, 1, 0), (0, 1, 1), (0, 1, 2)] = 2 := by decide +kernel
 simp only [List.map_cons, List.map_nil, h1, h2, h3]
 decide +kernel
theorem exC_right : RightQ tC := rightC_right (by decide +kernel)
theorem exC_c : centreL tC = [0] := by
 have hb : rightB tC = true := rightB_iff.2 exC_right
 have he : besQ tC = nbQ tC := funext fun i => (nb_bes exC_right i).symm
 unfold centreL
 rw [hb]
 unfold centreQ
 rw [he]
 decide +kernel
theorem exC_w2 : wholeL tC = exC := by
 have hb : rightB tC = true := rightB_iff.2 exC_right
 unfold wholeL
 rw [hb]
 decide +kernel
end Go.Proofs.YtagcbnpahgfgmaaGreat
namespace Go.Proofs.YtagcbnpahgfgmaaGreat
open Go Go.RowKit
set_option maxRecDepth 100000 in
set_option maxHeartbeats 4000000 in
theorem same15_walk (a b : Option Addr) (ca cb : Nat) (P Q : List Pt) (w : World) (hx : RdQ w a P) (hy : RdQ w b Q) (hxl : P.length ≤ 1000000) (hyl : Q.length ≤ 1000000) :
  Calls Tryz.prog 16 #[.slice a P.length ca, .slice b Q.length cb] w (RetQ w (decide (P = Q))) := by
 obtain ⟨t, ht⟩ : ∃ t, t = decide (P = Q) := ⟨_, rfl⟩
 rw [← ht]
 have Ht := Lib.hid ht; clear ht
 by_cases hl : P.length = Q.length
 ·
  have e0 : ((P.length : Int) != (Q.length : Int)) = false := by simp; omega
  go_enter Tryz.func16, Tryz.ntmps16
  go_wp2_with fail
  clear e0
  go_loopg [13] P.length (fun r iv wj => ∃ i : Nat, i + r = P.length ∧ iv = .int .i64 i ∧ (∀ j : Nat, j < i → P[j]? = Q[j]?) ∧ ∃ d, wj = w.drewN d)
  case atStart => exact ⟨0, by omega, rfl, fun j hj => absurd hj (by omega), 0, rfl⟩
  case round =>
   obtain ⟨i, hi, rfl, hall, d, hwr⟩ := hrel; have hx' : RdQ wr a P := by rw [hwr]; exact hx.below (below_drewN (bl_refl w) d)
   have hy' : RdQ wr b Q := by rw [hwr]; exact hy.below (below_drewN (bl_refl w) d)
   have Hwr := Lib.hid hwr; clear hwr; have Hi := Lib.hid hi; have Hall := Lib.hid hall; clear hall; by_cases hil : i < P.length
   ·
    clear hi; have hiy : i < Q.length := by omega
    obtain ⟨⟨k1, l1⟩, hxi⟩ : ∃ x : Pt, P[i]? = some x := ⟨_, List.getElem?_eq_getElem hil⟩
    obtain ⟨⟨k2, l2⟩, hyi⟩ : ∃ y : Pt, Q[i]? = some y := ⟨_, List.getElem?_eq_getElem hiy⟩
    obtain ⟨b1, o1, a1, c1, rfl, p0, p1, hr1, hc1, hm1⟩ := hx' i _ hxi; obtain ⟨b2, o2, a2, c2, rfl, q0, q1, hr2, hc2, hm2⟩ := hy' i _ hyi; simp only at p0 p1 hr1 hc1 q0 q1 hr2 hc2; have Hx := Lib.hid hxi; have Hy := Lib.hid hyi; have i1 : (i : Int) < (P.length : Int) := by omega
    have i2 : (i : Int) < (Q.length : Int) := by omega
    have hll1 : l1.length ≤ 9223372036854775807 := by unfold maxLen at hm1; omega
    have hll2 : l2.length ≤ 9223372036854775807 := by unfold maxLen at hm2; omega
    clear hxi hyi hx' hy'; by_cases hk : k1 = k2
    ·
     have e1 : (k1 != k2) = false := by simpa using hk
     have Hk := Lib.hid hk; have hcall := fun n => (same_walk a1 a2 c1 c2 l1 l2 (wr.drewN n) (hr1.below (below_drewN (bl_refl wr) n)) (hr2.below (below_drewN (bl_refl wr) n)) hll1 hll2)
     clear hk hr1 hr2 hx hy; by_cases he : l1 = l2
     ·
      rw [show decide (l1 = l2) = true by simpa using he] at hcall; have He := Lib.hid he; clear he; go_wp2_with fail; go_quiet ((go_at_call 11; exact Calls.quiet_of (hcall _)))
      go_wp2_with fail; go_roundg (gk - 1)
      case measure => have := Hi.out; omega
      case rel => exact ⟨i + 1, by have := Hi.out; omega, by go_num, fun j hj => (by
       by_cases e : j = i
       · subst e; rw [Hx.out, Hy.out, He.out, Hk.out]
       · exact Hall.out j (by omega)), d + nq, by rw [Hwr.out, World.drewN_drewN]⟩
     ·
      rw [show decide (l1 = l2) = false by simpa using he] at hcall; have hfin : t = false := by
       rw [Ht.out, decide_eq_false_iff_not]; intro h; have h1 := Hx.out; rw [h, Hy.out] at h1; have := Option.some.inj h1; exact he (by cases this; rfl)
      subst hfin; clear he; go_wp2_with fail; go_quiet ((go_at_call 11; exact Calls.quiet_of (hcall _)))
      go_wp2_with fail; go_ret; exact ⟨rfl, d + nq, by rw [Hwr.out, World.drewN_drewN]⟩
    ·
     have e1 : (k1 != k2) = true := by simpa using hk
     have hfin : t = false := by
      rw [Ht.out, decide_eq_false_iff_not]; intro h; have h1 := Hx.out; rw [h, Hy.out] at h1; have := Option.some.inj h1; exact hk (by cases this; rfl)
     subst hfin; clear hk; go_wp2_with fail; go_quiet (fail)
     go_wp2_with fail; go_ret; exact ⟨rfl, d + nq, by rw [Hwr.out, World.drewN_drewN]⟩
   ·
    have hin : i = P.length := by omega
    subst hin; have hfin : t = true := by
     rw [Ht.out, decide_eq_true_eq]; apply List.ext_getElem?; intro j; by_cases hj : j < P.length
     · exact Hall.out j hj
     · rw [List.getElem?_eq_none (by omega), List.getElem?_eq_none (by omega)]
    subst hfin; clear hi Hi; go_wp2_with fail; go_ret; exact ⟨rfl, d, Hwr.out⟩
 ·
  have e0 : ((P.length : Int) != (Q.length : Int)) = true := by simp; omega
  have hfin : t = false := by
   rw [Ht.out, decide_eq_false_iff_not]; intro h; exact hl (by rw [h])
  subst hfin
  clear hl
  go_enter Tryz.func16, Tryz.ntmps16
  go_wp2_with fail
  go_ret
  exact ⟨rfl, 0, rfl⟩
end Go.Proofs.YtagcbnpahgfgmaaGreat
