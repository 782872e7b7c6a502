/- The least of the shortest ways: a plain law. -/
import Derived.Test.YtddndhhhmlcgjaaPathQ
import Derived.Test.YtddndhhhmlcgjaaLawAwayP
namespace Go.Proofs.Ytddndhhhmlcgjaa

def lessB : List Nat → List Nat → Bool
  | a :: p, b :: q => if a = b then lessB p q else decide (a < b)
  | _, _ => false
def Lt (p q : List Nat) : Prop := lessB p q = true

theorem Lt.trans : ∀ {p q r : List Nat}, Lt p q → Lt q r → Lt p r
  | [], _, _, h, _ => by simp [Lt, lessB] at h
  | _ :: _, [], _, h, _ => by simp [Lt, lessB] at h
  | _ :: _, _ :: _, [], _, h => by simp [Lt, lessB] at h
  | a :: p, b :: q, c :: r, h1, h2 => by
    unfold Lt at *
    rw [lessB] at *
    by_cases e1 : a = b
    · subst e1
      rw [if_pos rfl] at h1
      by_cases e2 : a = c
      · subst e2
        rw [if_pos rfl] at h2 ⊢
        exact Lt.trans h1 h2
      · rw [if_neg e2] at h2 ⊢; exact h2
    · rw [if_neg e1] at h1
      have h1' : a < b := by simpa using h1
      by_cases e2 : b = c
      · subst e2; rw [if_neg e1]; exact h1
      · rw [if_neg e2] at h2
        have h2' : b < c := by simpa using h2
        rw [if_neg (by omega)]; simp; omega
theorem Lt.irrefl : ∀ (p : List Nat), ¬ Lt p p
  | [] => by simp [Lt, lessB]
  | a :: p => by
    unfold Lt
    rw [lessB, if_pos rfl]
    exact Lt.irrefl p
theorem Lt.total : ∀ (p q : List Nat), p.length = q.length → Lt p q ∨ p = q ∨ Lt q p
  | [], [], _ => .inr (.inl rfl)
  | [], _ :: _, h => by simp at h
  | _ :: _, [], h => by simp at h
  | a :: p, b :: q, h => by
    have hl : p.length = q.length := by simpa using h
    unfold Lt
    rw [lessB, lessB]
    by_cases e : a = b
    · subst e
      rw [if_pos rfl, if_pos rfl]
      rcases Lt.total p q hl with h1 | h1 | h1
      · exact .inl h1
      · exact .inr (.inl (by rw [h1]))
      · exact .inr (.inr h1)
    · rw [if_neg e, if_neg (fun e' => e e'.symm)]
      simp
      omega
theorem Lt.snoc : ∀ (p q : List Nat) (w : Nat), p.length = q.length → Lt p q → Lt (p ++ [w]) (q ++ [w])
  | [], [], _, _, h => by simp [Lt, lessB] at h
  | [], _ :: _, _, h, _ => by simp at h
  | _ :: _, [], _, h, _ => by simp at h
  | a :: p, b :: q, w, h, h1 => by
    have hl : p.length = q.length := by simpa using h
    unfold Lt at *
    rw [List.cons_append, List.cons_append, lessB]
    rw [lessB] at h1
    by_cases e : a = b
    · rw [if_pos e] at h1 ⊢; exact Lt.snoc p q w hl h1
    · rw [if_neg e] at h1 ⊢; exact h1
/-- the first place where they are not the same -/
theorem Lt.of_first : ∀ (i : Nat) (p q : List Nat) (a b : Nat), (∀ j, j < i → p[j]? = q[j]?) → p[i]? = some a → q[i]? = some b → a < b → Lt p q
  | _, [], _, _, _, _, h, _, _ => by simp at h
  | _, _ :: _, [], _, _, _, _, h, _ => by simp at h
  | 0, x :: p, y :: q, a, b, _, h1, h2, hab => by
    simp at h1 h2
    subst h1; subst h2
    unfold Lt; rw [lessB, if_neg (by omega)]; simpa using hab
  | i + 1, x :: p, y :: q, a, b, h0, h1, h2, hab => by
    have e := h0 0 (by omega)
    simp at e
    subst e
    unfold Lt; rw [lessB, if_pos rfl]
    exact Lt.of_first i p q a b (fun j hj => by have := h0 (j + 1) (by omega); simpa using this) (by simpa using h1) (by simpa using h2) hab

/-- p is a shortest way from st to u. -/
structure SP (bs : List (List Nat)) (d : List Int) (st u : Nat) (p : List Nat) : Prop where
  len : d[u]? = some ((p.length : Int) - 1)
  pos : 0 < p.length
  head : p[0]? = some st
  last : p[p.length - 1]? = some u
  step : ∀ (i a b : Nat), p[i]? = some a → p[i+1]? = some b → b ∈ bs.getD a []
def Least (bs : List (List Nat)) (d : List Int) (st u : Nat) (p : List Nat) : Prop := SP bs d st u p ∧ ∀ q, SP bs d st u q → q = p ∨ Lt p q

section
variable {bs : List (List Nat)} {d : List Int} {n st u v w : Nat} {p q : List Nat}
theorem SP.same_len (h : SP bs d st u p) (k : SP bs d st u q) : p.length = q.length := by
  have h1 := h.len
  rw [k.len] at h1
  have := Option.some.inj h1
  omega
theorem Least.unique (h : Least bs d st u p) (k : Least bs d st u q) : p = q := by
  rcases h.2 q k.1 with e | e
  · exact e.symm
  · rcases k.2 p h.1 with e' | e'
    · exact e'
    · exact absurd (e.trans e') (Lt.irrefl _)
theorem SP.start (hd : IsDist bs n st d) : SP bs d st st [st] := ⟨by rw [hd.st0]; rfl, by simp, rfl, rfl, fun i a b _ h => by simp at h⟩
theorem SP.only (hd : IsDist bs n st d) (h : SP bs d st st p) : p = [st] := by
  have h1 := h.len
  rw [hd.st0] at h1
  have := Option.some.inj h1
  have hl : p.length = 1 := by have := h.pos; omega
  match p, hl with
  | [x], _ => have := h.head; simp at this; rw [this]
theorem Least.start (hd : IsDist bs n st d) : Least bs d st st [st] := ⟨.start hd, fun q hq => .inl (hq.only hd)⟩
theorem SP.snoc (h : SP bs d st v p) (hw : w ∈ bs.getD v []) {x : Int} (hv : d[v]? = some x) (hdw : d[w]? = some (x + 1)) : SP bs d st w (p ++ [w]) := by
  have h1 := h.len
  rw [hv] at h1
  have h2 := Option.some.inj h1
  have hp := h.pos
  refine ⟨by rw [hdw]; congr 1; simp; omega, by simp, by rw [List.getElem?_append_left hp]; exact h.head, by simp, ?_⟩
  intro i a b ha hb
  have hbl := (List.getElem?_eq_some_iff.1 hb).1
  simp at hbl
  by_cases hi : i + 1 < p.length
  · rw [List.getElem?_append_left hi] at hb
    rw [List.getElem?_append_left (by omega)] at ha
    exact h.step i a b ha hb
  · have e : i = p.length - 1 := by omega
    rw [List.getElem?_append_left (by omega), e, h.last] at ha
    cases ha
    rw [List.getElem?_append_right (by omega), show i + 1 - p.length = 0 by omega] at hb
    simp at hb
    subst hb
    exact hw
theorem SP.near (hd : IsDist bs n st d) (h : SP bs d st u p) : ∀ (i x : Nat), p[i]? = some x → ∃ y : Int, d[x]? = some y ∧ 0 ≤ y ∧ y ≤ i := by
  intro i
  induction i with
  | zero => intro x hx; rw [h.head] at hx; cases hx; exact ⟨0, hd.st0, by omega, by omega⟩
  | succ i ih =>
    intro x hx
    have hl := (List.getElem?_eq_some_iff.1 hx).1
    obtain ⟨a, ha⟩ : ∃ a, p[i]? = some a := ⟨_, List.getElem?_eq_getElem (by omega)⟩
    obtain ⟨y, h1, h2, h3⟩ := ih a ha
    obtain ⟨z, h4, h5, h6⟩ := hd.near a y h1 h2 x (h.step i a x ha hx)
    exact ⟨z, h4, h5, by omega⟩
theorem SP.split (hd : IsDist bs n st d) (h : SP bs d st w q) {k : Nat} (hk : d[w]? = some ((k : Int) + 1)) : ∃ v q', q = q' ++ [w] ∧ SP bs d st v q' ∧ w ∈ bs.getD v [] ∧ d[v]? = some (k : Int) := by
  have h1 := h.len
  rw [hk] at h1
  have hl : q.length = k + 2 := by have := Option.some.inj h1; omega
  obtain ⟨v, hv⟩ : ∃ v, q[k]? = some v := ⟨_, List.getElem?_eq_getElem (by omega)⟩
  have hw : q[k+1]? = some w := by have := h.last; rw [hl] at this; exact this
  obtain ⟨y, h2, h3, h4⟩ := h.near hd k v hv
  have hst := h.step k v w hv hw
  obtain ⟨z, h5, h6, h7⟩ := hd.near v y h2 h3 w hst
  rw [hk] at h5
  have hz := Option.some.inj h5
  have hyk : y = k := by omega
  subst hyk
  refine ⟨v, q.take (k + 1), ?_, ⟨?_, ?_, ?_, ?_, ?_⟩, hst, h2⟩
  · obtain ⟨hl', he⟩ := List.getElem?_eq_some_iff.1 hw
    conv => lhs; rw [← List.take_length (l := q), hl, List.take_succ_eq_append_getElem hl', he]
  · rw [h2]; congr 1; rw [List.length_take]; omega
  · rw [List.length_take]; omega
  · rw [List.getElem?_take, if_pos (by omega)]; exact h.head
  · rw [List.length_take, show min (k + 1) q.length - 1 = k by omega, List.getElem?_take, if_pos (by omega)]; exact hv
  · intro i a b ha hb
    rw [List.getElem?_take] at ha hb
    split at ha
    · split at hb
      · exact h.step i a b ha hb
      · cases hb
    · cases ha

/-- how far the search for the best way to w has come: those below k have been asked -/
def BestTo (bs : List (List Nat)) (d : List Int) (ways : Nat → List Nat) (w far k : Nat) (cur : List Nat) : Prop :=
  (cur = [] ∧ ∀ v, v < k → ¬ (d[v]? = some ((far : Int) - 1) ∧ w ∈ bs.getD v [])) ∨
  (∃ v, v < k ∧ d[v]? = some ((far : Int) - 1) ∧ w ∈ bs.getD v [] ∧ cur = ways v ++ [w] ∧ ∀ v', v' < k → d[v']? = some ((far : Int) - 1) → w ∈ bs.getD v' [] → cur = ways v' ++ [w] ∨ Lt cur (ways v' ++ [w]))

theorem BestTo.start (bs : List (List Nat)) (d : List Int) (ways : Nat → List Nat) (w far : Nat) : BestTo bs d ways w far 0 [] := .inl ⟨rfl, fun v h => by omega⟩
theorem BestTo.pass {ways : Nat → List Nat} {far k : Nat} {cur : List Nat} (h : BestTo bs d ways w far k cur) (hk : ¬ (d[k]? = some ((far : Int) - 1) ∧ w ∈ bs.getD k [])) : BestTo bs d ways w far (k + 1) cur := by
  rcases h with ⟨h1, h2⟩ | ⟨v, h1, h2, h3, h4, h5⟩
  · left
    refine ⟨h1, fun v hv => ?_⟩
    by_cases e : v = k
    · subst e; exact hk
    · exact h2 v (by omega)
  · right
    refine ⟨v, by omega, h2, h3, h4, fun v' hv' a b => ?_⟩
    by_cases e : v' = k
    · subst e; exact absurd ⟨a, b⟩ hk
    · exact h5 v' (by omega) a b
theorem BestTo.take {ways : Nat → List Nat} {far k : Nat} {cur : List Nat} (h : BestTo bs d ways w far k cur) (h1 : d[k]? = some ((far : Int) - 1)) (h2 : w ∈ bs.getD k []) (hc : cur = [] ∨ Lt (ways k ++ [w]) cur) : BestTo bs d ways w far (k + 1) (ways k ++ [w]) := by
  right
  refine ⟨k, by omega, h1, h2, rfl, fun v' hv' a b => ?_⟩
  by_cases e : v' = k
  · subst e; exact .inl rfl
  · rcases h with ⟨h3, h4⟩ | ⟨v, h3, h4, h5, h6, h7⟩
    · exact absurd ⟨a, b⟩ (h4 v' (by omega))
    · rcases hc with hc | hc
      · rw [hc] at h6; simp at h6
      · rcases h7 v' (by omega) a b with h8 | h8
        · rw [← h8]; exact .inr hc
        · exact .inr (hc.trans h8)
theorem BestTo.leave {ways : Nat → List Nat} {far k : Nat} {cur : List Nat} (h : BestTo bs d ways w far k cur) (hc : cur ≠ []) (hl : (ways k ++ [w]).length = cur.length) (hn : ¬ Lt (ways k ++ [w]) cur) : BestTo bs d ways w far (k + 1) cur := by
  rcases h with ⟨h1, _⟩ | ⟨v, h1, h2, h3, h4, h5⟩
  · exact absurd h1 hc
  · right
    refine ⟨v, by omega, h2, h3, h4, fun v' hv' a b => ?_⟩
    by_cases e : v' = k
    · subst e
      rcases Lt.total _ _ hl with h | h | h
      · exact absurd h hn
      · exact .inl h.symm
      · exact .inr h
    · exact h5 v' (by omega) a b
theorem BestTo.least (hd : IsDist bs n st d) {ways : Nat → List Nat} {far : Nat} {cur : List Nat} (h : BestTo bs d ways w (far + 1) n cur) (hw : d[w]? = some ((far : Int) + 1))
    (hprev : ∀ v, d[v]? = some (far : Int) → Least bs d st v (ways v)) : Least bs d st w cur := by
  have e : ((far + 1 : Nat) : Int) - 1 = far := by omega
  unfold BestTo at h
  rw [e] at h
  rcases h with ⟨h1, h2⟩ | ⟨v, h1, h2, h3, h4, h5⟩
  · obtain ⟨v, hv1, hv2⟩ := hd.up w _ hw (by omega)
    have hvl := (List.getElem?_eq_some_iff.1 hv2).1
    rw [hd.len] at hvl
    exact absurd ⟨by rw [hv2]; congr 1 <;> omega, hv1⟩ (h2 v hvl)
  · refine ⟨by rw [h4]; exact (hprev v h2).1.snoc h3 h2 hw, fun q hq => ?_⟩
    obtain ⟨v', q', rfl, hq', hw', hv'⟩ := hq.split hd hw
    have hvl := (List.getElem?_eq_some_iff.1 hv').1
    rw [hd.len] at hvl
    have hmin := h5 v' hvl hv' hw'
    rcases (hprev v' hv').2 q' hq' with e' | e'
    · rw [e']
      rcases hmin with h | h
      · exact .inl h.symm
      · exact .inr h
    · have hsn := Lt.snoc _ _ w ((hprev v' hv').1.same_len hq') e'
      rcases hmin with h | h
      · rw [h]; exact .inr hsn
      · exact .inr (h.trans hsn)
end

/-- the program's path is the least one -/
theorem pathL_least {n : Nat} {es : List (Int × Int)} (h : rightB (n : Int) es = true) {s t : Nat} (hs : s < n) (ht : t < n) (hpos : 0 ≤ (awayL (besideL n es) t).getD s 0) :
    Least (besideL n es) (awayL (besideL n es) s) s t (pathL (besideL n es) s t) := by
  have hds := away_dist h hs
  have hdt := away_dist h ht
  obtain ⟨z, hz⟩ : ∃ z, (awayL (besideL n es) t)[s]? = some z := ⟨_, List.getElem?_eq_getElem (by rw [hdt.len]; exact hs)⟩
  rw [List.getD, hz] at hpos
  simp at hpos
  obtain ⟨k, rfl⟩ := Int.eq_ofNat_of_zero_le hpos
  obtain ⟨hgw, hpl, hp0, hpk⟩ := path_good h ht hz
  have hsym := hds.symm (adj_sym h) hdt ht hs
  rw [hz] at hsym
  have hsome : ∀ {u v : Nat}, nxt (besideL n es) (awayL (besideL n es) t) u = some v → u < n ∧ v ∈ (besideL n es).getD u [] := by
    intro u v hu
    have h1 := (nxt_some hu).1
    refine ⟨?_, h1⟩
    rcases Nat.lt_or_ge u n with h2 | h2
    · exact h2
    · simp [List.getD, besideL_get, show ¬ u < n by omega] at h1
  have hsp : SP (besideL n es) (awayL (besideL n es) s) s t (pathL (besideL n es) s t) := by
    refine ⟨by rw [hsym, hpl]; congr 1 <;> omega, by omega, hp0, by rw [hpl]; exact hpk, fun i a b ha hb => (hsome (hgw i a b ha hb)).2⟩
  refine ⟨hsp, fun q hq => ?_⟩
  have hql : q.length = k + 1 := by rw [← hpl]; exact hq.same_len hsp
  -- how far from t: along the path, and along q
  have hfarP : ∀ i, i ≤ k → ∀ x, (pathL (besideL n es) s t)[i]? = some x → (awayL (besideL n es) t)[x]? = some ((k : Int) - i) := by
    intro i
    induction i with
    | zero => intro _ x hx; rw [hp0] at hx; cases hx; rw [hz]; congr 1 <;> omega
    | succ i ih =>
      intro hi x hx
      obtain ⟨a, ha⟩ : ∃ a, (pathL (besideL n es) s t)[i]? = some a := ⟨_, List.getElem?_eq_getElem (by omega)⟩
      have h1 := ih (by omega) a ha
      have h2 := hgw i a x ha hx
      have h3 := (nxt_some h2).2
      have hxn := beside_lt h a (hsome h2).1 x (hsome h2).2
      obtain ⟨y, hy⟩ : ∃ y, (awayL (besideL n es) t)[x]? = some y := ⟨_, List.getElem?_eq_getElem (by rw [hdt.len]; exact hxn)⟩
      simp only [List.getD, h1, hy, Option.getD_some] at h3
      rw [hy]; congr 1; omega
  have hfarQ : ∀ r, r ≤ k → ∀ x, q[k - r]? = some x → ∃ y : Int, (awayL (besideL n es) t)[x]? = some y ∧ 0 ≤ y ∧ y ≤ r := by
    intro r
    induction r with
    | zero =>
      intro _ x hx
      have := hq.last
      rw [hql] at this
      simp at this
      rw [Nat.sub_zero, this] at hx
      cases hx
      exact ⟨0, hdt.st0, by omega, by omega⟩
    | succ r ih =>
      intro hr x hx
      obtain ⟨b, hb⟩ : ∃ b, q[k - r]? = some b := ⟨_, List.getElem?_eq_getElem (by omega)⟩
      obtain ⟨y, h1, h2, h3⟩ := ih (by omega) b hb
      have hst := hq.step (k - (r + 1)) x b hx (by rw [show k - (r + 1) + 1 = k - r by omega]; exact hb)
      obtain ⟨z', h4, h5, h6⟩ := hdt.near b y h1 h2 x (adj_sym h x b hst)
      exact ⟨z', h4, h5, by omega⟩
  have key : ∀ i, i ≤ k + 1 → (∀ j, j < i → q[j]? = (pathL (besideL n es) s t)[j]?) ∨ Lt (pathL (besideL n es) s t) q := by
    intro i
    induction i with
    | zero => intro _; exact .inl fun j hj => by omega
    | succ i ih =>
      intro hi
      rcases ih (by omega) with hsame | hlt
      · rcases Nat.eq_zero_or_pos i with h0 | h0
        · subst h0
          left
          intro j hj
          obtain rfl : j = 0 := by omega
          rw [hq.head, hp0]
        · obtain ⟨i', rfl⟩ : ∃ i', i = i' + 1 := ⟨i - 1, by omega⟩
          obtain ⟨a, ha⟩ : ∃ a, (pathL (besideL n es) s t)[i']? = some a := ⟨_, List.getElem?_eq_getElem (by omega)⟩
          obtain ⟨b, hb⟩ : ∃ b, (pathL (besideL n es) s t)[i'+1]? = some b := ⟨_, List.getElem?_eq_getElem (by omega)⟩
          obtain ⟨c, hc⟩ : ∃ c, q[i'+1]? = some c := ⟨_, List.getElem?_eq_getElem (by omega)⟩
          have hqa : q[i']? = some a := by rw [hsame i' (by omega), ha]
          have hac := hq.step i' a c hqa hc
          have hnx := hgw i' a b ha hb
          have han := (hsome hnx).1
          obtain ⟨n1, n2, n3⟩ := nxt_least h han hnx
          have hfa := hfarP i' (by omega) a ha
          obtain ⟨y, h1, h2, h3⟩ := hfarQ (k - (i' + 1)) (by omega) c (by rw [show k - (k - (i' + 1)) = i' + 1 by omega]; exact hc)
          obtain ⟨y2, h4, h5, h6⟩ := hdt.near c y h1 h2 a (adj_sym h a c hac)
          rw [hfa] at h4
          have he := Option.some.inj h4
          have hyk : y = (k : Int) - i' - 1 := by omega
          rw [beside_getD han] at hac
          rcases Nat.lt_trichotomy b c with hbc | hbc | hbc
          · right
            exact Lt.of_first (i' + 1) _ _ b c (fun j hj => (hsame j hj).symm) hb hc hbc
          · left
            intro j hj
            by_cases e : j < i' + 1
            · exact hsame j e
            · obtain rfl : j = i' + 1 := by omega
              rw [hb, hc, hbc]
          · exfalso
            have := n3 c hac hbc
            simp only [List.getD, h1, hfa, Option.getD_some] at this
            omega
      · exact .inr hlt
  rcases key (k + 1) (Nat.le_refl _) with hsame | hlt
  · left
    apply List.ext_getElem?
    intro j
    by_cases hj : j < k + 1
    · exact hsame j hj
    · rw [List.getElem?_eq_none (by omega), List.getElem?_eq_none (by omega)]
  · exact .inr hlt
end Go.Proofs.Ytddndhhhmlcgjaa
