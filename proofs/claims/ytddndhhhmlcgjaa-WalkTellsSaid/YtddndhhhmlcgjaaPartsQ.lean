/- What parts are. -/
import Derived.Test.YtddndhhhmlcgjaaPartsP
import Derived.Test.YtddndhhhmlcgjaaWalkQ
import Derived.Test.YtddndhhhmlcgjaaLawAwayP
namespace Go.Proofs.Ytddndhhhmlcgjaa

/-- those whom v reaches -/
abbrev reachL (n : Nat) (es : List (Int × Int)) (v : Nat) : List Nat := (walkL (besideL n es) v).1

section
variable {n : Nat} {es : List (Int × Int)}

theorem reach_dist (h : rightB n es = true) {v : Nat} (hv : v < n) (x : Nat) : x ∈ reachL n es v ↔ ∃ k : Nat, (awayL (besideL n es) v)[x]? = some (k : Int) := by
  obtain ⟨f', hi⟩ := walkL_inv (besideL_length n es) (beside_lt h) hv
  have hd := away_dist h hv
  constructor
  · intro hx
    have key : ∀ (i x : Nat), (reachL n es v)[i]? = some x → ∃ k : Nat, (awayL (besideL n es) v)[x]? = some (k : Int) := by
      intro i
      induction i using Nat.strongRecOn with
      | ind i ih =>
        intro x hx
        rcases Nat.eq_zero_or_pos i with h0 | h0
        · subst h0
          have := hi.head
          rw [this] at hx
          cases hx
          exact ⟨0, by simpa using hd.st0⟩
        · obtain ⟨u, _, h2, h3, _⟩ := hi.from_ i x h0 hx
          obtain ⟨j, hj, hju⟩ := List.mem_take_iff_getElem.1 h2
          have hj' := Nat.lt_min.1 hj
          obtain ⟨k, hk⟩ := ih j hj'.1 u (by rw [List.getElem?_eq_getElem hj'.2, hju])
          obtain ⟨y, h4, h5, _⟩ := hd.near u k hk (by omega) x h3
          exact ⟨y.toNat, by rw [h4]; congr 1; omega⟩
    obtain ⟨i, hi', rfl⟩ := List.getElem_of_mem hx
    exact key i _ (by simp)
  · rintro ⟨k, hk⟩
    induction k generalizing x with
    | zero =>
      have := hd.zero x (by simpa using hk)
      subst this
      exact List.mem_of_getElem? hi.head
    | succ k ih =>
      obtain ⟨u, h1, h2⟩ := hd.up x _ hk (by omega)
      have hu := ih u (by rw [h2]; congr 1; omega)
      exact hi.done u hu (by simp) x h1

theorem reach_lt (h : rightB n es = true) {v x : Nat} (hv : v < n) (hx : x ∈ reachL n es v) : x < n := by
  obtain ⟨f', hi⟩ := walkL_inv (besideL_length n es) (beside_lt h) hv
  exact hi.lt x hx
theorem reach_nd (h : rightB n es = true) {v : Nat} (hv : v < n) : (reachL n es v).Nodup := by
  obtain ⟨f', hi⟩ := walkL_inv (besideL_length n es) (beside_lt h) hv
  exact hi.nd
theorem reach_refl (h : rightB n es = true) {v : Nat} (hv : v < n) : v ∈ reachL n es v := by
  obtain ⟨f', hi⟩ := walkL_inv (besideL_length n es) (beside_lt h) hv
  exact List.mem_of_getElem? hi.head
theorem reach_symm (h : rightB n es = true) {a b : Nat} (ha : a < n) (hb : b < n) (hab : b ∈ reachL n es a) : a ∈ reachL n es b := by
  rw [reach_dist h ha] at hab
  rw [reach_dist h hb]
  have := (away_dist h ha).symm (adj_sym h) (away_dist h hb) hb ha
  rw [← this]; exact hab
theorem reach_trans (h : rightB n es = true) {a b v : Nat} (ha : a < n) (hb : b < n) (hab : b ∈ reachL n es a) (hbv : v ∈ reachL n es b) : v ∈ reachL n es a := by
  have hv := reach_lt h hb hbv
  have h1 := reach_symm h ha hb hab
  have h2 := reach_symm h hb hv hbv
  rw [reach_dist h hv] at h2
  rw [reach_dist h ha] at hab
  obtain ⟨k, hk⟩ := h2
  obtain ⟨y, hy⟩ := hab
  obtain ⟨z, h3, h4, _⟩ := (away_dist h hv).back (adj_sym h) (away_dist h ha) k b y hk hy (by omega)
  rw [reach_dist h ha]
  exact ⟨z.toNat, by rw [h3]; congr 1; omega⟩
theorem reach_beside (h : rightB n es = true) {a b v : Nat} (ha : a < n) (hab : b ∈ reachL n es a) (hv : v ∈ adj es b) : v ∈ reachL n es a := by
  obtain ⟨f', hi⟩ := walkL_inv (besideL_length n es) (beside_lt h) ha
  refine hi.done b hab (by simp) v ?_
  rw [beside_getD (hi.lt b hab)]; exact hv

def isHead (n : Nat) (es : List (Int × Int)) (v : Nat) : Bool := (List.range v).all fun u => !(reachL n es u).contains v
theorem isHead_iff {v : Nat} : isHead n es v = true ↔ ∀ u, u < v → v ∉ reachL n es u := by
  simp [isHead]
def headsL (n : Nat) (es : List (Int × Int)) : List Nat := (List.range n).filter (isHead n es)

theorem parts_fold (h : rightB n es = true) : ∀ k, k ≤ n →
    ((List.range k).foldl (parts1 (besideL n es)) ([], [])).2 = ((List.range k).filter (isHead n es)).map (fun v => sortN (reachL n es v)) ∧
    ∀ x, x ∈ ((List.range k).foldl (parts1 (besideL n es)) ([], [])).1 ↔ ∃ u, u < k ∧ x ∈ reachL n es u := by
  intro k
  induction k with
  | zero => intro _; simp
  | succ k ih =>
    intro hk
    obtain ⟨h1, h2⟩ := ih (by omega)
    rw [List.range_succ, List.foldl_append, List.filter_append, List.map_append]
    generalize (List.range k).foldl (parts1 (besideL n es)) ([], []) = s at h1 h2
    simp only [List.foldl_cons, List.foldl_nil, parts1]
    by_cases hc : k ∈ s.1
    · obtain ⟨u, hu, hku⟩ := (h2 k).1 hc
      have hno : isHead n es k = false := by
        rw [Bool.eq_false_iff, Ne, isHead_iff]
        intro h3; exact h3 u hu hku
      rw [if_pos (by simpa using hc)]
      refine ⟨by simp [hno, h1], fun x => ?_⟩
      rw [h2]
      constructor
      · rintro ⟨u', h3, h4⟩; exact ⟨u', by omega, h4⟩
      · rintro ⟨u', h3, h4⟩
        by_cases e : u' = k
        · subst e; exact ⟨u, hu, reach_trans h (by omega) (by omega) hku h4⟩
        · exact ⟨u', by omega, h4⟩
    · have hyes : isHead n es k = true := by
        rw [isHead_iff]
        intro u hu hku
        exact hc ((h2 k).2 ⟨u, hu, hku⟩)
      rw [if_neg (by simpa using hc)]
      refine ⟨by simp [hyes, h1], fun x => ?_⟩
      rw [List.mem_append, h2]
      constructor
      · rintro (⟨u', h3, h4⟩ | h4)
        · exact ⟨u', by omega, h4⟩
        · exact ⟨k, by omega, h4⟩
      · rintro ⟨u', h3, h4⟩
        by_cases e : u' = k
        · subst e; exact .inr h4
        · exact .inl ⟨u', by omega, h4⟩

theorem partsL_eq (h : rightB n es = true) : partsL (besideL n es) = (headsL n es).map (fun v => sortN (reachL n es v)) := by
  unfold partsL headsL
  rw [besideL_length]
  exact (parts_fold h n (Nat.le_refl _)).1

theorem sortN_rise {l : List Nat} (hn : l.Nodup) : (sortN l).Pairwise (· < ·) := by
  have h1 : (sortN l).Pairwise (fun x y => decide (x ≤ y) = true) := List.pairwise_mergeSort (by intro a b c; simp; omega) (by intro a b; simp; omega) l
  have h2 : (sortN l).Nodup := (List.mergeSort_perm l _).nodup_iff.2 hn
  have h3 := h1.and h2
  exact h3.imp (by intro a b; simp; omega)

theorem head_least (h : rightB n es = true) {v : Nat} (hv : v < n) (hh : isHead n es v = true) : ∀ x ∈ reachL n es v, v ≤ x := by
  intro x hx
  rcases Nat.lt_or_ge x v with h1 | h1
  · have hxn := reach_lt h hv hx
    exact absurd (reach_symm h hv hxn hx) (isHead_iff.1 hh x h1)
  · exact h1

/-- What the parts are. -/
structure PartsOk (n : Nat) (es : List (Int × Int)) (ps : List (List Nat)) (pid : Nat → Nat) : Prop where
  len : ps.length ≤ n
  ne : ∀ (i : Nat) (p : List Nat), ps[i]? = some p → ∃ h, p[0]? = some h ∧ h < n
  heads : ∀ (i : Nat) (p q : List Nat) (a b : Nat), ps[i]? = some p → ps[i+1]? = some q → p[0]? = some a → q[0]? = some b → a < b
  rise : ∀ (i : Nat) (p : List Nat) (k a b : Nat), ps[i]? = some p → p[k]? = some a → p[k+1]? = some b → a < b
  lt : ∀ (i : Nat) (p : List Nat), ps[i]? = some p → ∀ x ∈ p, x < n
  id : ∀ (i : Nat) (p : List Nat), ps[i]? = some p → ∀ x ∈ p, pid x = i
  new : ∀ (i : Nat) (p : List Nat) (k x : Nat), ps[i]? = some p → p[k]? = some x → x ∉ (ps.take i).flatten ++ p.take k
  all : ps.flatten.length = n ∧ ∀ x, x < n → x ∈ ps.flatten
  edge : ∀ a b : Nat, a < n → b ∈ adj es a → pid a = pid b
  way : ∀ a b : Nat, a < n → b < n → (pid a = pid b ↔ 0 ≤ (awayL (besideL n es) b).getD a 0)

theorem parts_ok (h : rightB n es = true) : ∃ pid, PartsOk n es (partsL (besideL n es)) pid := by
  rw [partsL_eq h]
  obtain ⟨H, hH⟩ : ∃ H, H = headsL n es := ⟨_, rfl⟩
  rw [← hH]
  have hmem : ∀ v, v ∈ H ↔ v < n ∧ isHead n es v = true := fun v => by rw [hH]; simp [headsL]
  have hrise : H.Pairwise (· < ·) := by rw [hH]; exact List.pairwise_lt_range.filter _
  have hlen : H.length ≤ n := by rw [hH]; unfold headsL; exact Nat.le_trans (List.length_filter_le _ _) (by simp)
  have hone : ∀ a b x, a ∈ H → b ∈ H → x ∈ reachL n es a → x ∈ reachL n es b → a = b := by
    intro a b x ha hb hxa hxb
    obtain ⟨ha1, ha2⟩ := (hmem a).1 ha
    obtain ⟨hb1, hb2⟩ := (hmem b).1 hb
    have hx := reach_lt h ha1 hxa
    have h1 := reach_trans h ha1 hx hxa (reach_symm h hb1 hx hxb)
    have h2 := head_least h ha1 ha2 b h1
    have h3 := head_least h hb1 hb2 a (reach_symm h ha1 hb1 h1)
    omega
  have hex : ∀ x, x < n → ∃ v ∈ H, x ∈ reachL n es v := by
    intro x hx
    have key : ∀ m, ∀ u, u ≤ m → u < n → x ∈ reachL n es u → ∃ v ∈ H, x ∈ reachL n es v := by
      intro m
      induction m with
      | zero =>
        intro u hu hun hxu
        exact ⟨u, (hmem u).2 ⟨hun, isHead_iff.2 fun y hy => absurd hy (by omega)⟩, hxu⟩
      | succ m ih =>
        intro u hu hun hxu
        by_cases hh : isHead n es u = true
        · exact ⟨u, (hmem u).2 ⟨hun, hh⟩, hxu⟩
        · rw [isHead_iff] at hh
          have : ∃ y, y < u ∧ u ∈ reachL n es y := by
            refine Classical.byContradiction fun hno => hh fun y hy hyu => hno ⟨y, hy, hyu⟩
          obtain ⟨y, hy, hyu⟩ := this
          exact ih y (by omega) (by omega) (reach_trans h (by omega) hun hyu hxu)
    exact key x x (Nat.le_refl _) hx (reach_refl h hx)
  obtain ⟨F, hF⟩ : ∃ F : Nat → List Nat, F = fun v => sortN (reachL n es v) := ⟨_, rfl⟩
  rw [← hF]
  have hFm : ∀ v x, x ∈ F v ↔ x ∈ reachL n es v := fun v x => by rw [hF]; exact mem_sortN _ _
  have hget : ∀ (i : Nat) (p : List Nat), (H.map F)[i]? = some p → ∃ v, H[i]? = some v ∧ p = F v ∧ v ∈ H ∧ v < n ∧ isHead n es v = true := by
    intro i p hp
    rw [List.getElem?_map] at hp
    cases hv : H[i]? with
    | none => rw [hv] at hp; cases hp
    | some v =>
      rw [hv] at hp
      have hvm := List.mem_of_getElem? hv
      obtain ⟨h1, h2⟩ := (hmem v).1 hvm
      exact ⟨v, rfl, (by simpa using hp.symm), hvm, h1, h2⟩
  have hFr : ∀ v, v < n → (F v).Pairwise (· < ·) := fun v hv => by rw [hF]; exact sortN_rise (reach_nd h hv)
  have hF0 : ∀ v, v < n → isHead n es v = true → (F v)[0]? = some v := by
    intro v hv hh
    have hvm : v ∈ F v := (hFm v v).2 (reach_refl h hv)
    obtain ⟨j, hj, hjv⟩ := List.getElem_of_mem hvm
    rcases Nat.eq_zero_or_pos j with h0 | h0
    · subst h0; rw [List.getElem?_eq_getElem hj, hjv]
    · have h1 := List.pairwise_iff_getElem.1 (hFr v hv) 0 j (by omega) hj h0
      have h2 := head_least h hv hh (F v)[0] ((hFm v _).1 (List.getElem_mem _))
      omega
  have hidx : ∀ (i j v w : Nat), H[i]? = some v → H[j]? = some w → i < j → v < w := by
    intro i j v w hv hw hij
    obtain ⟨hi, rfl⟩ := List.getElem?_eq_some_iff.1 hv
    obtain ⟨hj, rfl⟩ := List.getElem?_eq_some_iff.1 hw
    exact List.pairwise_iff_getElem.1 hrise i j hi hj hij
  obtain ⟨pid, hpid⟩ : ∃ pid : Nat → Nat, pid = fun x => H.findIdx fun v => (F v).contains x := ⟨_, rfl⟩
  have hid : ∀ (i v x : Nat), H[i]? = some v → x ∈ F v → pid x = i := by
    intro i v x hv hx
    obtain ⟨hi, hiv⟩ := List.getElem?_eq_some_iff.1 hv
    rw [hpid]
    show H.findIdx _ = i
    rw [List.findIdx_eq hi]
    refine ⟨by rw [hiv]; simpa using hx, fun j hj => ?_⟩
    rw [Bool.eq_false_iff]
    intro hc
    have hc' : x ∈ F H[j] := by simpa using hc
    have e := hone H[j] v x (List.getElem_mem _) (List.mem_of_getElem? hv) ((hFm _ _).1 hc') ((hFm _ _).1 hx)
    have := hidx j i H[j] v (by simp) hv hj
    omega
  have hids : ∀ x, x < n → ∃ i v, H[i]? = some v ∧ x ∈ F v ∧ pid x = i ∧ v < n := by
    intro x hx
    obtain ⟨v, hv, hxv⟩ := hex x hx
    obtain ⟨i, hi, hiv⟩ := List.getElem_of_mem hv
    have h1 : H[i]? = some v := by rw [List.getElem?_eq_getElem hi, hiv]
    exact ⟨i, v, h1, (hFm _ _).2 hxv, hid i v x h1 ((hFm _ _).2 hxv), ((hmem v).1 hv).1⟩
  have hnd : (H.map F).flatten.Nodup := by
    unfold List.Nodup
    rw [List.pairwise_flatten]
    refine ⟨?_, ?_⟩
    · intro p hp
      obtain ⟨v, hv, rfl⟩ := List.mem_map.1 hp
      exact (hFr v ((hmem v).1 hv).1).imp (by intro a b; omega)
    · rw [List.pairwise_map]
      refine hrise.imp_of_mem fun {a b} ha hb hab x hx y hy e => ?_
      subst e
      have := hone a b x ha hb ((hFm _ _).1 hx) ((hFm _ _).1 hy)
      omega
  have hfl : ∀ x, x ∈ (H.map F).flatten ↔ x < n := by
    intro x
    rw [List.mem_flatten]
    constructor
    · rintro ⟨p, hp, hx⟩
      obtain ⟨v, hv, rfl⟩ := List.mem_map.1 hp
      exact reach_lt h ((hmem v).1 hv).1 ((hFm _ _).1 hx)
    · intro hx
      obtain ⟨i, v, h1, h2, _⟩ := hids x hx
      exact ⟨F v, List.mem_map.2 ⟨v, List.mem_of_getElem? h1, rfl⟩, h2⟩
  refine ⟨pid, by simpa using hlen, ?_, ?_, ?_, ?_, ?_, ?_, ⟨?_, fun x hx => (hfl x).2 hx⟩, ?_, ?_⟩
  · intro i p hp
    obtain ⟨v, h1, rfl, h3, h4, h5⟩ := hget i p hp
    exact ⟨v, hF0 v h4 h5, h4⟩
  · intro i p q a b hp hq ha hb
    obtain ⟨v, h1, rfl, h3, h4, h5⟩ := hget i p hp
    obtain ⟨w, h1', rfl, h3', h4', h5'⟩ := hget (i + 1) q hq
    rw [hF0 v h4 h5] at ha
    rw [hF0 w h4' h5'] at hb
    cases ha; cases hb
    exact hidx i (i + 1) _ _ h1 h1' (by omega)
  · intro i p k a b hp ha hb
    obtain ⟨v, h1, rfl, h3, h4, h5⟩ := hget i p hp
    obtain ⟨hk, rfl⟩ := List.getElem?_eq_some_iff.1 ha
    obtain ⟨hk', rfl⟩ := List.getElem?_eq_some_iff.1 hb
    exact List.pairwise_iff_getElem.1 (hFr v h4) k (k + 1) hk hk' (by omega)
  · intro i p hp x hx
    obtain ⟨v, h1, rfl, h3, h4, h5⟩ := hget i p hp
    exact reach_lt h h4 ((hFm _ _).1 hx)
  · intro i p hp x hx
    obtain ⟨v, h1, rfl, h3, h4, h5⟩ := hget i p hp
    exact hid i v x h1 hx
  · intro i p k x hp hx hmm
    obtain ⟨v, h1, rfl, h3, h4, h5⟩ := hget i p hp
    rcases List.mem_append.1 hmm with h6 | h6
    · obtain ⟨q, hq, hxq⟩ := List.mem_flatten.1 h6
      obtain ⟨j, hj, hjq⟩ := List.mem_take_iff_getElem.1 hq
      have hj' := Nat.lt_min.1 hj
      obtain ⟨w, h1', e, h3', h4', h5'⟩ := hget j q (by rw [List.getElem?_eq_getElem hj'.2, hjq])
      have a1 := hid i v x h1 (List.mem_of_getElem? hx)
      have a2 := hid j w x h1' (e ▸ hxq)
      omega
    · obtain ⟨j, hj, hjx⟩ := List.mem_take_iff_getElem.1 h6
      have hj' := Nat.lt_min.1 hj
      obtain ⟨hk, hkx⟩ := List.getElem?_eq_some_iff.1 hx
      have := List.pairwise_iff_getElem.1 (hFr v h4) j k hj'.2 hk hj'.1
      omega
  · have hp : (H.map F).flatten.Perm (List.range n) := (List.perm_ext_iff_of_nodup hnd List.nodup_range).2 fun x => by rw [hfl]; simp
    simpa using hp.length_eq
  · intro a b ha hb
    obtain ⟨i, v, h1, h2, h3, h4⟩ := hids a ha
    rw [h3]
    exact (hid i v b h1 ((hFm _ _).2 (reach_beside h h4 ((hFm _ _).1 h2) hb))).symm
  · intro a b ha hb
    have hd : a ∈ reachL n es b ↔ 0 ≤ (awayL (besideL n es) b).getD a 0 := by
      rw [reach_dist h hb]
      have hl := (away_dist h hb).len
      obtain ⟨z, hz⟩ : ∃ z, (awayL (besideL n es) b)[a]? = some z := ⟨_, List.getElem?_eq_getElem (by omega)⟩
      simp only [List.getD, hz, Option.getD_some, Option.some.injEq]
      constructor
      · rintro ⟨k, rfl⟩; omega
      · intro h0; exact ⟨z.toNat, by omega⟩
    rw [← hd]
    obtain ⟨i, v, h1, h2, h3, h4⟩ := hids a ha
    obtain ⟨j, w, h1', h2', h3', h4'⟩ := hids b hb
    rw [h3, h3']
    constructor
    · rintro rfl
      rw [h1] at h1'; cases h1'
      exact reach_trans h hb h4 (reach_symm h h4 hb ((hFm _ _).1 h2')) ((hFm _ _).1 h2)
    · intro hab
      have : a ∈ F w := (hFm _ _).2 (reach_trans h h4' hb ((hFm _ _).1 h2') hab)
      have := hid j w a h1' this
      omega
end
end Go.Proofs.Ytddndhhhmlcgjaa
