/- Parts that hang together by numbers like a tree: no two of them have two numbers in common; to split one and to join two keeps it so. No program in sight. -/
import Derived.Test.YtagcbnpahgfgmaaSpQ
namespace Go.Proofs.Ytagcbnpahgfgmaa

def virtL (ls : List Lk) : List Lk := ls.filter fun k => k.2.2 != 0
def realL (ls : List Lk) : List Lk := ls.filter fun k => k.2.2 == 0
def occL (P : List (List Lk)) : List Lk := P.flatMap virtL
def relL (P : List (List Lk)) : List Lk := P.flatMap realL
theorem mem_virtL {ls : List Lk} {e : Lk} : e ∈ virtL ls ↔ e ∈ ls ∧ e.2.2 ≠ 0 := by simp [virtL]
theorem mem_realL {ls : List Lk} {e : Lk} : e ∈ realL ls ↔ e ∈ ls ∧ e.2.2 = 0 := by simp [realL]
theorem mem_occL {P : List (List Lk)} {e : Lk} : e ∈ occL P ↔ ∃ x ∈ P, e ∈ x ∧ e.2.2 ≠ 0 := by simp [occL, mem_virtL]
theorem mem_relL {P : List (List Lk)} {e : Lk} : e ∈ relL P ↔ ∃ x ∈ P, e ∈ x ∧ e.2.2 = 0 := by simp [relL, mem_realL]
theorem virt_len (ls : List Lk) : (virtL ls).length + (realL ls).length = ls.length := by
  induction ls with
  | nil => rfl
  | cons a ls ih =>
    unfold virtL realL at ih ⊢
    simp only [List.filter_cons, List.length_cons]
    by_cases h : a.2.2 = 0 <;> simp [h] <;> omega
theorem occL_cons (x : List Lk) (P : List (List Lk)) : occL (x :: P) = virtL x ++ occL P := rfl
theorem relL_cons (x : List Lk) (P : List (List Lk)) : relL (x :: P) = realL x ++ relL P := rfl
theorem occL_append (P Q : List (List Lk)) : occL (P ++ Q) = occL P ++ occL Q := by unfold occL; rw [List.flatMap_append]
theorem relL_append (P Q : List (List Lk)) : relL (P ++ Q) = relL P ++ relL Q := by unfold relL; rw [List.flatMap_append]
theorem occL_perm {P Q : List (List Lk)} (h : P.Perm Q) : (occL P).Perm (occL Q) := h.flatMap_right _
theorem relL_perm {P Q : List (List Lk)} (h : P.Perm Q) : (relL P).Perm (relL Q) := h.flatMap_right _
theorem virtL_perm {a b : List Lk} (h : a.Perm b) : (virtL a).Perm (virtL b) := h.filter _
theorem realL_perm {a b : List Lk} (h : a.Perm b) : (realL a).Perm (realL b) := h.filter _
theorem virtL_append (a b : List Lk) : virtL (a ++ b) = virtL a ++ virtL b := by unfold virtL; rw [List.filter_append]
theorem realL_append (a b : List Lk) : realL (a ++ b) = realL a ++ realL b := by unfold realL; rw [List.filter_append]
theorem count_one {l : List Lk} (h : l.Nodup) {e : Lk} (he : e ∈ l) : l.count e = 1 := by rw [h.count, if_pos he]
/-- a member of a list stands at its head, but for the order -/
theorem perm_head {α : Type} [BEq α] [LawfulBEq α] {x : α} {l : List α} (h : x ∈ l) : ∃ m, l.Perm (x :: m) := ⟨_, List.perm_cons_erase h⟩

structure TreeP (P : List (List Lk)) (D : List Lk) : Prop where
  occ : (occL P).Perm (D ++ D)
  num : (D.map fun k => k.2.2).Nodup
  nd : ∀ x ∈ P, x.Nodup
  len : P.length = D.length + 1
  con : ∀ S T, P.Perm (S ++ T) → S ≠ [] → T ≠ [] → ∃ e, e ∈ occL S ∧ e ∈ occL T
  rel : (relL P).Nodup
namespace TreeP
variable {P Q : List (List Lk)} {D : List Lk}
theorem perm (h : TreeP P D) (hp : P.Perm Q) : TreeP Q D :=
  ⟨(occL_perm hp).symm.trans h.occ, h.num, fun x hx => h.nd x (hp.mem_iff.2 hx), by rw [← hp.length_eq]; exact h.len,
    fun S T hs => h.con S T (hp.trans hs), (relL_perm hp).nodup_iff.1 h.rel⟩
theorem dnd (h : TreeP P D) : D.Nodup := by
  have h1 : D.Pairwise (fun a b : Lk => a.2.2 ≠ b.2.2) := List.pairwise_map.1 h.num
  exact h1.imp fun hab e => hab (by rw [e])
theorem memD (h : TreeP P D) {e : Lk} : e ∈ D ↔ e ∈ occL P := by rw [h.occ.mem_iff]; simp
theorem count2 (h : TreeP P D) {e : Lk} (he : e ∈ D) : (occL P).count e = 2 := by
  rw [h.occ.count_eq, List.count_append]
  have := count_one h.dnd he
  omega
theorem same_num (h : TreeP P D) {e f : Lk} (he : e ∈ occL P) (hf : f ∈ occL P) (hv : e.2.2 = f.2.2) : e = f := by
  have h1 := h.memD.2 he; have h2 := h.memD.2 hf
  have hn : D.Pairwise (fun a b : Lk => a.2.2 ≠ b.2.2) := List.pairwise_map.1 h.num
  obtain ⟨i, hi, rfl⟩ := List.getElem_of_mem h1
  obtain ⟨j, hj, rfl⟩ := List.getElem_of_mem h2
  rcases Nat.lt_trichotomy i j with hlt | rfl | hlt
  · exact absurd hv (List.pairwise_iff_getElem.1 hn i j hi hj hlt)
  · rfl
  · exact absurd hv.symm (List.pairwise_iff_getElem.1 hn j i hj hi hlt)
theorem virt_ne (h : TreeP P D) {e : Lk} (he : e ∈ D) : e.2.2 ≠ 0 := by
  have := h.memD.1 he
  obtain ⟨_, _, _, h2⟩ := mem_occL.1 this
  exact h2
/-- numbers that stand twice in some of the parts -/
def dupL (D : List Lk) (S : List (List Lk)) : List Lk := D.filter fun e => decide (2 ≤ (occL S).count e)
theorem filter_len_lt {α : Type} {p q : α → Bool} {l : List α} (hpq : ∀ x ∈ l, p x = true → q x = true) {e : α} (he : e ∈ l) (h1 : q e = true) (h2 : p e = false) : (l.filter p).length + 1 ≤ (l.filter q).length := by
  induction l with
  | nil => simp at he
  | cons a l ih =>
    have hle : ∀ m : List α, (∀ x ∈ m, p x = true → q x = true) → (m.filter p).length ≤ (m.filter q).length := fun m => by
      induction m with
      | nil => intro _; simp
      | cons b m ih2 =>
        intro hm
        have i2 := ih2 fun x hx => hm x (List.mem_cons_of_mem _ hx)
        have hb := hm b (List.mem_cons_self ..)
        simp only [List.filter_cons]
        cases hpb : p b with
        | true => rw [hb hpb]; simp; exact i2
        | false => cases q b <;> simp <;> omega
    simp only [List.filter_cons]
    rcases List.mem_cons.1 he with rfl | he'
    · rw [h1, h2]
      have := hle l fun x hx => hpq x (List.mem_cons_of_mem _ hx)
      simp; omega
    · have i1 := ih (fun x hx => hpq x (List.mem_cons_of_mem _ hx)) he'
      have ha := hpq a (List.mem_cons_self ..)
      cases hpa : p a with
      | true => rw [ha hpa]; simp; omega
      | false => cases q a <;> simp <;> omega
theorem grow (h : TreeP P D) : ∀ (n : Nat) (S T : List (List Lk)), T.length = n → P.Perm (S ++ T) → S ≠ [] → T.length + (dupL D S).length ≤ D.length := by
  intro n
  induction n with
  | zero =>
    intro S T hT _ _
    rw [hT, Nat.zero_add]
    exact List.length_filter_le _ _
  | succ n ih =>
    intro S T hT hp hS
    have hT0 : T ≠ [] := fun e => by subst e; simp at hT
    obtain ⟨e, heS, heT⟩ := h.con S T hp hS hT0
    obtain ⟨t, ht, het, hev⟩ := mem_occL.1 heT
    obtain ⟨T', hT'⟩ := perm_head ht
    have hlen : T'.length = n := by have := hT'.length_eq; simp at this; omega
    have hp2 : P.Perm ((t :: S) ++ T') := by
      refine hp.trans ?_
      refine ((List.Perm.refl S).append hT').trans ?_
      exact List.perm_middle
    have i1 := ih (t :: S) T' hlen hp2 (by simp)
    have hcS : (occL S).count e ≤ 1 := by
      have h2 := h.count2 (e := e) (h.memD.2 ((occL_perm hp).mem_iff.2 (by rw [occL_append]; simp [heS])))
      rw [(occL_perm hp).count_eq, occL_append, List.count_append] at h2
      have := List.count_pos_iff.2 heT
      omega
    have heD : e ∈ D := h.memD.2 ((occL_perm hp).mem_iff.2 (by rw [occL_append]; simp [heS]))
    have h3 : (dupL D S).length + 1 ≤ (dupL D (t :: S)).length := by
      unfold dupL
      refine filter_len_lt (e := e) (fun x _ hx => ?_) heD ?_ ?_
      · rw [occL_cons, List.count_append]
        simp at hx ⊢
        omega
      · rw [occL_cons, List.count_append]
        have a1 := List.count_pos_iff.2 (mem_virtL.2 ⟨het, hev⟩)
        have a2 := List.count_pos_iff.2 heS
        simp; omega
      · simp; omega
    rw [hT]
    omega
theorem dup_le (h : TreeP P D) {S T : List (List Lk)} (hp : P.Perm (S ++ T)) (hS : S ≠ []) : (dupL D S).length + 1 ≤ S.length := by
  have h1 := h.grow T.length S T rfl hp hS
  have h2 := hp.length_eq
  have h3 := h.len
  rw [List.length_append] at h2
  omega
/-- two parts have one number in common, at most -/
theorem share_one (h : TreeP P D) {x y : List Lk} {R : List (List Lk)} (hp : P.Perm (x :: y :: R)) {e f : Lk} (hex : e ∈ virtL x) (hey : e ∈ virtL y) (hfx : f ∈ virtL x) (hfy : f ∈ virtL y) : e = f := by
  refine Classical.byContradiction fun hne => ?_
  have h1 := h.dup_le (S := [x, y]) (T := R) hp (by simp)
  have hm : ∀ g, g ∈ virtL x → g ∈ virtL y → g ∈ dupL D [x, y] := fun g a b => by
    unfold dupL
    rw [List.mem_filter]
    refine ⟨h.memD.2 ((occL_perm hp).mem_iff.2 (by rw [occL_cons]; simp [a])), ?_⟩
    have a1 := List.count_pos_iff.2 a
    have a2 := List.count_pos_iff.2 b
    simp [occL]; omega
  have h2 := hm e hex hey
  have h3 := hm f hfx hfy
  have hl : 2 ≤ (dupL D [x, y]).length := two_in h2 h3 (fun e' => hne e'.symm)
  simp at h1
  omega
/-- a number stands in two parts -/
theorem other (h : TreeP P D) {x : List Lk} {R : List (List Lk)} (hp : P.Perm (x :: R)) {e : Lk} (he : e ∈ virtL x) : ∃ y R', R.Perm (y :: R') ∧ e ∈ virtL y ∧ ∀ z ∈ R', e ∉ z := by
  have hev := (mem_virtL.1 he).2
  have h2 := h.count2 (e := e) (h.memD.2 ((occL_perm hp).mem_iff.2 (by rw [occL_cons]; simp [he])))
  rw [(occL_perm hp).count_eq, occL_cons, List.count_append] at h2
  have hx1 : (virtL x).count e = 1 := count_one ((h.nd x (hp.mem_iff.2 (by simp))).filter _) he
  have hR : 0 < (occL R).count e := by omega
  obtain ⟨y, hy, hey, hev⟩ := mem_occL.1 (List.count_pos_iff.1 hR)
  obtain ⟨R', hR'⟩ := perm_head hy
  have hey' := mem_virtL.2 ⟨hey, hev⟩
  refine ⟨y, R', hR', hey', fun z hz hez => ?_⟩
  rw [(occL_perm hR').count_eq, occL_cons, List.count_append] at h2
  have a1 := List.count_pos_iff.2 hey'
  have a2 : 0 < (occL R').count e := List.count_pos_iff.2 (mem_occL.2 ⟨z, hz, hez, hev⟩)
  omega
/-- one part alone -/
theorem single {x : List Lk} (hn : x.Nodup) (hv : ∀ k ∈ x, k.2.2 = 0) : TreeP [x] [] := by
  have h0 : virtL x = [] := by
    unfold virtL
    rw [List.filter_eq_nil_iff]
    intro k hk
    simp [hv k hk]
  refine ⟨by simp [occL, h0], by simp, fun y hy => by simp at hy; subst hy; exact hn, rfl, fun S T hp hS hT => ?_, ?_⟩
  · have := hp.length_eq
    have a1 := List.length_pos_iff.2 hS
    have a2 := List.length_pos_iff.2 hT
    simp at this
    omega
  · simp [relL]; exact hn.filter _
theorem mem_split {α : Type} [BEq α] [LawfulBEq α] {x : α} {R S T : List α} (h : (x :: R).Perm (S ++ T)) : (∃ S', S.Perm (x :: S') ∧ R.Perm (S' ++ T)) ∨ (∃ T', T.Perm (x :: T') ∧ R.Perm (S ++ T')) := by
  have hm : x ∈ S ++ T := h.mem_iff.1 (by simp)
  rcases List.mem_append.1 hm with hm | hm
  · obtain ⟨S', hS'⟩ := perm_head hm
    refine .inl ⟨S', hS', ?_⟩
    have h2 : (x :: R).Perm (x :: (S' ++ T)) := h.trans (hS'.append_right T)
    exact h2.cons_inv
  · obtain ⟨T', hT'⟩ := perm_head hm
    refine .inr ⟨T', hT', ?_⟩
    have h2 : (x :: R).Perm (x :: (S ++ T')) := (h.trans (hT'.append_left S)).trans List.perm_middle
    exact h2.cons_inv
/-- one part split -/
theorem split {x X Y x1 x2 : List Lk} {R : List (List Lk)} (h : TreeP (x :: R) D) (hx : x.Perm (X ++ Y)) {e : Lk} (hv : e.2.2 ≠ 0) (hD : ∀ d ∈ D, d.2.2 ≠ e.2.2) (h1 : x1.Perm (e :: X)) (h2 : x2.Perm (e :: Y)) : TreeP (x1 :: x2 :: R) (e :: D) := by
  have hve : ∀ Z : List Lk, virtL (e :: Z) = e :: virtL Z := fun Z => by unfold virtL; rw [List.filter_cons, if_pos (by simpa using hv)]
  have hre : ∀ Z : List Lk, realL (e :: Z) = realL Z := fun Z => by unfold realL; rw [List.filter_cons, if_neg (by simpa using hv)]
  have hvx : (virtL x).Perm (virtL X ++ virtL Y) := by rw [← virtL_append]; exact virtL_perm hx
  have heP : e ∉ x := fun hm => hD e (h.memD.2 (mem_occL.2 ⟨x, by simp, hm, hv⟩)) rfl
  have hxn := h.nd x (by simp)
  have hXY := hx.nodup_iff.1 hxn
  have heX : e ∉ X ∧ e ∉ Y := by
    constructor <;> intro hm <;> exact heP (hx.mem_iff.2 (by simp [hm]))
  have e1 : (virtL x1).Perm (e :: virtL X) := by have := virtL_perm h1; rwa [hve] at this
  have e2 : (virtL x2).Perm (e :: virtL Y) := by have := virtL_perm h2; rwa [hve] at this
  refine ⟨?_, ?_, ?_, ?_, ?_, ?_⟩
  · rw [occL_cons, occL_cons]
    have ho := h.occ
    rw [occL_cons] at ho
    refine (e1.append (e2.append_right _)).trans ?_
    have s1 : (e :: virtL X ++ (e :: virtL Y ++ occL R)).Perm (e :: e :: (virtL X ++ virtL Y ++ occL R)) := by
      rw [List.cons_append, List.cons_append]
      refine List.Perm.cons _ ?_
      refine List.perm_middle.trans ?_
      rw [List.append_assoc]
    have s2 : (e :: e :: (virtL X ++ virtL Y ++ occL R)).Perm (e :: e :: (D ++ D)) := ((hvx.symm.append_right _).trans ho).cons e |>.cons e
    refine (s1.trans s2).trans ?_
    rw [List.cons_append]
    exact (List.perm_middle.symm).cons e
  · rw [List.map_cons, List.nodup_cons]
    refine ⟨fun hm => ?_, h.num⟩
    obtain ⟨d, hd, he⟩ := List.mem_map.1 hm
    exact hD d hd he
  · intro y hy
    rw [List.nodup_append] at hXY
    rcases List.mem_cons.1 hy with rfl | hy
    · exact h1.nodup_iff.2 (List.nodup_cons.2 ⟨heX.1, hXY.1⟩)
    · rcases List.mem_cons.1 hy with rfl | hy
      · exact h2.nodup_iff.2 (List.nodup_cons.2 ⟨heX.2, hXY.2.1⟩)
      · exact h.nd y (by simp [hy])
  · have := h.len
    simp at this ⊢
    omega
  · intro S T hp hS hT
    have in1 : e ∈ virtL x1 := e1.mem_iff.2 (by simp)
    have in2 : e ∈ virtL x2 := e2.mem_iff.2 (by simp)
    have sub : ∀ f, f ∈ virtL x → f ∈ virtL x1 ∨ f ∈ virtL x2 := fun f hf => by
      rcases List.mem_append.1 (hvx.mem_iff.1 hf) with hf | hf
      · exact .inl (e1.mem_iff.2 (by simp [hf]))
      · exact .inr (e2.mem_iff.2 (by simp [hf]))
    have both : ∀ A B : List (List Lk), R.Perm (A ++ B) → B ≠ [] → ∃ f, (f ∈ virtL x1 ∨ f ∈ virtL x2 ∨ f ∈ occL A) ∧ f ∈ occL B := fun A B hAB hB => by
      obtain ⟨f, f1, f2⟩ := h.con (x :: A) B (by simpa using hAB.cons x) (by simp) hB
      rw [occL_cons, List.mem_append] at f1
      rcases f1 with f1 | f1
      · rcases sub f f1 with g | g
        · exact ⟨f, .inl g, f2⟩
        · exact ⟨f, .inr (.inl g), f2⟩
      · exact ⟨f, .inr (.inr f1), f2⟩
    have mo : ∀ {A B : List (List Lk)} {f : Lk}, A.Perm B → (f ∈ occL A ↔ f ∈ occL B) := fun hAB => (occL_perm hAB).mem_iff
    rcases mem_split hp with ⟨S1, p1, q1⟩ | ⟨T1, p1, q1⟩
    · rcases mem_split q1 with ⟨S2, p2, q2⟩ | ⟨T2, p2, q2⟩
      · obtain ⟨f, f1, f2⟩ := both S2 T q2 hT
        refine ⟨f, (mo p1).2 ?_, f2⟩
        rw [occL_cons, List.mem_append, mo p2, occL_cons, List.mem_append]
        exact f1
      · exact ⟨e, (mo p1).2 (by rw [occL_cons]; simp [in1]), (mo p2).2 (by rw [occL_cons]; simp [in2])⟩
    · rcases mem_split q1 with ⟨S2, p2, q2⟩ | ⟨T2, p2, q2⟩
      · exact ⟨e, (mo p2).2 (by rw [occL_cons]; simp [in2]), (mo p1).2 (by rw [occL_cons]; simp [in1])⟩
      · obtain ⟨f, f1, f2⟩ := both T2 S (q2.trans List.perm_append_comm) hS
        refine ⟨f, f2, (mo p1).2 ?_⟩
        rw [occL_cons, List.mem_append, mo p2, occL_cons, List.mem_append]
        exact f1
  · rw [relL_cons, relL_cons]
    have hr := h.rel
    rw [relL_cons] at hr
    have r1 : (realL x1).Perm (realL X) := by have := realL_perm h1; rwa [hre] at this
    have r2 : (realL x2).Perm (realL Y) := by have := realL_perm h2; rwa [hre] at this
    have r3 : (realL x).Perm (realL X ++ realL Y) := by rw [← realL_append]; exact realL_perm hx
    have : (realL x1 ++ (realL x2 ++ relL R)).Perm (realL x ++ relL R) := by
      rw [← List.append_assoc]
      exact ((r1.append r2).trans r3.symm).append_right _
    exact this.nodup_iff.2 hr
/-- two parts joined -/
theorem join {x y z : List Lk} {R : List (List Lk)} (h : TreeP (x :: y :: R) D) {e : Lk} (hex : e ∈ virtL x) (hey : e ∈ virtL y) (hz : z.Perm (x.erase e ++ y.erase e)) : TreeP (z :: R) (D.erase e) := by
  have hev := (mem_virtL.1 hex).2
  have pe : ∀ {l : List Lk}, e ∈ virtL l → l.Perm (e :: l.erase e) := fun hl => List.perm_cons_erase (mem_virtL.1 hl).1
  have hve : ∀ Z : List Lk, virtL (e :: Z) = e :: virtL Z := fun Z => by unfold virtL; rw [List.filter_cons, if_pos (by simpa using hev)]
  have hre : ∀ Z : List Lk, realL (e :: Z) = realL Z := fun Z => by unfold realL; rw [List.filter_cons, if_neg (by simpa using hev)]
  have vx : (virtL x).Perm (e :: virtL (x.erase e)) := by have := virtL_perm (pe hex); rwa [hve] at this
  have vy : (virtL y).Perm (e :: virtL (y.erase e)) := by have := virtL_perm (pe hey); rwa [hve] at this
  have vz : (virtL z).Perm (virtL (x.erase e) ++ virtL (y.erase e)) := by rw [← virtL_append]; exact virtL_perm hz
  have rx : (realL x).Perm (realL (x.erase e)) := by have := realL_perm (pe hex); rwa [hre] at this
  have ry : (realL y).Perm (realL (y.erase e)) := by have := realL_perm (pe hey); rwa [hre] at this
  have rz : (realL z).Perm (realL (x.erase e) ++ realL (y.erase e)) := by rw [← realL_append]; exact realL_perm hz
  have heD : e ∈ D := h.memD.2 (by rw [occL_cons]; simp [hex])
  have hDp : D.Perm (e :: D.erase e) := List.perm_cons_erase heD
  have hxn := h.nd x (by simp)
  have hyn := h.nd y (by simp)
  have hrn := h.rel
  rw [relL_cons, relL_cons] at hrn
  have hocc : (e :: e :: (virtL z ++ occL R)).Perm (e :: e :: (D.erase e ++ D.erase e)) := by
    have h1 := h.occ
    rw [occL_cons, occL_cons] at h1
    have s1 : (virtL x ++ (virtL y ++ occL R)).Perm (e :: e :: (virtL z ++ occL R)) := by
      refine (vx.append (vy.append_right _)).trans ?_
      rw [List.cons_append, List.cons_append]
      refine List.Perm.cons _ ?_
      refine List.perm_middle.trans ?_
      refine List.Perm.cons _ ?_
      rw [← List.append_assoc]
      exact vz.symm.append_right _
    have s2 : (D ++ D).Perm (e :: e :: (D.erase e ++ D.erase e)) := by
      refine (hDp.append hDp).trans ?_
      rw [List.cons_append]
      exact List.perm_middle.cons e
    exact (s1.symm.trans h1).trans s2
  refine ⟨by rw [occL_cons]; exact hocc.cons_inv.cons_inv, ?_, ?_, ?_, ?_, ?_⟩
  · have := h.num
    rw [(hDp.map _).nodup_iff, List.map_cons, List.nodup_cons] at this
    exact this.2
  · intro u hu
    rcases List.mem_cons.1 hu with rfl | hu
    · refine hz.nodup_iff.2 (List.nodup_append.2 ⟨hxn.erase _, hyn.erase _, fun k hk m hm hkm => ?_⟩)
      subst hkm
      have hkx := List.mem_of_mem_erase hk
      have hky := List.mem_of_mem_erase hm
      by_cases h0 : k.2.2 = 0
      · rw [List.nodup_append] at hrn
        exact hrn.2.2 k (mem_realL.2 ⟨hkx, h0⟩) k (by simp [mem_realL.2 ⟨hky, h0⟩]) rfl
      · have := h.share_one (.refl _) hex hey (mem_virtL.2 ⟨hkx, h0⟩) (mem_virtL.2 ⟨hky, h0⟩)
        subst this
        exact hxn.not_mem_erase hk
    · exact h.nd u (by simp [hu])
  · have := h.len
    have h2 := hDp.length_eq
    simp only [List.length_cons] at this h2 ⊢
    omega
  · intro S T hp hS hT
    have hne : ∀ B : List (List Lk), (∃ A, R.Perm (A ++ B)) → e ∉ occL B := fun B ⟨A, hAB⟩ hm => by
      have c2 := h.count2 heD
      rw [occL_cons, occL_cons, List.count_append, List.count_append, (occL_perm hAB).count_eq, occL_append, List.count_append] at c2
      have a1 := List.count_pos_iff.2 hex
      have a2 := List.count_pos_iff.2 hey
      have a3 := List.count_pos_iff.2 hm
      omega
    have both : ∀ A B : List (List Lk), R.Perm (A ++ B) → B ≠ [] → ∃ f, (f ∈ virtL z ∨ f ∈ occL A) ∧ f ∈ occL B := fun A B hAB hB => by
      obtain ⟨f, f1, f2⟩ := h.con (x :: y :: A) B (by simpa using (hAB.cons y).cons x) (by simp) hB
      have hfe : f ≠ e := fun h1 => hne B ⟨A, hAB⟩ (h1 ▸ f2)
      rw [occL_cons, occL_cons, List.mem_append, List.mem_append] at f1
      rcases f1 with f1 | f1 | f1
      · have := vx.mem_iff.1 f1
        simp [hfe] at this
        exact ⟨f, .inl (vz.mem_iff.2 (by simp [this])), f2⟩
      · have := vy.mem_iff.1 f1
        simp [hfe] at this
        exact ⟨f, .inl (vz.mem_iff.2 (by simp [this])), f2⟩
      · exact ⟨f, .inr f1, f2⟩
    have mo : ∀ {A B : List (List Lk)} {f : Lk}, A.Perm B → (f ∈ occL A ↔ f ∈ occL B) := fun hAB => (occL_perm hAB).mem_iff
    rcases mem_split hp with ⟨S1, p1, q1⟩ | ⟨T1, p1, q1⟩
    · obtain ⟨f, f1, f2⟩ := both S1 T q1 hT
      exact ⟨f, (mo p1).2 (by rw [occL_cons, List.mem_append]; exact f1), f2⟩
    · obtain ⟨f, f1, f2⟩ := both T1 S (q1.trans List.perm_append_comm) hS
      exact ⟨f, f2, (mo p1).2 (by rw [occL_cons, List.mem_append]; exact f1)⟩
  · rw [relL_cons]
    have : (realL z ++ relL R).Perm (realL x ++ (realL y ++ relL R)) := by
      rw [← List.append_assoc]
      exact ((rz.trans (rx.symm.append ry.symm))).append_right _
    exact this.nodup_iff.2 hrn
end TreeP
end Go.Proofs.Ytagcbnpahgfgmaa
