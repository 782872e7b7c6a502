/- Facts that the claim rests on, part 5. -/
import Derived.Test.YtagcbnpahgfgmaaGreatKO03
namespace Go.Proofs.YtagcbnpahgfgmaaGreat
theorem bond_join {x y z : List Lk} {e : Lk} (hx : BondL x) (hy : BondL y) (hex : e ∈ x) (hey : e ∈ y) (hz : ∀ f ∈ z, f ∈ x ∨ f ∈ y) : BondL z := by
 obtain ⟨a, b, hab⟩ := hx
 obtain ⟨c, d, hcd⟩ := hy
 have key : ∀ v, (v = a ∨ v = b) ↔ (v = c ∨ v = d) := fun v => (hab e hex v).symm.trans (hcd e hey v)
 refine ⟨a, b, fun f hf v => ?_⟩
 rcases hz f hf with h | h
 · exact hab f h v
 · exact (hcd f h v).trans (key v).symm
theorem cyc_join {ls x y z : List Lk} {β γ : Lk → Al ls → Prop} (h : DPart ls x β) (k : DPart ls y γ) {e : Lk} (hex : e ∈ x) (hey : e ∈ y) (hc : ∀ m, γ e m ↔ ¬ β e m) (hx : CycL x) (hy : CycL y)
  (hz : ∀ f ∈ z, (f ∈ x ∧ f ≠ e) ∨ (f ∈ y ∧ f ≠ e)) : CycL z := by
 have mix : ∀ {f g : Lk} {v : Int}, f ∈ x → f ≠ e → g ∈ y → g ≠ e → AtL f v → AtL g v → AtL e v := fun {f g v} hf h1 hg h2 h3 h4 => by
  obtain ⟨⟨a, ha, hav⟩, _⟩ := (h.ends f hf v).2 h3
  obtain ⟨⟨b, hb, hbv⟩, _⟩ := (k.ends g hg v).2 h4
  refine (h.ends e hex v).1 ⟨⟨b, Classical.byContradiction fun hno => h2 (k.disj g hg e hey b hb ((hc b).2 hno)), hbv⟩, a, fun hx => h1 (h.disj f hf e hex a ha hx), hav⟩
 have inx : ∀ {f g : Lk} {v : Int}, f ∈ x → f ≠ e → g ∈ x → g ≠ e → AtL e v → AtL f v → AtL g v → f = g := fun {f g v} hf h1 hg h2 he h3 h4 => by
  rcases hx v e hex f hf g hg he h3 h4 with e1 | e1 | e1
  · exact absurd e1.symm h1
  · exact e1
  · exact absurd e1.symm h2
 have iny : ∀ {f g : Lk} {v : Int}, f ∈ y → f ≠ e → g ∈ y → g ≠ e → AtL e v → AtL f v → AtL g v → f = g := fun {f g v} hf h1 hg h2 he h3 h4 => by
  rcases hy v e hey f hf g hg he h3 h4 with e1 | e1 | e1
  · exact absurd e1.symm h1
  · exact e1
  · exact absurd e1.symm h2
 intro v f hf g hg l hl h1 h2 h3
 rcases hz f hf with ⟨a, a'⟩ | ⟨a, a'⟩ <;> rcases hz g hg with ⟨b, b'⟩ | ⟨b, b'⟩ <;> rcases hz l hl with ⟨c, c'⟩ | ⟨c, c'⟩
 · exact hx v f a g b l c h1 h2 h3
 · exact .inl (inx a a' b b' (mix a a' c c' h1 h3) h1 h2)
 · exact .inr (.inr (inx a a' c c' (mix a a' b b' h1 h2) h1 h3))
 · exact .inr (.inl (iny b b' c c' (mix a a' b b' h1 h2) h2 h3))
 · exact .inr (.inl (inx b b' c c' (mix b b' a a' h2 h1) h2 h3))
 · exact .inr (.inr (iny a a' c c' (mix b b' a a' h2 h1) h1 h3))
 · exact .inl (iny a a' b b' (mix c c' a a' h3 h1) h1 h2)
 · exact hy v f a g b l c h1 h2 h3
structure QD (ls : List Lk) (Q : List Pt) : Prop where
 dec : ∃ T : List (DT ls), Dec ls T ∧ (T.map fun d => d.1).Perm (Q.map fun q => q.2)
 kind : ∀ q ∈ Q, q.1 = kindL q.2 ∧ (q.1 = 1 ∨ q.1 = 2 ∨ q.1 = 3)
theorem QD.perm {ls : List Lk} {Q Q' : List Pt} (h : QD ls Q) (hp : Q.Perm Q') : QD ls Q' := by
 obtain ⟨T, h1, h2⟩ := h.dec
 exact ⟨⟨T, h1, h2.trans (hp.map _)⟩, fun q hq => h.kind q (hp.mem_iff.2 hq)⟩
theorem MStep.qd {ls : List Lk} (hG : Uq.Ok (grL ls)) (hl : ls.length ≤ 1000) {e : Lk} {Q Q' : List Pt} (hq : QI ls Q) (h : QD ls Q) (hs : MStep e Q Q') : QD ls Q' := by
 have hq' := hs.qi hl hq
 obtain ⟨x, y, R, hp, hex, hey, hk, hk3, hp'⟩ := hs
 have hxQ : x ∈ Q := hp.mem_iff.2 (by simp)
 have hyQ : y ∈ Q := hp.mem_iff.2 (by simp)
 have rx := hq.right x hxQ
 have ry := hq.right y hyQ
 have hev := (mem_virtL.1 hex).2
 have ex := dropV_erase (right_nodup rx) (mem_virtL.1 hex).1 (hq.uniq hxQ hex)
 have ey := dropV_erase (right_nodup ry) (mem_virtL.1 hey).1 (hq.uniq hyQ hey)
 have hok : ∀ k ∈ dropV e.2.2 x.2 ++ dropV e.2.2 y.2, OkL k := fun k hk => by
  rcases List.mem_append.1 hk with hk | hk
  · exact rx.2.1 k (mem_dropV.1 hk).1
  · exact ry.2.1 k (mem_dropV.1 hk).1
 have hz : (joinL x.2 y.2 e.2.2).Perm (x.2.erase e ++ y.2.erase e) := by
  have := sortL_perm (dropV e.2.2 x.2 ++ dropV e.2.2 y.2)
  rw [map_swapL hok] at this
  rw [← ex, ← ey]; exact this
 obtain ⟨T, hT, hTp⟩ := h.dec
 obtain ⟨dx, T1, hT1, hdx, hTp1⟩ := map_pick (hTp.trans (by simpa using hp.map fun q => q.2))
 obtain ⟨dy, T2, hT2, hdy, hTp2⟩ := map_pick hTp1
 have hD := hT.perm (hT1.trans (hT2.cons dx))
 have ho : ∀ d ∈ T2, e ∉ d.1 := fun d hd hm => by
  obtain ⟨q, hq1, hq2⟩ := List.mem_map.1 (hTp2.mem_iff.1 (List.mem_map_of_mem hd))
  have h2 : q.2 = d.1 := hq2
  exact hq.only hp hex hey q hq1 e (by rw [h2]; exact hm) rfl
 have hsh : ∀ f ∈ x.2, f ∈ y.2 → f = e := fun f h1 h2 => by
  by_cases hf : f.2.2 = 0
  ·
   obtain ⟨D, hTr, _⟩ := hq.tree; have hp2 : (Q.map fun q => q.2).Perm (x.2 :: y.2 :: R.map fun q => q.2) := by simpa using hp.map fun q => q.2
   have hrel := (relL_perm hp2).nodup_iff.1 hTr.rel; rw [relL_cons, relL_cons, List.nodup_append] at hrel; exact absurd rfl (hrel.2.2 f (mem_realL.2 ⟨h1, hf⟩) f (List.mem_append_left _ (mem_realL.2 ⟨h2, hf⟩)))
  · exact (hq.share hp hex hey (mem_virtL.2 ⟨h1, hf⟩) (mem_virtL.2 ⟨h2, hf⟩)).symm
 have px := hD.part dx (by simp)
 have py := hD.part dy (by simp)
 have hexd : e ∈ dx.1 := by rw [hdx]; exact (mem_virtL.1 hex).1
 have heyd : e ∈ dy.1 := by rw [hdy]; exact (mem_virtL.1 hey).1
 have hshd : ∀ f ∈ dx.1, f ∈ dy.1 → f = e := by rw [hdx, hdy]; exact hsh
 have hzd : (joinL x.2 y.2 e.2.2).Perm (dx.1.erase e ++ dy.1.erase e) := by rw [hdx, hdy]; exact hz
 have htw := hD.twin hexd heyd hev ho
 obtain ⟨B, hB⟩ := hD.join hexd heyd hev ho hshd hzd
 have pz := hB.part _ (List.mem_cons_self ..)
 have hzR : RightL (joinL x.2 y.2 e.2.2) := hq'.right (x.1, joinL x.2 y.2 e.2.2) (hp'.mem_iff.2 (by simp))
 have hmz : ∀ f ∈ joinL x.2 y.2 e.2.2, (f ∈ dx.1 ∧ f ≠ e) ∨ (f ∈ dy.1 ∧ f ≠ e) := fun f hf => by
  have h1 := hzd.mem_iff.1 hf
  rw [List.mem_append, px.nd.mem_erase_iff, py.nd.mem_erase_iff] at h1
  exact h1.imp (fun h => ⟨h.2, h.1⟩) (fun h => ⟨h.2, h.1⟩)
 have kx := h.kind x hxQ
 have ky := h.kind y hyQ
 have rxd : RightL dx.1 := by rw [hdx]; exact rx
 have ryd : RightL dy.1 := by rw [hdy]; exact ry
 have hkz : x.1 = kindL (joinL x.2 y.2 e.2.2) := by
  rcases kx.2 with h1 | h1 | h1
  ·
   have c1 := (px.kind_cyc hG rxd).1 (by rw [hdx, ← kx.1]; exact h1); have c2 := (py.kind_cyc hG ryd).1 (by rw [hdy, ← ky.1, ← hk]; exact h1); rw [h1, (pz.kind_cyc hG hzR).2 (cyc_join px py hexd heyd htw c1 c2 hmz)]
  ·
   have c1 := (px.kind_bond hG rxd).1 (by rw [hdx, ← kx.1]; exact h1); have c2 := (py.kind_bond hG ryd).1 (by rw [hdy, ← ky.1, ← hk]; exact h1); rw [h1, (pz.kind_bond hG hzR).2 (bond_join c1 c2 hexd heyd fun f hf => (hmz f hf).imp (fun h => h.1) (fun h => h.1))]
  · exact absurd h1 hk3
 refine QD.perm ⟨⟨_, hB, ?_⟩, fun q hq => ?_⟩ hp'.symm
 ·
  rw [List.map_cons, List.map_cons]
  exact hTp2.cons _
 ·
  rcases List.mem_cons.1 hq with rfl | hq
  · exact ⟨hkz, kx.2⟩
  · exact h.kind q (hp.mem_iff.2 (by simp [hq]))
theorem MTo.qd {ls : List Lk} (hG : Uq.Ok (grL ls)) (hl : ls.length ≤ 1000) {Q Q' : List Pt} (hs : MTo Q Q') : QI ls Q → QD ls Q → QD ls Q' := by
 induction hs with
 | done h => exact fun _ k => k.perm h
 | step h _ ih => exact fun k d => ih (h.qi hl k) (h.qd hG hl k d)
theorem map_eq {ls : List Lk} : ∀ {l : List (List Lk)} {T : List (DT ls)}, (T.map fun d => d.1).Perm l → ∃ T', T.Perm T' ∧ (T'.map fun d => d.1) = l
 | [], T, h => ⟨[], by
   have := h.length_eq
   simp at this
   subst this; exact .refl _, rfl⟩
 | x :: l, T, h => by
  obtain ⟨d, R, h1, h2, h3⟩ := map_pick h
  obtain ⟨T', h4, h5⟩ := map_eq h3
  exact ⟨d :: T', h1.trans (h4.cons d), by rw [List.map_cons, h2, h5]⟩
theorem TreeTo.qd {ls : List Lk} {T : List Pt} (h : TreeTo kindL ls T) (h2 : twoL ls = true) (hv : ∀ k ∈ ls, k.2.2 = 0) (h3 : 3 ≤ ls.length) : QD ls T ∧ MNormal T ∧ T.Pairwise LeP := by
 have hR := two_right h2
 have hG := ok_grL h2
 obtain ⟨out, n, Q, h1, hm, hn, hp, hs⟩ := h
 have hq := (h1.ok hR hv h3).qi hR.1 kindL
 obtain ⟨D, hD, hDp, hf⟩ := h1.dec h2 hv h3
 refine ⟨(hm.qd hG hR.1 hq ⟨⟨D, hD, ?_⟩, fun q hq' => ?_⟩).perm hp, hn.perm hp, hs⟩
 ·
  rw [List.map_map]
  exact hDp.trans (by rw [show ((fun q : Pt => q.2) ∘ fun p => (kindL p, p)) = id from rfl, List.map_id])
 ·
  obtain ⟨p, hp1, rfl⟩ := List.mem_map.1 hq'
  obtain ⟨d, hd, hde⟩ := List.mem_map.1 (hDp.mem_iff.2 hp1)
  have hde2 : d.1 = p := hde
  have hpR := hq.right (kindL p, p) hq'
  refine ⟨rfl, ?_⟩
  have := (hD.part d hd).kind_some hG (by rw [hde2]; exact hpR) (by rw [hde2]; exact hf p hp1)
  rw [hde2] at this
  exact this
theorem QD.eq {ls : List Lk} {Q : List Pt} (h : QD ls Q) : ∃ T : List (DT ls), Dec ls T ∧ (T.map fun d => d.1) = Q.map fun q => q.2 := by
 obtain ⟨T, h1, h2⟩ := h.dec
 obtain ⟨T', h3, h4⟩ := map_eq h2
 exact ⟨T', h1.perm h3, h4⟩
end Go.Proofs.YtagcbnpahgfgmaaGreat
namespace Go.Proofs.YtagcbnpahgfgmaaGreat
theorem snoc_ind {α : Type} {P : List α → Prop} (nil : P []) (snoc : ∀ l a, P l → P (l ++ [a])) (l : List α) : P l := by
 rw [← List.reverse_reverse l]
 induction l.reverse with
 | nil => exact nil
 | cons a m ih => rw [List.reverse_cons]; exact snoc _ _ ih
abbrev Oc := Nat × Lk
def lnQ (Q : List Pt) (i : Nat) : List Lk := match Q[i]? with
 | some q => q.2
 | none => []
def kdQ (Q : List Pt) (i : Nat) : Int := match Q[i]? with
 | some q => q.1
 | none => 0
theorem lnQ_at {Q : List Pt} {i : Nat} (h : i < Q.length) : lnQ Q i = Q[i].2 := by unfold lnQ; rw [List.getElem?_eq_getElem h]
theorem kdQ_at {Q : List Pt} {i : Nat} (h : i < Q.length) : kdQ Q i = Q[i].1 := by unfold kdQ; rw [List.getElem?_eq_getElem h]
theorem lnQ_out {Q : List Pt} {i : Nat} (h : ¬ i < Q.length) : lnQ Q i = [] := by unfold lnQ; rw [List.getElem?_eq_none (by omega)]
def rowO (Q : List Pt) (i : Nat) : List Oc := (lnQ Q i).map fun e => (i, e)
def preO (Q : List Pt) (i : Nat) : List Oc := (List.range i).flatMap (rowO Q)
def preQ (Q : List Pt) (i k : Nat) : List Oc := preO Q i ++ (rowO Q i).take k
def allQ (Q : List Pt) : List Oc := preO Q Q.length
theorem preO_succ (Q : List Pt) (i : Nat) : preO Q (i + 1) = preO Q i ++ rowO Q i := by unfold preO; rw [List.range_succ, List.flatMap_append]; simp
theorem preQ_zero (Q : List Pt) (i : Nat) : preQ Q i 0 = preO Q i := by simp [preQ]
theorem preQ_succ (Q : List Pt) (i k : Nat) (h : k < (lnQ Q i).length) : preQ Q i (k + 1) = preQ Q i k ++ [(i, (lnQ Q i)[k])] := by
 unfold preQ
 have hl : k < (rowO Q i).length := by simp [rowO]; exact h
 rw [List.take_succ_eq_append_getElem hl, ← List.append_assoc]
 simp [rowO]
theorem preQ_row (Q : List Pt) (i : Nat) : preQ Q i (lnQ Q i).length = preO Q (i + 1) := by
 unfold preQ
 rw [preO_succ, List.take_of_length_le (by simp [rowO])]
theorem mem_rowO {Q : List Pt} {i : Nat} {p : Oc} : p ∈ rowO Q i ↔ p.1 = i ∧ p.2 ∈ lnQ Q i := by
 unfold rowO
 rw [List.mem_map]
 constructor
 · rintro ⟨e, he, rfl⟩; exact ⟨rfl, he⟩
 · rintro ⟨rfl, h⟩; exact ⟨p.2, h, rfl⟩
theorem mem_preO {Q : List Pt} {i : Nat} {p : Oc} : p ∈ preO Q i ↔ p.1 < i ∧ p.2 ∈ lnQ Q p.1 := by
 unfold preO
 rw [List.mem_flatMap]
 constructor
 ·
  rintro ⟨j, hj, hp⟩
  obtain ⟨rfl, h⟩ := mem_rowO.1 hp
  exact ⟨List.mem_range.1 hj, h⟩
 ·
  rintro ⟨h1, h2⟩
  exact ⟨p.1, List.mem_range.2 h1, mem_rowO.2 ⟨rfl, h2⟩⟩
theorem mem_allQ {Q : List Pt} {p : Oc} : p ∈ allQ Q ↔ p.2 ∈ lnQ Q p.1 := by
 unfold allQ
 rw [mem_preO]
 constructor
 · exact fun h => h.2
 ·
  intro h
  refine ⟨Classical.byContradiction fun hno => ?_, h⟩
  rw [lnQ_out hno] at h
  simp at h
theorem lnQ_mem {Q : List Pt} {i : Nat} {e : Lk} (h : e ∈ lnQ Q i) : i < Q.length := Classical.byContradiction fun hno => by rw [lnQ_out hno] at h; simp at h
theorem preO_links (Q : List Pt) : ∀ i, i ≤ Q.length → (preO Q i).map (fun p => p.2) = ((Q.take i).map fun q => q.2).flatten := by
 intro i
 induction i with
 | zero => intro _; simp [preO]
 | succ i ih =>
  intro h
  rw [preO_succ, List.map_append, ih (by omega), List.take_succ_eq_append_getElem (by omega), List.map_append, List.flatten_append]
  simp [rowO, lnQ_at (show i < Q.length by omega)]
  exact List.map_id _
theorem allQ_links (Q : List Pt) : (allQ Q).map (fun p => p.2) = (Q.map fun q => q.2).flatten := by
 unfold allQ
 rw [preO_links Q _ (Nat.le_refl _), List.take_length]
theorem allQ_virt (Q : List Pt) : ((allQ Q).filter fun p => p.2.2.2 != 0).map (fun p => p.2) = occL (Q.map fun q => q.2) := by
 have h : ((allQ Q).filter fun p => p.2.2.2 != 0).map (fun p => p.2) = ((allQ Q).map fun p => p.2).filter fun e => e.2.2 != 0 := by
  rw [List.filter_map]; rfl
 rw [h, allQ_links]
 unfold occL virtL
 rw [List.filter_flatten, List.flatMap_def]
theorem allQ_real (Q : List Pt) : ((allQ Q).filter fun p => p.2.2.2 == 0).map (fun p => p.2) = relL (Q.map fun q => q.2) := by
 have h : ((allQ Q).filter fun p => p.2.2.2 == 0).map (fun p => p.2) = ((allQ Q).map fun p => p.2).filter fun e => e.2.2 == 0 := by
  rw [List.filter_map]; rfl
 rw [h, allQ_links]
 unfold relL realL
 rw [List.filter_flatten, List.flatMap_def]
def atV (v : Int) (l : List Oc) : List Oc := l.filter fun p => p.2.2.2 == v
theorem atV_append (v : Int) (a b : List Oc) : atV v (a ++ b) = atV v a ++ atV v b := by unfold atV; rw [List.filter_append]
theorem mem_atV {v : Int} {l : List Oc} {p : Oc} : p ∈ atV v l ↔ p ∈ l ∧ p.2.2.2 = v := by simp [atV]
theorem atV_one (v : Int) (p : Oc) : atV v [p] = if p.2.2.2 = v then [p] else [] := by unfold atV; by_cases h : p.2.2.2 = v <;> simp [h]
def pairB (Q : List Pt) : List Oc → Bool
 | [] => true
 | [_] => true
 | [a, b] => decide (a.2 = b.2) && (decide (a.1 ≠ b.1) && (decide (kdQ Q a.1 ≠ kdQ Q b.1) || decide (kdQ Q b.1 = 3)))
 | _ :: _ :: _ :: _ => false
theorem pairB_init {Q : List Pt} {l : List Oc} {p : Oc} (h : pairB Q (l ++ [p]) = true) : pairB Q l = true := by
 match l with
 | [] => rfl
 | [_] => rfl
 | a :: b :: c => simp [pairB] at h; cases c <;> simp [pairB] at h
theorem pairB_len {Q : List Pt} {l : List Oc} (h : pairB Q l = true) : l.length ≤ 2 := by
 match l with
 | [] => simp
 | [_] => simp
 | [_, _] => simp
 | _ :: _ :: _ :: _ => simp [pairB] at h
def realsO (l : List Oc) : List Lk := (l.filter fun p => p.2.2.2 == 0).map fun p => p.2
def fineP (Q : List Pt) (l : List Oc) : Prop := (realsO l).Nodup ∧ ∀ v, v ≠ 0 → pairB Q (atV v l) = true
theorem fineP_nil (Q : List Pt) : fineP Q [] := ⟨by simp [realsO], fun v _ => rfl⟩
theorem realsO_append (a b : List Oc) : realsO (a ++ b) = realsO a ++ realsO b := by unfold realsO; rw [List.filter_append, List.map_append]
theorem fineP_real {Q : List Pt} {l : List Oc} {p : Oc} (hp : p.2.2.2 = 0) : fineP Q (l ++ [p]) ↔ fineP Q l ∧ p.2 ∉ realsO l := by
 have h1 : realsO [p] = [p.2] := by simp [realsO, hp]
 unfold fineP
 rw [realsO_append, h1]
 have h2 : ∀ v, v ≠ 0 → atV v (l ++ [p]) = atV v l := fun v hv => by
  rw [atV_append, atV_one, if_neg (by omega), List.append_nil]
 constructor
 ·
  rintro ⟨a, b⟩
  rw [List.nodup_append] at a
  exact ⟨⟨a.1, fun v hv => by rw [← h2 v hv]; exact b v hv⟩, fun hm => a.2.2 _ hm _ (by simp) rfl⟩
 ·
  rintro ⟨⟨a, b⟩, c⟩
  refine ⟨List.nodup_append.2 ⟨a, by simp, fun x hx y hy e => ?_⟩, fun v hv => by rw [h2 v hv]; exact b v hv⟩
  simp at hy
  subst hy; subst e
  exact c hx
theorem fineP_virt {Q : List Pt} {l : List Oc} {p : Oc} (hp : p.2.2.2 ≠ 0) : fineP Q (l ++ [p]) ↔ fineP Q l ∧ pairB Q (atV p.2.2.2 l ++ [p]) = true := by
 have h1 : realsO [p] = [] := by simp [realsO, hp]
 have h2 : ∀ v, atV v (l ++ [p]) = atV v l ++ if p.2.2.2 = v then [p] else [] := fun v => by rw [atV_append, atV_one]
 unfold fineP
 rw [realsO_append, h1, List.append_nil]
 constructor
 ·
  rintro ⟨a, b⟩
  have b1 := b _ hp
  rw [h2, if_pos rfl] at b1
  refine ⟨⟨a, fun v hv => ?_⟩, b1⟩
  have b2 := b v hv
  rw [h2] at b2
  by_cases e : p.2.2.2 = v
  · rw [if_pos e] at b2; exact pairB_init b2
  · rw [if_neg e, List.append_nil] at b2; exact b2
 ·
  rintro ⟨⟨a, b⟩, c⟩
  refine ⟨a, fun v hv => ?_⟩
  rw [h2]
  by_cases e : p.2.2.2 = v
  · subst e; rw [if_pos rfl]; exact c
  · rw [if_neg e, List.append_nil]; exact b v hv
theorem fineP_init {Q : List Pt} {a b : List Oc} (h : fineP Q (a ++ b)) : fineP Q a := by
 induction b using snoc_ind generalizing a with
 | nil => simpa using h
 | snoc b p ih =>
  rw [← List.append_assoc] at h
  by_cases hp : p.2.2.2 = 0
  · exact ih ((fineP_real hp).1 h).1
  · exact ih ((fineP_virt hp).1 h).1
def numsO (l : List Oc) : List Int := l.foldl (fun o p => if p.2.2.2 = 0 ∨ p.2.2.2 ∈ o then o else o ++ [p.2.2.2]) []
theorem numsO_snoc (l : List Oc) (p : Oc) : numsO (l ++ [p]) = if p.2.2.2 = 0 ∨ p.2.2.2 ∈ numsO l then numsO l else numsO l ++ [p.2.2.2] := by unfold numsO; rw [List.foldl_append]; rfl
theorem mem_numsO {l : List Oc} {v : Int} : v ∈ numsO l ↔ v ≠ 0 ∧ ∃ p ∈ l, p.2.2.2 = v := by
 induction l using snoc_ind with
 | nil => simp [numsO]
 | snoc l p ih =>
  rw [numsO_snoc]
  have hx : (v ≠ 0 ∧ ∃ q ∈ l ++ [p], q.2.2.2 = v) ↔ v ∈ numsO l ∨ (v ≠ 0 ∧ p.2.2.2 = v) := by
   rw [ih]; constructor
   ·
    rintro ⟨h, q, hq, hv⟩; rcases List.mem_append.1 hq with hq | hq
    · exact .inl ⟨h, q, hq, hv⟩
    · simp at hq; subst hq; exact .inr ⟨h, hv⟩
   ·
    rintro (⟨h, q, hq, hv⟩ | ⟨h, hv⟩)
    · exact ⟨h, q, by simp [hq], hv⟩
    · exact ⟨h, p, by simp, hv⟩
  rw [hx]
  split
  ·
   rename_i hc; constructor
   · exact .inl
   ·
    rintro (h | ⟨h, hv⟩)
    · exact h
    · subst hv; exact hc.resolve_left h
  ·
   rename_i hc; rw [List.mem_append, List.mem_singleton]; constructor
   ·
    rintro (h | h)
    · exact .inl h
    · subst h; exact .inr ⟨fun h => hc (.inl h), rfl⟩
   ·
    rintro (h | ⟨_, h⟩)
    · exact .inl h
    · exact .inr h.symm
theorem numsO_nodup (l : List Oc) : (numsO l).Nodup := by
 induction l using snoc_ind with
 | nil => simp [numsO]
 | snoc l p ih =>
  rw [numsO_snoc]
  split
  · exact ih
  ·
   rename_i hc; rw [List.nodup_append]; refine ⟨ih, by simp, fun x hx y hy e => ?_⟩; simp at hy; subst hy; subst e; exact hc (.inr hx)
def bothP (l : List Oc) : Prop := ∀ v, v ≠ 0 → (atV v l).length = 0 ∨ (atV v l).length = 2
def besideP (Q : List Pt) : Prop := fineP Q (allQ Q) ∧ bothP (allQ Q) ∧ (numsO (allQ Q)).length + 1 = Q.length
theorem fine_two {Q : List Pt} {l : List Oc} (h : fineP Q l) {v : Int} (hv : v ≠ 0) (h2 : (atV v l).length = 2) : ∃ i j e, atV v l = [(i, e), (j, e)] ∧ e.2.2 = v ∧ i ≠ j ∧ (kdQ Q i ≠ kdQ Q j ∨ kdQ Q j = 3) := by
 have h1 := h.2 v hv
 match hl : atV v l, h2 with
 | [a, b], _ =>
  rw [hl] at h1
  simp only [pairB, Bool.and_eq_true, Bool.or_eq_true, decide_eq_true_eq] at h1
  have hb : b ∈ atV v l := by rw [hl]; simp
  refine ⟨a.1, b.1, b.2, ?_, (mem_atV.1 hb).2, h1.2.1, h1.2.2⟩
  obtain ⟨a1, a2⟩ := a
  obtain ⟨b1, b2⟩ := b
  simp only at h1 ⊢
  rw [h1.1]
def adjQ (Q : List Pt) (i j : Nat) : Bool := decide (i ≠ j) && (virtL (lnQ Q i)).any fun e => (lnQ Q j).any fun f => f.2.2 == e.2.2
theorem adjQ_iff {Q : List Pt} {i j : Nat} : adjQ Q i j = true ↔ i ≠ j ∧ ∃ e f, e ∈ lnQ Q i ∧ f ∈ lnQ Q j ∧ e.2.2 ≠ 0 ∧ f.2.2 = e.2.2 := by
 unfold adjQ
 simp only [Bool.and_eq_true, decide_eq_true_eq, List.any_eq_true, beq_iff_eq]
 refine and_congr_right fun _ => ?_
 constructor
 ·
  rintro ⟨e, he, f, hf, h⟩
  obtain ⟨h1, h2⟩ := mem_virtL.1 he
  exact ⟨e, f, h1, hf, h2, h⟩
 ·
  rintro ⟨e, f, h1, hf, h2, h⟩
  exact ⟨e, mem_virtL.2 ⟨h1, h2⟩, f, hf, h⟩
theorem adjQ_symm {Q : List Pt} {i j : Nat} (h : adjQ Q i j = true) : adjQ Q j i = true := by
 rw [adjQ_iff] at h ⊢
 obtain ⟨h1, e, f, he, hf, h2, h3⟩ := h
 exact ⟨fun h => h1 h.symm, f, e, hf, he, by rw [h3]; exact h2, h3.symm⟩
def nbQ (Q : List Pt) (i : Nat) : List Nat := (List.range Q.length).filter (adjQ Q i)
theorem mem_nbQ {Q : List Pt} {i j : Nat} : j ∈ nbQ Q i ↔ adjQ Q i j = true := by
 unfold nbQ
 rw [List.mem_filter, List.mem_range]
 refine ⟨fun h => h.2, fun h => ⟨?_, h⟩⟩
 obtain ⟨_, _, f, _, hf, _⟩ := adjQ_iff.1 h
 exact lnQ_mem hf
def conP (Q : List Pt) : Prop := ∀ j, j < Q.length → Con (nbQ Q) (· < Q.length) 0 j
def kindsP (Q : List Pt) : Prop := ∀ q ∈ Q, q.1 ≠ 0 ∧ q.1 = kindL q.2
def ordP (Q : List Pt) : Prop := ∀ i (h : i + 1 < Q.length), cmpLs (Q[i]'(by omega)).2 Q[i + 1].2 ≤ 0
structure RightQ (Q : List Pt) : Prop where
 ne : Q ≠ []
 kinds : kindsP Q
 ord : ordP Q
 bes : besideP Q
 con : conP Q
end Go.Proofs.YtagcbnpahgfgmaaGreat
namespace Go.Proofs.YtagcbnpahgfgmaaGreat
theorem kind_right {ls : List Lk} (h : kindL ls ≠ 0) : RightL ls ∧ 3 ≤ ls.length := by
 unfold kindL at h
 by_cases h3 : ls.length < 3
 · rw [decide_eq_true h3] at h; simp at h
 ·
  cases hj : joinedL ls with
  | false => rw [hj] at h; simp at h
  | true => exact ⟨joinedR hj, by omega⟩
theorem perm_cons_eraseIdx' {α : Type} {Q : List α} {j : Nat} (hj : j < Q.length) : Q.Perm (Q[j] :: Q.eraseIdx j) := by
 induction Q generalizing j with
 | nil => simp at hj
 | cons a Q ih =>
  match j, hj with
  | 0, _ => simp
  | j + 1, hj =>
   simp only [List.length_cons, Nat.add_lt_add_iff_right] at hj; simp only [List.getElem_cons_succ, List.eraseIdx_cons_succ]; exact ((ih hj).cons a).trans (.swap ..)
theorem perm_two {α : Type} {Q : List α} {i j : Nat} (hij : i < j) (hj : j < Q.length) : ∃ R, Q.Perm (Q[i]'(by omega) :: Q[j] :: R) := by
 induction Q generalizing i j with
 | nil => simp at hj
 | cons a Q ih =>
  match i, j, hij, hj with
  | 0, j + 1, _, hj =>
   simp only [List.length_cons, Nat.add_lt_add_iff_right] at hj; refine ⟨Q.eraseIdx j, ?_⟩; simp only [List.getElem_cons_zero, List.getElem_cons_succ]; exact (perm_cons_eraseIdx' hj).cons a
  | i + 1, j + 1, hij, hj =>
   simp only [List.length_cons, Nat.add_lt_add_iff_right] at hj; obtain ⟨R, hR⟩ := ih (i := i) (j := j) (by omega) hj; refine ⟨a :: R, ?_⟩; simp only [List.getElem_cons_succ]; refine (hR.cons a).trans ?_; refine (List.Perm.swap _ _ _).trans (List.Perm.cons _ ?_); exact .swap ..
theorem Con.to {bs : Nat → List Nat} {S : Nat → Prop} {x : Nat} (p : Nat → Prop) (h0 : p x) (h1 : ∀ y z, p y → z ∈ bs y → p z) {y : Nat} (h : Con bs S x y) : p y := by
 induction h with
 | refl _ => exact h0
 | step _ hz _ ih => exact h1 _ _ ih hz
def lnkV (l : List Oc) (v : Int) : Lk := ((atV v l).head?.map fun p => p.2).getD (0, 0, 0)
theorem count_map_filter {l : List Oc} {e : Lk} : (l.map fun p => p.2).count e = (l.filter fun p => p.2 == e).length := by
 rw [List.count_eq_countP, List.countP_map, List.countP_eq_length_filter]
 rfl
theorem occ_count {Q : List Pt} {e : Lk} (he : e.2.2 ≠ 0) : (occL (Q.map fun q => q.2)).count e = ((atV e.2.2 (allQ Q)).filter fun p => p.2 == e).length := by
 rw [← allQ_virt, count_map_filter, List.filter_filter]
 unfold atV
 rw [List.filter_filter]
 congr 1
 refine List.filter_congr fun p _ => ?_
 by_cases h : p.2 = e
 · subst h; simp [he]
 ·
  have : (p.2 == e) = false := by simpa using h
  simp [this]
namespace RightQ
variable {Q : List Pt}
theorem right (h : RightQ Q) {q : Pt} (hq : q ∈ Q) : RightL q.2 ∧ 3 ≤ q.2.length := by
 obtain ⟨h1, h2⟩ := h.kinds q hq
 exact kind_right (by rw [← h2]; exact h1)
theorem okAt (h : RightQ Q) {i : Nat} {e : Lk} (he : e ∈ lnQ Q i) : OkL e := by
 have hi := lnQ_mem he
 rw [lnQ_at hi] at he
 exact (h.right (List.getElem_mem hi)).1.2.1 e he
theorem same (h : RightQ Q) {i j : Nat} {e f : Lk} (he : e ∈ lnQ Q i) (hf : f ∈ lnQ Q j) (hv : e.2.2 ≠ 0) (hef : f.2.2 = e.2.2) : e = f := by
 have m1 : (i, e) ∈ atV e.2.2 (allQ Q) := mem_atV.2 ⟨mem_allQ.2 he, rfl⟩
 have m2 : (j, f) ∈ atV e.2.2 (allQ Q) := mem_atV.2 ⟨mem_allQ.2 hf, hef⟩
 rcases h.bes.2.1 _ hv with h0 | h2
 · rw [List.eq_nil_of_length_eq_zero h0] at m1; simp at m1
 ·
  obtain ⟨a, b, g, hg, _⟩ := fine_two h.bes.1 hv h2
  rw [hg] at m1 m2
  simp at m1 m2
  rcases m1 with ⟨_, rfl⟩ | ⟨_, rfl⟩ <;> rcases m2 with ⟨_, rfl⟩ | ⟨_, rfl⟩ <;> rfl
theorem lnk (h : RightQ Q) {v : Int} (hv : v ∈ numsO (allQ Q)) : (lnkV (allQ Q) v).2.2 = v ∧ ∃ i j, atV v (allQ Q) = [(i, lnkV (allQ Q) v), (j, lnkV (allQ Q) v)] ∧ i ≠ j := by
 obtain ⟨h0, p, hp, hpv⟩ := mem_numsO.1 hv
 have m1 : p ∈ atV v (allQ Q) := mem_atV.2 ⟨hp, hpv⟩
 rcases h.bes.2.1 _ h0 with h1 | h2
 · rw [List.eq_nil_of_length_eq_zero h1] at m1; simp at m1
 ·
  obtain ⟨a, b, g, hg, hgv, hab, _⟩ := fine_two h.bes.1 h0 h2
  have : lnkV (allQ Q) v = g := by unfold lnkV; rw [hg]; rfl
  rw [this]
  exact ⟨hgv, a, b, hg, hab⟩
theorem tree (h : RightQ Q) : ∃ D, TreeP (Q.map fun q => q.2) D ∧ (∀ d ∈ D, 1 ≤ d.2.2 ∧ d.2.2 ≤ 1048576) := by
 obtain ⟨D, hD⟩ : ∃ D, D = (numsO (allQ Q)).map (lnkV (allQ Q)) := ⟨_, rfl⟩
 have hV : D.map (fun k => k.2.2) = numsO (allQ Q) := by
  rw [hD, List.map_map]
  conv => rhs; rw [← List.map_id (numsO (allQ Q))]
  exact List.map_congr_left fun v hv => (h.lnk hv).1
 have hDn : D.Nodup := by
  have h1 : (D.map fun k => k.2.2).Nodup := by rw [hV]; exact numsO_nodup _
  have h2 : D.Pairwise (fun a b : Lk => a.2.2 ≠ b.2.2) := List.pairwise_map.1 h1
  exact h2.imp fun hab e => hab (by rw [e])
 have hmem : ∀ e, e ∈ D → e.2.2 ≠ 0 ∧ ∃ i j, atV e.2.2 (allQ Q) = [(i, e), (j, e)] ∧ i ≠ j := fun e he => by
  rw [hD] at he
  obtain ⟨v, hv, rfl⟩ := List.mem_map.1 he
  obtain ⟨h1, i, j, h2, h3⟩ := h.lnk hv
  rw [h1]
  exact ⟨(mem_numsO.1 hv).1, i, j, h2, h3⟩
 have hocc : (occL (Q.map fun q => q.2)).Perm (D ++ D) := by
  rw [List.perm_iff_count]
  intro e
  rw [List.count_append]
  by_cases he : e ∈ D
  ·
   obtain ⟨h0, i, j, h1, _⟩ := hmem e he; rw [count_one hDn he, occ_count h0, h1]; simp
  ·
   rw [List.count_eq_zero_of_not_mem he]; refine List.count_eq_zero_of_not_mem fun hm => he ?_; obtain ⟨x, hx, hex, hev⟩ := mem_occL.1 hm; obtain ⟨q, hq, rfl⟩ := List.mem_map.1 hx; obtain ⟨i, hi, rfl⟩ := List.getElem_of_mem hq; rw [← lnQ_at hi] at hex; have hnum : e.2.2 ∈ numsO (allQ Q) := mem_numsO.2 ⟨hev, (i, e), mem_allQ.2 hex, rfl⟩; rw [hD]; refine List.mem_map.2 ⟨e.2.2, hnum, ?_⟩; obtain ⟨h1, a, b, h2, _⟩ := h.lnk hnum; have ha : (a, lnkV (allQ Q) e.2.2) ∈ atV e.2.2 (allQ Q) := by rw [h2]; simp
   have ha2 := mem_allQ.1 (mem_atV.1 ha).1; exact (h.same hex ha2 hev h1).symm
 have hocm : ∀ (S : List (List Lk)) (i : Nat) (e : Lk), lnQ Q i ∈ S → e ∈ lnQ Q i → e.2.2 ≠ 0 → e ∈ occL S := fun S i e hS he hv => mem_occL.2 ⟨_, hS, he, hv⟩
 refine ⟨D, ⟨hocc, by rw [hV]; exact numsO_nodup _, fun x hx => ?_, ?_, ?_, ?_⟩, fun d hd => ?_⟩
 ·
  obtain ⟨q, hq, rfl⟩ := List.mem_map.1 hx
  exact right_nodup (h.right hq).1
 ·
  rw [List.length_map, hD, List.length_map]
  exact h.bes.2.2.symm
 ·
  intro S T hp hS hT
  refine Classical.byContradiction fun hno => ?_
  have hno' : ∀ e, e ∈ occL S → e ∈ occL T → False := fun e a b => hno ⟨e, a, b⟩
  have hin : ∀ x ∈ S ++ T, ∃ i, i < Q.length ∧ lnQ Q i = x := fun x hx => by
   obtain ⟨q, hq, rfl⟩ := List.mem_map.1 (hp.mem_iff.2 hx); obtain ⟨i, hi, rfl⟩ := List.getElem_of_mem hq; exact ⟨i, hi, lnQ_at hi⟩
  have hst : ∀ i, i < Q.length → lnQ Q i ∈ S ∨ lnQ Q i ∈ T := fun i hi => by
   have : lnQ Q i ∈ S ++ T := hp.mem_iff.1 (by rw [lnQ_at hi]; exact List.mem_map_of_mem (List.getElem_mem hi)); exact List.mem_append.1 this
  obtain ⟨s, hs⟩ := List.exists_mem_of_ne_nil _ hS
  obtain ⟨t, ht⟩ := List.exists_mem_of_ne_nil _ hT
  obtain ⟨i, hi, rfl⟩ := hin s (by simp [hs])
  obtain ⟨j, hj, rfl⟩ := hin t (by simp [ht])
  have hsym : ∀ a b, b ∈ nbQ Q a → a ∈ nbQ Q b := fun a b hb => mem_nbQ.2 (adjQ_symm (mem_nbQ.1 hb))
  have hij := (Con.symm hsym (h.con i hi)).trans (h.con j hj)
  have hall : lnQ Q j ∈ S := Con.to (fun k => lnQ Q k ∈ S) hs (fun y z hy hz => by
   obtain ⟨_, e, f, he, hf, hv, hfe⟩ := adjQ_iff.1 (mem_nbQ.1 hz); have := h.same he hf hv hfe; subst this; rcases hst z (lnQ_mem hf) with h1 | h1
   · exact h1
   · exact (hno' e (hocm S y e hy he hv) (hocm T z e h1 hf hv)).elim) hij
  have hlen : 2 ≤ Q.length := by
   have := hp.length_eq; have a1 := List.length_pos_iff.2 hS; have a2 := List.length_pos_iff.2 hT; rw [List.length_map, List.length_append] at this; omega
  obtain ⟨m, hm, hmj⟩ : ∃ m, m < Q.length ∧ m ≠ j := by
   by_cases h0 : j = 0
   · exact ⟨1, by omega, by omega⟩
   · exact ⟨0, by omega, by omega⟩
  have hjm := (Con.symm hsym (h.con m hm)).trans (h.con j hj)
  cases hjm with
  | refl _ => exact hmj rfl
  | step _ hz _ =>
   obtain ⟨_, e, f, he, hf, hv, hfe⟩ := adjQ_iff.1 (adjQ_symm (mem_nbQ.1 hz)); exact hno' e (hocm S j e hall he hv) (hocm T j e ht he hv)
 · rw [← allQ_real]; exact h.bes.1.1
 ·
  obtain ⟨h0, i, j, h1, _⟩ := hmem d hd
  have hm : (i, d) ∈ atV d.2.2 (allQ Q) := by rw [h1]; simp
  have := h.okAt (i := i) (e := d) (mem_allQ.1 (mem_atV.1 hm).1)
  unfold OkL at this
  omega
theorem qi (h : RightQ Q) : QI (relL (Q.map fun q => q.2)) Q := ⟨h.tree, fun q hq => (h.right hq).1, fun q hq => (h.right hq).2, .refl _⟩
theorem strict (h : RightQ Q) {i j : Nat} (hij : i < j) (hj : j < Q.length) : (Q[i]'(by omega)).2 ≠ Q[j].2 := by
 obtain ⟨R, hR⟩ := perm_two hij hj
 exact h.qi.distinct hR
end RightQ
end Go.Proofs.YtagcbnpahgfgmaaGreat
namespace Go.Proofs.YtagcbnpahgfgmaaGreat
def newP (l : List Oc) (p : Oc) : List (Nat × Nat) := if p.2.2.2 = 0 then [] else match atV p.2.2.2 l with
 | [a] => [(a.1, p.1)]
 | _ => []
def pairsO (l : List Oc) : List (Nat × Nat) := (List.range l.length).flatMap fun m => match l[m]? with
 | some p => newP (l.take m) p
 | none => []
theorem pairsO_snoc (l : List Oc) (p : Oc) : pairsO (l ++ [p]) = pairsO l ++ newP l p := by
 unfold pairsO
 rw [List.length_append, List.length_singleton, List.range_succ, List.flatMap_append]
 congr 1
 ·
  simp only [List.flatMap_def]
  congr 1
  refine List.map_congr_left fun m hm => ?_
  have hm' := List.mem_range.1 hm
  rw [List.getElem?_append_left hm', List.take_append_of_le_length (by omega)]
 · simp
theorem pairsO_nil : pairsO [] = [] := by simp [pairsO]
def outO (E : List (Nat × Nat)) (k : Nat) : List Nat := E.flatMap fun ab => (if ab.2 = k then [ab.1] else []) ++ (if ab.1 = k then [ab.2] else [])
theorem outO_append (E G : List (Nat × Nat)) (k : Nat) : outO (E ++ G) k = outO E k ++ outO G k := by unfold outO; rw [List.flatMap_append]
theorem outO_one (a b k : Nat) : outO [(a, b)] k = (if b = k then [a] else []) ++ (if a = k then [b] else []) := by simp [outO]
theorem outO_nil (k : Nat) : outO [] k = [] := by simp [outO]
theorem newP_len (l : List Oc) (p : Oc) : (newP l p).length ≤ 1 := by
 unfold newP
 split
 · simp
 · split <;> simp
theorem pairsO_len (l : List Oc) : (pairsO l).length ≤ l.length := by
 induction l using snoc_ind with
 | nil => simp [pairsO_nil]
 | snoc l p ih =>
  rw [pairsO_snoc, List.length_append, List.length_append, List.length_singleton]
  have := newP_len l p
  omega
theorem outO_len (E : List (Nat × Nat)) (k : Nat) : (outO E k).length ≤ 2 * E.length := by
 induction E with
 | nil => simp [outO]
 | cons a E ih =>
  unfold outO at ih ⊢
  rw [List.flatMap_cons, List.length_append, List.length_append, List.length_cons]
  have h1 : (if a.2 = k then [a.1] else []).length ≤ 1 := by split <;> simp
  have h2 : (if a.1 = k then [a.2] else []).length ≤ 1 := by split <;> simp
  omega
theorem newP_zero {l : List Oc} {p : Oc} (h : p.2.2.2 = 0) : newP l p = [] := by unfold newP; rw [if_pos h]
theorem newP_first {l : List Oc} {p : Oc} (h : atV p.2.2.2 l = []) : newP l p = [] := by unfold newP; rw [h]; split <;> rfl
theorem newP_second {l : List Oc} {p a : Oc} (h0 : p.2.2.2 ≠ 0) (h : atV p.2.2.2 l = [a]) : newP l p = [(a.1, p.1)] := by unfold newP; rw [if_neg h0, h]
def heldF (l : List Oc) (v : Int) : Option (Nat × Nat × Lk) := (atV v l).getLast?.map fun p => (p.1, (atV v l).length, p.2)
theorem heldF_snoc (l : List Oc) (p : Oc) (v : Int) : heldF (l ++ [p]) v = if p.2.2.2 = v then some (p.1, (atV v l).length + 1, p.2) else heldF l v := by
 unfold heldF
 rw [atV_append, atV_one]
 by_cases h : p.2.2.2 = v
 · rw [if_pos h, if_pos h]; simp
 · rw [if_neg h, if_neg h, List.append_nil]
theorem heldF_none {l : List Oc} {v : Int} (h : atV v l = []) : heldF l v = none := by unfold heldF; rw [h]; rfl
theorem heldF_one {l : List Oc} {v : Int} {a : Oc} (h : atV v l = [a]) : heldF l v = some (a.1, 1, a.2) := by unfold heldF; rw [h]; rfl
theorem heldF_two {l : List Oc} {v : Int} {a b : Oc} (h : atV v l = [a, b]) : heldF l v = some (b.1, 2, b.2) := by unfold heldF; rw [h]; rfl
theorem heldF_some {l : List Oc} {v : Int} (hv : v ≠ 0) : (heldF l v).isSome = true ↔ v ∈ numsO l := by
 rw [mem_numsO]
 unfold heldF
 rw [Option.isSome_map]
 cases h : (atV v l).getLast? with
 | none =>
  have h1 := List.getLast?_eq_none_iff.1 h
  simp only [Option.isSome_none, Bool.false_eq_true, false_iff]
  rintro ⟨_, p, hp, hpv⟩
  have : p ∈ atV v l := mem_atV.2 ⟨hp, hpv⟩
  rw [h1] at this; simp at this
 | some p =>
  have h1 := List.mem_of_getLast? h
  simp only [Option.isSome_some, true_iff]
  exact ⟨hv, p, (mem_atV.1 h1).1, (mem_atV.1 h1).2⟩
def badB (Q : List Pt) (a p : Oc) : Bool := decide (a.1 = p.1) || (decide (a.2 ≠ p.2) || (decide (kdQ Q a.1 = kdQ Q p.1) && decide (kdQ Q p.1 ≠ 3)))
theorem pair_bad (Q : List Pt) (a p : Oc) : pairB Q [a, p] = !badB Q a p := by
 unfold pairB badB
 by_cases h1 : a.2 = p.2 <;> by_cases h2 : a.1 = p.1 <;> by_cases h3 : kdQ Q a.1 = kdQ Q p.1 <;> by_cases h4 : kdQ Q p.1 = 3 <;> simp [h1, h2, h3, h4]
theorem preO_take (Q : List Pt) (i k : Nat) (hi : i < Q.length) : ∃ b, allQ Q = preQ Q i k ++ b := by
 have h : ∀ n, i + 1 + n ≤ Q.length → ∃ b, preO Q (i + 1 + n) = preO Q (i + 1) ++ b := by
  intro n
  induction n with
  | zero => intro _; exact ⟨[], by simp⟩
  | succ n ih =>
   intro h; obtain ⟨b, hb⟩ := ih (by omega); exact ⟨b ++ rowO Q (i + 1 + n), by rw [← Nat.add_assoc, preO_succ, hb, List.append_assoc]⟩
 obtain ⟨b, hb⟩ := h (Q.length - (i + 1)) (by omega)
 refine ⟨(rowO Q i).drop k ++ b, ?_⟩
 unfold allQ preQ
 rw [show Q.length = i + 1 + (Q.length - (i + 1)) by omega, hb, preO_succ]
 have e : rowO Q i = (rowO Q i).take k ++ (rowO Q i).drop k := (List.take_append_drop ..).symm
 conv => lhs; rw [e]
 simp only [List.append_assoc]
theorem bes_no {Q : List Pt} {i k : Nat} (hi : i < Q.length) (h : ¬ fineP Q (preQ Q i k)) : ¬ besideP Q := fun hb => by
 obtain ⟨b, hb2⟩ := preO_take Q i k hi
 have := hb.1
 rw [hb2] at this
 exact h (fineP_init this)
def srtN (l : List Nat) : List Nat := l.mergeSort fun x y => decide (x ≤ y)
theorem srtN_perm (l : List Nat) : (srtN l).Perm l := List.mergeSort_perm _ _
theorem srtN_sorted (l : List Nat) : (srtN l).Pairwise (· ≤ ·) := by
 have := List.pairwise_mergeSort (le := fun x y : Nat => decide (x ≤ y)) (fun a b c h1 h2 => by simp at h1 h2 ⊢; omega) (fun a b => by simp; omega) l
 exact this.imp fun h => by simpa using h
theorem srtN_map (l : List Nat) : (srtN l).map (fun x : Nat => (x : Int)) = (l.map fun x : Nat => (x : Int)).mergeSort fun x y => decide (x ≤ y) := by
 unfold srtN
 exact List.map_mergeSort fun a _ b _ => by simp
def besQ (Q : List Pt) (i : Nat) : List Nat := srtN (outO (pairsO (allQ Q)) i)
theorem mem_pairsO {l : List Oc} {a b : Nat} : (a, b) ∈ pairsO l ↔ ∃ l1 l2 p q, l = l1 ++ p :: l2 ∧ p.2.2.2 ≠ 0 ∧ atV p.2.2.2 l1 = [q] ∧ a = q.1 ∧ b = p.1 := by
 induction l using snoc_ind with
 | nil => simp [pairsO_nil]
 | snoc l p ih =>
  rw [pairsO_snoc, List.mem_append, ih]
  constructor
  ·
   rintro (⟨l1, l2, r, q, h1, h2, h3, h4, h5⟩ | h)
   · exact ⟨l1, l2 ++ [p], r, q, by rw [h1]; simp, h2, h3, h4, h5⟩
   ·
    unfold newP at h; split at h
    · simp at h
    ·
     rename_i h0; split at h
     ·
      rename_i q hq; simp at h; exact ⟨l, [], p, q, by simp, h0, hq, h.1, h.2⟩
     · simp at h
  ·
   rintro ⟨l1, l2, r, q, h1, h2, h3, h4, h5⟩; rcases List.eq_nil_or_concat l2 with rfl | ⟨m, s, rfl⟩
   ·
    right; have := List.append_inj' h1 rfl; obtain ⟨rfl, h6⟩ := this; cases h6; rw [newP_second h2 h3]; simp [h4, h5]
   ·
    left; rw [List.concat_eq_append] at h1; have h6 : l ++ [p] = (l1 ++ r :: m) ++ [s] := by rw [h1]; simp
    have := List.append_inj' h6 rfl; exact ⟨l1, m, r, q, this.1, h2, h3, h4, h5⟩
theorem mem_outO {E : List (Nat × Nat)} {k j : Nat} : j ∈ outO E k ↔ (j, k) ∈ E ∨ (k, j) ∈ E := by
 unfold outO
 rw [List.mem_flatMap]
 constructor
 ·
  rintro ⟨⟨a, b⟩, hab, h⟩
  rw [List.mem_append] at h
  rcases h with h | h
  ·
   split at h
   · rename_i e; simp at e h; subst e; subst h; exact .inl hab
   · simp at h
  ·
   split at h
   · rename_i e; simp at e h; subst e; subst h; exact .inr hab
   · simp at h
 ·
  rintro (h | h)
  · exact ⟨_, h, by simp⟩
  · exact ⟨_, h, by simp⟩
theorem split_two {l : List Oc} {v : Int} {x y : Oc} (h : atV v l = [x, y]) : ∃ l1 l2, l = l1 ++ y :: l2 ∧ atV v l1 = [x] := by
 induction l using snoc_ind with
 | nil => simp [atV] at h
 | snoc l p ih =>
  rw [atV_append, atV_one] at h
  by_cases hp : p.2.2.2 = v
  ·
   rw [if_pos hp] at h; have h1 : atV v l ++ [p] = [x] ++ [y] := h; have := List.append_inj' h1 rfl; simp at this; obtain ⟨h2, rfl⟩ := this; exact ⟨l, [], by simp, h2⟩
  ·
   rw [if_neg hp, List.append_nil] at h; obtain ⟨l1, l2, e1, e2⟩ := ih h; exact ⟨l1, l2 ++ [p], by rw [e1]; simp, e2⟩
theorem mem_besQ {Q : List Pt} (h : besideP Q) {i j : Nat} : j ∈ besQ Q i ↔ adjQ Q i j = true := by
 unfold besQ
 rw [(srtN_perm _).mem_iff, mem_outO]
 have key : ∀ a b, (a, b) ∈ pairsO (allQ Q) → adjQ Q a b = true := fun a b hab => by
  obtain ⟨l1, l2, p, q, h1, h2, h3, rfl, rfl⟩ := mem_pairsO.1 hab
  have hq : q ∈ atV p.2.2.2 l1 := by rw [h3]; simp
  obtain ⟨hq1, hq2⟩ := mem_atV.1 hq
  have hf := h.1
  rw [h1, show l1 ++ p :: l2 = (l1 ++ [p]) ++ l2 by simp] at hf
  have hf2 := ((fineP_virt h2).1 (fineP_init hf)).2
  rw [h3] at hf2
  have hf3 : pairB Q [q, p] = true := hf2
  simp only [pairB, Bool.and_eq_true, decide_eq_true_eq] at hf3
  rw [adjQ_iff]
  exact ⟨hf3.2.1, q.2, p.2, mem_allQ.1 (by rw [h1]; simp [hq1]), mem_allQ.1 (by rw [h1]; simp), by rw [hf3.1]; exact h2, by rw [hf3.1]⟩
 constructor
 ·
  rintro (hab | hab)
  · exact adjQ_symm (key _ _ hab)
  · exact key _ _ hab
 ·
  intro hadj
  obtain ⟨hne, e, f, he, hf, hv, hfe⟩ := adjQ_iff.1 hadj
  have m1 : (i, e) ∈ atV e.2.2 (allQ Q) := mem_atV.2 ⟨mem_allQ.2 he, rfl⟩
  have m2 : (j, f) ∈ atV e.2.2 (allQ Q) := mem_atV.2 ⟨mem_allQ.2 hf, hfe⟩
  rcases h.2.1 _ hv with h0 | h2
  · rw [List.eq_nil_of_length_eq_zero h0] at m1; simp at m1
  ·
   obtain ⟨a, b, g, hg, hgv, hab, _⟩ := fine_two h.1 hv h2; obtain ⟨l1, l2, e1, e2⟩ := split_two hg; have hp : (a, b) ∈ pairsO (allQ Q) := mem_pairsO.2 ⟨l1, l2, (b, g), (a, g), e1, by simp only; rw [hgv]; exact hv, by simp only; rw [hgv]; exact e2, rfl, rfl⟩; rw [hg] at m1 m2; simp at m1 m2; rcases m1 with ⟨rfl, _⟩ | ⟨rfl, _⟩
   ·
    rcases m2 with ⟨rfl, _⟩ | ⟨rfl, _⟩
    · exact absurd rfl hne
    · exact .inr hp
   ·
    rcases m2 with ⟨rfl, _⟩ | ⟨rfl, _⟩
    · exact .inl hp
    · exact absurd rfl hne
end Go.Proofs.YtagcbnpahgfgmaaGreat
namespace Go.Proofs.YtagcbnpahgfgmaaGreat
def leftN (n : Nat) (G : Nat → Bool) : Nat := ((List.range n).filter fun j => !G j).length
def degG (bs : Nat → List Nat) (G : Nat → Bool) (j : Nat) : Nat := ((bs j).filter fun k => !G k).length
def endB (bs : Nat → List Nat) (G : Nat → Bool) (j : Nat) : Bool := !G j && decide (degG bs G j ≤ 1)
def peel (bs : Nat → List Nat) (n : Nat) (G : Nat → Bool) : Nat → Bool := fun j => G j || (decide (2 < leftN n G) && endB bs G j)
def peels (bs : Nat → List Nat) (n : Nat) : Nat → Nat → Bool
 | 0 => fun _ => false
 | k + 1 => peel bs n (peels bs n k)
def centreQ (Q : List Pt) : List Nat := (List.range Q.length).filter fun j => !peels (besQ Q) Q.length Q.length j
theorem leftN_none (n : Nat) : leftN n (fun _ => false) = n := by
 unfold leftN
 have : (List.range n).filter (fun j => !(fun _ : Nat => false) j) = List.range n := List.filter_eq_self.2 (fun _ _ => rfl)
 rw [this, List.length_range]
theorem filter_split {α : Type} (l : List α) (p q : α → Bool) (hq : ∀ x ∈ l, q x = true → p x = true) : (l.filter fun x => p x && !q x).length + (l.filter q).length = (l.filter p).length := by
 induction l with
 | nil => rfl
 | cons a l ih =>
  have i1 := ih fun x hx => hq x (List.mem_cons_of_mem _ hx)
  have ha := hq a (List.mem_cons_self ..)
  simp only [List.filter_cons]
  cases hp : p a <;> cases hqq : q a
  · simpa using i1
  · rw [ha hqq] at hp; cases hp
  · simp; omega
  · simp; omega
theorem leftN_peel (bs : Nat → List Nat) (n : Nat) (G : Nat → Bool) (h : 2 < leftN n G) : leftN n (peel bs n G) + ((List.range n).filter (endB bs G)).length = leftN n G := by
 unfold leftN
 have e : (fun j => !peel bs n G j) = fun j => (!G j) && !endB bs G j := by
  funext j
  unfold peel
  rw [decide_eq_true h]
  cases G j <;> simp
 rw [e]
 exact filter_split (List.range n) (fun j => !G j) (endB bs G) fun x _ hx => by
  unfold endB at hx
  simp only [Bool.and_eq_true] at hx
  exact hx.1
theorem peel_end {bs : Nat → List Nat} {n : Nat} {G : Nat → Bool} (h : ¬ 2 < leftN n G) : peel bs n G = G := by
 funext j
 unfold peel
 rw [decide_eq_false h]; simp
theorem peels_end {bs : Nat → List Nat} {n k : Nat} (h : ¬ 2 < leftN n (peels bs n k)) (m : Nat) : peels bs n (k + m) = peels bs n k := by
 induction m with
 | zero => rfl
 | succ m ih =>
  show peel bs n (peels bs n (k + m)) = _
  rw [ih, peel_end h]
namespace RightQ
variable {Q : List Pt}
theorem bes_nodup (h : RightQ Q) (i : Nat) : (besQ Q i).Nodup := by
 unfold besQ
 rw [(srtN_perm _).nodup_iff]
 obtain ⟨D, hT, _⟩ := h.tree
 have key : ∀ (l : List Oc), (∃ b, allQ Q = l ++ b) → ∀ k, (outO (pairsO l) k).Nodup := by
  intro l
  induction l using snoc_ind with
  | nil => intro _ k; simp [pairsO_nil, outO_nil]
  | snoc l p ih =>
   rintro ⟨b, hb⟩ k; have i1 := ih ⟨p :: b, by rw [hb]; simp⟩ k; rw [pairsO_snoc, outO_append, List.nodup_append]; have hnew : ∀ x, x ∈ outO (newP l p) k → (p.2.2.2 ≠ 0 ∧ ∃ a, atV p.2.2.2 l = [a] ∧ ((x = a.1 ∧ k = p.1) ∨ (x = p.1 ∧ k = a.1))) := by
    intro x hx; unfold newP at hx; split at hx
    · simp [outO] at hx
    ·
     rename_i h0; split at hx
     ·
      rename_i a ha; rw [mem_outO] at hx; simp at hx; exact ⟨h0, a, ha, by rcases hx with ⟨rfl, rfl⟩ | ⟨rfl, rfl⟩ <;> simp⟩
     · simp [outO] at hx
   have hfine : fineP Q (l ++ [p]) := by
    have := h.bes.1; rw [hb] at this; exact fineP_init this
   refine ⟨i1, ?_, fun x hx y hy e => ?_⟩
   ·
    unfold newP; split
    · simp [outO]
    ·
     rename_i h0; split
     ·
      rename_i a ha; have h2 := ((fineP_virt h0).1 hfine).2; rw [ha] at h2; have h3 : pairB Q [a, p] = true := h2; simp only [pairB, Bool.and_eq_true, decide_eq_true_eq] at h3; rw [outO_one]; by_cases e1 : p.1 = k <;> by_cases e2 : a.1 = k
      · exact absurd (e2.trans e1.symm) h3.2.1
      · simp [e1, e2]
      · simp [e1, e2]
      · simp [e1, e2]
     · simp [outO]
   ·
    subst e; obtain ⟨h0, a, ha, hxa⟩ := hnew x hy; have h2 := ((fineP_virt h0).1 hfine).2; rw [ha] at h2; have h3 : pairB Q [a, p] = true := h2; simp only [pairB, Bool.and_eq_true, decide_eq_true_eq] at h3; have hal : a ∈ l := (mem_atV.1 (by rw [ha]; simp : a ∈ atV p.2.2.2 l)).1; have hold : ∃ l1 l2 q r, l = l1 ++ q :: l2 ∧ q.2.2.2 ≠ 0 ∧ atV q.2.2.2 l1 = [r] ∧ ((x = r.1 ∧ k = q.1) ∨ (x = q.1 ∧ k = r.1)) := by
     rw [mem_outO] at hx; rcases hx with hx | hx
     ·
      obtain ⟨l1, l2, q, r, a1, a2, a3, a4, a5⟩ := mem_pairsO.1 hx; exact ⟨l1, l2, q, r, a1, a2, a3, .inl ⟨a4, a5⟩⟩
     ·
      obtain ⟨l1, l2, q, r, a1, a2, a3, a4, a5⟩ := mem_pairsO.1 hx; exact ⟨l1, l2, q, r, a1, a2, a3, .inr ⟨a5, a4⟩⟩
    obtain ⟨l1, l2, q, r, g1, g2, g3, g4⟩ := hold; have hr := mem_atV.1 (by rw [g3]; simp : r ∈ atV q.2.2.2 l1); have hql : q ∈ l := by rw [g1]; simp
    have hrl : r ∈ l := by rw [g1]; simp [hr.1]
    have mal : ∀ z ∈ l ++ [p], z.2 ∈ lnQ Q z.1 := fun z hz => mem_allQ.1 (by rw [hb]; exact List.mem_append_left _ hz); have hxn : x ≠ k := by
     rcases hxa with ⟨rfl, rfl⟩ | ⟨rfl, rfl⟩
     · exact h3.2.1
     · exact fun e => h3.2.1 e.symm
    have hq2 : q.2 = r.2 := h.same (mal q (by simp [hql])) (mal r (by simp [hrl])) g2 (by rw [hr.2]); have sx : q.2 ∈ lnQ Q x ∧ q.2 ∈ lnQ Q k := by
     rcases g4 with ⟨rfl, rfl⟩ | ⟨rfl, rfl⟩
     · exact ⟨by rw [hq2]; exact mal r (by simp [hrl]), mal q (by simp [hql])⟩
     · exact ⟨mal q (by simp [hql]), by rw [hq2]; exact mal r (by simp [hrl])⟩
    have sp : p.2 ∈ lnQ Q x ∧ p.2 ∈ lnQ Q k := by
     rcases hxa with ⟨rfl, rfl⟩ | ⟨rfl, rfl⟩
     · exact ⟨by rw [← h3.1]; exact mal a (by simp [hal]), mal p (by simp)⟩
     · exact ⟨mal p (by simp), by rw [← h3.1]; exact mal a (by simp [hal])⟩
    have hxl := lnQ_mem sx.1; have hkl := lnQ_mem sx.2; obtain ⟨R, hR⟩ : ∃ R, Q.Perm (Q[x] :: Q[k] :: R) := by
     rcases Nat.lt_or_gt_of_ne hxn with hlt | hlt
     · exact perm_two hlt hkl
     ·
      obtain ⟨R, hR⟩ := perm_two hlt hxl; exact ⟨R, hR.trans (.swap ..)⟩
    rw [lnQ_at hxl, lnQ_at hkl] at sx sp; have hqp := h.qi.share hR (mem_virtL.2 ⟨sx.1, g2⟩) (mem_virtL.2 ⟨sx.2, g2⟩) (mem_virtL.2 ⟨sp.1, h0⟩) (mem_virtL.2 ⟨sp.2, h0⟩); have hin : q ∈ atV p.2.2.2 l := mem_atV.2 ⟨hql, by rw [hqp]⟩; have hin2 : r ∈ atV p.2.2.2 l := mem_atV.2 ⟨hrl, by rw [hr.2, hqp]⟩; rw [ha] at hin hin2; simp at hin hin2; rw [← hin2] at hin; rw [hin] at g4; rcases g4 with ⟨e1, e2⟩ | ⟨e1, e2⟩ <;> exact hxn (e1.trans e2.symm)
 exact key (allQ Q) ⟨[], by simp⟩ i
theorem links_range (Q : List Pt) : Q.map (fun q => q.2) = (List.range Q.length).map (lnQ Q) := by
 apply List.ext_getElem (by simp)
 intro i h1 h2
 have hi : i < Q.length := by simpa using h1
 simp [lnQ_at hi]
theorem dup_filter {P : List (List Lk)} {D : List Lk} (h : TreeP P D) {S T : List (List Lk)} (hp : P.Perm (S ++ T)) :
  ((occL S).filter fun e => decide (2 ≤ (occL S).count e)).length = 2 * (TreeP.dupL D S).length := by
 have hle : ∀ e, (occL S).count e ≤ (occL P).count e := fun e => by
  rw [(occL_perm hp).count_eq, occL_append, List.count_append]; omega
 have hperm : ((occL S).filter fun e => decide (2 ≤ (occL S).count e)).Perm (TreeP.dupL D S ++ TreeP.dupL D S) := by
  rw [List.perm_iff_count]
  intro e
  rw [List.count_append]
  by_cases h2 : 2 ≤ (occL S).count e
  ·
   have heP : e ∈ occL P := List.count_pos_iff.1 (by have := hle e; omega); have heD := h.memD.2 heP; have hc := h.count2 heD; have hce : (occL S).count e = 2 := by have := hle e; omega
   rw [List.count_filter (by simpa using h2), hce]; have hn : (TreeP.dupL D S).Nodup := List.Nodup.sublist List.filter_sublist h.dnd; rw [count_one hn (by unfold TreeP.dupL; rw [List.mem_filter]; exact ⟨heD, by simpa using h2⟩)]
  · rw [List.count_eq_zero_of_not_mem (fun hm => h2 (by simpa using (List.mem_filter.1 hm).2)), List.count_eq_zero_of_not_mem (fun hm => h2 (by simpa [TreeP.dupL] using (List.mem_filter.1 hm).2))]
 rw [hperm.length_eq, List.length_append]
 omega
theorem sub_len {β : Type} : ∀ {l m : List β}, l.Nodup → (∀ x ∈ l, x ∈ m) → l.length ≤ m.length
 | [], _, _, _ => by simp
 | a :: l, m, hn, h => by
  obtain ⟨s, t, rfl⟩ := List.append_of_mem (h a (by simp))
  have hn' := List.nodup_cons.1 hn
  have := sub_len (l := l) (m := s ++ t) hn'.2 fun x hx => by
   have h1 := h x (by simp [hx])
   have hne : x ≠ a := fun e => hn'.1 (by rw [← e]; exact hx)
   simp only [List.mem_append, List.mem_cons] at h1 ⊢
   rcases h1 with h1 | h1 | h1
   · exact .inl h1
   · exact absurd h1 hne
   · exact .inr h1
  simp only [List.length_append, List.length_cons] at this ⊢
  omega
theorem sum_twice {l : List Nat} {f : Nat → Nat} (h : ∀ x ∈ l, 2 ≤ f x) : 2 * l.length ≤ (l.map f).sum := by
 induction l with
 | nil => simp
 | cons a l ih =>
  have i1 := ih fun x hx => h x (by simp [hx])
  have := h a (by simp)
  rw [List.length_cons, List.map_cons, List.sum_cons]
  omega
theorem inj_len {α β : Type} {l : List α} {m : List β} (f : α → β) (hn : l.Nodup) (hi : ∀ x ∈ l, ∀ y ∈ l, f x = f y → x = y) (hm : ∀ x ∈ l, f x ∈ m) : l.length ≤ m.length := by
 have h1 : (l.map f).Nodup := by
  rw [List.Nodup, List.pairwise_map]
  exact hn.imp_of_mem fun {a b} ha hb hab e => hab (hi a ha b hb e)
 have := sub_len h1 (m := m) fun y hy => by
  obtain ⟨x, hx, rfl⟩ := List.mem_map.1 hy
  exact hm x hx
 simpa using this
theorem leaf (h : RightQ Q) (G : Nat → Bool) (hG : 0 < leftN Q.length G) : ∃ j, j < Q.length ∧ endB (besQ Q) G j = true := by
 refine Classical.byContradiction fun hno => ?_
 have hdeg : ∀ j, j < Q.length → G j = false → 2 ≤ degG (besQ Q) G j := fun j hj hGj => by
  refine Classical.byContradiction fun hd => hno ⟨j, hj, ?_⟩
  unfold endB
  rw [hGj]
  simp; omega
 obtain ⟨D, hT, _⟩ := h.tree
 obtain ⟨S, hS⟩ : ∃ S, S = (List.range Q.length).filter fun j => !G j := ⟨_, rfl⟩
 obtain ⟨T, hTT⟩ : ∃ T, T = (List.range Q.length).filter fun j => !!G j := ⟨_, rfl⟩
 have hperm : (Q.map fun q => q.2).Perm (S.map (lnQ Q) ++ T.map (lnQ Q)) := by
  rw [links_range, ← List.map_append, hS, hTT]
  exact (List.filter_append_perm _ _).symm.map _
 have hSl : S.length = leftN Q.length G := by rw [hS]; rfl
 have hSn : S ≠ [] := fun e => by rw [e] at hSl; simp at hSl; omega
 have memS : ∀ j, j ∈ S → j < Q.length ∧ G j = false := fun j hj => by
  rw [hS, List.mem_filter, List.mem_range] at hj
  exact ⟨hj.1, by simpa using hj.2⟩
 have hd := hT.dup_le hperm (by simpa using hSn)
 have hf := dup_filter hT hperm
 rw [List.length_map] at hd
 have hsum : ((occL (S.map (lnQ Q))).filter fun e => decide (2 ≤ (occL (S.map (lnQ Q))).count e)).length = (S.map fun j => ((virtL (lnQ Q j)).filter fun e => decide (2 ≤ (occL (S.map (lnQ Q))).count e)).length).sum := by
  generalize (fun e : Lk => decide (2 ≤ (occL (S.map (lnQ Q))).count e)) = p
  clear hd hf hperm memS hSn hSl hS
  induction S with
  | nil => rfl
  | cons a S ih =>
   rw [List.map_cons, occL_cons, List.filter_append, List.length_append, ih, List.map_cons, List.sum_cons]
 have hge : ∀ j ∈ S, 2 ≤ ((virtL (lnQ Q j)).filter fun e => decide (2 ≤ (occL (S.map (lnQ Q))).count e)).length := fun j hj => by
  obtain ⟨hjn, hjG⟩ := memS j hj
  refine Nat.le_trans (hdeg j hjn hjG) ?_
  unfold degG
  have hex : ∀ k, ∃ e, k ∈ ((besQ Q j).filter fun k => !G k) → j ≠ k ∧ k ∈ S ∧ e ∈ virtL (lnQ Q j) ∧ e ∈ virtL (lnQ Q k) := fun k => by
   by_cases hk : k ∈ ((besQ Q j).filter fun k => !G k)
   ·
    obtain ⟨hk1, hk2⟩ := List.mem_filter.1 hk; obtain ⟨hne, e, f, he, hf, hv, hfe⟩ := adjQ_iff.1 ((mem_besQ h.bes).1 hk1); have := h.same he hf hv hfe; subst this; have hkn := lnQ_mem hf; exact ⟨e, fun _ => ⟨hne, by rw [hS, List.mem_filter, List.mem_range]; exact ⟨hkn, hk2⟩, mem_virtL.2 ⟨he, hv⟩, mem_virtL.2 ⟨hf, hv⟩⟩⟩
   · exact ⟨(0, 0, 0), fun hk' => absurd hk' hk⟩
  obtain ⟨f, hf⟩ := Classical.axiomOfChoice hex
  refine inj_len f ((h.bes_nodup j).sublist List.filter_sublist) (fun x hx y hy hxy => ?_) (fun x hx => ?_)
  ·
   obtain ⟨a1, a2, a3, a4⟩ := hf x hx; obtain ⟨b1, b2, b3, b4⟩ := hf y hy; refine Classical.byContradiction fun hne => ?_; have hx1 := (memS x a2).1; have hy1 := (memS y b2).1; rw [← hxy] at b4; have hv := (mem_virtL.1 a3).2; have m1 : (j, f x) ∈ atV (f x).2.2 (allQ Q) := mem_atV.2 ⟨mem_allQ.2 (mem_virtL.1 a3).1, rfl⟩; have m2 : (x, f x) ∈ atV (f x).2.2 (allQ Q) := mem_atV.2 ⟨mem_allQ.2 (mem_virtL.1 a4).1, rfl⟩; have m3 : (y, f x) ∈ atV (f x).2.2 (allQ Q) := mem_atV.2 ⟨mem_allQ.2 (mem_virtL.1 b4).1, rfl⟩; rcases h.bes.2.1 _ hv with h0 | h2
   · rw [List.eq_nil_of_length_eq_zero h0] at m1; simp at m1
   ·
    obtain ⟨p, q, g, hg, _⟩ := fine_two h.bes.1 hv h2; rw [hg] at m1 m2 m3; simp only [List.mem_cons, Prod.mk.injEq, List.not_mem_nil, or_false] at m1 m2 m3; omega
  ·
   obtain ⟨a1, a2, a3, a4⟩ := hf x hx; rw [List.mem_filter]; refine ⟨a3, ?_⟩; simp only [decide_eq_true_eq]; obtain ⟨s1, s2, hs⟩ := List.append_of_mem hj; have hx2 : x ∈ s1 ∨ x ∈ s2 := by
    rw [hs] at a2; rcases List.mem_append.1 a2 with h1 | h1
    · exact .inl h1
    ·
     rcases List.mem_cons.1 h1 with h1 | h1
     · exact absurd h1.symm a1
     · exact .inr h1
   have hc1 := List.count_pos_iff.2 a3; have ho : ∀ U : List Nat, x ∈ U → 0 < (occL (U.map (lnQ Q))).count (f x) := fun U hU => List.count_pos_iff.2 (mem_occL.2 ⟨_, List.mem_map_of_mem hU, (mem_virtL.1 a4).1, (mem_virtL.1 a4).2⟩); rw [hs, List.map_append, List.map_cons, occL_append, occL_cons, List.count_append, List.count_append]; rcases hx2 with hx2 | hx2 <;> have := ho _ hx2 <;> omega
 have hfin := sum_twice hge
 rw [← hsum, hf] at hfin
 omega
end RightQ
end Go.Proofs.YtagcbnpahgfgmaaGreat
namespace Go.Proofs.YtagcbnpahgfgmaaGreat
theorem atV_map (Q : List Pt) {v : Int} (hv : v ≠ 0) : (atV v (allQ Q)).map (fun p => p.2) = (occL (Q.map fun q => q.2)).filter fun e => e.2.2 == v := by
 rw [← allQ_virt, List.filter_map, List.filter_filter]
 unfold atV
 congr 1
 refine List.filter_congr fun p _ => ?_
 by_cases h : p.2.2.2 = v
 · subst h; simp [hv]
 · simp [h]
theorem allQ_nodup {Q : List Pt} (h : ∀ q ∈ Q, q.2.Nodup) : (allQ Q).Nodup := by
 have key : ∀ i, i ≤ Q.length → (preO Q i).Nodup := by
  intro i
  induction i with
  | zero => intro _; simp [preO]
  | succ i ih =>
   intro hi; rw [preO_succ, List.nodup_append]; refine ⟨ih (by omega), ?_, fun a ha b hb e => ?_⟩
   ·
    unfold rowO; rw [List.Nodup, List.pairwise_map, lnQ_at (by omega : i < Q.length)]; exact (h _ (List.getElem_mem (by omega))).imp fun hab e => hab (congrArg Prod.snd e)
   ·
    subst e; have h1 := (mem_preO.1 ha).1; have h2 := (mem_rowO.1 hb).1; omega
 exact key _ (Nat.le_refl _)
theorem num_two {Q : List Pt} {D : List Lk} (hT : TreeP (Q.map fun q => q.2) D) {v : Int} (hv : v ≠ 0) : atV v (allQ Q) = [] ∨ ∃ e i j, e ∈ D ∧ e.2.2 = v ∧ i ≠ j ∧ atV v (allQ Q) = [(i, e), (j, e)] := by
 have hm := atV_map Q hv
 have hp := hT.occ.filter fun e => e.2.2 == v
 rw [List.filter_append, ← hm] at hp
 have hn : (D.filter fun e => e.2.2 == v).length ≤ 1 := by
  have := hT.num.count (a := v)
  have h2 : (D.map fun k => k.2.2).count v = (D.filter fun e => e.2.2 == v).length := by
   rw [List.count_eq_countP, List.countP_map, List.countP_eq_length_filter]; rfl
  rw [h2] at this
  split at this <;> omega
 have hnd : (atV v (allQ Q)).Nodup := (allQ_nodup fun q hq => hT.nd _ (List.mem_map_of_mem hq)).filter _
 obtain ⟨F, hD⟩ : ∃ F, F = D.filter fun e => e.2.2 == v := ⟨_, rfl⟩
 rw [← hD] at hp hn
 match F, hn with
 | [], _ =>
  left
  have := hp.length_eq
  simp at this
  exact this
 | [e], _ =>
  right
  have he : e ∈ D.filter fun e => e.2.2 == v := by rw [← hD]; simp
  rw [List.mem_filter] at he
  have hl := hp.length_eq
  simp only [List.length_map, List.length_append, List.length_cons, List.length_nil] at hl
  match ha : atV v (allQ Q), hl with
  | [p, q], _ =>
   rw [ha] at hp hnd; have e1 : p.2 = e := by have := hp.mem_iff.1 (show p.2 ∈ [p, q].map (fun p => p.2) by simp); simpa using this
   have e2 : q.2 = e := by have := hp.mem_iff.1 (show q.2 ∈ [p, q].map (fun p => p.2) by simp); simpa using this
   obtain ⟨i, p2⟩ := p; obtain ⟨j, q2⟩ := q; simp only at e1 e2; subst e1; subst e2; refine ⟨_, i, j, he.1, by simpa using he.2, fun e3 => ?_, rfl⟩; subst e3; simp at hnd
theorem QI.rightQ {ls : List Lk} {T : List Pt} (hq : QI ls T) (hk : ∀ q ∈ T, q.1 = kindL q.2 ∧ (q.1 = 1 ∨ q.1 = 2 ∨ q.1 = 3)) (hn : MNormal T) (hs : T.Pairwise LeP) : RightQ T := by
 obtain ⟨D, hT, hDv⟩ := hq.tree
 have hlen := hT.len
 rw [List.length_map] at hlen
 have hkd : ∀ i, i < T.length → kdQ T i = 1 ∨ kdQ T i = 2 ∨ kdQ T i = 3 := fun i hi => by rw [kdQ_at hi]; exact (hk _ (List.getElem_mem hi)).2
 have two : ∀ v, v ≠ 0 → atV v (allQ T) = [] ∨ ∃ e i j, e ∈ D ∧ e.2.2 = v ∧ i ≠ j ∧ atV v (allQ T) = [(i, e), (j, e)] := fun v hv => num_two hT hv
 have steps : ∀ {i j : Nat} {e : Lk}, i < j → e ∈ lnQ T i → e ∈ lnQ T j → e.2.2 ≠ 0 → kdQ T i ≠ kdQ T j ∨ kdQ T j = 3 := fun {i j e} hij hi hj hv => by
  have hil := lnQ_mem hi
  have hjl := lnQ_mem hj
  rw [lnQ_at hil] at hi
  rw [lnQ_at hjl] at hj
  rw [kdQ_at hil, kdQ_at hjl]
  refine Classical.byContradiction fun hno => ?_
  have hno2 : (T[i]).1 = (T[j]).1 ∧ (T[j]).1 ≠ 3 := by
   constructor
   · exact Classical.byContradiction fun h => hno (.inl h)
   · exact fun h => hno (.inr h)
  obtain ⟨R, hR⟩ := perm_two hij hjl
  exact hn e _ ⟨T[i], T[j], R, hR, mem_virtL.2 ⟨hi, hv⟩, mem_virtL.2 ⟨hj, hv⟩, hno2.1, by rw [hno2.1]; exact hno2.2, .refl _⟩
 refine ⟨fun e => ?_, fun q hq' => ?_, fun i hi => ?_, ⟨⟨?_, fun v hv => ?_⟩, fun v hv => ?_, ?_⟩, ?_⟩
 · rw [e] at hlen; simp at hlen
 ·
  have := hk q hq'
  exact ⟨by rcases this.2 with h | h | h <;> rw [h] <;> decide, this.1⟩
 · exact List.pairwise_iff_getElem.1 hs i (i + 1) (by omega) hi (by omega)
 ·
  have := allQ_real T
  unfold realsO
  rw [this]
  exact hT.rel
 ·
  rcases two v hv with h | ⟨e, i, j, he, hev, hij, h⟩
  · rw [h]; rfl
  ·
   rw [h]; have mi : e ∈ lnQ T i := mem_allQ.1 (mem_atV.1 (show (i, e) ∈ atV v (allQ T) by rw [h]; simp)).1; have mj : e ∈ lnQ T j := mem_allQ.1 (mem_atV.1 (show (j, e) ∈ atV v (allQ T) by rw [h]; simp)).1; have hkk : kdQ T i ≠ kdQ T j ∨ kdQ T j = 3 := by
    rcases Nat.lt_or_gt_of_ne hij with hlt | hlt
    · exact steps hlt mi mj (by rw [hev]; exact hv)
    ·
     rcases steps hlt mj mi (by rw [hev]; exact hv) with h1 | h1
     · exact .inl fun e => h1 e.symm
     ·
      by_cases h2 : kdQ T j = 3
      · exact .inr h2
      · exact .inl fun e => h2 (e ▸ h1)
   simp only [pairB, Bool.and_eq_true, Bool.or_eq_true, decide_eq_true_eq]; exact ⟨trivial, hij, hkk⟩
 ·
  rcases two v hv with h | ⟨e, i, j, he, hev, hij, h⟩
  · left; rw [h]; rfl
  · right; rw [h]; rfl
 ·
  have hmem : ∀ v, v ∈ numsO (allQ T) ↔ v ∈ D.map fun k => k.2.2 := fun v => by
   rw [mem_numsO, List.mem_map]; constructor
   ·
    rintro ⟨hv, p, hp, hpv⟩; refine ⟨p.2, hT.memD.2 (mem_occL.2 ⟨lnQ T p.1, ?_, mem_allQ.1 hp, by rw [hpv]; exact hv⟩), hpv⟩; have hl := lnQ_mem (mem_allQ.1 hp); rw [lnQ_at hl]; exact List.mem_map_of_mem (List.getElem_mem hl)
   ·
    rintro ⟨e, he, rfl⟩; obtain ⟨x, hx, hex, hev⟩ := mem_occL.1 (hT.memD.1 he); obtain ⟨q, hq', rfl⟩ := List.mem_map.1 hx; obtain ⟨i, hi, rfl⟩ := List.getElem_of_mem hq'; exact ⟨hev, (i, e), mem_allQ.2 (by rw [lnQ_at hi]; exact hex), rfl⟩
  have l1 := nodup_len_leZ (numsO_nodup (allQ T)) fun x hx => (hmem x).1 hx
  have l2 := nodup_len_leZ hT.num fun x hx => (hmem x).2 hx
  rw [List.length_map] at l1 l2
  omega
 ·
  intro j hj
  refine Classical.byContradiction fun hno => ?_
  obtain ⟨r, hr⟩ : ∃ r : Nat → Bool, r = fun i => @decide (Con (nbQ T) (· < T.length) 0 i) (Classical.propDecidable _) := ⟨_, rfl⟩
  have hr1 : ∀ i, r i = true ↔ Con (nbQ T) (· < T.length) 0 i := fun i => by rw [hr]; simp
  have hperm : (T.map fun q => q.2).Perm (((List.range T.length).filter r).map (lnQ T) ++ ((List.range T.length).filter fun i => !r i).map (lnQ T)) := by
   rw [RightQ.links_range, ← List.map_append]; exact (List.filter_append_perm _ _).symm.map _
  have h0 : 0 < T.length := by omega
  have m0 : (0 : Nat) ∈ (List.range T.length).filter r := List.mem_filter.2 ⟨List.mem_range.2 h0, (hr1 0).2 (.refl h0)⟩
  have mj : j ∈ (List.range T.length).filter fun i => !r i := List.mem_filter.2 ⟨List.mem_range.2 hj, by
   cases hrj : r j with
   | false => rfl
   | true => exact absurd ((hr1 j).1 hrj) hno⟩
  obtain ⟨e, he1, he2⟩ := hT.con _ _ hperm (by
   intro e; rw [List.map_eq_nil_iff] at e
   rw [e] at m0; simp at m0) (by
   intro e; rw [List.map_eq_nil_iff] at e
   rw [e] at mj; simp at mj)
  obtain ⟨x, hx, hex, hev⟩ := mem_occL.1 he1
  obtain ⟨y, hy, hey, _⟩ := mem_occL.1 he2
  obtain ⟨a, ha, rfl⟩ := List.mem_map.1 hx
  obtain ⟨b, hb, rfl⟩ := List.mem_map.1 hy
  rw [List.mem_filter, List.mem_range] at ha hb
  have hca := (hr1 a).1 ha.2
  have hnb : ¬ Con (nbQ T) (· < T.length) 0 b := fun hc => by
   have h3 := (hr1 b).2 hc; have h4 := hb.2; simp [h3] at h4
  have hab : a ≠ b := fun e => hnb (e ▸ hca)
  exact hnb (hca.step (mem_nbQ.2 (adjQ_iff.2 ⟨hab, e, e, hex, hey, hev, rfl⟩)) hb.1)
theorem TreeTo.rightQ {ls : List Lk} {T : List Pt} (h : TreeTo kindL ls T) (h2 : twoL ls = true) (hv : ∀ k ∈ ls, k.2.2 = 0) (h3 : 3 ≤ ls.length) : RightQ T := by
 obtain ⟨h4, h5, h6⟩ := h.qd h2 hv h3
 exact (h.qi (two_right h2) hv h3).rightQ h4.kind h5 h6
end Go.Proofs.YtagcbnpahgfgmaaGreat
namespace Go.Proofs.YtagcbnpahgfgmaaGreat
def addL (L : List Nat) (j : Nat) : List Nat := if j ∈ L then L else L ++ [j]
structure TrI (bs : Nat → List Nat) (n i : Nat) (L : List Nat) : Prop where
 nd : L.Nodup
 lt : ∀ x ∈ L, x < n
 zero : 0 ∈ L
 con : ∀ x ∈ L, Con bs (· < n) 0 x
 cl : ∀ k x, k < i → L[k]? = some x → ∀ j ∈ bs x, j ∈ L
 il : i ≤ L.length
theorem nodup_le {L : List Nat} {n : Nat} (h : L.Nodup) (hl : ∀ x ∈ L, x < n) : L.length ≤ n := by
 have h1 := nodup_len_le h (m := List.range n) fun x hx => List.mem_range.2 (hl x hx)
 simpa using h1
theorem nodup_all {L : List Nat} {n : Nat} (h : L.Nodup) (hl : ∀ x ∈ L, x < n) (hn : L.length = n) : ∀ j, j < n → j ∈ L := by
 intro j hj
 by_cases hm : j ∈ L
 · exact hm
 ·
  have h1 := nodup_le (L := j :: L) (n := n) (List.nodup_cons.2 ⟨hm, h⟩) fun x hx => by
   rcases List.mem_cons.1 hx with rfl | hx
   · exact hj
   · exact hl x hx
  simp at h1; omega
theorem all_len {L : List Nat} {n : Nat} (h : L.Nodup) (hl : ∀ x ∈ L, x < n) (ha : ∀ j, j < n → j ∈ L) : L.length = n := by
 have h1 := nodup_len_le (List.nodup_range (n := n)) (m := L) fun x hx => ha x (List.mem_range.1 hx)
 have := nodup_le h hl
 simp at h1
 omega
namespace TrI
variable {bs : Nat → List Nat} {n i : Nat} {L : List Nat}
theorem start (hn : 0 < n) : TrI bs n 0 [0] where
 nd := by simp
 lt x hx := by simp at hx; omega
 zero := by simp
 con x hx := by simp at hx; subst hx; exact .refl hn
 cl k x hk := absurd hk (by omega)
 il := by simp
theorem len (h : TrI bs n i L) : L.length ≤ n := nodup_le h.nd h.lt
theorem add (h : TrI bs n i L) {v j : Nat} (hv : L[i]? = some v) (hj : j ∈ bs v) (hjn : j < n) : TrI bs n i (addL L j) := by
 unfold addL
 split
 · exact h
 ·
  rename_i hm
  have hvm : v ∈ L := List.mem_of_getElem? hv
  refine ⟨?_, fun x hx => ?_, by simp [h.zero], fun x hx => ?_, fun k x hk hx y hy => ?_, by have := h.il; simp; omega⟩
  ·
   rw [List.nodup_append]; refine ⟨h.nd, by simp, fun x hx y hy e => ?_⟩; simp at hy; subst hy; subst e; exact hm hx
  ·
   rcases List.mem_append.1 hx with hx | hx
   · exact h.lt x hx
   · simp at hx; omega
  ·
   rcases List.mem_append.1 hx with hx | hx
   · exact h.con x hx
   · simp at hx; subst hx; exact .step (h.con v hvm) hj hjn
  ·
   have hkl : k < L.length := by have := h.il; omega
   rw [List.getElem?_append_left hkl] at hx; exact List.mem_append_left _ (h.cl k x hk hx y hy)
theorem next (h : TrI bs n i L) {v : Nat} (hv : L[i]? = some v) (hall : ∀ j ∈ bs v, j ∈ L) : TrI bs n (i + 1) L :=
 ⟨h.nd, h.lt, h.zero, h.con, fun k x hk hx => by
  by_cases e : k = i
  · subst e; rw [hv] at hx; cases hx; exact hall
  · exact h.cl k x (by omega) hx, (List.getElem?_eq_some_iff.1 hv).1⟩
theorem done (h : TrI bs n L.length L) : L.length = n ↔ ∀ j, j < n → Con bs (· < n) 0 j := by
 constructor
 ·
  intro hn j hj
  exact h.con j (nodup_all h.nd h.lt hn j hj)
 ·
  intro ha
  refine all_len h.nd h.lt fun j hj => ?_
  refine Con.to (fun y => y ∈ L) h.zero (fun y z hy hz => ?_) (ha j hj)
  obtain ⟨k, hk, rfl⟩ := List.getElem_of_mem hy
  exact h.cl k _ hk (by simp [hk]) z hz
end TrI
theorem addL_at {L : List Nat} {j i v : Nat} (h : L[i]? = some v) : (addL L j)[i]? = some v := by
 unfold addL
 split
 · exact h
 · rw [List.getElem?_append_left (List.getElem?_eq_some_iff.1 h).1]; exact h
theorem Con.congr {bs cs : Nat → List Nat} {S : Nat → Prop} {x y : Nat} (h : Con bs S x y) (he : ∀ a b, b ∈ bs a → b ∈ cs a) : Con cs S x y := by
 induction h with
 | refl h => exact .refl h
 | step _ hz hs ih => exact .step ih (he _ _ hz) hs
def seenQ (Q : List Pt) (i : Nat) : Prop := ∀ j (h : j < Q.length), j < i → Q[j].1 ≠ 0 ∧ Q[j].1 = kindL Q[j].2 ∧ (∀ h0 : 0 < j, cmpLs (Q[j - 1]'(by omega)).2 Q[j].2 ≤ 0)
theorem seenQ_zero (Q : List Pt) : seenQ Q 0 := fun j _ h => absurd h (by omega)
theorem seenQ_next {Q : List Pt} {i : Nat} (h : seenQ Q i) (hi : i < Q.length) (h1 : Q[i].1 ≠ 0) (h2 : Q[i].1 = kindL Q[i].2) (h3 : ∀ h0 : 0 < i, cmpLs (Q[i - 1]'(by omega)).2 Q[i].2 ≤ 0) : seenQ Q (i + 1) := fun j hj hji => by
 by_cases e : j = i
 · subst e; exact ⟨h1, h2, h3⟩
 · exact h j hj (by omega)
theorem seenQ_all {Q : List Pt} : seenQ Q Q.length ↔ kindsP Q ∧ ordP Q := by
 constructor
 ·
  intro h
  refine ⟨fun q hq => ?_, fun i hi => ?_⟩
  ·
   obtain ⟨j, hj, rfl⟩ := List.getElem_of_mem hq; exact ⟨(h j hj hj).1, (h j hj hj).2.1⟩
  · exact (h (i + 1) hi hi).2.2 (by omega)
 ·
  rintro ⟨h1, h2⟩ j hj _
  refine ⟨(h1 _ (List.getElem_mem hj)).1, (h1 _ (List.getElem_mem hj)).2, fun h0 => ?_⟩
  obtain ⟨k, rfl⟩ : ∃ k, j = k + 1 := ⟨j - 1, by omega⟩
  exact h2 k hj
theorem besQ_lt {Q : List Pt} (h : besideP Q) {i j : Nat} (hj : j ∈ besQ Q i) : j < Q.length := by
 have h1 := mem_nbQ.2 ((mem_besQ h).1 hj)
 unfold nbQ at h1
 exact List.mem_range.1 (List.mem_filter.1 h1).1
theorem con_bes {Q : List Pt} (h : besideP Q) : conP Q ↔ ∀ j, j < Q.length → Con (besQ Q) (· < Q.length) 0 j :=
 ⟨fun hc j hj => (hc j hj).congr fun a b hb => (mem_besQ h).2 (mem_nbQ.1 hb), fun hc j hj => (hc j hj).congr fun a b hb => mem_nbQ.2 ((mem_besQ h).1 hb)⟩
def metV (n : Nat) (L : List Nat) : List Bool := (List.range n).map fun j => decide (j ∈ L)
theorem metV_len (n : Nat) (L : List Nat) : (metV n L).length = n := by simp [metV]
theorem metV_get {n j : Nat} {L : List Nat} (h : j < n) : (metV n L)[j]? = some (decide (j ∈ L)) := by simp [metV, h]
theorem metV_set {n j : Nat} {L : List Nat} (h : j ∉ L) : (metV n L).set j true = metV n (L ++ [j]) := by
 apply List.ext_getElem (by simp [metV])
 intro i h1 h2
 simp only [metV, List.getElem_set, List.getElem_map, List.getElem_range, List.mem_append, List.mem_singleton]
 by_cases e : j = i
 · subst e; simp
 ·
  have : ¬ i = j := fun h => e h.symm
  simp [e, this]
theorem metV_zero (n : Nat) : (List.replicate n false).set 0 true = metV n [0] := by
 have h : List.replicate n false = metV n [] := by
  apply List.ext_getElem (by simp [metV])
  intro i h1 h2
  simp [metV]
 rw [h, metV_set (by simp)]; rfl
end Go.Proofs.YtagcbnpahgfgmaaGreat
namespace Go.Proofs.YtagcbnpahgfgmaaGreat
structure TreeG (bs : Nat → List Nat) (n : Nat) : Prop where
 nd : ∀ i, (bs i).Nodup
 lt : ∀ i j, j ∈ bs i → j < n
 sym : ∀ i j, j ∈ bs i → i ∈ bs j
 leaf : ∀ G, 0 < leftN n G → ∃ j, j < n ∧ endB bs G j = true
theorem RightQ.treeG {Q : List Pt} (h : RightQ Q) : TreeG (besQ Q) Q.length :=
 ⟨h.bes_nodup, fun _ _ hj => besQ_lt h.bes hj, fun _ _ hj => (mem_besQ h.bes).2 (adjQ_symm ((mem_besQ h.bes).1 hj)), h.leaf⟩
def hitC (bs : Nat → List Nat) (P : List Nat) (j : Nat) : Nat := (P.filter fun i => decide (j ∈ bs i)).length
structure LvI (bs : Nat → List Nat) (n : Nat) (G : Nat → Bool) (L : List Nat) : Prop where
 nd : L.Nodup
 mem : ∀ j, j ∈ L ↔ j < n ∧ endB bs G j = true
theorem nodup_same {l m : List Nat} (hl : l.Nodup) (hm : m.Nodup) (h : ∀ x, x ∈ l ↔ x ∈ m) : l.length = m.length :=
 Nat.le_antisymm (nodup_len_le hl fun x hx => (h x).1 hx) (nodup_len_le hm fun x hx => (h x).2 hx)
theorem deg_none (bs : Nat → List Nat) (j : Nat) : degG bs (fun _ => false) j = (bs j).length := by
 unfold degG
 have : (bs j).filter (fun k => !(fun _ : Nat => false) k) = bs j := List.filter_eq_self.2 (fun _ _ => rfl)
 rw [this]
namespace LvI
variable {bs : Nat → List Nat} {n : Nat} {G : Nat → Bool} {L : List Nat}
theorem len (h : LvI bs n G L) : L.length = ((List.range n).filter (endB bs G)).length :=
 nodup_same h.nd (List.nodup_range.sublist List.filter_sublist) fun x => by rw [h.mem, List.mem_filter, List.mem_range]
theorem left (h : LvI bs n G L) (h2 : 2 < leftN n G) : leftN n (peel bs n G) + L.length = leftN n G := by rw [h.len]; exact leftN_peel bs n G h2
theorem pos (h : LvI bs n G L) (ht : TreeG bs n) (h2 : 0 < leftN n G) : 0 < L.length := by
 obtain ⟨j, hj⟩ := ht.leaf G h2
 exact List.length_pos_iff.2 (List.ne_nil_of_mem ((h.mem j).2 hj))
theorem le (h : LvI bs n G L) : L.length ≤ n := by
 rw [h.len]
 have := List.length_filter_le (endB bs G) (List.range n)
 simpa using this
theorem lt (h : LvI bs n G L) {j : Nat} (hj : j ∈ L) : j < n := ((h.mem j).1 hj).1
theorem hit (h : LvI bs n G L) (ht : TreeG bs n) (j : Nat) : hitC bs L j = ((bs j).filter (endB bs G)).length := by
 unfold hitC
 refine nodup_same (h.nd.sublist List.filter_sublist) ((ht.nd j).sublist List.filter_sublist) fun x => ?_
 rw [List.mem_filter, List.mem_filter, h.mem]
 simp only [decide_eq_true_eq]
 constructor
 · rintro ⟨⟨_, h2⟩, h3⟩; exact ⟨ht.sym _ _ h3, h2⟩
 · rintro ⟨h1, h2⟩; exact ⟨⟨ht.lt _ _ h1, h2⟩, ht.sym _ _ h1⟩
theorem deg (h : LvI bs n G L) (ht : TreeG bs n) (h2 : 2 < leftN n G) (j : Nat) : degG bs (peel bs n G) j + hitC bs L j = degG bs G j := by
 rw [h.hit ht]
 unfold degG
 have e : (fun k => !peel bs n G k) = fun k => (!G k) && !endB bs G k := by
  funext k
  unfold peel
  rw [decide_eq_true h2]
  cases G k <;> simp
 rw [e]
 exact filter_split (bs j) (fun k => !G k) (endB bs G) fun x _ hx => by
  unfold endB at hx
  simp only [Bool.and_eq_true] at hx
  exact hx.1
theorem start (ht : TreeG bs n) : LvI bs n (fun _ => false) ((List.range n).filter fun i => decide ((bs i).length < 2)) := by
 refine ⟨List.nodup_range.sublist List.filter_sublist, fun j => ?_⟩
 rw [List.mem_filter, List.mem_range]
 unfold endB
 rw [deg_none]
 simp
 omega
end LvI
structure MoI (n : Nat) (G : Nat → Bool) (c : Nat → Int) (M : List Nat) : Prop where
 nd : M.Nodup
 mem : ∀ j, j ∈ M ↔ j < n ∧ G j = false ∧ c j ≤ 1
def updC (c : Nat → Int) (j : Nat) (v : Int) : Nat → Int := fun x => if x = j then v else c x
namespace MoI
variable {n : Nat} {G : Nat → Bool} {c : Nat → Int} {M : List Nat}
theorem le (h : MoI n G c M) : M.length ≤ n := by
 have := nodup_len_le h.nd (m := List.range n) fun x hx => List.mem_range.2 ((h.mem x).1 hx).1
 simpa using this
theorem start {bs : Nat → List Nat} {G0 : Nat → Bool} (h2 : 2 < leftN n G0) : MoI n (peel bs n G0) (fun j => (degG bs G0 j : Int)) [] := by
 refine ⟨by simp, fun j => ?_⟩
 simp only [List.not_mem_nil, false_iff]
 rintro ⟨_, h1, h3⟩
 unfold peel endB at h1
 rw [decide_eq_true h2] at h1
 simp at h1
 have := h1.2 h1.1
 omega
theorem no (h : MoI n G c M) {j : Nat} (hj : G j = true ∨ c j - 1 ≠ 1) : MoI n G (updC c j (c j - 1)) M := by
 refine ⟨h.nd, fun x => ?_⟩
 rw [h.mem]
 unfold updC
 by_cases e : x = j
 ·
  subst e
  rw [if_pos rfl]
  rcases hj with hj | hj
  · rw [hj]; simp
  · constructor <;> rintro ⟨a, b, d⟩ <;> exact ⟨a, b, by omega⟩
 · rw [if_neg e]
theorem yes (h : MoI n G c M) {j : Nat} (hn : j < n) (h1 : G j = false) (h2 : c j - 1 = 1) : MoI n G (updC c j (c j - 1)) (M ++ [j]) := by
 have hjM : j ∉ M := fun hm => by have := ((h.mem j).1 hm).2.2; omega
 refine ⟨?_, fun x => ?_⟩
 ·
  rw [List.nodup_append]
  exact ⟨h.nd, by simp, fun a ha b hb e => by simp at hb; subst hb; subst e; exact hjM ha⟩
 ·
  rw [List.mem_append, List.mem_singleton, h.mem]
  unfold updC
  by_cases e : x = j
  ·
   subst e; rw [if_pos rfl]; simp [hn, h1]; omega
  ·
   rw [if_neg e]; simp [e]
end MoI
def cntC (bs : Nat → List Nat) (G : Nat → Bool) (P pre : List Nat) : Nat → Int := fun j => (degG bs G j : Int) - (hitC bs P j : Int) - if j ∈ pre then 1 else 0
theorem cntC_start (bs : Nat → List Nat) (G : Nat → Bool) : cntC bs G [] [] = fun j => (degG bs G j : Int) := by funext j; simp [cntC, hitC]
theorem cntC_dec {bs : Nat → List Nat} {G : Nat → Bool} {P pre : List Nat} {j : Nat} (h : j ∉ pre) : updC (cntC bs G P pre) j (cntC bs G P pre j - 1) = cntC bs G P (pre ++ [j]) := by
 funext x
 unfold updC cntC
 by_cases e : x = j
 · subst e; simp [h]
 · simp [e]
theorem cntC_next {bs : Nat → List Nat} {G : Nat → Bool} {P : List Nat} {i : Nat} : cntC bs G P (bs i) = cntC bs G (P ++ [i]) [] := by
 funext x
 unfold cntC hitC
 rw [List.filter_append, List.length_append]
 by_cases e : x ∈ bs i <;> simp [e]
 omega
theorem cntC_end {bs : Nat → List Nat} {n : Nat} {G : Nat → Bool} {L : List Nat} (h : LvI bs n G L) (ht : TreeG bs n) (h2 : 2 < leftN n G) : cntC bs G L [] = fun j => (degG bs (peel bs n G) j : Int) := by
 funext j
 have := h.deg ht h2 j
 simp [cntC]
 omega
theorem MoI.lv {bs : Nat → List Nat} {n : Nat} {G : Nat → Bool} {M : List Nat} (h : MoI n G (fun j => (degG bs G j : Int)) M) : LvI bs n G M :=
 ⟨h.nd, fun j => by rw [h.mem]; unfold endB; simp; omega⟩
def cntV (n : Nat) (c : Nat → Int) : List Int := (List.range n).map c
def tkV (n : Nat) (G : Nat → Bool) : List Bool := (List.range n).map G
theorem cntV_len (n : Nat) (c : Nat → Int) : (cntV n c).length = n := by simp [cntV]
theorem tkV_len (n : Nat) (G : Nat → Bool) : (tkV n G).length = n := by simp [tkV]
theorem cntV_get {n j : Nat} {c : Nat → Int} (h : j < n) : (cntV n c)[j]? = some (c j) := by simp [cntV, h]
theorem tkV_get {n j : Nat} {G : Nat → Bool} (h : j < n) : (tkV n G)[j]? = some (G j) := by simp [tkV, h]
theorem cntV_set {n j : Nat} {c : Nat → Int} {v : Int} : (cntV n c).set j v = cntV n (updC c j v) := by
 apply List.ext_getElem (by simp [cntV])
 intro i h1 h2
 simp only [cntV, updC, List.getElem_set, List.getElem_map, List.getElem_range]
 by_cases e : j = i
 · subst e; simp
 ·
  have : ¬ i = j := fun h => e h.symm
  simp [e, this]
theorem cntV_zero (n : Nat) : List.replicate n (0 : Int) = cntV n fun _ => 0 := by
 apply List.ext_getElem (by simp [cntV])
 intro i h1 h2
 simp [cntV]
theorem tkV_zero (n : Nat) : List.replicate n false = tkV n fun _ => false := by
 apply List.ext_getElem (by simp [tkV])
 intro i h1 h2
 simp [tkV]
def orL (G : Nat → Bool) (P : List Nat) : Nat → Bool := fun j => G j || decide (j ∈ P)
theorem tkV_set {n j : Nat} {G : Nat → Bool} {P : List Nat} : (tkV n (orL G P)).set j true = tkV n (orL G (P ++ [j])) := by
 apply List.ext_getElem (by simp [tkV])
 intro i h1 h2
 simp only [tkV, orL, List.getElem_set, List.getElem_map, List.getElem_range, List.mem_append, List.mem_singleton]
 by_cases e : j = i
 · subst e; simp
 ·
  have : ¬ i = j := fun h => e h.symm
  simp [e, this]
theorem orL_nil (G : Nat → Bool) : orL G [] = G := by funext j; simp [orL]
theorem tkV_peel {bs : Nat → List Nat} {n : Nat} {G : Nat → Bool} {L : List Nat} (h : LvI bs n G L) (h2 : 2 < leftN n G) : tkV n (orL G L) = tkV n (peel bs n G) := by
 unfold tkV
 refine List.map_congr_left fun j hj => ?_
 have hj' := List.mem_range.1 hj
 unfold orL peel
 rw [decide_eq_true h2, Bool.true_and]
 congr 1
 rw [Bool.eq_iff_iff, decide_eq_true_eq, h.mem]
 simp [hj']
end Go.Proofs.YtagcbnpahgfgmaaGreat
namespace Go.Proofs.YtagcbnpahgfgmaaGreat
theorem pw_mem {α : Type} {R : α → α → Prop} (hs : ∀ a b, R a b → R b a) : ∀ {l : List α}, l.Pairwise R → ∀ a ∈ l, ∀ b ∈ l, a ≠ b → R a b
 | [], _, a, ha, _, _, _ => by simp at ha
 | x :: l, h, a, ha, b, hb, hne => by
  obtain ⟨h1, h2⟩ := List.pairwise_cons.1 h
  rcases List.mem_cons.1 ha with e1 | ha <;> rcases List.mem_cons.1 hb with e2 | hb
  · exact absurd (e1.trans e2.symm) hne
  · rw [e1]; exact h1 b hb
  · rw [e2]; exact hs _ _ (h1 a ha)
  · exact pw_mem hs h2 a ha b hb hne
def setsD {ls : List Lk} (d : DT ls) : List (Al ls → Prop) := d.1.map d.2
theorem Dec.fam {ls : List Lk} (hG : Uq.Ok (grL ls)) {T : List (DT ls)} (hD : Dec ls T) {Q : List Pt} (hR : ∀ q ∈ Q, RightL q.2) (hT : (T.map fun d => d.1) = Q.map fun q => q.2)
  (hk : ∀ q ∈ Q, q.1 = kindL q.2 ∧ (q.1 = 1 ∨ q.1 = 2 ∨ q.1 = 3)) (hn : MNormal Q) : Uq.Fam (grL ls) (T.map setsD) := by
 have hlen : T.length = Q.length := by have := congrArg List.length hT; simpa using this
 have at_ : ∀ i (h1 : i < T.length) (h2 : i < Q.length), T[i].1 = Q[i].2 := fun i h1 h2 => by
  have := congrArg (fun l => l[i]?) hT
  simp only [List.getElem?_map, List.getElem?_eq_getElem h1, List.getElem?_eq_getElem h2, Option.map_some] at this
  exact Option.some.inj this
 have ofd : ∀ d ∈ T, ∃ q ∈ Q, d.1 = q.2 := fun d hd => by
  have : d.1 ∈ Q.map fun q => q.2 := by rw [← hT]; exact List.mem_map_of_mem hd
  obtain ⟨q, hq, e⟩ := List.mem_map.1 this
  exact ⟨q, hq, e.symm⟩
 have rd : ∀ d ∈ T, RightL d.1 := fun d hd => by
  obtain ⟨q, hq, e⟩ := ofd d hd
  rw [e]; exact hR q hq
 refine ⟨fun P hP => ?_, fun P hP => ?_, fun P hP X hX hb => ?_, fun P hP Q' hQ' X hX hXn => ?_⟩
 ·
  obtain ⟨d, hd, rfl⟩ := List.mem_map.1 hP
  exact (hD.part d hd).isPart
 ·
  obtain ⟨d, hd, rfl⟩ := List.mem_map.1 hP
  have hp := hD.part d hd
  obtain ⟨q, hq, e⟩ := ofd d hd
  obtain ⟨k1, k2⟩ := hk q hq
  rw [k1, ← e] at k2
  rcases k2 with k2 | k2 | k2
  · exact .inr (.inl (hp.cycU ((hp.kind_cyc hG (rd d hd)).1 k2)))
  · exact .inl (hp.bondU ((hp.kind_bond hG (rd d hd)).1 k2))
  · exact .inr (.inr (hp.rigid hG (rd d hd) k2))
 ·
  obtain ⟨d, hd, rfl⟩ := List.mem_map.1 hP
  obtain ⟨e, he, rfl⟩ := List.mem_map.1 hX
  have hp := hD.part d hd
  by_cases hv : e.2.2 = 0
  ·
   obtain ⟨k, m, hkm, h1, h2⟩ := hb; exact absurd (Subtype.ext (((hp.real e he hv k).1 h1).trans ((hp.real e he hv m).1 h2).symm)) hkm
  ·
   obtain ⟨d', hd', h1, h2⟩ := hD.virt d hd e he hv; exact ⟨_, List.mem_map_of_mem hd', List.mem_map.2 ⟨e, h1, funext fun m => propext (h2 m)⟩⟩
 ·
  obtain ⟨d, hd, rfl⟩ := List.mem_map.1 hP
  obtain ⟨d', hd', rfl⟩ := List.mem_map.1 hQ'
  obtain ⟨e, he, rfl⟩ := List.mem_map.1 hX
  obtain ⟨f, hf, hfe⟩ := List.mem_map.1 hXn
  have hp := hD.part d hd
  have hp' := hD.part d' hd'
  have hfm : ∀ m, d'.2 f m ↔ ¬ d.2 e m := fun m => by rw [hfe]
  have hv : e.2.2 ≠ 0 := fun hv => by
   obtain ⟨g, hg, g1, _, m, hm⟩ := hp'.third f f; obtain ⟨g', hg', g2, g3, m', hm'⟩ := hp'.third f g; have h1 : d.2 e m := Classical.byContradiction fun hn => g1 (hp'.disj g hg f hf m hm ((hfm m).2 hn)); have h2 : d.2 e m' := Classical.byContradiction fun hn => g2 (hp'.disj g' hg' f hf m' hm' ((hfm m').2 hn)); have : m' = m := Subtype.ext (((hp.real e he hv m').1 h2).trans ((hp.real e he hv m).1 h1).symm); subst this; exact g3 (hp'.disj g' hg' g hg m' hm' hm)
  obtain ⟨d2, hd2, h1, h2⟩ := hD.virt d hd e he hv
  have e2 : d2 = d' := Classical.byContradiction fun hne =>
   (pw_mem (fun a b h => NestD.symm h) hD.nest d2 hd2 d' hd' hne).ne (hD.part d2 hd2) hp' h1 hf fun m => (h2 m).trans (hfm m).symm
  subst e2
  have hdd : d ≠ d2 := fun e3 => by
   subst e3; obtain ⟨m, hm⟩ := hp.ne e he; exact (h2 m).1 hm hm
  obtain ⟨i, hi, rfl⟩ := List.getElem_of_mem hd
  obtain ⟨j, hj, rfl⟩ := List.getElem_of_mem hd2
  have hij : i ≠ j := fun e3 => by subst e3; exact hdd rfl
  have hi' : i < Q.length := by omega
  have hj' : j < Q.length := by omega
  obtain ⟨R, hPm⟩ : ∃ R, Q.Perm (Q[i] :: Q[j] :: R) := by
   rcases Nat.lt_or_gt_of_ne hij with hlt | hlt
   · exact perm_two hlt hj'
   ·
    obtain ⟨R, hR⟩ := perm_two hlt hi'; exact ⟨R, hR.trans (.swap ..)⟩
  have a1 := at_ i hi hi'
  have a2 := at_ j hj hj'
  have k1 := (hk _ (List.getElem_mem hi')).1
  have k2 := (hk _ (List.getElem_mem hj')).1
  rw [← a1] at k1
  rw [← a2] at k2
  have no : ∀ n : Int, n ≠ 3 → kindL T[i].1 = n → kindL T[j].1 = n → False := fun n h3 q1 q2 =>
   hn e _ ⟨Q[i], Q[j], R, hPm, mem_virtL.2 ⟨by rw [← a1]; exact he, hv⟩, mem_virtL.2 ⟨by rw [← a2]; exact h1, hv⟩, by rw [k1, k2, q1, q2], by rw [k1, q1]; exact h3, .refl _⟩
  refine ⟨fun ⟨b1, b2⟩ => no 2 (by omega) ((hp.kind_bond hG (rd _ hd)).2 (hp.bond_of b1)) ((hp'.kind_bond hG (rd _ hd')).2 (hp'.bond_of b2)),
   fun ⟨b1, b2⟩ => no 1 (by omega) ((hp.kind_cyc hG (rd _ hd)).2 (hp.cyc_of b1)) ((hp'.kind_cyc hG (rd _ hd')).2 (hp'.cyc_of b2))⟩
end Go.Proofs.YtagcbnpahgfgmaaGreat
namespace Go.Proofs.YtagcbnpahgfgmaaGreat
def renL (s : Int → Int) (k : Lk) : Lk := swapL (s k.1, s k.2.1, k.2.2)
structure CallL (ls : List Lk) (s t : Int → Int) : Prop where
 ts : ∀ v, t (s v) = v
 st : ∀ v, s (t v) = v
 vs : ∀ v ∈ vertsL ls, s v ∈ vertsL ls
theorem swapL_at (k : Lk) (v : Int) : AtL (swapL k) v ↔ AtL k v := by
 unfold swapL AtL
 split
 · exact Or.comm
 · exact .rfl
theorem swapL_two (k : Lk) : (swapL k).2.2 = k.2.2 := by unfold swapL; split <;> rfl
theorem renL_two (s : Int → Int) (k : Lk) : (renL s k).2.2 = k.2.2 := swapL_two _
theorem renL_at {s t : Int → Int} (ts : ∀ v, t (s v) = v) (k : Lk) (v : Int) : AtL (renL s k) (s v) ↔ AtL k v := by
 unfold renL
 rw [swapL_at]
 unfold AtL
 have e : ∀ x y, s x = s y ↔ x = y := fun x y => ⟨fun h => by rw [← ts x, h, ts], fun h => by rw [h]⟩
 simp only [e]
theorem renL_back {s t : Int → Int} (ts : ∀ v, t (s v) = v) {k : Lk} (h : k.1 < k.2.1) : renL t (renL s k) = k := by
 obtain ⟨a, b, c⟩ := k
 simp only at h
 unfold renL swapL
 split
 ·
  simp only [ts]
  rw [if_pos h]
 ·
  simp only [ts]
  rw [if_neg (by omega)]
def renLs (s : Int → Int) (ls : List Lk) : List Lk := sortL (ls.map fun k => (s k.1, s k.2.1, (0 : Int)))
theorem renLs_perm {s : Int → Int} {ls : List Lk} (hv : ∀ k ∈ ls, k.2.2 = 0) : (renLs s ls).Perm (ls.map (renL s)) := by
 refine (sortL_perm _).trans ?_
 rw [List.map_map]
 refine List.Perm.of_eq (List.map_congr_left fun k hk => ?_)
 show swapL (s k.1, s k.2.1, 0) = swapL (s k.1, s k.2.1, k.2.2)
 rw [hv k hk]
theorem mem_renLs {s : Int → Int} {ls : List Lk} (hv : ∀ k ∈ ls, k.2.2 = 0) {k : Lk} : k ∈ renLs s ls ↔ ∃ e ∈ ls, renL s e = k := by
 rw [(renLs_perm hv).mem_iff, List.mem_map]
theorem renLs_real {s : Int → Int} {ls : List Lk} (hv : ∀ k ∈ ls, k.2.2 = 0) : ∀ k ∈ renLs s ls, k.2.2 = 0 := fun k hk => by
 obtain ⟨e, he, rfl⟩ := (mem_renLs hv).1 hk
 rw [renL_two, hv e he]
theorem renLs_len (s : Int → Int) (ls : List Lk) : (renLs s ls).length = ls.length := by unfold renLs; rw [sortL_length, List.length_map]
namespace CallL
variable {ls : List Lk} {s t : Int → Int} (h : CallL ls s t)
include h
theorem inj {x y : Int} (e : s x = s y) : x = y := by rw [← h.ts x, e, h.ts]
theorem okV (hR : RightL ls) {v : Int} (hv : v ∈ vertsL ls) : 0 ≤ s v ∧ s v < 1048576 := by
 obtain ⟨e, he, hev⟩ := (mem_vertsL ls _).1 (h.vs v hv)
 have ok := hR.2.1 e he
 unfold OkL at ok
 omega
theorem ok (hR : RightL ls) {k : Lk} (hk : k ∈ ls) : OkL (renL s k) := by
 have o := hR.2.1 k hk
 have h1 := h.okV hR ((mem_vertsL ls k.1).2 ⟨k, hk, .inl rfl⟩)
 have h2 := h.okV hR ((mem_vertsL ls k.2.1).2 ⟨k, hk, .inr rfl⟩)
 have h3 : s k.1 ≠ s k.2.1 := fun e => by
  have := h.inj e
  unfold OkL at o
  omega
 unfold OkL at o
 unfold renL swapL OkL
 split
 · simp only at *; omega
 · simp only at *; omega
theorem right (hR : RightL ls) (hv : ∀ k ∈ ls, k.2.2 = 0) : RightL (renLs s ls) := by
 refine right_of (renLs_perm hv) (sortL_sorted _) ?_ (fun k hk => ?_) (by rw [List.length_map]; exact hR.1)
 ·
  refine (renLs_perm hv).nodup_iff.2 (List.pairwise_map.2 ((right_nodup hR).imp_of_mem fun {x y} hx hy hne e => hne ?_))
  rw [← renL_back h.ts (hR.2.1 x hx).2.1, e, renL_back h.ts (hR.2.1 y hy).2.1]
 ·
  obtain ⟨e, he, rfl⟩ := List.mem_map.1 hk
  exact h.ok hR he
theorem two (h2 : twoL ls = true) (hv : ∀ k ∈ ls, k.2.2 = 0) (hne : ls ≠ []) : twoL (renLs s ls) = true := by
 have hR := two_right h2
 refine two_con (h.right hR hv) (fun e => hne ?_) fun Y ⟨e, he, hY⟩ ⟨f, hf, hn⟩ a => ?_
 ·
  have := renLs_len s ls
  rw [e] at this
  exact List.eq_nil_of_length_eq_zero this.symm
 ·
  obtain ⟨e, he', rfl⟩ := (mem_renLs hv).1 he
  obtain ⟨f, hf', rfl⟩ := (mem_renLs hv).1 hf
  obtain ⟨v, hva, ⟨x, hx, hxY, hxv⟩, y, hy, hyY, hyv⟩ := con_two h2 (fun k => Y (renL s k)) ⟨e, he', hY⟩ ⟨f, hf', hn⟩ (t a)
  exact ⟨s v, fun e => hva (by rw [← e, h.ts]), ⟨_, (mem_renLs hv).2 ⟨x, hx, rfl⟩, hxY, (renL_at h.ts x v).2 hxv⟩, _, (mem_renLs hv).2 ⟨y, hy, rfl⟩, hyY, (renL_at h.ts y v).2 hyv⟩
theorem verts (hv : ∀ k ∈ ls, k.2.2 = 0) : (vertsL ls).length ≤ (vertsL (renLs s ls)).length := by
 have h1 : ((vertsL ls).map s).Nodup := List.pairwise_map.2 ((verts_nodup ls).imp fun hne e => hne (h.inj e))
 have := Uq.sub_le (m := vertsL (renLs s ls)) h1 fun x hx => by
  obtain ⟨v, hvv, rfl⟩ := List.mem_map.1 hx
  obtain ⟨e, he, hev⟩ := (mem_vertsL ls v).1 hvv
  exact AtL.vert ((mem_renLs hv).2 ⟨e, he, rfl⟩) ((renL_at h.ts e v).2 hev)
 simpa using this
end CallL
def toA (s : Int → Int) {ls : List Lk} (hv : ∀ k ∈ ls, k.2.2 = 0) (a : Al ls) : Al (renLs s ls) := ⟨renL s a.1, (mem_renLs hv).2 ⟨a.1, a.2, rfl⟩⟩
theorem CallL.mem_back {ls : List Lk} {s t : Int → Int} (h : CallL ls s t) (hR : RightL ls) (hv : ∀ k ∈ ls, k.2.2 = 0) {k : Lk} (hk : k ∈ renLs s ls) : renL t k ∈ ls := by
 obtain ⟨e, he, rfl⟩ := (mem_renLs hv).1 hk
 rw [renL_back h.ts (hR.2.1 e he).2.1]
 exact he
theorem CallL.iso {ls : List Lk} {s t : Int → Int} (h : CallL ls s t) (hR : RightL ls) (hv : ∀ k ∈ ls, k.2.2 = 0) :
  Uq.Iso (grL ls) (grL (renLs s ls)) (toA s hv) (fun b => ⟨renL t b.1, h.mem_back hR hv b.2⟩) s t := by
 refine ⟨fun a => Subtype.ext (renL_back h.ts (hR.2.1 a.1 a.2).2.1), fun b => Subtype.ext ?_, h.ts, h.st, fun a v => (renL_at h.ts a.1 v).symm⟩
 obtain ⟨k, hk⟩ := b
 obtain ⟨e, he, rfl⟩ := (mem_renLs hv).1 hk
 show renL s (renL t (renL s e)) = renL s e
 rw [renL_back h.ts (hR.2.1 e he).2.1]
end Go.Proofs.YtagcbnpahgfgmaaGreat
namespace Go.Proofs.YtagcbnpahgfgmaaGreat
theorem perm_through {α β γ δ : Type} {p : List α} {p' : List β} {f : α → γ} {f' : β → γ} {b : α → δ} {b' : β → δ} (hp : (p.map f).Perm (p'.map f')) (hb : ∀ x ∈ p, ∀ y ∈ p', f x = f' y → b x = b' y) : (p.map b).Perm (p'.map b') := by
 classical
 match p, hp, hb with
 | [], hp, _ =>
  have := hp.length_eq
  simp at this
  rw [List.eq_nil_of_length_eq_zero this.symm]
  exact .refl _
 | x0 :: p, hp, hb =>
  have hc : ∃ c : γ → δ, (∀ x ∈ x0 :: p, c (f x) = b x) ∧ ∀ y ∈ p', c (f' y) = b' y := by
   refine ⟨fun g => if h : ∃ y ∈ p', f' y = g then b' h.choose else b x0, fun x hx => ?_, fun y hy => ?_⟩
   ·
    have h : ∃ y ∈ p', f' y = f x := by
     have := hp.mem_iff.1 (List.mem_map_of_mem hx); exact List.mem_map.1 this
    simp only [dif_pos h]; exact (hb x hx _ h.choose_spec.1 h.choose_spec.2.symm).symm
   ·
    have h : ∃ z ∈ p', f' z = f' y := ⟨y, hy, rfl⟩
    simp only [dif_pos h]; obtain ⟨x, hx, e⟩ := List.mem_map.1 (hp.mem_iff.2 (List.mem_map_of_mem hy)); rw [← hb x hx y hy e, hb x hx _ h.choose_spec.1 (e.trans h.choose_spec.2.symm)]
  obtain ⟨c, h1, h2⟩ := hc
  have := hp.map c
  rw [List.map_map, List.map_map] at this
  rwa [List.map_congr_left (f := c ∘ f) (g := b) (fun x hx => h1 x hx), List.map_congr_left (f := c ∘ f') (g := b') (fun y hy => h2 y hy)] at this
namespace Uq
variable {α : Type} {G : Gr α}
theorem IsPart.small {P P' : List (α → Prop)} (h : IsPart G P) (h' : IsPart G P') (hn : ∀ X ∈ P, ¬ Big X) (hn' : ∀ X ∈ P', ¬ Big X) : ∀ X ∈ P, X ∈ P' := by
 intro X hX
 obtain ⟨k, hk⟩ := h.ne X hX
 obtain ⟨Y, hY, hkY⟩ := h'.cover k
 have : X = Y := funext fun m => propext ⟨fun hm => by
   have : m = k := Classical.byContradiction fun hne => hn X hX ⟨m, k, hne, hm, hk⟩; rw [this]; exact hkY, fun hm => by
   have : m = k := Classical.byContradiction fun hne => hn' Y hY ⟨m, k, hne, hm, hkY⟩
   rw [this]; exact hk⟩
 rw [this]; exact hY
theorem Fam.all {T T' : List (List (α → Prop))} (hG : Ok G) {U : List α} (hU : ∀ k, k ∈ U) (h : Fam G T) (h' : Fam G T') (hne : T' ≠ []) {P : List (α → Prop)} (hP : P ∈ T) : ∃ P' ∈ T', P.Perm P' := by
 by_cases hb : ∃ X ∈ P, Big X
 ·
  obtain ⟨X, hX, hb⟩ := hb
  exact h.one hG hU h' hne hP hX hb
 ·
  have hn : ∀ X ∈ P, ¬ Big X := fun X hX hx => hb ⟨X, hX, hx⟩
  obtain ⟨P', hP'⟩ := List.exists_mem_of_ne_nil _ hne
  by_cases hb' : ∃ X ∈ P', Big X
  ·
   obtain ⟨X, hX, hbX⟩ := hb'; obtain ⟨P2, hP2, hp2⟩ := h'.one hG hU h (List.ne_nil_of_mem hP) hP' hX hbX; have p1 := h.part P hP; have p2 := h.part P2 hP2; obtain ⟨Y, hY, hs⟩ := h.nest hG hP (p2.ne X (hp2.mem_iff.1 hX)) (p2.out (hp2.mem_iff.1 hX)) (p2.two X (hp2.mem_iff.1 hX)) fun D hD => h.uncrossed hG hP2 (hp2.mem_iff.1 hX) hD; exfalso; rcases hs with hs | hs
   ·
    obtain ⟨k, m, hkm, h1, h2⟩ := hbX; exact hn Y hY ⟨k, m, hkm, hs k h1, hs m h2⟩
   ·
    obtain ⟨A, hA, a1, _⟩ := third p2.nd p2.three X X; obtain ⟨B, hB, b1, b2⟩ := third p2.nd p2.three X A; obtain ⟨k, hk⟩ := p2.ne A hA; obtain ⟨m, hm⟩ := p2.ne B hB; exact hn Y hY ⟨k, m, fun e => b2 (p2.disj B hB A hA m hm (e ▸ hk)), hs k fun hx => a1 (p2.disj A hA X (hp2.mem_iff.1 hX) k hk hx), hs m fun hx => b1 (p2.disj B hB X (hp2.mem_iff.1 hX) m hm hx)⟩
  ·
   have hn' : ∀ X ∈ P', ¬ Big X := fun X hX hx => hb' ⟨X, hX, hx⟩; have p1 := h.part P hP; have p2 := h'.part P' hP'; exact ⟨P', hP', (List.perm_ext_iff_of_nodup p1.nd p2.nd).2 fun X => ⟨p1.small p2 hn hn' X, p2.small p1 hn' hn X⟩⟩
end Uq
def bareL (s : Int → Int) (p : List Lk) : List Lk := sortL (p.map fun e => (s e.1, s e.2.1, min e.2.2 1))
def bareP (s : Int → Int) (q : Pt) : Pt := (q.1, bareL s q.2)
theorem nodup_sets {ls : List Lk} {T : List (DT ls)} (hD : Dec ls T) : (T.map fun d X => X ∈ setsD d).Nodup := by
 refine List.pairwise_map.2 ((hD.nest.imp_of_mem fun {d d'} hd hd' hn e => ?_))
 have hp := hD.part d hd
 have hp' := hD.part d' hd'
 obtain ⟨x, hx⟩ := List.exists_mem_of_ne_nil _ hp.nil
 have h1 : (d.2 x) ∈ setsD d := List.mem_map_of_mem hx
 have h2 : (d.2 x) ∈ setsD d' := by
  have := congrFun e (d.2 x)
  exact this ▸ h1
 obtain ⟨f, hf, hfe⟩ := List.mem_map.1 h2
 exact hn.ne hp hp' hx hf fun m => by rw [hfe]
theorem part_same {ls : List Lk} {s t : Int → Int} (hc : CallL ls s t) (hR : RightL ls) (hv : ∀ k ∈ ls, k.2.2 = 0) (hG : Uq.Ok (grL ls)) (hG' : Uq.Ok (grL (renLs s ls))) {d : DT ls} {d' : DT (renLs s ls)} (hp : DPart ls d.1 d.2) (hp' : DPart (renLs s ls) d'.1 d'.2)
  (hr : RightL d.1) (hr' : RightL d'.1) (hk : kindL d.1 = 1 ∨ kindL d.1 = 2 ∨ kindL d.1 = 3) (hk' : kindL d'.1 = 1 ∨ kindL d'.1 = 2 ∨ kindL d'.1 = 3)
  (he : (setsD d).Perm ((setsD d').map (Uq.pull (toA s hv)))) : kindL d.1 = kindL d'.1 ∧ bareL s d.1 = bareL id d'.1 := by
 have hI := hc.iso hR hv
 have perm_bond : ∀ {P Q : List (Al ls → Prop)}, P.Perm Q → Uq.Bond (grL ls) P → Uq.Bond (grL ls) Q := fun {P Q} hpq ⟨a, b, h⟩ => ⟨a, b, fun X hX => h X (hpq.mem_iff.2 hX)⟩
 have perm_cyc : ∀ {P Q : List (Al ls → Prop)}, P.Perm Q → Uq.Cyc (grL ls) P → Uq.Cyc (grL ls) Q := fun {P Q} hpq h v X hX Y hY Z hZ => h v X (hpq.mem_iff.2 hX) Y (hpq.mem_iff.2 hY) Z (hpq.mem_iff.2 hZ)
 have b2 : kindL d.1 = 2 ↔ kindL d'.1 = 2 := by
  rw [hp.kind_bond hG hr, hp'.kind_bond hG' hr']
  constructor
  ·
   intro hb; have h1 := perm_bond he (hp.bondU hb); have h2 := hI.symm.bond h1; rw [hI.pulled] at h2; exact hp'.bond_of h2
  · exact fun hb => hp.bond_of (perm_bond he.symm (hI.bond (hp'.bondU hb)))
 have b1 : kindL d.1 = 1 ↔ kindL d'.1 = 1 := by
  rw [hp.kind_cyc hG hr, hp'.kind_cyc hG' hr']
  constructor
  ·
   intro hb; have h1 := perm_cyc he (hp.cycU hb); have h2 := hI.symm.cyc h1; rw [hI.pulled] at h2; exact hp'.cyc_of h2
  · exact fun hb => hp.cyc_of (perm_cyc he.symm (hI.cyc (hp'.cycU hb)))
 refine ⟨by omega, ?_⟩
 unfold setsD at he
 rw [List.map_map] at he
 refine sortL_congr ?_
 rw [List.map_map, List.map_map]
 refine perm_through he fun x hx y hy e => ?_
 have ex : ∀ v, AtL x v ↔ AtL y (s v) := fun v => by
  rw [← hp.ends x hx v, ← hp'.ends y hy (s v), e]
  exact hI.bdp _ v
 have ok1 := (hr.2.1 x hx)
 have ok2 := (hr'.2.1 y hy)
 have ev : min x.2.2 1 = min y.2.2 1 := by
  have key : x.2.2 = 0 ↔ y.2.2 = 0 := by
   constructor
   ·
    intro h0; refine Classical.byContradiction fun hn => ?_; obtain ⟨k, m, hkm, h1, h2⟩ := hp'.big y hy hn; have hx1 : ∀ b : Al (renLs s ls), d'.2 y b → (⟨renL t b.1, hc.mem_back hR hv b.2⟩ : Al ls).1 = x := fun b hb => by
     have : d.2 x ⟨renL t b.1, hc.mem_back hR hv b.2⟩ := by
      rw [e]; show d'.2 y (toA s hv ⟨renL t b.1, hc.mem_back hR hv b.2⟩); rw [hI.fg b]; exact hb
     exact (hp.real x hx h0 _).1 this
    exact hkm (hI.symm.inj' (Subtype.ext ((hx1 k h1).trans (hx1 m h2).symm)))
   ·
    intro h0; refine Classical.byContradiction fun hn => ?_; obtain ⟨k, m, hkm, h1, h2⟩ := hp.big x hx hn; have hy1 : ∀ a : Al ls, d.2 x a → (toA s hv a).1 = y := fun a ha => by
     rw [e] at ha; exact (hp'.real y hy h0 _).1 ha
    have : toA s hv k = toA s hv m := Subtype.ext ((hy1 k h1).trans (hy1 m h2).symm); exact hkm (by rw [← hI.gf k, this, hI.gf])
  unfold OkL at ok1 ok2
  omega
 have e1 := (ex x.1).1 (.inl rfl)
 have e2 := (ex x.2.1).1 (.inr rfl)
 have hne : s x.1 ≠ s x.2.1 := fun h => by
  have := hc.inj h
  unfold OkL at ok1
  omega
 show swapL (s x.1, s x.2.1, min x.2.2 1) = swapL (y.1, y.2.1, min y.2.2 1)
 rw [ev]
 unfold OkL at ok1 ok2
 unfold AtL at e1 e2
 unfold swapL
 simp only
 rw [if_neg (show ¬ y.2.1 < y.1 by omega)]
 rcases e1 with e1 | e1 <;> rcases e2 with e2 | e2
 · exact absurd (e1.trans e2.symm) hne
 · rw [e1, e2, if_neg (by omega)]
 · rw [e1, e2, if_pos (by omega)]
 · exact absurd (e1.trans e2.symm) hne
theorem trees_same {ls : List Lk} {s t : Int → Int} (hc : CallL ls s t) (h2 : twoL ls = true) (hv : ∀ k ∈ ls, k.2.2 = 0) (h3 : 3 ≤ ls.length) {T T' : List Pt} (hT : TreeTo kindL ls T) (hT' : TreeTo kindL (renLs s ls) T') :
  (T.map (bareP s)).Perm (T'.map (bareP id)) := by
 have hne : ls ≠ [] := fun e => by rw [e] at h3; simp at h3
 have hR := two_right h2
 have h2' := hc.two h2 hv hne
 have hv' := renLs_real (s := s) hv
 have hR' := hc.right hR hv
 have h3' : 3 ≤ (renLs s ls).length := by rw [renLs_len]; exact h3
 have hG := ok_grL h2
 have hG' := ok_grL h2'
 have hI := hc.iso hR hv
 obtain ⟨q1, n1, _⟩ := hT.qd h2 hv h3
 obtain ⟨q2, n2, _⟩ := hT'.qd h2' hv' h3'
 have r1 := (hT.qi hR hv h3).right
 have r2 := (hT'.qi hR' hv' h3').right
 obtain ⟨D, hD, e1⟩ := q1.eq
 obtain ⟨D', hD', e2⟩ := q2.eq
 have f1 := hD.fam hG r1 e1 q1.kind n1
 have f2 := hI.fam (hD'.fam hG' r2 e2 q2.kind n2)
 have form : ∀ {ls : List Lk} {D : List (DT ls)} {T : List Pt} (s : Int → Int), (D.map fun d => d.1) = T.map (fun q => q.2) → (∀ q ∈ T, q.1 = kindL q.2) → T.map (bareP s) = D.map fun d => (kindL d.1, bareL s d.1) := fun {ls D T} s e hk => by
  have : (D.map fun d => d.1).map (fun p => (kindL p, bareL s p)) = (T.map fun q => q.2).map (fun p => (kindL p, bareL s p)) := by rw [e]
  rw [List.map_map, List.map_map] at this
  refine Eq.trans (List.map_congr_left fun q hq => ?_) this.symm
  show (q.1, bareL s q.2) = (kindL q.2, bareL s q.2)
  rw [hk q hq]
 have inD : ∀ {ls : List Lk} {D : List (DT ls)} {T : List Pt}, (D.map fun d => d.1) = T.map (fun q => q.2) → ∀ d ∈ D, ∃ q ∈ T, q.2 = d.1 := fun {ls D T} e d hd => by
  have : d.1 ∈ T.map fun q => q.2 := by rw [← e]; exact List.mem_map_of_mem hd
  exact List.mem_map.1 this
 rw [form s e1 fun q hq => (q1.kind q hq).1, form id e2 fun q hq => (q2.kind q hq).1]
 have hU : ∀ k : Al ls, k ∈ ls.attach := fun k => List.mem_attach ..
 have hne1 : D ≠ [] := fun e => by
  subst e
  obtain ⟨k0, hk0⟩ := List.exists_mem_of_ne_nil _ hne
  have := (hT.qi hR hv h3).rels
  rw [← e1] at this
  have := this.length_eq
  simp [relL] at this
  omega
 have hne2 : D' ≠ [] := fun e => by
  subst e
  have := (hT'.qi hR' hv' h3').rels
  rw [← e2] at this
  have := this.length_eq
  simp [relL] at this
  omega
 have g1 : ∀ d ∈ D, ∃ d' ∈ D', (setsD d).Perm ((setsD d').map (Uq.pull (toA s hv))) := fun d hd => by
  obtain ⟨P', hP', hp⟩ := f1.all hG hU f2 (by simpa using hne2) (List.mem_map_of_mem hd)
  obtain ⟨P2, hP2, rfl⟩ := List.mem_map.1 hP'
  obtain ⟨d', hd', rfl⟩ := List.mem_map.1 hP2
  exact ⟨d', hd', hp⟩
 have g2 : ∀ d' ∈ D', ∃ d ∈ D, (setsD d).Perm ((setsD d').map (Uq.pull (toA s hv))) := fun d' hd' => by
  obtain ⟨P', hP', hp⟩ := f2.all hG hU f1 (by simpa using hne1) (List.mem_map_of_mem (List.mem_map_of_mem hd'))
  obtain ⟨d, hd, rfl⟩ := List.mem_map.1 hP'
  exact ⟨d, hd, hp.symm⟩
 have nd1 := nodup_sets hD
 have nd2 : (D'.map fun d' X => X ∈ (setsD d').map (Uq.pull (toA s hv))).Nodup := by
  refine List.pairwise_map.2 ((List.pairwise_map.1 (nodup_sets hD')).imp fun hne e => hne ?_)
  funext X
  have h1 := congrFun e (Uq.pull (toA s hv) X)
  have key : ∀ l : List (Al (renLs s ls) → Prop), Uq.pull (toA s hv) X ∈ l.map (Uq.pull (toA s hv)) ↔ X ∈ l := fun l => by
   constructor
   ·
    intro hm; obtain ⟨Y, hY, e⟩ := List.mem_map.1 hm; rw [← hI.inj e]; exact hY
   · exact fun hm => List.mem_map_of_mem hm
  exact propext ((key _).symm.trans ((iff_of_eq h1).trans (key _)))
 have hpm : (D.map fun d X => X ∈ setsD d).Perm (D'.map fun d' X => X ∈ (setsD d').map (Uq.pull (toA s hv))) := by
  refine (List.perm_ext_iff_of_nodup nd1 nd2).2 fun S => ⟨fun hS => ?_, fun hS => ?_⟩
  ·
   obtain ⟨d, hd, rfl⟩ := List.mem_map.1 hS; obtain ⟨d', hd', hp⟩ := g1 d hd; exact List.mem_map.2 ⟨d', hd', funext fun X => propext hp.symm.mem_iff⟩
  ·
   obtain ⟨d', hd', rfl⟩ := List.mem_map.1 hS; obtain ⟨d, hd, hp⟩ := g2 d' hd'; exact List.mem_map.2 ⟨d, hd, funext fun X => propext hp.mem_iff⟩
 refine perm_through hpm fun d hd d' hd' e => ?_
 have hp := hD.part d hd
 have hp' := hD'.part d' hd'
 obtain ⟨q, hq, hqd⟩ := inD e1 d hd
 obtain ⟨q', hq', hqd'⟩ := inD e2 d' hd'
 have hr := r1 q hq
 have hr' := r2 q' hq'
 have k1 := q1.kind q hq
 have k2 := q2.kind q' hq'
 rw [hqd] at hr k1
 rw [hqd'] at hr' k2
 have hk1 := k1.2; rw [k1.1] at hk1
 have hk2 := k2.2; rw [k2.1] at hk2
 have hper : (setsD d).Perm ((setsD d').map (Uq.pull (toA s hv))) :=
  (List.perm_ext_iff_of_nodup hp.isPart.nd (hI.isPart hp'.isPart).nd).2 fun X => iff_of_eq (congrFun e X)
 obtain ⟨h1, h2⟩ := part_same hc hR hv hG hG' hp hp' hr hr' hk1 hk2 hper
 rw [h1, h2]
end Go.Proofs.YtagcbnpahgfgmaaGreat
