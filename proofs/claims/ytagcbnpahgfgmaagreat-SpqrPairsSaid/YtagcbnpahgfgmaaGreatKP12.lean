/- The law of SpqrPairs: each number of a tree of parts is a pair that parts the links, or that a link joins, too; parts without a number are all there is. For any links. -/
import Derived.Test.YtagcbnpahgfgmaaGreatKP11
namespace Go.Proofs.YtagcbnpahgfgmaaGreat
def BondL (p : List Lk) : Prop := ∃ a b, ∀ e ∈ p, ∀ v, AtL e v ↔ v = a ∨ v = b
def CycL (p : List Lk) : Prop := ∀ v, ∀ e ∈ p, ∀ f ∈ p, ∀ g ∈ p, AtL e v → AtL f v → AtL g v → e = f ∨ f = g ∨ e = g
theorem count_two : ∀ {vs l : List Int}, vs.Nodup → (∀ v ∈ vs, 2 ≤ l.count v) → 2 * vs.length ≤ l.length
 | [], _, _, _ => by simp
 | v :: vs, l, hn, h => by
  have hn' := List.nodup_cons.1 hn
  have h1 := count_two (vs := vs) (l := l.filter fun x => x != v) hn'.2 fun w hw => by
   have hne : w ≠ v := fun e => hn'.1 (e ▸ hw)
   rw [List.count_filter (by simpa using hne)]
   exact h w (by simp [hw])
  have h2 := h v (by simp)
  have h3 : (l.filter fun x => x != v).length + l.count v = l.length := by
   clear h h1 h2; induction l with
   | nil => rfl
   | cons a l ih =>
    by_cases e : a = v
    · subst e; simp; omega
    · simp [e]; omega
  simp only [List.length_cons]
  omega
theorem ends_len (p : List Lk) : (endsL p).length = 2 * p.length := by
 unfold endsL
 induction p with
 | nil => rfl
 | cons k p ih => rw [List.flatMap_cons, List.length_append, ih]; simp; omega
theorem three_of {α : Type} {l : List α} (h : 3 ≤ l.length) (hn : l.Nodup) : ∃ a b c, a ∈ l ∧ b ∈ l ∧ c ∈ l ∧ a ≠ b ∧ b ≠ c ∧ a ≠ c := by
 match l, h, hn with
 | a :: b :: c :: l, _, hn =>
  simp only [List.nodup_cons, List.mem_cons, not_or] at hn
  exact ⟨a, b, c, by simp, by simp, by simp, hn.1.1, hn.2.1.1, hn.1.2.1⟩
theorem AtL.dec (e : Lk) (v : Int) : (e.1 = v ∨ e.2.1 = v) ↔ AtL e v := by
 unfold AtL
 exact ⟨fun h => h.imp Eq.symm Eq.symm, fun h => h.imp Eq.symm Eq.symm⟩
namespace DPart
variable {ls p : List Lk} {β : Lk → Al ls → Prop}
theorem other (h : DPart ls p β) {e : Lk} (he : e ∈ p) {v : Int} (hv : AtL e v) : ∃ f ∈ p, f ≠ e ∧ AtL f v := by
 obtain ⟨⟨k, hk, hkv⟩, m, hm, hmv⟩ := (h.ends e he v).2 hv
 obtain ⟨f, hf, hfm⟩ := h.cover m
 have hne : f ≠ e := fun e1 => hm (e1 ▸ hfm)
 exact ⟨f, hf, hne, (h.ends f hf v).1 ⟨⟨m, hfm, hmv⟩, k, fun hx => hne (h.disj f hf e he k hx hk), hkv⟩⟩
theorem bond_iff (h : DPart ls p β) : (vertsL p).length = 2 ↔ BondL p := by
 constructor
 ·
  intro h2
  match hv : vertsL p, h2 with
  | [a, b], _ =>
   refine ⟨a, b, fun e he v => ⟨fun hev => ?_, fun hab => ?_⟩⟩
   ·
    have := AtL.vert he hev; rw [hv] at this; simpa using this
   ·
    have m1 := AtL.vert he (show AtL e e.1 from .inl rfl); have m2 := AtL.vert he (show AtL e e.2.1 from .inr rfl); have := h.ok e he; rw [hv] at m1 m2; simp only [List.mem_cons, List.not_mem_nil, or_false] at m1 m2; unfold AtL; omega
 ·
  rintro ⟨a, b, hab⟩
  obtain ⟨e, he⟩ := List.exists_mem_of_ne_nil _ h.nil
  have hn : a ≠ b := fun e1 => h.ok e he (by
   have a1 := (hab e he e.1).1 (.inl rfl); have a2 := (hab e he e.2.1).1 (.inr rfl)
   omega)
  have l1 := nodup_len_leZ (l := [a, b]) (m := vertsL p) (by simpa using hn) fun x hx => by
   simp only [List.mem_cons, List.not_mem_nil, or_false] at hx; exact AtL.vert he ((hab e he x).2 hx)
  have l2 := nodup_len_leZ (l := vertsL p) (m := [a, b]) (verts_nodup p) fun x hx => by
   obtain ⟨f, hf, hfx⟩ := (mem_vertsL p x).1 hx; have := (hab f hf x).1 hfx; simpa using this
  simp only [List.length_cons, List.length_nil] at l1 l2
  omega
theorem deg_two (h : DPart ls p β) {v : Int} (hv : v ∈ vertsL p) : 2 ≤ degN p v := by
 obtain ⟨e, he, hev⟩ := (mem_vertsL p v).1 hv
 obtain ⟨f, hf, hne, hfv⟩ := h.other he hev
 unfold degN
 exact two_in (e := e) (f := f) (List.mem_filter.2 ⟨he, by simpa using (AtL.dec e v).2 hev⟩) (List.mem_filter.2 ⟨hf, by simpa using (AtL.dec f v).2 hfv⟩) hne
theorem cyc_iff (h : DPart ls p β) (hR : RightL p) : allTwoL p = true ↔ CycL p := by
 rw [all_deg hR]
 simp only [List.all_eq_true, beq_iff_eq]
 constructor
 ·
  intro hd v e he f hf g hg h1 h2 h3
  refine Classical.byContradiction fun hno => ?_
  have hv := hd v (AtL.vert he h1)
  unfold degN at hv
  have hs : ∀ k ∈ p, AtL k v → k ∈ p.filter fun k => decide (k.1 = v ∨ k.2.1 = v) := fun k hk hkv => List.mem_filter.2 ⟨hk, by simpa using (AtL.dec k v).2 hkv⟩
  have a1 := hs e he h1
  have a2 := hs f hf h2
  have a3 := hs g hg h3
  obtain ⟨x, y, hl⟩ : ∃ x y, (p.filter fun k => decide (k.1 = v ∨ k.2.1 = v)) = [x, y] := by
   generalize (p.filter fun k => decide (k.1 = v ∨ k.2.1 = v)) = l at hv; match l, hv with
   | [x, y], _ => exact ⟨x, y, rfl⟩
  rw [hl] at a1 a2 a3
  simp only [List.mem_cons, List.not_mem_nil, or_false] at a1 a2 a3
  apply hno
  rcases a1 with rfl | rfl <;> rcases a2 with rfl | rfl <;> rcases a3 with rfl | rfl <;> simp
 ·
  intro hc v hv
  have h2 := h.deg_two hv
  refine Nat.le_antisymm (Nat.le_of_not_lt fun h3 => ?_) h2
  unfold degN at h3
  obtain ⟨a, b, c, ha, hb, hcc, n1, n2, n3⟩ := three_of h3 (h.nd.filter _)
  rw [List.mem_filter] at ha hb hcc
  rcases hc v a ha.1 b hb.1 c hcc.1 ((AtL.dec a v).1 (by simpa using ha.2)) ((AtL.dec b v).1 (by simpa using hb.2)) ((AtL.dec c v).1 (by simpa using hcc.2)) with e | e | e
  · exact n1 e
  · exact n2 e
  · exact n3 e
theorem not_both (h : DPart ls p β) (hb : BondL p) (hc : CycL p) : False := by
 obtain ⟨a, b, hab⟩ := hb
 obtain ⟨x, y, z, hx, hy, hz, n1, n2, n3⟩ := three_of h.three h.nd
 have at_ : ∀ k ∈ p, AtL k a := fun k hk => (hab k hk a).2 (.inl rfl)
 rcases hc a x hx y hy z hz (at_ x hx) (at_ y hy) (at_ z hz) with e | e | e
 · exact n1 e
 · exact n2 e
 · exact n3 e
theorem kind_eq (h : DPart ls p β) (hG : Uq.Ok (grL ls)) (hR : RightL p) : kindL p = if (vertsL p).length = 2 then 2 else if allTwoL p then 1 else if (vertsL p).length < 4 then 0 else if (firstC p).2.2.1 then 0 else 3 := by
 have h2 := h.two hG hR
 have h3 := h.three
 unfold kindL
 rw [two_joined h2, first_err h2, decide_eq_false (by omega)]
 simp
theorem kind_bond (h : DPart ls p β) (hG : Uq.Ok (grL ls)) (hR : RightL p) : kindL p = 2 ↔ BondL p := by
 rw [h.kind_eq hG hR, ← h.bond_iff]
 constructor
 ·
  intro hk
  refine Classical.byContradiction fun hno => ?_
  rw [if_neg hno] at hk
  repeat' split at hk
  all_goals omega
 · intro hk; rw [if_pos hk]
theorem kind_cyc (h : DPart ls p β) (hG : Uq.Ok (grL ls)) (hR : RightL p) : kindL p = 1 ↔ CycL p := by
 rw [h.kind_eq hG hR, ← h.cyc_iff hR]
 constructor
 ·
  intro hk
  split at hk
  · omega
  ·
   split at hk
   · assumption
   ·
    repeat' split at hk
    all_goals omega
 ·
  intro hk
  rw [if_neg fun h2 => h.not_both (h.bond_iff.1 h2) ((h.cyc_iff hR).1 hk), if_pos hk]
theorem kind_some (h : DPart ls p β) (hG : Uq.Ok (grL ls)) (hR : RightL p) (hf : (firstC p).2.2.1 = false) : kindL p = 1 ∨ kindL p = 2 ∨ kindL p = 3 := by
 have h2 := h.two hG hR
 rw [h.kind_eq hG hR, hf]
 by_cases v2 : (vertsL p).length = 2
 · rw [if_pos v2]; omega
 ·
  rw [if_neg v2]
  cases ha : allTwoL p with
  | true => simp
  | false =>
   by_cases v4 : (vertsL p).length < 4
   ·
    exfalso; have hn : noneP p = true := by
     rw [noneP_iff h2]; unfold firstC at hf; rw [h2] at hf; simp only [if_true] at hf; cases hi : firstIK (pairAt p) (vertsL p).length with
     | none => exact firstIK_none hi
     | some q => rw [hi] at hf; simp at hf
    have hv := two_verts h2; have h3 := h.three; rw [want_none h2] at hn; unfold wantN rigidB at hn; rw [decide_eq_false (show ¬ p.length ≤ 2 by omega), decide_eq_false (show ¬ 4 ≤ (vertsL p).length by omega)] at hn; simp only [Bool.false_or, Bool.or_false, Bool.false_and, Bool.or_eq_true, Bool.and_eq_true, beq_iff_eq] at hn; have hv3 : (vertsL p).length = 3 ∧ p.length = 3 := by omega
    rw [all_deg hR] at ha; have : ¬ ∀ v ∈ vertsL p, degN p v = 2 := fun hall => by
     rw [List.all_eq_true.2 (fun v hv => by rw [hall v hv]; rfl)] at ha; cases ha
    apply this; intro v hv'; refine Nat.le_antisymm (Nat.le_of_not_lt fun hgt => ?_) (h.deg_two hv'); have hcn : ∀ w ∈ vertsL p, 2 ≤ (endsL p).count w := fun w hw => by
     have := h.deg_two hw; rw [← cnt_deg hR.2.1] at this; exact this
    have hc3 : 3 ≤ (endsL p).count v := by
     rw [← cnt_deg hR.2.1] at hgt; exact hgt
    have hel := ends_len p; obtain ⟨s, t, hst⟩ := List.append_of_mem hv'; have hnd := verts_nodup p; rw [hst] at hnd; have hnd2 := (List.perm_middle.nodup_iff).1 hnd; have hnd3 := List.nodup_cons.1 hnd2; have := count_two (vs := s ++ t) (l := (endsL p).filter fun x => x != v) hnd3.2 fun w hw => by
     have hne : w ≠ v := fun e => hnd3.1 (e ▸ hw); rw [List.count_filter (by simpa using hne)]; refine hcn w ?_; rw [hst]; rcases List.mem_append.1 hw with hw | hw
     · simp [hw]
     · simp [hw]
    have hls : (s ++ t).length + 1 = 3 := by
     have := congrArg List.length hst; rw [hv3.1] at this; simp at this ⊢; omega
    have hfl : ((endsL p).filter fun x => x != v).length + (endsL p).count v = (endsL p).length := by
     generalize endsL p = l; induction l with
     | nil => rfl
     | cons a l ih =>
      by_cases e : a = v
      · subst e; simp; omega
      · simp [e]; omega
    omega
   · rw [if_neg v4]; simp
end DPart
end Go.Proofs.YtagcbnpahgfgmaaGreat
namespace Go.Proofs.YtagcbnpahgfgmaaGreat
theorem bond_join {x y z : List Lk} {e : Lk} (hx : BondL x) (hy : BondL y) (hex : e ∈ x) (hey : e ∈ y) (hz : ∀ f ∈ z, f ∈ x ∨ f ∈ y) : BondL z := by
 obtain ⟨a, b, hab⟩ := hx
 obtain ⟨c, d, hcd⟩ := hy
 have key : ∀ v, (v = a ∨ v = b) ↔ (v = c ∨ v = d) := fun v => (hab e hex v).symm.trans (hcd e hey v)
 refine ⟨a, b, fun f hf v => ?_⟩
 rcases hz f hf with h | h
 · exact hab f h v
 · exact (hcd f h v).trans (key v).symm
theorem cyc_join {ls x y z : List Lk} {β γ : Lk → Al ls → Prop} (h : DPart ls x β) (k : DPart ls y γ) {e : Lk} (hex : e ∈ x) (hey : e ∈ y) (hc : ∀ m, γ e m ↔ ¬ β e m) (hx : CycL x) (hy : CycL y)
  (hz : ∀ f ∈ z, (f ∈ x ∧ f ≠ e) ∨ (f ∈ y ∧ f ≠ e)) : CycL z := by
 have mix : ∀ {f g : Lk} {v : Int}, f ∈ x → f ≠ e → g ∈ y → g ≠ e → AtL f v → AtL g v → AtL e v := fun {f g v} hf h1 hg h2 h3 h4 => by
  obtain ⟨⟨a, ha, hav⟩, _⟩ := (h.ends f hf v).2 h3
  obtain ⟨⟨b, hb, hbv⟩, _⟩ := (k.ends g hg v).2 h4
  refine (h.ends e hex v).1 ⟨⟨b, Classical.byContradiction fun hno => h2 (k.disj g hg e hey b hb ((hc b).2 hno)), hbv⟩, a, fun hx => h1 (h.disj f hf e hex a ha hx), hav⟩
 have inx : ∀ {f g : Lk} {v : Int}, f ∈ x → f ≠ e → g ∈ x → g ≠ e → AtL e v → AtL f v → AtL g v → f = g := fun {f g v} hf h1 hg h2 he h3 h4 => by
  rcases hx v e hex f hf g hg he h3 h4 with e1 | e1 | e1
  · exact absurd e1.symm h1
  · exact e1
  · exact absurd e1.symm h2
 have iny : ∀ {f g : Lk} {v : Int}, f ∈ y → f ≠ e → g ∈ y → g ≠ e → AtL e v → AtL f v → AtL g v → f = g := fun {f g v} hf h1 hg h2 he h3 h4 => by
  rcases hy v e hey f hf g hg he h3 h4 with e1 | e1 | e1
  · exact absurd e1.symm h1
  · exact e1
  · exact absurd e1.symm h2
 intro v f hf g hg l hl h1 h2 h3
 rcases hz f hf with ⟨a, a'⟩ | ⟨a, a'⟩ <;> rcases hz g hg with ⟨b, b'⟩ | ⟨b, b'⟩ <;> rcases hz l hl with ⟨c, c'⟩ | ⟨c, c'⟩
 · exact hx v f a g b l c h1 h2 h3
 · exact .inl (inx a a' b b' (mix a a' c c' h1 h3) h1 h2)
 · exact .inr (.inr (inx a a' c c' (mix a a' b b' h1 h2) h1 h3))
 · exact .inr (.inl (iny b b' c c' (mix a a' b b' h1 h2) h2 h3))
 · exact .inr (.inl (inx b b' c c' (mix b b' a a' h2 h1) h2 h3))
 · exact .inr (.inr (iny a a' c c' (mix b b' a a' h2 h1) h1 h3))
 · exact .inl (iny a a' b b' (mix c c' a a' h3 h1) h1 h2)
 · exact hy v f a g b l c h1 h2 h3
structure QD (ls : List Lk) (Q : List Pt) : Prop where
 dec : ∃ T : List (DT ls), Dec ls T ∧ (T.map fun d => d.1).Perm (Q.map fun q => q.2)
 kind : ∀ q ∈ Q, q.1 = kindL q.2 ∧ (q.1 = 1 ∨ q.1 = 2 ∨ q.1 = 3)
theorem QD.perm {ls : List Lk} {Q Q' : List Pt} (h : QD ls Q) (hp : Q.Perm Q') : QD ls Q' := by
 obtain ⟨T, h1, h2⟩ := h.dec
 exact ⟨⟨T, h1, h2.trans (hp.map _)⟩, fun q hq => h.kind q (hp.mem_iff.2 hq)⟩
theorem MStep.qd {ls : List Lk} (hG : Uq.Ok (grL ls)) (hl : ls.length ≤ 1000) {e : Lk} {Q Q' : List Pt} (hq : QI ls Q) (h : QD ls Q) (hs : MStep e Q Q') : QD ls Q' := by
 have hq' := hs.qi hl hq
 obtain ⟨x, y, R, hp, hex, hey, hk, hk3, hp'⟩ := hs
 have hxQ : x ∈ Q := hp.mem_iff.2 (by simp)
 have hyQ : y ∈ Q := hp.mem_iff.2 (by simp)
 have rx := hq.right x hxQ
 have ry := hq.right y hyQ
 have hev := (mem_virtL.1 hex).2
 have ex := dropV_erase (right_nodup rx) (mem_virtL.1 hex).1 (hq.uniq hxQ hex)
 have ey := dropV_erase (right_nodup ry) (mem_virtL.1 hey).1 (hq.uniq hyQ hey)
 have hok : ∀ k ∈ dropV e.2.2 x.2 ++ dropV e.2.2 y.2, OkL k := fun k hk => by
  rcases List.mem_append.1 hk with hk | hk
  · exact rx.2.1 k (mem_dropV.1 hk).1
  · exact ry.2.1 k (mem_dropV.1 hk).1
 have hz : (joinL x.2 y.2 e.2.2).Perm (x.2.erase e ++ y.2.erase e) := by
  have := sortL_perm (dropV e.2.2 x.2 ++ dropV e.2.2 y.2)
  rw [map_swapL hok] at this
  rw [← ex, ← ey]; exact this
 obtain ⟨T, hT, hTp⟩ := h.dec
 obtain ⟨dx, T1, hT1, hdx, hTp1⟩ := map_pick (hTp.trans (by simpa using hp.map fun q => q.2))
 obtain ⟨dy, T2, hT2, hdy, hTp2⟩ := map_pick hTp1
 have hD := hT.perm (hT1.trans (hT2.cons dx))
 have ho : ∀ d ∈ T2, e ∉ d.1 := fun d hd hm => by
  obtain ⟨q, hq1, hq2⟩ := List.mem_map.1 (hTp2.mem_iff.1 (List.mem_map_of_mem hd))
  have h2 : q.2 = d.1 := hq2
  exact hq.only hp hex hey q hq1 e (by rw [h2]; exact hm) rfl
 have hsh : ∀ f ∈ x.2, f ∈ y.2 → f = e := fun f h1 h2 => by
  by_cases hf : f.2.2 = 0
  ·
   obtain ⟨D, hTr, _⟩ := hq.tree; have hp2 : (Q.map fun q => q.2).Perm (x.2 :: y.2 :: R.map fun q => q.2) := by simpa using hp.map fun q => q.2
   have hrel := (relL_perm hp2).nodup_iff.1 hTr.rel; rw [relL_cons, relL_cons, List.nodup_append] at hrel; exact absurd rfl (hrel.2.2 f (mem_realL.2 ⟨h1, hf⟩) f (List.mem_append_left _ (mem_realL.2 ⟨h2, hf⟩)))
  · exact (hq.share hp hex hey (mem_virtL.2 ⟨h1, hf⟩) (mem_virtL.2 ⟨h2, hf⟩)).symm
 have px := hD.part dx (by simp)
 have py := hD.part dy (by simp)
 have hexd : e ∈ dx.1 := by rw [hdx]; exact (mem_virtL.1 hex).1
 have heyd : e ∈ dy.1 := by rw [hdy]; exact (mem_virtL.1 hey).1
 have hshd : ∀ f ∈ dx.1, f ∈ dy.1 → f = e := by rw [hdx, hdy]; exact hsh
 have hzd : (joinL x.2 y.2 e.2.2).Perm (dx.1.erase e ++ dy.1.erase e) := by rw [hdx, hdy]; exact hz
 have htw := hD.twin hexd heyd hev ho
 obtain ⟨B, hB⟩ := hD.join hexd heyd hev ho hshd hzd
 have pz := hB.part _ (List.mem_cons_self ..)
 have hzR : RightL (joinL x.2 y.2 e.2.2) := hq'.right (x.1, joinL x.2 y.2 e.2.2) (hp'.mem_iff.2 (by simp))
 have hmz : ∀ f ∈ joinL x.2 y.2 e.2.2, (f ∈ dx.1 ∧ f ≠ e) ∨ (f ∈ dy.1 ∧ f ≠ e) := fun f hf => by
  have h1 := hzd.mem_iff.1 hf
  rw [List.mem_append, px.nd.mem_erase_iff, py.nd.mem_erase_iff] at h1
  exact h1.imp (fun h => ⟨h.2, h.1⟩) (fun h => ⟨h.2, h.1⟩)
 have kx := h.kind x hxQ
 have ky := h.kind y hyQ
 have rxd : RightL dx.1 := by rw [hdx]; exact rx
 have ryd : RightL dy.1 := by rw [hdy]; exact ry
 have hkz : x.1 = kindL (joinL x.2 y.2 e.2.2) := by
  rcases kx.2 with h1 | h1 | h1
  ·
   have c1 := (px.kind_cyc hG rxd).1 (by rw [hdx, ← kx.1]; exact h1); have c2 := (py.kind_cyc hG ryd).1 (by rw [hdy, ← ky.1, ← hk]; exact h1); rw [h1, (pz.kind_cyc hG hzR).2 (cyc_join px py hexd heyd htw c1 c2 hmz)]
  ·
   have c1 := (px.kind_bond hG rxd).1 (by rw [hdx, ← kx.1]; exact h1); have c2 := (py.kind_bond hG ryd).1 (by rw [hdy, ← ky.1, ← hk]; exact h1); rw [h1, (pz.kind_bond hG hzR).2 (bond_join c1 c2 hexd heyd fun f hf => (hmz f hf).imp (fun h => h.1) (fun h => h.1))]
  · exact absurd h1 hk3
 refine QD.perm ⟨⟨_, hB, ?_⟩, fun q hq => ?_⟩ hp'.symm
 ·
  rw [List.map_cons, List.map_cons]
  exact hTp2.cons _
 ·
  rcases List.mem_cons.1 hq with rfl | hq
  · exact ⟨hkz, kx.2⟩
  · exact h.kind q (hp.mem_iff.2 (by simp [hq]))
theorem MTo.qd {ls : List Lk} (hG : Uq.Ok (grL ls)) (hl : ls.length ≤ 1000) {Q Q' : List Pt} (hs : MTo Q Q') : QI ls Q → QD ls Q → QD ls Q' := by
 induction hs with
 | done h => exact fun _ k => k.perm h
 | step h _ ih => exact fun k d => ih (h.qi hl k) (h.qd hG hl k d)
theorem TreeTo.qd {ls : List Lk} {T : List Pt} (h : TreeTo kindL ls T) (h2 : twoL ls = true) (hv : ∀ k ∈ ls, k.2.2 = 0) (h3 : 3 ≤ ls.length) : QD ls T ∧ MNormal T ∧ T.Pairwise LeP := by
 have hR := two_right h2
 have hG := ok_grL h2
 obtain ⟨out, n, Q, h1, hm, hn, hp, hs⟩ := h
 have hq := (h1.ok hR hv h3).qi hR.1 kindL
 obtain ⟨D, hD, hDp, hf⟩ := h1.dec h2 hv h3
 refine ⟨(hm.qd hG hR.1 hq ⟨⟨D, hD, ?_⟩, fun q hq' => ?_⟩).perm hp, hn.perm hp, hs⟩
 ·
  rw [List.map_map]
  exact hDp.trans (by rw [show ((fun q : Pt => q.2) ∘ fun p => (kindL p, p)) = id from rfl, List.map_id])
 ·
  obtain ⟨p, hp1, rfl⟩ := List.mem_map.1 hq'
  obtain ⟨d, hd, hde⟩ := List.mem_map.1 (hDp.mem_iff.2 hp1)
  have hde2 : d.1 = p := hde
  have hpR := hq.right (kindL p, p) hq'
  refine ⟨rfl, ?_⟩
  have := (hD.part d hd).kind_some hG (by rw [hde2]; exact hpR) (by rw [hde2]; exact hf p hp1)
  rw [hde2] at this
  exact this
end Go.Proofs.YtagcbnpahgfgmaaGreat
namespace Go.Proofs.YtagcbnpahgfgmaaGreat
theorem atV_map (Q : List Pt) {v : Int} (hv : v ≠ 0) : (atV v (allQ Q)).map (fun p => p.2) = (occL (Q.map fun q => q.2)).filter fun e => e.2.2 == v := by
 rw [← allQ_virt, List.filter_map, List.filter_filter]
 unfold atV
 congr 1
 refine List.filter_congr fun p _ => ?_
 by_cases h : p.2.2.2 = v
 · subst h; simp [hv]
 · simp [h]
theorem allQ_nodup {Q : List Pt} (h : ∀ q ∈ Q, q.2.Nodup) : (allQ Q).Nodup := by
 have key : ∀ i, i ≤ Q.length → (preO Q i).Nodup := by
  intro i
  induction i with
  | zero => intro _; simp [preO]
  | succ i ih =>
   intro hi; rw [preO_succ, List.nodup_append]; refine ⟨ih (by omega), ?_, fun a ha b hb e => ?_⟩
   ·
    unfold rowO; rw [List.Nodup, List.pairwise_map, lnQ_at (by omega : i < Q.length)]; exact (h _ (List.getElem_mem (by omega))).imp fun hab e => hab (congrArg Prod.snd e)
   ·
    subst e; have h1 := (mem_preO.1 ha).1; have h2 := (mem_rowO.1 hb).1; omega
 exact key _ (Nat.le_refl _)
theorem num_two {Q : List Pt} {D : List Lk} (hT : TreeP (Q.map fun q => q.2) D) {v : Int} (hv : v ≠ 0) : atV v (allQ Q) = [] ∨ ∃ e i j, e ∈ D ∧ e.2.2 = v ∧ i ≠ j ∧ atV v (allQ Q) = [(i, e), (j, e)] := by
 have hm := atV_map Q hv
 have hp := hT.occ.filter fun e => e.2.2 == v
 rw [List.filter_append, ← hm] at hp
 have hn : (D.filter fun e => e.2.2 == v).length ≤ 1 := by
  have := hT.num.count (a := v)
  have h2 : (D.map fun k => k.2.2).count v = (D.filter fun e => e.2.2 == v).length := by
   rw [List.count_eq_countP, List.countP_map, List.countP_eq_length_filter]; rfl
  rw [h2] at this
  split at this <;> omega
 have hnd : (atV v (allQ Q)).Nodup := (allQ_nodup fun q hq => hT.nd _ (List.mem_map_of_mem hq)).filter _
 obtain ⟨F, hD⟩ : ∃ F, F = D.filter fun e => e.2.2 == v := ⟨_, rfl⟩
 rw [← hD] at hp hn
 match F, hn with
 | [], _ =>
  left
  have := hp.length_eq
  simp at this
  exact this
 | [e], _ =>
  right
  have he : e ∈ D.filter fun e => e.2.2 == v := by rw [← hD]; simp
  rw [List.mem_filter] at he
  have hl := hp.length_eq
  simp only [List.length_map, List.length_append, List.length_cons, List.length_nil] at hl
  match ha : atV v (allQ Q), hl with
  | [p, q], _ =>
   rw [ha] at hp hnd; have e1 : p.2 = e := by have := hp.mem_iff.1 (show p.2 ∈ [p, q].map (fun p => p.2) by simp); simpa using this
   have e2 : q.2 = e := by have := hp.mem_iff.1 (show q.2 ∈ [p, q].map (fun p => p.2) by simp); simpa using this
   obtain ⟨i, p2⟩ := p; obtain ⟨j, q2⟩ := q; simp only at e1 e2; subst e1; subst e2; refine ⟨_, i, j, he.1, by simpa using he.2, fun e3 => ?_, rfl⟩; subst e3; simp at hnd
theorem QI.rightQ {ls : List Lk} {T : List Pt} (hq : QI ls T) (hk : ∀ q ∈ T, q.1 = kindL q.2 ∧ (q.1 = 1 ∨ q.1 = 2 ∨ q.1 = 3)) (hn : MNormal T) (hs : T.Pairwise LeP) : RightQ T := by
 obtain ⟨D, hT, hDv⟩ := hq.tree
 have hlen := hT.len
 rw [List.length_map] at hlen
 have hkd : ∀ i, i < T.length → kdQ T i = 1 ∨ kdQ T i = 2 ∨ kdQ T i = 3 := fun i hi => by rw [kdQ_at hi]; exact (hk _ (List.getElem_mem hi)).2
 have two : ∀ v, v ≠ 0 → atV v (allQ T) = [] ∨ ∃ e i j, e ∈ D ∧ e.2.2 = v ∧ i ≠ j ∧ atV v (allQ T) = [(i, e), (j, e)] := fun v hv => num_two hT hv
 have steps : ∀ {i j : Nat} {e : Lk}, i < j → e ∈ lnQ T i → e ∈ lnQ T j → e.2.2 ≠ 0 → kdQ T i ≠ kdQ T j ∨ kdQ T j = 3 := fun {i j e} hij hi hj hv => by
  have hil := lnQ_mem hi
  have hjl := lnQ_mem hj
  rw [lnQ_at hil] at hi
  rw [lnQ_at hjl] at hj
  rw [kdQ_at hil, kdQ_at hjl]
  refine Classical.byContradiction fun hno => ?_
  have hno2 : (T[i]).1 = (T[j]).1 ∧ (T[j]).1 ≠ 3 := by
   constructor
   · exact Classical.byContradiction fun h => hno (.inl h)
   · exact fun h => hno (.inr h)
  obtain ⟨R, hR⟩ := perm_two hij hjl
  exact hn e _ ⟨T[i], T[j], R, hR, mem_virtL.2 ⟨hi, hv⟩, mem_virtL.2 ⟨hj, hv⟩, hno2.1, by rw [hno2.1]; exact hno2.2, .refl _⟩
 refine ⟨fun e => ?_, fun q hq' => ?_, fun i hi => ?_, ⟨⟨?_, fun v hv => ?_⟩, fun v hv => ?_, ?_⟩, ?_⟩
 · rw [e] at hlen; simp at hlen
 ·
  have := hk q hq'
  exact ⟨by rcases this.2 with h | h | h <;> rw [h] <;> decide, this.1⟩
 · exact List.pairwise_iff_getElem.1 hs i (i + 1) (by omega) hi (by omega)
 ·
  have := allQ_real T
  unfold realsO
  rw [this]
  exact hT.rel
 ·
  rcases two v hv with h | ⟨e, i, j, he, hev, hij, h⟩
  · rw [h]; rfl
  ·
   rw [h]; have mi : e ∈ lnQ T i := mem_allQ.1 (mem_atV.1 (show (i, e) ∈ atV v (allQ T) by rw [h]; simp)).1; have mj : e ∈ lnQ T j := mem_allQ.1 (mem_atV.1 (show (j, e) ∈ atV v (allQ T) by rw [h]; simp)).1; have hkk : kdQ T i ≠ kdQ T j ∨ kdQ T j = 3 := by
    rcases Nat.lt_or_gt_of_ne hij with hlt | hlt
    · exact steps hlt mi mj (by rw [hev]; exact hv)
    ·
     rcases steps hlt mj mi (by rw [hev]; exact hv) with h1 | h1
     · exact .inl fun e => h1 e.symm
     ·
      by_cases h2 : kdQ T j = 3
      · exact .inr h2
      · exact .inl fun e => h2 (e ▸ h1)
   simp only [pairB, Bool.and_eq_true, Bool.or_eq_true, decide_eq_true_eq]; exact ⟨trivial, hij, hkk⟩
 ·
  rcases two v hv with h | ⟨e, i, j, he, hev, hij, h⟩
  · left; rw [h]; rfl
  · right; rw [h]; rfl
 ·
  have hmem : ∀ v, v ∈ numsO (allQ T) ↔ v ∈ D.map fun k => k.2.2 := fun v => by
   rw [mem_numsO, List.mem_map]; constructor
   ·
    rintro ⟨hv, p, hp, hpv⟩; refine ⟨p.2, hT.memD.2 (mem_occL.2 ⟨lnQ T p.1, ?_, mem_allQ.1 hp, by rw [hpv]; exact hv⟩), hpv⟩; have hl := lnQ_mem (mem_allQ.1 hp); rw [lnQ_at hl]; exact List.mem_map_of_mem (List.getElem_mem hl)
   ·
    rintro ⟨e, he, rfl⟩; obtain ⟨x, hx, hex, hev⟩ := mem_occL.1 (hT.memD.1 he); obtain ⟨q, hq', rfl⟩ := List.mem_map.1 hx; obtain ⟨i, hi, rfl⟩ := List.getElem_of_mem hq'; exact ⟨hev, (i, e), mem_allQ.2 (by rw [lnQ_at hi]; exact hex), rfl⟩
  have l1 := nodup_len_leZ (numsO_nodup (allQ T)) fun x hx => (hmem x).1 hx
  have l2 := nodup_len_leZ hT.num fun x hx => (hmem x).2 hx
  rw [List.length_map] at l1 l2
  omega
 ·
  intro j hj
  refine Classical.byContradiction fun hno => ?_
  obtain ⟨r, hr⟩ : ∃ r : Nat → Bool, r = fun i => @decide (Con (nbQ T) (· < T.length) 0 i) (Classical.propDecidable _) := ⟨_, rfl⟩
  have hr1 : ∀ i, r i = true ↔ Con (nbQ T) (· < T.length) 0 i := fun i => by rw [hr]; simp
  have hperm : (T.map fun q => q.2).Perm (((List.range T.length).filter r).map (lnQ T) ++ ((List.range T.length).filter fun i => !r i).map (lnQ T)) := by
   rw [RightQ.links_range, ← List.map_append]; exact (List.filter_append_perm _ _).symm.map _
  have h0 : 0 < T.length := by omega
  have m0 : (0 : Nat) ∈ (List.range T.length).filter r := List.mem_filter.2 ⟨List.mem_range.2 h0, (hr1 0).2 (.refl h0)⟩
  have mj : j ∈ (List.range T.length).filter fun i => !r i := List.mem_filter.2 ⟨List.mem_range.2 hj, by
   cases hrj : r j with
   | false => rfl
   | true => exact absurd ((hr1 j).1 hrj) hno⟩
  obtain ⟨e, he1, he2⟩ := hT.con _ _ hperm (by
   intro e; rw [List.map_eq_nil_iff] at e
   rw [e] at m0; simp at m0) (by
   intro e; rw [List.map_eq_nil_iff] at e
   rw [e] at mj; simp at mj)
  obtain ⟨x, hx, hex, hev⟩ := mem_occL.1 he1
  obtain ⟨y, hy, hey, _⟩ := mem_occL.1 he2
  obtain ⟨a, ha, rfl⟩ := List.mem_map.1 hx
  obtain ⟨b, hb, rfl⟩ := List.mem_map.1 hy
  rw [List.mem_filter, List.mem_range] at ha hb
  have hca := (hr1 a).1 ha.2
  have hnb : ¬ Con (nbQ T) (· < T.length) 0 b := fun hc => by
   have h3 := (hr1 b).2 hc; have h4 := hb.2; simp [h3] at h4
  have hab : a ≠ b := fun e => hnb (e ▸ hca)
  exact hnb (hca.step (mem_nbQ.2 (adjQ_iff.2 ⟨hab, e, e, hex, hey, hev, rfl⟩)) hb.1)
theorem TreeTo.rightQ {ls : List Lk} {T : List Pt} (h : TreeTo kindL ls T) (h2 : twoL ls = true) (hv : ∀ k ∈ ls, k.2.2 = 0) (h3 : 3 ≤ ls.length) : RightQ T := by
 obtain ⟨h4, h5, h6⟩ := h.qd h2 hv h3
 exact (h.qi (two_right h2) hv h3).rightQ h4.kind h5 h6
end Go.Proofs.YtagcbnpahgfgmaaGreat
namespace Go.Proofs.YtagcbnpahgfgmaaGreat
theorem groups_pos {ls : List Lk} (hR : RightL ls) (hne : ls ≠ []) (wo : List Int) : 0 < (groupsL ls wo).length := by
 refine List.length_pos_iff.2 fun e => hne ?_
 have := (grp_perm (wo := wo) hR).length_eq
 rw [e] at this
 exact List.eq_nil_of_length_eq_zero this.symm
theorem DPart.groups {ls p : List Lk} {β : Lk → Al ls → Prop} (h : DPart ls p β) (hR : RightL ls) {e : Lk} (he : e ∈ p) : 2 ≤ (groupsL ls [e.1, e.2.1]).length := by
 obtain ⟨k, hk⟩ := h.ne e he
 obtain ⟨m, hm, _⟩ := h.gap he he
 have hpos := groups_pos hR (List.ne_nil_of_mem k.2) [e.1, e.2.1]
 refine Classical.byContradiction fun hno => ?_
 have h1 : (groupsL ls [e.1, e.2.1]).length = 1 := by omega
 obtain ⟨_, hall⟩ := (groups_one ((rightL_iff ls).2 hR)).1 h1
 obtain ⟨i, hi, hie⟩ := List.getElem_of_mem k.2
 obtain ⟨j, hj, hje⟩ := List.getElem_of_mem m.2
 have hc := hall i j hi hj
 have := Con.closed (fun n => ∃ hn : n < ls.length, β e ⟨ls[n], List.getElem_mem hn⟩) (fun a b ⟨ha, hba⟩ hab hb => by
  refine ⟨hb, Classical.byContradiction fun hnb => ?_⟩
  obtain ⟨x, y, hx, hy, ht⟩ := mem_bsL.1 hab
  rw [List.getElem?_eq_getElem ha] at hx
  rw [List.getElem?_eq_getElem hb] at hy
  cases hx; cases hy
  obtain ⟨v, hv, hva, hvb⟩ := (touchB_iff _ _ _).1 ht
  have := (h.ends e he v).1 ⟨⟨_, hba, hva⟩, _, hnb, hvb⟩
  apply hv
  simpa [AtL] using this) ⟨hi, by simpa [hie] using hk⟩ hc
 obtain ⟨_, hx⟩ := this
 exact hm (by simpa [hje] using hx)
theorem QD.groups {ls : List Lk} {T : List Pt} (h : QD ls T) (hR : RightL ls) {q : Pt} (hq : q ∈ T) {e : Lk} (he : e ∈ q.2) : 2 ≤ (groupsL ls [e.1, e.2.1]).length := by
 obtain ⟨D, hD, hDp⟩ := h.dec
 obtain ⟨d, hd, hde⟩ := List.mem_map.1 (hDp.mem_iff.2 (List.mem_map_of_mem hq))
 have hde2 : d.1 = q.2 := hde
 exact (hD.part d hd).groups hR (by rw [hde2]; exact he)
namespace RightQ
variable {Q : List Pt}
theorem far (h : RightQ Q) {i : Nat} {e : Lk} (he : e ∈ lnQ Q i) (hv : e.2.2 ≠ 0) : ∃ j, j ≠ i ∧ e ∈ lnQ Q j ∧ ∀ k, e ∈ lnQ Q k → k = i ∨ k = j := by
 have m1 : (i, e) ∈ atV e.2.2 (allQ Q) := mem_atV.2 ⟨mem_allQ.2 he, rfl⟩
 rcases h.bes.2.1 _ hv with h0 | h2
 · rw [List.eq_nil_of_length_eq_zero h0] at m1; simp at m1
 ·
  obtain ⟨p, q, g, hg, hgv, hpq, _⟩ := fine_two h.bes.1 hv h2
  have mm : ∀ k, e ∈ lnQ Q k → k = p ∨ k = q := fun k hk => by
   have : (k, e) ∈ atV e.2.2 (allQ Q) := mem_atV.2 ⟨mem_allQ.2 hk, rfl⟩; rw [hg] at this; simp only [List.mem_cons, Prod.mk.injEq, List.not_mem_nil, or_false] at this; exact this.imp (fun h => h.1) (fun h => h.1)
  have hge : e = g := by
   rw [hg] at m1; simp only [List.mem_cons, Prod.mk.injEq, List.not_mem_nil, or_false] at m1; exact m1.elim (fun h => h.2) (fun h => h.2)
  have inp : e ∈ lnQ Q p := by
   have : (p, g) ∈ atV e.2.2 (allQ Q) := by rw [hg]; simp
   have := mem_allQ.1 (mem_atV.1 this).1; rw [hge]; exact this
  have inq : e ∈ lnQ Q q := by
   have : (q, g) ∈ atV e.2.2 (allQ Q) := by rw [hg]; simp
   have := mem_allQ.1 (mem_atV.1 this).1; rw [hge]; exact this
  rcases mm i he with rfl | rfl
  · exact ⟨q, fun e => hpq e.symm, inq, mm⟩
  · exact ⟨p, hpq, inp, fun k hk => (mm k hk).symm⟩
theorem one_link (h : RightQ Q) {i j : Nat} (hij : i ≠ j) {e f : Lk} (hei : e ∈ lnQ Q i) (hej : e ∈ lnQ Q j) (hfi : f ∈ lnQ Q i) (hfj : f ∈ lnQ Q j) (he : e.2.2 ≠ 0) (hf : f.2.2 ≠ 0) : e = f := by
 have hi := lnQ_mem hei
 have hj := lnQ_mem hej
 rw [lnQ_at hi] at hei hfi
 rw [lnQ_at hj] at hej hfj
 obtain ⟨R, hR⟩ : ∃ R, Q.Perm (Q[i] :: Q[j] :: R) := by
  rcases Nat.lt_or_gt_of_ne hij with hlt | hlt
  · exact perm_two hlt hj
  ·
   obtain ⟨R, hR⟩ := perm_two hlt hi; exact ⟨R, hR.trans (.swap ..)⟩
 exact h.qi.share hR (mem_virtL.2 ⟨hei, he⟩) (mem_virtL.2 ⟨hej, he⟩) (mem_virtL.2 ⟨hfi, hf⟩) (mem_virtL.2 ⟨hfj, hf⟩)
theorem virt_bes (h : RightQ Q) (i : Nat) : (virtL (lnQ Q i)).length = (besQ Q i).length := by
 have hnd : (virtL (lnQ Q i)).Nodup := by
  by_cases hi : i < Q.length
  ·
   rw [lnQ_at hi]; exact (right_nodup (h.right (List.getElem_mem hi)).1).filter _
  · rw [lnQ_out hi]; simp [virtL]
 refine Nat.le_antisymm ?_ ?_
 ·
  have hex : ∀ e, ∃ j, e ∈ virtL (lnQ Q i) → j ≠ i ∧ e ∈ lnQ Q j := fun e => by
   by_cases he : e ∈ virtL (lnQ Q i)
   ·
    obtain ⟨j, h1, h2, _⟩ := h.far (mem_virtL.1 he).1 (mem_virtL.1 he).2; exact ⟨j, fun _ => ⟨h1, h2⟩⟩
   · exact ⟨0, fun hx => absurd hx he⟩
  obtain ⟨f, hf⟩ := Classical.axiomOfChoice hex
  refine inj_len f hnd (fun x hx y hy hxy => ?_) fun x hx => ?_
  ·
   obtain ⟨a1, a2⟩ := hf x hx; obtain ⟨b1, b2⟩ := hf y hy; rw [← hxy] at b2; exact h.one_link (fun e => a1 e.symm) (mem_virtL.1 hx).1 a2 (mem_virtL.1 hy).1 b2 (mem_virtL.1 hx).2 (mem_virtL.1 hy).2
  ·
   obtain ⟨a1, a2⟩ := hf x hx; exact (mem_besQ h.bes).2 (adjQ_iff.2 ⟨fun e => a1 e.symm, x, x, (mem_virtL.1 hx).1, a2, (mem_virtL.1 hx).2, rfl⟩)
 ·
  have hex : ∀ k, ∃ e, k ∈ besQ Q i → i ≠ k ∧ e ∈ lnQ Q i ∧ e ∈ lnQ Q k ∧ e.2.2 ≠ 0 := fun k => by
   by_cases hk : k ∈ besQ Q i
   ·
    obtain ⟨hne, e, f, he, hf, hv, hfe⟩ := adjQ_iff.1 ((mem_besQ h.bes).1 hk); have := h.same he hf hv hfe; subst this; exact ⟨e, fun _ => ⟨hne, he, hf, hv⟩⟩
   · exact ⟨(0, 0, 0), fun hx => absurd hx hk⟩
  obtain ⟨f, hf⟩ := Classical.axiomOfChoice hex
  refine inj_len f (h.bes_nodup i) (fun x hx y hy hxy => ?_) fun x hx => ?_
  ·
   obtain ⟨a1, a2, a3, a4⟩ := hf x hx; obtain ⟨b1, b2, b3, b4⟩ := hf y hy; rw [← hxy] at b3; obtain ⟨j, _, _, hj⟩ := h.far a2 a4; have c1 := (hj x a3).resolve_left fun e => a1 e.symm; have c2 := (hj y b3).resolve_left fun e => b1 e.symm; rw [c1, c2]
  ·
   obtain ⟨a1, a2, a3, a4⟩ := hf x hx; exact mem_virtL.2 ⟨a2, a4⟩
theorem alone (h : RightQ Q) {i : Nat} (hi : i < Q.length) (h0 : (besQ Q i).length = 0) : Q.length ≤ 1 := by
 have hnone : ∀ b, b ∉ nbQ Q i := fun b hb => by
  have := (mem_besQ h.bes).2 (mem_nbQ.1 hb)
  rw [List.eq_nil_of_length_eq_zero h0] at this
  simp at this
 have stay : ∀ {y : Nat}, Con (nbQ Q) (· < Q.length) i y → y = i := fun {y} hc => Con.closed (· = i) (fun a b ha hab _ => by rw [ha] at hab; exact absurd hab (hnone b)) rfl hc
 have hz : 0 = i := stay (Con.symm (fun a b hab => mem_nbQ.2 (adjQ_symm (mem_nbQ.1 hab))) (h.con i hi))
 refine Classical.byContradiction fun hno => ?_
 have h1 := h.con 1 (by omega)
 rw [hz] at h1
 have := stay h1
 omega
end RightQ
end Go.Proofs.YtagcbnpahgfgmaaGreat
namespace Go.Proofs.YtagcbnpahgfgmaaGreat
open Go Go.RowKit Go.ChangeShapes Go.WideShapes Go.ChangeAt Go.Joins Go.Deep
theorem rowOwn : ownKnob Tryz.prog.godebug = none := by kernel_rfl
theorem rowLaid : laidOutB Tryz.prog = true := by kernel_rfl
theorem rowInt : Tryz.prog.cellsOf 3 = 1 := by kernel_rfl
theorem rowLink : Tryz.prog.cellsOf 38 = 3 := by kernel_rfl
theorem no_far {w : World} {b o : Nat} {s : Option Nat} {x : Value} (h : w.cell? ⟨b, o, s⟩ = some x) : s = none := by
 cases s with
 | none => rfl
 | some k =>
  exfalso
  simp only [World.cell?] at h
  split at h <;> simp at h
section
variable {H : Type} {enc : TypeId × Value → H} {W : World} {base fuel : Nat} {spare : Nat → Bool} {held : Bool}
set_option maxRecDepth 100000 in
theorem link_of {cs : List Value} {x : DataW H × List MemPlace} (h : DataW.trod enc Tryz.prog W base spare held fuel 38 cs = some x) :
  ∃ k : Lk, cs = [.int .i64 k.1, .int .i64 k.2.1, .int .i64 k.2.2] ∧ WfZ k.1 ∧ WfZ k.2.1 ∧ WfZ k.2.2 := by
 obtain ⟨xs, n, rfl, rfl, hl, hx, hi⟩ := DataW.trod_struct Tryz.underlying38 h
 rw [rowLink] at hl
 match cs, hl with
 | [u, v, t], _ =>
  have h0 : DataW.trod enc Tryz.prog W base spare held n 3 [u] = xs[0]? := by have := hi 0 _ rfl; simpa [rowInt] using this
  have h1 : DataW.trod enc Tryz.prog W base spare held n 3 [v] = xs[1]? := by have := hi 1 _ rfl; simpa [rowInt] using this
  have h2 : DataW.trod enc Tryz.prog W base spare held n 3 [t] = xs[2]? := by have := hi 2 _ rfl; simpa [rowInt] using this
  simp at hx
  rw [List.getElem?_eq_getElem (by omega)] at h0 h1 h2
  obtain ⟨a, e0, _, w0⟩ := DataW.trod_int Tryz.underlying3 h0
  obtain ⟨b, e1, _, w1⟩ := DataW.trod_int Tryz.underlying3 h1
  obtain ⟨c, e2, _, w2⟩ := DataW.trod_int Tryz.underlying3 h2
  simp at e0 e1 e2
  exact ⟨(a, b, c), by rw [e0, e1, e2], w0, w1, w2⟩
set_option maxRecDepth 100000 in
theorem open_links {r : Reach} {b0 : Nat} {v : Value} {d : DataW H} {p : List MemPlace} (hv : Value.okWide Tryz.prog W r b0 22 v) (h : DataW.Trod enc Tryz.prog W base spare held 22 v d p) :
  ∃ (a : Option Addr) (cap : Nat) (ls : List Lk), v = .slice a ls.length cap ∧ RdL W a ls ∧ ls.length ≤ cap ∧ cap ≤ maxLen ∧ ∀ k ∈ ls, WfZ k.1 ∧ WfZ k.2.1 ∧ WfZ k.2.2 := by
 obtain ⟨fuel, hf⟩ := h
 obtain ⟨a1, l1, c1, rfl⟩ := okWide_slice Tryz.underlying22 hv
 rcases open_slice Tryz.underlying22 hf with ⟨e, _⟩ | ⟨a, len, cap, m, n, D, Pl, e, _, hl, hm, hmm, _, hx⟩
 ·
  simp [Value.cells] at e
  obtain ⟨rfl, rfl, rfl⟩ := e
  exact ⟨none, 0, [], rfl, rdL_nil _ _, by simp, by unfold maxLen; omega, fun k hk => by simp at hk⟩
 ·
  simp [Value.cells] at e
  obtain ⟨rfl, rfl, rfl⟩ := e
  have hle : l1 ≤ m := by rw [hmm]; split <;> omega
  have hp : ∀ i, i < l1 → ∃ k : Lk, (W.cell? (a.add (i * 3)) = some (.int .i64 k.1) ∧ W.cell? ((a.add (i * 3)).add 1) = some (.int .i64 k.2.1) ∧ W.cell? ((a.add (i * 3)).add 2) = some (.int .i64 k.2.2)) ∧ WfZ k.1 ∧ WfZ k.2.1 ∧ WfZ k.2.2 := by
   intro i hi; obtain ⟨cs', h1, h2⟩ := hx i (by omega); rw [rowLink] at h1; obtain ⟨k, rfl, hw⟩ := link_of h2; obtain ⟨_, _, h5⟩ := World.cells?_some h1; exact ⟨k, ⟨by simpa [Addr.add] using h5 0 (by omega), by simpa using h5 1 (by omega), by simpa using h5 2 (by omega)⟩, hw⟩
  obtain ⟨f, hf2⟩ := choose_lt (p := fun i (k : Lk) => (W.cell? (a.add (i * 3)) = some (.int .i64 k.1) ∧ W.cell? ((a.add (i * 3)).add 1) = some (.int .i64 k.2.1) ∧ W.cell? ((a.add (i * 3)).add 2) = some (.int .i64 k.2.2)) ∧ WfZ k.1 ∧ WfZ k.2.1 ∧ WfZ k.2.2) hp
  refine ⟨some a, c1, (List.range l1).map f, by simp, ?_, by simpa using hl, hm, ?_⟩
  ·
   intro i u hu; have hi := (List.getElem?_eq_some_iff.1 hu).1; rw [lkCells_length] at hi; simp only [List.length_map, List.length_range] at hi; have hk : i / 3 < l1 := by omega
   obtain ⟨b, o, sp⟩ := a; obtain ⟨⟨h1, h2, h3⟩, _⟩ := hf2 (i / 3) hk; have hsp : sp = none := by
    obtain ⟨⟨h1, _⟩, _⟩ := hf2 0 (by omega); have h2 : W.cell? ⟨b, o, sp⟩ = some (.int .i64 (f 0).1) := by simpa [Addr.add] using h1
    exact no_far h2
   subst hsp; refine ⟨b, o, rfl, ?_⟩; obtain ⟨g1, g2, g3⟩ := lkCells_get ((List.range l1).map f) (i / 3) (by simpa using hk); simp only [List.getElem_map, List.getElem_range] at g1 g2 g3; rw [Addr.add_lit] at h1 h2 h3; rw [Addr.add_lit] at h2 h3; have hmod : i % 3 = 0 ∨ i % 3 = 1 ∨ i % 3 = 2 := by omega
   rcases hmod with h | h | h
   ·
    rw [show i / 3 * 3 = i by omega] at g1 h1; rw [g1] at hu; cases hu; exact h1
   ·
    rw [show i / 3 * 3 + 1 = i by omega] at g2; rw [g2] at hu; cases hu; rw [show o + i = o + i / 3 * 3 + 1 by omega]; exact h2
   ·
    rw [show i / 3 * 3 + 2 = i by omega] at g3; rw [g3] at hu; cases hu; rw [show o + i = o + i / 3 * 3 + 2 by omega]; exact h3
  ·
   intro k hk; obtain ⟨i, hi, rfl⟩ := List.mem_map.1 hk; exact (hf2 i (List.mem_range.1 hi)).2
end
end Go.Proofs.YtagcbnpahgfgmaaGreat
namespace Go.Proofs.YtagcbnpahgfgmaaGreat
open Go Go.RowKit Go.ChangeShapes Go.WideShapes Go.ChangeAt Go.Joins Go.Deep
theorem twoR_facts {ls : List Lk} (h : twoR ls = true) : twoL ls = true ∧ (∀ k ∈ ls, k.2.2 = 0) ∧ 3 ≤ ls.length ∧ wantT ls = true ∧ ls.length ≤ 40 := by
 unfold twoR at h
 simp only [Bool.and_eq_true, Bool.not_eq_true', decide_eq_true_eq] at h
 obtain ⟨h1, h2, h3, h4⟩ := h
 refine ⟨h3, fun k hk => ?_, three_links h3 h4, ?_, h2⟩
 ·
  have := List.any_eq_false.1 h1 k hk
  simpa using this
 ·
  unfold wantT
  rw [h3, h1, decide_eq_true h4]; rfl
theorem TreeTo.few {ls : List Lk} {T : List Pt} (h : TreeTo kindL ls T) (hR : RightL ls) (hv : ∀ k ∈ ls, k.2.2 = 0) (h3 : 3 ≤ ls.length) : T.length ≤ 1000 := by
 have h1 := (h.qi hR hv h3).len
 have := hR.1
 omega
set_option maxRecDepth 100000 in
set_option maxHeartbeats 4000000 in
theorem spqrPairs_walk (a : Option Addr) (cap : Nat) (ls : List Lk) (w : World) (hr : RdL w a ls) (hl : ls.length ≤ cap) (hm : cap ≤ maxLen) (_hw : ∀ k ∈ ls, WfZ k.1 ∧ WfZ k.2.1 ∧ WfZ k.2.2) :
  Calls Tryz.prog 5 #[.slice a ls.length cap] w (RetT w true) := by
 have hcap : ls.length ≤ 9223372036854775807 := by unfold maxLen at hm; omega
 clear hl hm _hw
 cases ht : twoR ls with
 | false =>
  have Ht := Lib.hid ht
  clear ht
  go_enter Tryz.func5, Tryz.ntmps5
  go_wp2_with fail
  refine (two15_walk a cap ls _ hr hcap).mono ?_
  rw [Ht.out]
  rintro e w1 ⟨rfl, hb1⟩
  go_wp2_with fail
  refine (awake15_walk _).mono ?_
  rintro e w2 ⟨rfl, hb2⟩
  go_wp2_with fail
  go_ret
  exact ⟨rfl, bl_trans hb1 hb2⟩
 | true =>
  obtain ⟨h2, hv0, h3, hwt, h40⟩ := twoR_facts ht
  have hRl := two_right h2
  have Ht := Lib.hid ht; have Hwt := Lib.hid hwt; have HRl := Lib.hid hRl; have Hv0 := Lib.hid hv0; have H2 := Lib.hid h2
  clear ht hwt hRl hv0 h2
  go_enter Tryz.func5, Tryz.ntmps5
  go_wp2_with fail
  refine (two15_walk a cap ls _ hr hcap).mono ?_
  rw [Ht.out]
  rintro e w1 ⟨rfl, hb1⟩
  go_wp2_with fail
  refine (stree_walk a cap ls _ (hr.below hb1) hcap).mono ?_
  rintro e w2 ⟨hb2, ⟨-, s, c, T, rfl, hq, htr, -, -⟩ | ⟨hno, -⟩⟩
  rotate_left
  · rw [Hwt.out] at hno; cases hno
  have hTl := htr.few HRl.out Hv0.out h3
  have hRQ := htr.rightQ H2.out Hv0.out h3
  have hQD := (htr.qd H2.out Hv0.out h3).1
  have HRQ := Lib.hid hRQ; have HQD := Lib.hid hQD
  have hB2 := bl_trans hb1 hb2
  have hq0 := hq
  clear hRQ hQD htr hb1 hb2
  go_wp2_with fail
  go_loopg [23] T.length (fun r iv wj => ∃ i : Nat, i + r = T.length ∧ iv = .int .i64 i ∧ Below w2.heap.size w2 wj)
  case atStart => exact ⟨0, by omega, rfl, bl_refl _⟩
  case round =>
   obtain ⟨i, hi, rfl, hB⟩ := hrel; have Hi := Lib.hid hi; by_cases hil : i < T.length
   ·
    clear hi; have hqi : T[i]? = some T[i] := List.getElem?_eq_getElem hil; obtain ⟨bp, op, au, cu, rfl, p0, p1, hrq, hcu, hcm⟩ := hq i _ hqi; replace p0 := keep_cell hB p0; replace p1 := keep_cell hB p1; have hrq := hrq.below hB; have hgr : ∀ e ∈ T[i].2, 2 ≤ (groupsL ls [e.1, e.2.1]).length := fun e he => HQD.out.groups HRl.out (List.getElem_mem hil) he; have hvb : (besideL T (i : Int)).length = (virtL T[i].2).length := by
     have h1 : besideL T (i : Int) = besQ T i := by unfold besideL; rw [if_pos ⟨by omega, by omega, rightB_iff.2 HRQ.out⟩]; rfl
     rw [h1, ← HRQ.out.virt_bes i, lnQ_at hil]
    have hal : (virtL T[i].2).length = 0 → T.length ≤ 1 := fun h0 => HRQ.out.alone hil (by rw [← HRQ.out.virt_bes i, lnQ_at hil]; exact h0); have hsm : T[i].2.length ≤ 1000 := (HRQ.out.right (List.getElem_mem hil)).1.1; have hok : ∀ e ∈ T[i].2, WfZ e.1 ∧ WfZ e.2.1 := fun e he => by
     have := (HRQ.out.right (List.getElem_mem hil)).1.2.1 e he; unfold OkL at this; exact ⟨wfZ_of (by omega), wfZ_of (by omega)⟩
    obtain ⟨⟨kd, ps⟩, hqe⟩ : ∃ q : Pt, T[i] = q := ⟨_, rfl⟩
    rw [hqe] at p0 p1 hrq hcu hgr hvb hal hsm hok; simp only at p0 p1 hrq hcu hgr hvb hal hsm hok; have iI : (i : Int) < (T.length : Int) := by omega
    have hbl := bl_alloc wr (.cells #[.int .i64 kd, .slice au ps.length cu] 49); have d1 : (wr.alloc (.cells #[.int .i64 kd, .slice au ps.length cu] 49)).cell? ⟨wr.heap.size, 1, none⟩ = some (.slice au ps.length cu) := by simp
    have hBa := bl_trans hB hbl; replace hrq := hrq.below hbl; obtain ⟨gko, hgko⟩ : ∃ g, g = gk := ⟨_, rfl⟩
    have Hgko := Lib.hid hgko; have Hgr := Lib.hid hgr; have Hvb := Lib.hid hvb; have Hal := Lib.hid hal; have Hok := Lib.hid hok; have hpl : ps.length ≤ 9223372036854775807 := by omega
    clear hgko hgr hvb hal hok hB hqi hqe hbl; go_upto_region 11 with (fail)
    clear p0 p1 d1; generalize wr.alloc (.cells #[.int .i64 kd, .slice au ps.length cu] 49) = wa at *
    go_loopg [7, 31] ps.length (fun r cv kv wj => ∃ k n : Nat, k + r = ps.length ∧ kv = .int .i64 k ∧ cv = .int .i64 n ∧ n = (virtL (ps.take k)).length ∧ Below wa.heap.size wa wj)
    case atStart => exact ⟨0, 0, by omega, rfl, rfl, by simp [virtL], bl_refl _⟩
    case round =>
     obtain ⟨k, n, hk, rfl, rfl, hn, hB⟩ := hrel; have Hk := Lib.hid hk; by_cases hkl : k < ps.length
     ·
      clear hk; have hvt : virtL (ps.take (k + 1)) = virtL (ps.take k) ++ if ps[k].2.2 != 0 then [ps[k]] else [] := by
       rw [List.take_succ_eq_append_getElem hkl, virtL_append]; congr 1; by_cases h : ps[k].2.2 != 0
       · simp [virtL, h]
       · simp [virtL, h]
      have hfl := List.length_filter_le (fun e : Lk => e.2.2 != 0) (ps.take k); rw [List.length_take] at hfl; have hn1 : n ≤ 1000 := by rw [hn]; unfold virtL; omega
      obtain ⟨b1, o1, rfl, q0, q1, q2⟩ := (hrq.below hB).at k hkl; have hg2 := Hgr.out _ (List.getElem_mem hkl); have hwf := Hok.out _ (List.getElem_mem hkl); obtain ⟨⟨x, y, z⟩, hxe⟩ : ∃ u : Lk, ps[k] = u := ⟨_, rfl⟩
      rw [hxe] at q0 q1 q2 hvt hg2 hwf; simp only at q0 q1 q2 hvt hg2 hwf; have i2 : (k : Int) < (ps.length : Int) := by omega
      have hbl := bl_alloc wr (.cells #[.int .i64 x, .int .i64 y, .int .i64 z] 38); by_cases hz : z = 0
      ·
       subst hz; have hn2 : n = (virtL (ps.take (k + 1))).length := by rw [hvt]; simpa using hn
       have Hn2 := Lib.hid hn2; have HB := Lib.hid hB; clear hn2 hn hvt hfl hg2 hxe hB hwf; go_wp2_with fail; go_roundg (gk - 1)
       case measure => have := Hk.out; omega
       case rel => exact ⟨k + 1, n, by have := Hk.out; omega, by go_num, rfl, Hn2.out, bl_trans HB.out hbl⟩
      ·
       have e1 : (z == 0) = false := beq_eq_false_iff_ne.2 hz; have hn2 : n + 1 = (virtL (ps.take (k + 1))).length := by
        have : (z != 0) = true := by simpa using hz
        rw [hvt, this, List.length_append, ← hn]; rfl
       have hbl2 := bl_alloc (wr.alloc (.cells #[.int .i64 x, .int .i64 y, .int .i64 z] 38)) (.cells #[.int .i64 x, .int .i64 y] 3); have hBc := bl_trans (bl_trans hB hbl) hbl2; have hpq2 : RdI ((wr.alloc (.cells #[.int .i64 x, .int .i64 y, .int .i64 z] 38)).alloc (.cells #[.int .i64 x, .int .i64 y] 3)) (some ⟨wr.heap.size + 1, 0, none⟩) [x, y] := by
        intro j v hj; refine ⟨wr.heap.size + 1, 0, rfl, ?_⟩; have hsz : (wr.alloc (.cells #[.int .i64 x, .int .i64 y, .int .i64 z] 38)).heap.size = wr.heap.size + 1 := by simp
        match j with
        | 0 => simp at hj; subst hj; exact (two_cells _ _ _ _ hsz.symm).1
        | 1 => simp at hj; subst hj; exact (two_cells _ _ _ _ hsz.symm).2
        | j + 2 => simp at hj
       have hwo : ∀ u ∈ [x, y], WfZ u := fun u hu => by
        simp at hu; rcases hu with rfl | rfl
        · exact hwf.1
        · exact hwf.2
       have hr3 := (((hr.below hB2).below (bl_trans ‹Below w2.heap.size w2 wa› hBc)))
       have e2 : decide (((groupsL ls [x, y]).length : Int) < 2) = false := by simp; omega
       have Hwo := Lib.hid hwo; have Hn2 := Lib.hid hn2; have HBc := Lib.hid hBc; clear hwo hn2 hn hvt hfl hg2 hxe hB hwf hbl hbl2 hBc hz; go_wp2_with fail; refine (groups_walk a cap ls _ _ [x, y] _ hr3 hcap hpq2 (by simp) Hwo.out).mono ?_; rintro e w3 ⟨vo, vals, rfl, hL, hb3⟩; obtain ⟨ao, co, rfl, _⟩ := hL.read; have hB4 := bl_trans HBc.out hb3; clear hL hb3 hr3 hpq2; go_wp2_with fail; go_roundg (gk - 1)
       case measure => have := Hk.out; omega
       case rel => exact ⟨k + 1, n + 1, by have := Hk.out; omega, by go_num, by go_num, Hn2.out, hB4⟩
     ·
      have hkn : k = ps.length := by omega
      subst hkn; rw [List.take_length] at hn; have hB5 := bl_trans hBa hB; have hq5 := hq0.below hB5; have hwi : WfZ (i : Int) := wfZ_of (by omega); have hbe : (besideL T (i : Int)).length = n := by rw [Hvb.out, hn]
      have hal2 : n = 0 → T.length ≤ 1 := fun h0 => Hal.out (by rw [← hn]; exact h0); have Hbe := Lib.hid hbe; have HB5 := Lib.hid hB5; have Hwi := Lib.hid hwi; have hn1 : n ≤ 1000 := by
       have := List.length_filter_le (fun e : Lk => e.2.2 != 0) ps; rw [hn]; unfold virtL; omega
      clear hk hn hbe hB hB5 hwi; go_wp2_with fail; refine (sbeside_walk _ c T (i : Int) _ hq5 hTl Hwi.out).mono ?_; rintro e w6 ⟨ah, ch, rfl, -, hb6⟩; rw [Hbe.out]; have hB6 := bl_trans HB5.out hb6; clear hb6 hq5; by_cases hn0 : n = 0
      ·
       have hT1 := hal2 hn0; subst hn0; have e3 : decide ((1 : Int) < (T.length : Int)) = false := by simp; omega
       clear hal2 hT1; go_wp2_with fail; go_roundg (gko - 1)
       case measure => have := Hi.out; have := Hgko.out; omega
       case rel => exact ⟨i + 1, by have := Hi.out; have := Hgko.out; omega, by go_num, hB6⟩
      ·
       have e3 : ((n : Int) == 0) = false := by simpa using hn0
       clear hal2 hn0; go_wp2_with fail; go_roundg (gko - 1)
       case measure => have := Hi.out; have := Hgko.out; omega
       case rel => exact ⟨i + 1, by have := Hi.out; have := Hgko.out; omega, by go_num, hB6⟩
   ·
    have hin : i = T.length := by omega
    subst hin; have hB9 := bl_trans hB2 hB; clear hi hB; go_wp2_with fail; refine (awake15_walk _).mono ?_; rintro e w9 ⟨rfl, hb9⟩; go_wp2_with fail; go_ret; exact ⟨rfl, bl_trans hB9 hb9⟩
namespace spqrPairs
open Go Go.RowKit Go.ChangeShapes Go.WideShapes Go.ChangeAt
set_option maxRecDepth 100000 in
theorem lifted (os : Os) (started : os.Started) (H : Type) (enc : TypeId × Value → H) :
  ReturnsInHanded {} Tryz.checked os 5 .any (Rows.spqrPairsSpec.pre6 enc Tryz.prog Tryz.f5 Rows.spqrPairsRow.domain false) (Rows.spqrPairsSpec.post enc Tryz.prog Tryz.f5 false true false false) := by
 refine returnsInHanded_of_change (C := Tryz.checked) rowOwn started (by kernel_rfl) Tryz.func5
  (ChangeSpec.witness6 (enc := enc) (C := Tryz.checked) false ⟨#[], #[.slice none 0 0], []⟩ 8 (by kernel_rfl) (by kernel_rfl) (by kernel_rfl) (by kernel_rfl)) ?_
 intro W base args ds gs before hval0 hW hcnd _
 have hval : ∀ (j : Nat) t v, Tryz.f5.params[j]? = some t → args[j]? = some v → Value.okWide Tryz.prog W .any base t v := hval0
 have hW' := hW
 obtain ⟨p, q, hA0, hV, rfl, hfz, hnd⟩ := hW
 have hA : DataW.TrodAll enc Tryz.prog W 0 (fun _ => true) true Tryz.f5.params.toList args.toList ds p := hA0
 rw [Tryz.params5] at hA hval
 obtain ⟨v0, vs0, d0, ds0, p0, q0, hargs, rfl, rfl, h0, r0⟩ := trodAll_cons hA
 obtain ⟨rfl, rfl, rfl⟩ := trodAll_nil r0
 obtain rfl : args = #[v0] := by cases args; simp_all
 obtain ⟨rfl, rfl⟩ := trodVars_none hV
 have k0 := h0
 have lt0 : ∀ x ∈ p0, x.block < W.heap.size := by obtain ⟨m, hm⟩ := k0; exact DataW.trod_lt m _ _ _ hm
 obtain ⟨a0, cap0, es0, rfl, rd0, hl0, hm0, wn0⟩ := open_links (hval 0 22 v0 rfl rfl) h0
 clear hA0 hval0
 refine (spqrPairs_walk a0 cap0 es0 W rd0 hl0 hm0 wn0).mono fun e W' ⟨he, bel⟩ => ?_
 subst he
 exact ⟨_, rfl, _, _, _, [], _, [], hW', trodAll_mk1 (shut_bool Tryz.underlying4 _), (trodAll_cons_mk (Below.trod rowLaid (by kernel_rfl) (of_decide_eq_true (by kernel_rfl)) k0 bel lt0) trodAll_mk0), rfl, bel.frame _, fun h => by cases h⟩
theorem over : Rows.spqrPairsRow.holds Tryz.pinned (OpenSpec.ofChange Rows.spqrPairsSpec) :=
 OpenClaim.holds_of_wide 5 Tryz.f5 rfl rfl rfl rfl rfl rfl rfl ⟨rfl, rfl, rfl, rfl, rfl⟩ rfl rfl rfl rfl rfl (by kernel_rfl) Tryz.func5 (by kernel_rfl)
  (of_decide_eq_true (by kernel_rfl)) (by unfold Func.isWrapper; first | (rw [if_pos (by decide +kernel)]; kernel_rfl) | (rw [if_neg (by decide +kernel)]; exact ⟨rfl, rfl⟩))
  (fun os started H enc _ => lifted os started H enc)
theorem proved : Rows.SpqrPairsSaid := over
end spqrPairs
end Go.Proofs.YtagcbnpahgfgmaaGreat
