/- Facts that the claim rests on, part 5. -/
import Derived.Test.YtagjdkkfmfombaaGreatKB03
namespace Go.Proofs.YtagjdkkfmfombaaGreat
structure HV (n : Nat) (es : List (Int × Int)) (r : Nat) (up : Nat → Int) (dep : Nat → Nat) : Prop where
 rt : r < n
 upr : up r = -1
 par : ∀ v, v < n → v ≠ r → ∃ u : Nat, u < n ∧ up v = u ∧ v ∈ adj es u ∧ dep u < dep v
theorem adj_symV {n : Nat} {es : List (Int × Int)} (h : rightB n es = true) {u v : Nat} (hv : v ∈ adj es u) : u ∈ adj es v := by
 obtain ⟨j, hj, he⟩ := (mem_adj h u v).1 hv
 exact (mem_adj h v u).2 ⟨j, hj, he.symm⟩
theorem adj_ne {n : Nat} {es : List (Int × Int)} (h : rightB n es = true) {u v : Nat} (hv : v ∈ adj es u) : u ≠ v ∧ u < n ∧ v < n := by
 obtain ⟨j, hj, he⟩ := (mem_adj h u v).1 hv
 have ho := ((rightB_iff n es).1 h).2.2.2.1 j hj
 rcases he with e | e <;> (rw [e] at ho; simp only at ho; omega)
theorem TreeV.hung {n : Nat} {es : List (Int × Int)} (h : TreeV n es) {r : Nat} (hr : r < n) : ∃ up dep, HV n es r up dep := by
 obtain ⟨f', hi⟩ := walkL_inv (besideL_length n es) (beside_lt h.right) hr
 obtain ⟨order, ho⟩ : ∃ o, o = (walkL (besideL n es) r).1 := ⟨_, rfl⟩
 obtain ⟨up, hu⟩ : ∃ u, u = (walkL (besideL n es) r).2 := ⟨_, rfl⟩
 have hall : ∀ v, v < n → v ∈ order := fun v hv => by
  rw [ho]
  exact reach_trans h.right hr h.pos (reach_symm h.right h.pos hr (h.all r hr)) (h.all v hv)
 rw [← ho, ← hu] at hi
 refine ⟨fun v => if v = r then -1 else up.getD v 0, fun v => order.idxOf v, hr, by simp, fun v hv h0 => ?_⟩
 have hg := get_idx (hall v hv)
 have hp : 0 < order.idxOf v := by
  rcases Nat.eq_zero_or_pos (order.idxOf v) with e | e
  · rw [e, hi.head] at hg; cases hg; exact absurd rfl h0
  · exact e
 obtain ⟨u, h1, h2, h3, _⟩ := hi.from_ _ v hp hg
 obtain ⟨j, hj, hju⟩ := List.mem_take_iff_getElem.1 h2
 have hj' := Nat.lt_min.1 hj
 have hun := hi.lt u (List.mem_of_mem_take h2)
 have : order.idxOf u = j := idx_get hi.nd (by rw [List.getElem?_eq_getElem hj'.2, hju])
 rw [beside_getD hun] at h3
 exact ⟨u, hun, by rw [if_neg h0, List.getD_eq_getElem?_getD, h1]; rfl, h3, by show order.idxOf u < order.idxOf v; omega⟩
inductive AncV (up : Nat → Int) (a : Nat) : Nat → Prop
 | refl : AncV up a a
 | step {u v : Nat} : AncV up a u → up v = (u : Int) → AncV up a v
namespace HV
variable {n r : Nat} {es : List (Int × Int)} {up : Nat → Int} {dep : Nat → Nat}
theorem root (h : HV n es r up dep) {v u : Nat} (hv : v < n) (e : up v = (u : Int)) : v ≠ r ∧ u < n ∧ v ∈ adj es u ∧ dep u < dep v := by
 have hne : v ≠ r := fun e2 => by rw [e2, h.upr] at e; omega
 obtain ⟨u', h1, h2, h3, h4⟩ := h.par v hv hne
 obtain rfl : u' = u := by omega
 exact ⟨hne, h1, h3, h4⟩
theorem edge (h : HV n es r up dep) (ht : TreeV n es) {u v : Nat} (ha : v ∈ adj es u) : up v = (u : Int) ∨ up u = (v : Int) := by
 have hok := (rightB_iff n es).1 ht.right
 let pr : Nat → Nat := fun v => (up v).toNat
 let eV : Nat → Int × Int := fun v => (min (pr v : Int) v, max (pr v : Int) v)
 have hpr : ∀ v, v < n → v ≠ r → up v = (pr v : Int) ∧ dep (pr v) < dep v ∧ v ∈ adj es (pr v) := fun v hv h0 => by
  obtain ⟨u, h1, h2, h3, h4⟩ := h.par v hv h0
  have : pr v = u := by show (up v).toNat = u; rw [h2]; rfl
  rw [this]; exact ⟨h2, h4, h3⟩
 have hmem : ∀ v, v < n → v ≠ r → eV v ∈ es := fun v hv h0 => by
  obtain ⟨_, _, h3⟩ := hpr v hv h0
  obtain ⟨j, hj, he⟩ := (mem_adj ht.right _ _).1 h3
  have ho := hok.2.2.2.1 j hj
  have : eV v = es[j] := by
   show (min (pr v : Int) v, max (pr v : Int) v) = es[j]; rcases he with e | e
   · rw [e] at ho ⊢; simp only at ho; exact Prod.ext (by simp; omega) (by simp; omega)
   · rw [e] at ho ⊢; simp only at ho; exact Prod.ext (by simp; omega) (by simp; omega)
  rw [this]; exact List.getElem_mem hj
 have hinj : ∀ v v', v < n → v ≠ r → v' < n → v' ≠ r → eV v = eV v' → v = v' := fun v v' hv h0 hv' h0' e => by
  obtain ⟨_, h2, _⟩ := hpr v hv h0
  obtain ⟨_, h2', _⟩ := hpr v' hv' h0'
  have e1 := congrArg Prod.fst e
  have e2 := congrArg Prod.snd e
  simp only [eV] at e1 e2
  refine Classical.byContradiction fun hne => ?_
  have a1 : pr v = v' := by omega
  have a2 : pr v' = v := by omega
  rw [a1] at h2
  rw [a2] at h2'
  omega
 have hnd : (((List.range n).filter fun v => decide (v ≠ r)).map eV).Nodup := by
  refine nodup_map_on (List.nodup_range.sublist List.filter_sublist) fun x hx y hy e => ?_
  rw [List.mem_filter, List.mem_range] at hx hy
  exact hinj x y hx.1 (by simpa using hx.2) hy.1 (by simpa using hy.2) e
 have hcnt : (((List.range n).filter fun v => decide (v ≠ r)).map eV).length = es.length := by
  rw [List.length_map]
  have : (List.range n).filter (fun v => decide (v ≠ r)) = (List.range n).erase r := by
   rw [List.nodup_range.erase_eq_filter]; congr 1; funext v; by_cases q : v = r <;> simp [q]
  rw [this, List.length_erase_of_mem (List.mem_range.2 h.rt), List.length_range]
  have := ht.len; omega
 obtain ⟨j, hj, he⟩ := (mem_adj ht.right _ _).1 ha
 have hex : es[j] ∈ ((List.range n).filter fun v => decide (v ≠ r)).map eV := by
  refine Classical.byContradiction fun hno => ?_
  have hle := List.Nodup.length_le_of_subset (l₁ := ((List.range n).filter fun v => decide (v ≠ r)).map eV) (l₂ := es.erase es[j]) hnd fun x hx => by
   have hxe : x ≠ es[j] := fun q => hno (q ▸ hx); obtain ⟨v, hv, rfl⟩ := List.mem_map.1 hx; rw [List.mem_filter, List.mem_range] at hv; exact (List.mem_erase_of_ne hxe).2 (hmem v hv.1 (by simpa using hv.2))
  rw [hcnt, List.length_erase_of_mem (List.getElem_mem hj)] at hle
  omega
 obtain ⟨x, hx, e⟩ := List.mem_map.1 hex
 rw [List.mem_filter, List.mem_range] at hx
 have h0 : x ≠ r := by simpa using hx.2
 obtain ⟨h1, -, -⟩ := hpr x hx.1 h0
 rw [← e] at he
 simp only [eV, Prod.mk.injEq] at he
 have hc : (pr x = u ∧ x = v) ∨ (pr x = v ∧ x = u) := by omega
 rcases hc with ⟨a, b⟩ | ⟨a, b⟩
 · rw [← b, ← a]; exact .inl h1
 · rw [← b, ← a]; exact .inr h1
end HV
theorem AncV.dep {n r : Nat} {es : List (Int × Int)} {up : Nat → Int} {dep : Nat → Nat} (h : HV n es r up dep) {a v : Nat} (hv : v < n) (ha : AncV up a v) : a = v ∨ dep a < dep v := by
 induction ha with
 | refl => exact .inl rfl
 | step _ e ih =>
  obtain ⟨_, h1, _, h2⟩ := h.root hv e
  rcases ih h1 with e2 | e2
  · exact .inr (e2 ▸ h2)
  · exact .inr (by omega)
theorem AncV.first {up : Nat → Int} {a v : Nat} (ha : AncV up a v) : a = v ∨ ∃ c, up c = (a : Int) ∧ AncV up c v := by
 induction ha with
 | refl => exact .inl rfl
 | @step u v _ e ih =>
  right
  rcases ih with e2 | ⟨c, h1, h2⟩
  · exact ⟨v, by rw [e, e2], .refl⟩
  · exact ⟨c, h1, .step h2 e⟩
theorem AncV.two {up : Nat → Int} {a b v : Nat} (ha : AncV up a v) (hb : AncV up b v) : AncV up a b ∨ AncV up b a := by
 induction ha generalizing b with
 | refl => exact .inr hb
 | @step u v hu e ih =>
  cases hb with
  | refl => exact .inl (.step hu e)
  | @step u' _ hu' e' =>
   obtain rfl : u' = u := by omega
   exact ih hu'
theorem AncV.lt {n r : Nat} {es : List (Int × Int)} {up : Nat → Int} {dep : Nat → Nat} (h : HV n es r up dep) {a v : Nat} (hv : v < n) (ha : AncV up a v) : a < n := by
 induction ha with
 | refl => exact hv
 | step _ e ih => exact ih (h.root hv e).2.1
theorem AncV.of {n r : Nat} {es : List (Int × Int)} {up : Nat → Int} {dep : Nat → Nat} (h : HV n es r up dep) : ∀ (k v : Nat), dep v ≤ k → v < n → AncV up r v := by
 intro k
 induction k with
 | zero =>
  intro v hk hv
  by_cases e : v = r
  · subst e; exact .refl
  ·
   obtain ⟨u, _, _, _, h4⟩ := h.par v hv e; omega
 | succ k ih =>
  intro v hk hv
  by_cases e : v = r
  · subst e; exact .refl
  ·
   obtain ⟨u, h1, h2, _, h4⟩ := h.par v hv e; exact .step (ih u (by omega) h1) h2
structure ChV (n r : Nat) (up : Nat → Int) (ch : Nat → List Nat) : Prop where
 nd : ∀ v, v < n → (ch v).Nodup
 upc : ∀ v, v < n → ∀ w ∈ ch v, w < n ∧ up w = (v : Int)
 all : ∀ v w, v < n → w < n → up w = (v : Int) → v ≠ r → w ∈ ch v
section
variable {n r : Nat} {es : List (Int × Int)} {up : Nat → Int} {dep : Nat → Nat} {ch : Nat → List Nat}
theorem HV.apart (h : HV n es r up dep) {a c c' v : Nat} (hv : v < n) (hc : AncV up c v) (hc' : AncV up c' v) (e : up c = (a : Int)) (e' : up c' = (a : Int)) : c = c' := by
 have key : ∀ c c', c < n → c' < n → up c = (a : Int) → up c' = (a : Int) → AncV up c c' → c = c' := fun c c' hn hn' e e' hcc => by
  cases hcc with
  | refl => rfl
  | @step u _ hu eu =>
   obtain rfl : u = a := by omega
   obtain ⟨_, h1, _, h2⟩ := h.root hn e; rcases AncV.dep h h1 hu with e3 | e3
   · rw [e3] at h2; omega
   · omega
 have n1 := hc.lt h hv
 have n2 := hc'.lt h hv
 rcases hc.two hc' with t | t
 · exact key c c' n1 n2 e e' t
 · exact (key c' c n2 n1 e' e t).symm
theorem HV.flat (h : HV n es r up dep) {f a : Nat} (ih : ∀ c, c < n → (preS ch f c).Nodup ∧ ∀ y ∈ preS ch f c, y < n ∧ AncV up c y) : ∀ cs : List Nat, cs.Nodup → (∀ c ∈ cs, c < n ∧ up c = (a : Int)) →
  (cs.flatMap (preS ch f)).Nodup ∧ ∀ y ∈ cs.flatMap (preS ch f), y < n ∧ ∃ c ∈ cs, AncV up c y
 | [], _, _ => ⟨by simp, fun y hy => by simp at hy⟩
 | c :: cs, hn, hc => by
  obtain ⟨n1, n2⟩ := List.nodup_cons.1 hn
  obtain ⟨i1, i2⟩ := h.flat ih cs n2 fun d hd => hc d (by simp [hd])
  obtain ⟨j1, j2⟩ := ih c (hc c (by simp)).1
  rw [List.flatMap_cons]
  refine ⟨?_, fun y hy => ?_⟩
  ·
   rw [List.nodup_append]
   refine ⟨j1, i1, fun x hx y hy e => ?_⟩
   subst e
   obtain ⟨k1, k2⟩ := j2 x hx
   obtain ⟨_, d, hd, k3⟩ := i2 x hy
   have := h.apart k1 k2 k3 (hc c (by simp)).2 (hc d (by simp [hd])).2
   exact n1 (this ▸ hd)
  ·
   rcases List.mem_append.1 hy with hy | hy
   · exact ⟨(j2 y hy).1, c, by simp, (j2 y hy).2⟩
   ·
    obtain ⟨k1, d, hd, k2⟩ := i2 y hy
    exact ⟨k1, d, by simp [hd], k2⟩
theorem HV.pre (h : HV n es r up dep) (hch : ChV n r up ch) : ∀ f a, a < n → (preS ch f a).Nodup ∧ ∀ y ∈ preS ch f a, y < n ∧ AncV up a y
 | 0, a, _ => ⟨by simp [preS], fun y hy => by simp [preS] at hy⟩
 | f + 1, a, ha => by
  obtain ⟨i1, i2⟩ := h.flat (a := a) (h.pre hch f) (ch a) (hch.nd a ha) (hch.upc a ha)
  unfold preS
  refine ⟨List.nodup_cons.2 ⟨fun hm => ?_, i1⟩, fun y hy => ?_⟩
  ·
   obtain ⟨_, c, hc, hac⟩ := i2 a hm
   obtain ⟨c1, c2⟩ := hch.upc a ha c hc
   have := (h.root c1 c2).2.2.2
   rcases AncV.dep h ha hac with e | e
   · rw [e] at this; omega
   · omega
  ·
   rcases List.mem_cons.1 hy with e | hy
   · subst e; exact ⟨ha, .refl⟩
   ·
    obtain ⟨k1, c, hc, k2⟩ := i2 y hy
    refine ⟨k1, ?_⟩
    have hup := (hch.upc a ha c hc).2
    have : ∀ {y}, AncV up c y → AncV up a y := fun hh => by
     induction hh with
     | refl => exact .step .refl hup
     | step _ e ih => exact .step ih e
    exact this k2
theorem HV.preAll (h : HV n es r up dep) (hch : ChV n r up ch) : ∀ f a v, a < n → v < n → a ≠ r → AncV up a v → dep v < f + dep a → v ∈ preS ch f a
 | 0, a, v, ha, hv, _, hav, hd => by
  rcases AncV.dep h hv hav with e | e
  · rw [e] at hd; omega
  · omega
 | f + 1, a, v, ha, hv, hr, hav, hd => by
  unfold preS
  rcases hav.first with e | ⟨c, h1, h2⟩
  · rw [e]; simp
  ·
   have hcn := h2.lt h hv
   obtain ⟨h3, _, _, h4⟩ := h.root hcn h1
   refine List.mem_cons_of_mem _ (List.mem_flatMap.2 ⟨c, hch.all a c ha hcn h1 hr, h.preAll hch f c v hcn hv h3 h2 (by omega)⟩)
theorem tell_len {O : List Nat} (hnd : O.Nodup) (hlt : ∀ v ∈ O, v < n) (hall : ∀ v, v < n → v ∈ O) : O.length = n := by
 have := nodup_same hnd List.nodup_range (m := List.range n) fun x => by rw [List.mem_range]; exact ⟨hlt x, hall x⟩
 rw [this, List.length_range]
theorem HV.tellO (h : HV n es r up dep) (ts : List Int) (hch : ChV n r up ch) (hcr : ∀ w, w < n → up w = (r : Int) → w ∈ ch r) (f : Nat) (hf : ∀ v, v < n → dep v < f) :
  TellO n es ts (preS ch (f + 1) r) (seqS (fun v => ts.getD v 0) ch (f + 1) r 0 0) := by
 obtain ⟨p1, p2⟩ := h.pre hch (f + 1) r h.rt
 have hall : ∀ v, v < n → v ∈ preS ch (f + 1) r := fun v hv => by
  rcases (AncV.of h _ v (Nat.le_refl _) hv).first with e | ⟨c, h1, h2⟩
  · rw [← e]; unfold preS; simp
  ·
   have hcn := h2.lt h hv; unfold preS; refine List.mem_cons_of_mem _ (List.mem_flatMap.2 ⟨c, hcr c hcn h1, h.preAll hch f c v hcn hv (h.root hcn h1).1 h2 (by have := hf v hv; omega)⟩)
 have hlen := tell_len p1 (fun v hv => (p2 v hv).1) hall
 refine ⟨p1, fun v hv => (p2 v hv).1, hlen, by rw [seqS_len]; exact hlen, fun i v hi => ?_⟩
 obtain ⟨q, h1, h2⟩ := seqS_tell (fun v => ts.getD v 0) ch (f + 1) (preS ch (f + 1) r) r 0 0 (fun j y hy => by rw [Nat.zero_add]; exact hy) i v hi
 refine ⟨q, h1, fun hi0 => ?_⟩
 rcases h2 with ⟨e, -, -⟩ | ⟨-, h3, x, h4, h5⟩
 · omega
 ·
  refine ⟨by omega, x, h4, ?_⟩
  have hxn := (p2 x (List.mem_of_getElem? h4)).1
  obtain ⟨w1, w2⟩ := hch.upc x hxn v h5
  exact (h.root w1 w2).2.2.1
theorem HV.tellO2 (h : HV n es r up dep) (ts : List Int) (hch : ChV n r up ch) {y : Nat} (hy : y < n) (hyr : up y = (r : Int)) (hcr : ∀ w, w < n → up w = (r : Int) → w ≠ y → w ∈ ch r) (hyc : y ∉ ch r) (f : Nat) (hf : ∀ v, v < n → dep v < f) :
  TellO n es ts (r :: y :: ((ch r).flatMap (preS ch f) ++ (ch y).flatMap (preS ch f)))
   ((ts.getD r 0, 0) :: (ts.getD y 0, 0) :: (goS (seqS (fun v => ts.getD v 0) ch f) (ch r) 0 2 ++ goS (seqS (fun v => ts.getD v 0) ch f) (ch y) 1 (2 + ((ch r).flatMap (preS ch f)).length))) := by
 obtain ⟨a1, a2⟩ := h.flat (a := r) (h.pre hch f) (ch r) (hch.nd r h.rt) (hch.upc r h.rt)
 obtain ⟨b1, b2⟩ := h.flat (a := y) (h.pre hch f) (ch y) (hch.nd y hy) (hch.upc y hy)
 have hyd := (h.root hy hyr).2.2.2
 have hyne := (h.root hy hyr).1
 have up1 : ∀ {c z}, up c = (y : Int) → AncV up c z → AncV up y z := fun {c z} e hh => by
  induction hh with
  | refl => exact .step .refl e
  | step _ e ih => exact .step ih e
 have nor : ∀ c, c < n → up c = (r : Int) → ¬ AncV up c r := fun c hc e hh => by
  rcases AncV.dep h h.rt hh with e2 | e2
  · exact (h.root hc e).1 e2
  · have := (h.root hc e).2.2.2; omega
 have hra : r ∉ (ch r).flatMap (preS ch f) := fun hm => by
  obtain ⟨_, c, hc, hh⟩ := a2 r hm
  obtain ⟨c1, c2⟩ := hch.upc r h.rt c hc
  exact nor c c1 c2 hh
 have hrb : r ∉ (ch y).flatMap (preS ch f) := fun hm => by
  obtain ⟨_, c, hc, hh⟩ := b2 r hm
  exact nor y hy hyr (up1 (hch.upc y hy c hc).2 hh)
 have hya : y ∉ (ch r).flatMap (preS ch f) := fun hm => by
  obtain ⟨_, c, hc, hh⟩ := a2 y hm
  have := h.apart hy hh .refl (hch.upc r h.rt c hc).2 hyr
  exact hyc (this ▸ hc)
 have hyb : y ∉ (ch y).flatMap (preS ch f) := fun hm => by
  obtain ⟨_, c, hc, hh⟩ := b2 y hm
  obtain ⟨c1, c2⟩ := hch.upc y hy c hc
  have := (h.root c1 c2).2.2.2
  rcases AncV.dep h hy hh with e | e
  · rw [e] at this; omega
  · omega
 have hab : ∀ x ∈ (ch r).flatMap (preS ch f), ∀ z ∈ (ch y).flatMap (preS ch f), x ≠ z := fun x hx z hz e => by
  subst e
  obtain ⟨x1, c, hc, hh⟩ := a2 x hx
  obtain ⟨_, d, hd, kk⟩ := b2 x hz
  have := h.apart x1 hh (up1 (hch.upc y hy d hd).2 kk) (hch.upc r h.rt c hc).2 hyr
  exact hyc (this ▸ hc)
 have hnd : (r :: y :: ((ch r).flatMap (preS ch f) ++ (ch y).flatMap (preS ch f))).Nodup := by
  refine List.nodup_cons.2 ⟨fun hm => ?_, List.nodup_cons.2 ⟨fun hm => ?_, List.nodup_append.2 ⟨a1, b1, hab⟩⟩⟩
  ·
   rcases List.mem_cons.1 hm with e | hm
   · exact hyne e.symm
   ·
    rcases List.mem_append.1 hm with hm | hm
    · exact hra hm
    · exact hrb hm
  ·
   rcases List.mem_append.1 hm with hm | hm
   · exact hya hm
   · exact hyb hm
 have hlt : ∀ v ∈ (r :: y :: ((ch r).flatMap (preS ch f) ++ (ch y).flatMap (preS ch f))), v < n := fun v hv => by
  rcases List.mem_cons.1 hv with e | hv
  · rw [e]; exact h.rt
  ·
   rcases List.mem_cons.1 hv with e | hv
   · rw [e]; exact hy
   ·
    rcases List.mem_append.1 hv with hv | hv
    · exact (a2 v hv).1
    · exact (b2 v hv).1
 have hall : ∀ v, v < n → v ∈ (r :: y :: ((ch r).flatMap (preS ch f) ++ (ch y).flatMap (preS ch f))) := fun v hv => by
  rcases (AncV.of h _ v (Nat.le_refl _) hv).first with e | ⟨c, h1, h2⟩
  · rw [← e]; simp
  ·
   have hcn := h2.lt h hv; by_cases hcy : c = y
   ·
    subst hcy; rcases h2.first with e | ⟨d, h3, h4⟩
    · rw [← e]; simp
    ·
     have hdn := h4.lt h hv; refine List.mem_cons_of_mem _ (List.mem_cons_of_mem _ (List.mem_append_right _ (List.mem_flatMap.2 ⟨d, hch.all c d hcn hdn h3 hyne, h.preAll hch f d v hdn hv (h.root hdn h3).1 h4 (by have := hf v hv; omega)⟩)))
   · refine List.mem_cons_of_mem _ (List.mem_cons_of_mem _ (List.mem_append_left _ (List.mem_flatMap.2 ⟨c, hcr c hcn h1 hcy, h.preAll hch f c v hcn hv (h.root hcn h1).1 h2 (by have := hf v hv; omega)⟩)))
 have hlen := tell_len hnd hlt hall
 have gl := fun cs p nx => goS_len (seqS_len (fun v => ts.getD v 0) ch f) cs p nx
 obtain ⟨O, hO⟩ : ∃ O, O = r :: y :: ((ch r).flatMap (preS ch f) ++ (ch y).flatMap (preS ch f)) := ⟨_, rfl⟩
 rw [← hO] at hnd hlt hall hlen ⊢
 refine ⟨hnd, hlt, hlen, ?_, fun i v hi => ?_⟩
 ·
  rw [← hlen, hO]
  simp only [List.length_cons, List.length_append, gl]
 have hO0 : O[0]? = some r := by rw [hO]; rfl
 have hO1 : O[1]? = some y := by rw [hO]; rfl
 have fin : ∀ (q : Nat) x, O[q]? = some x → v ∈ ch x → ∃ u, O[q]? = some u ∧ v ∈ adj es u := fun q x h4 h5 => by
  obtain ⟨w1, w2⟩ := hch.upc x (hlt x (List.mem_of_getElem? h4)) v h5
  exact ⟨x, h4, (h.root w1 w2).2.2.1⟩
 match i, hi with
 | 0, hi =>
  rw [hO0] at hi
  cases hi
  exact ⟨0, rfl, fun h0 => absurd h0 (by omega)⟩
 | 1, hi =>
  rw [hO1] at hi
  cases hi
  exact ⟨0, rfl, fun _ => ⟨by omega, r, hO0, (h.root hy hyr).2.2.1⟩⟩
 | i + 2, hi =>
  have hi2 : ((ch r).flatMap (preS ch f) ++ (ch y).flatMap (preS ch f))[i]? = some v := by
   rw [hO, List.getElem?_cons_succ, List.getElem?_cons_succ] at hi; exact hi
  simp only [List.getElem?_cons_succ]
  by_cases hil : i < ((ch r).flatMap (preS ch f)).length
  ·
   rw [List.getElem?_append_left hil] at hi2
   obtain ⟨q, h1, h2, x, h3, h4⟩ := goS_tell (fun O a p i => seqS_tell (fun v => ts.getD v 0) ch f O a p i) O r 0 hO0 (ch r) (fun _ h => h) 2 (by omega) (fun j y' hy' => by
    rw [hO, show 2 + j = j + 1 + 1 by omega, List.getElem?_cons_succ, List.getElem?_cons_succ, List.getElem?_append_left (List.getElem?_eq_some_iff.1 hy').1]; exact hy') i v hi2
   refine ⟨q, by rw [List.getElem?_append_left (by rw [gl]; exact hil)]; exact h1, fun _ => ⟨by omega, fin q x h3 h4⟩⟩
  ·
   rw [List.getElem?_append_right (by omega)] at hi2
   obtain ⟨q, h1, h2, x, h3, h4⟩ := goS_tell (fun O a p i => seqS_tell (fun v => ts.getD v 0) ch f O a p i) O y 1 hO1 (ch y) (fun _ h => h) (2 + ((ch r).flatMap (preS ch f)).length) (by omega) (fun j y' hy' => by
    rw [hO, show 2 + ((ch r).flatMap (preS ch f)).length + j = ((ch r).flatMap (preS ch f)).length + j + 1 + 1 by omega, List.getElem?_cons_succ, List.getElem?_cons_succ, List.getElem?_append_right (by omega), show ((ch r).flatMap (preS ch f)).length + j - ((ch r).flatMap (preS ch f)).length = j by omega]; exact hy') (i - ((ch r).flatMap (preS ch f)).length) v hi2
   refine ⟨q, by rw [List.getElem?_append_right (by rw [gl]; omega), gl]; exact h1, fun _ => ⟨by omega, fin q x h3 h4⟩⟩
end
end Go.Proofs.YtagjdkkfmfombaaGreat
namespace Go.Proofs.YtagjdkkfmfombaaGreat
def closeStep (n : Nat) (bs : Nat → List Nat) (S : List Nat) : List Nat := (List.range n).filter fun j => S.contains j || S.any fun i => (bs i).contains j
def closeN (n : Nat) (bs : Nat → List Nat) (S : List Nat) : Nat → List Nat
 | 0 => S
 | k + 1 => closeStep n bs (closeN n bs S k)
def compC (n : Nat) (bs : Nat → List Nat) (i : Nat) : List Nat := closeN n bs [i] n
theorem mem_closeStep {n : Nat} {bs : Nat → List Nat} {S : List Nat} {j : Nat} : j ∈ closeStep n bs S ↔ j < n ∧ (j ∈ S ∨ ∃ i ∈ S, j ∈ bs i) := by
 unfold closeStep
 simp only [List.mem_filter, List.mem_range, Bool.or_eq_true, List.contains_iff_mem, List.any_eq_true]
theorem closeN_lt {n : Nat} {bs : Nat → List Nat} {i : Nat} (hi : i < n) (k : Nat) : ∀ j ∈ closeN n bs [i] k, j < n := by
 cases k with
 | zero => intro j hj; simp only [closeN, List.mem_cons, List.not_mem_nil, or_false] at hj; omega
 | succ k => intro j hj; exact (mem_closeStep.1 hj).1
theorem closeN_nodup (n : Nat) (bs : Nat → List Nat) (i k : Nat) : (closeN n bs [i] k).Nodup := by
 cases k with
 | zero => simp [closeN]
 | succ k => exact List.nodup_range.filter _
theorem closeN_self {n : Nat} {bs : Nat → List Nat} {i : Nat} (hi : i < n) (k : Nat) : i ∈ closeN n bs [i] k := by
 induction k with
 | zero => simp [closeN]
 | succ k ih => exact mem_closeStep.2 ⟨hi, .inl ih⟩
theorem closeN_sound {n : Nat} {bs : Nat → List Nat} {i : Nat} (hi : i < n) (k : Nat) : ∀ j ∈ closeN n bs [i] k, Con bs (· < n) i j := by
 induction k with
 | zero => intro j hj; simp only [closeN, List.mem_cons, List.not_mem_nil, or_false] at hj; subst hj; exact .refl hi
 | succ k ih =>
  intro j hj
  obtain ⟨h1, h2 | ⟨a, ha, hb⟩⟩ := mem_closeStep.1 hj
  · exact ih j h2
  · exact (ih a ha).step hb h1
theorem closeN_full {n : Nat} {bs : Nat → List Nat} {i : Nat} (hi : i < n) (k : Nat) :
  (∀ a ∈ closeN n bs [i] k, ∀ b ∈ bs a, b < n → b ∈ closeN n bs [i] k) ∨ k + 1 ≤ (closeN n bs [i] k).length := by
 induction k with
 | zero => right; simp [closeN]
 | succ k ih =>
  by_cases hc : ∀ a ∈ closeN n bs [i] k, ∀ b ∈ bs a, b < n → b ∈ closeN n bs [i] k
  ·
   left; have same : ∀ j, j ∈ closeN n bs [i] (k + 1) ↔ j ∈ closeN n bs [i] k := fun j => by
    constructor
    ·
     intro hj; obtain ⟨h1, h2 | ⟨a, ha, hb⟩⟩ := mem_closeStep.1 hj
     · exact h2
     · exact hc a ha j hb h1
    · intro hj; exact mem_closeStep.2 ⟨closeN_lt hi k j hj, .inl hj⟩
   intro a ha b hb hbn; rw [same] at ha ⊢; exact hc a ha b hb hbn
  ·
   right; have hlen := ih.resolve_left hc; have hex : ∃ a ∈ closeN n bs [i] k, ∃ b ∈ bs a, b < n ∧ b ∉ closeN n bs [i] k := Classical.byContradiction fun hno => hc fun a ha b hb hbn => Classical.byContradiction fun hnb => hno ⟨a, ha, b, hb, hbn, hnb⟩; obtain ⟨a, ha, b, hb, hbn, hnb⟩ := hex; have h1 : (b :: closeN n bs [i] k).Nodup := List.nodup_cons.2 ⟨hnb, closeN_nodup _ _ _ _⟩; have h2 := nodup_len_le (m := closeN n bs [i] (k + 1)) h1 fun x hx => by
    rcases List.mem_cons.1 hx with rfl | hx
    · exact mem_closeStep.2 ⟨hbn, .inr ⟨a, ha, hb⟩⟩
    · exact mem_closeStep.2 ⟨closeN_lt hi k x hx, .inl hx⟩
   simp only [List.length_cons] at h2; omega
theorem mem_compC {n : Nat} {bs : Nat → List Nat} {i : Nat} (hi : i < n) (j : Nat) : j ∈ compC n bs i ↔ Con bs (· < n) i j := by
 constructor
 · exact closeN_sound hi n j
 ·
  intro h
  have hfull : ∀ a ∈ compC n bs i, ∀ b ∈ bs a, b < n → b ∈ compC n bs i := by
   rcases closeN_full (bs := bs) hi n with h1 | h1
   · exact h1
   ·
    exfalso; have := nodup_len_le (m := List.range n) (closeN_nodup n bs i n) fun x hx => List.mem_range.2 (closeN_lt hi n x hx); rw [List.length_range] at this; omega
  exact h.closed (· ∈ compC n bs i) (fun a b ha hb hbn => hfull a ha b hb hbn) (closeN_self hi n)
theorem compC_eq {n : Nat} {bs : Nat → List Nat} (hs : ∀ a b, b ∈ bs a → a ∈ bs b) {i j : Nat} (hi : i < n) (hj : j < n) : compC n bs i = compC n bs j ↔ Con bs (· < n) i j := by
 constructor
 ·
  intro h
  rw [← mem_compC hi, h]; exact closeN_self hj n
 ·
  intro h
  have hm : ∀ a, a ∈ compC n bs i ↔ a ∈ compC n bs j := fun a => by
   rw [mem_compC hi, mem_compC hj]; exact ⟨fun k => (h.symm hs).trans k, fun k => h.trans k⟩
  obtain ⟨m, rfl⟩ : ∃ m, n = m + 1 := ⟨n - 1, by omega⟩
  unfold compC closeN closeStep at hm ⊢
  refine List.filter_congr fun a ha => ?_
  have := hm a
  simp only [List.mem_filter, ha, true_and] at this
  rw [Bool.eq_iff_iff]; exact this
section
variable {α : Type} [DecidableEq α]
def firsts (c : Nat → α) (n : Nat) : List Nat := (List.range n).filter fun i => (List.range i).all fun j => decide (c j ≠ c i)
def ofCol (c : Nat → α) (n : Nat) (x : α) : List Nat := (List.range n).filter fun j => decide (c j = x)
def gIdx (c : Nat → α) (n : Nat) : List (List Nat) := (firsts c n).map fun i => ofCol c n (c i)
theorem mem_firsts {c : Nat → α} {n i : Nat} : i ∈ firsts c n ↔ i < n ∧ ∀ j, j < i → c j ≠ c i := by
 simp [firsts]
theorem firsts_nodup (c : Nat → α) (n : Nat) : (firsts c n).Nodup := List.nodup_range.filter _
theorem gIdx_length (c : Nat → α) (n : Nat) : (gIdx c n).length = (firsts c n).length := by simp [gIdx]
end
def touchB (wo : List Int) (a b : Lk) : Bool := (!wo.contains a.1 && (a.1 == b.1 || a.1 == b.2.1)) || (!wo.contains a.2.1 && (a.2.1 == b.1 || a.2.1 == b.2.1))
theorem touchB_iff (wo : List Int) (a b : Lk) : touchB wo a b = true ↔ ∃ v, v ∉ wo ∧ (v = a.1 ∨ v = a.2.1) ∧ (v = b.1 ∨ v = b.2.1) := by
 unfold touchB
 simp only [Bool.or_eq_true, Bool.and_eq_true, Bool.not_eq_true', beq_iff_eq]
 have hc : ∀ x : Int, wo.contains x = false ↔ x ∉ wo := fun x => by simp
 rw [hc, hc]
 constructor
 ·
  rintro (⟨h1, h2⟩ | ⟨h1, h2⟩)
  · exact ⟨_, h1, .inl rfl, h2⟩
  · exact ⟨_, h1, .inr rfl, h2⟩
 ·
  rintro ⟨v, h1, rfl | rfl, h3⟩
  · exact .inl ⟨h1, h3⟩
  · exact .inr ⟨h1, h3⟩
theorem touchB_symm {wo : List Int} {a b : Lk} (h : touchB wo a b = true) : touchB wo b a = true := by
 rw [touchB_iff] at h ⊢
 obtain ⟨v, h1, h2, h3⟩ := h
 exact ⟨v, h1, h3, h2⟩
def bsL (ls : List Lk) (wo : List Int) (i : Nat) : List Nat := (List.range ls.length).filter fun j => match ls[i]?, ls[j]? with
 | some a, some b => touchB wo a b
 | _, _ => false
theorem mem_bsL {ls : List Lk} {wo : List Int} {i j : Nat} : j ∈ bsL ls wo i ↔ ∃ a b, ls[i]? = some a ∧ ls[j]? = some b ∧ touchB wo a b = true := by
 unfold bsL
 rw [List.mem_filter, List.mem_range]
 constructor
 ·
  rintro ⟨h1, h2⟩
  split at h2
  · rename_i a b ha hb; exact ⟨a, b, ha, hb, h2⟩
  · cases h2
 ·
  rintro ⟨a, b, ha, hb, h⟩
  exact ⟨(List.getElem?_eq_some_iff.1 hb).1, by rw [ha, hb]; exact h⟩
theorem bsL_symm (ls : List Lk) (wo : List Int) : ∀ a b, b ∈ bsL ls wo a → a ∈ bsL ls wo b := fun a b h => by
 rw [mem_bsL] at h ⊢
 obtain ⟨x, y, h1, h2, h3⟩ := h
 exact ⟨y, x, h2, h1, touchB_symm h3⟩
def LCon (ls : List Lk) (wo : List Int) (i j : Nat) : Prop := Con (bsL ls wo) (· < ls.length) i j
def pickL (ls : List Lk) (g : List Nat) : List Lk := g.filterMap fun i => ls[i]?
def groupsL (ls : List Lk) (wo : List Int) : List (List Lk) := if rightL ls then (gIdx (compC ls.length (bsL ls wo)) ls.length).map (pickL ls) else []
inductive VCon (ls : List Lk) (wo : List Int) (x : Int) : Int → Prop
 | refl : VCon ls wo x x
 | step {y z : Int} {k : Lk} : VCon ls wo x y → k ∈ ls → k.1 ∉ wo → k.2.1 ∉ wo → ((y = k.1 ∧ z = k.2.1) ∨ (y = k.2.1 ∧ z = k.1)) → VCon ls wo x z
namespace VCon
variable {ls ls' : List Lk} {wo : List Int} {x y z : Int}
theorem trans (h : VCon ls wo x y) (k : VCon ls wo y z) : VCon ls wo x z := by
 induction k with
 | refl => exact h
 | step _ h1 h2 h3 h4 ih => exact ih.step h1 h2 h3 h4
theorem symm (h : VCon ls wo x y) : VCon ls wo y x := by
 induction h with
 | refl => exact .refl
 | step _ h1 h2 h3 h4 ih => exact (VCon.refl.step h1 h2 h3 (h4.elim (fun e => .inr ⟨e.2, e.1⟩) (fun e => .inl ⟨e.2, e.1⟩))).trans ih
theorem link {k : Lk} (hk : k ∈ ls) (h1 : k.1 ∉ wo) (h2 : k.2.1 ∉ wo) : VCon ls wo k.1 k.2.1 := VCon.refl.step hk h1 h2 (.inl ⟨rfl, rfl⟩)
end VCon
end Go.Proofs.YtagjdkkfmfombaaGreat
namespace Go.Proofs.YtagjdkkfmfombaaGreat
def joinedL (ls : List Lk) : Bool := (groupsL ls []).length == 1
def twoL (ls : List Lk) : Bool := joinedL ls && (decide ((vertsL ls).length ≤ 2) || (vertsL ls).all fun v => (groupsL ls [v]).length == 1)
theorem groups_one {ls : List Lk} {wo : List Int} (hr : rightL ls = true) : (groupsL ls wo).length = 1 ↔ ls ≠ [] ∧ ∀ i j, i < ls.length → j < ls.length → LCon ls wo i j := by
 unfold groupsL
 rw [if_pos hr, List.length_map, gIdx_length]
 have heq : ∀ i j, i < ls.length → j < ls.length → (compC ls.length (bsL ls wo) i = compC ls.length (bsL ls wo) j ↔ LCon ls wo i j) := fun i j hi hj => compC_eq (bsL_symm ls wo) hi hj
 constructor
 ·
  intro h
  obtain ⟨a, ha⟩ := List.length_eq_one_iff.1 h
  have hne : ls ≠ [] := fun e => by subst e; simp [firsts] at h
  refine ⟨hne, ?_⟩
  have hall : ∀ j, j < ls.length → compC ls.length (bsL ls wo) a = compC ls.length (bsL ls wo) j := by
   intro j; induction j using Nat.strongRecOn with
   | _ j ih =>
    intro hj; by_cases hf : ∀ i, i < j → compC ls.length (bsL ls wo) i ≠ compC ls.length (bsL ls wo) j
    ·
     have : j ∈ firsts (compC ls.length (bsL ls wo)) ls.length := mem_firsts.2 ⟨hj, hf⟩; rw [ha] at this; simp at this; rw [this]
    ·
     have : ∃ i, i < j ∧ compC ls.length (bsL ls wo) i = compC ls.length (bsL ls wo) j := Classical.byContradiction fun hno => hf fun i hi e => hno ⟨i, hi, e⟩; obtain ⟨i, hi, e⟩ := this; exact (ih i hi (by omega)).trans e
  intro i j hi hj
  exact (heq i j hi hj).1 ((hall i hi).symm.trans (hall j hj))
 ·
  rintro ⟨hne, hall⟩
  have hpos : 0 < ls.length := List.length_pos_iff.2 hne
  have hf : firsts (compC ls.length (bsL ls wo)) ls.length = [0] := by
   have h0 : 0 ∈ firsts (compC ls.length (bsL ls wo)) ls.length := mem_firsts.2 ⟨hpos, fun j hj => absurd hj (Nat.not_lt_zero _)⟩; have hu : ∀ i ∈ firsts (compC ls.length (bsL ls wo)) ls.length, i = 0 := fun i hi => by
    have h1 := mem_firsts.1 hi; rcases Nat.eq_zero_or_pos i with e | e
    · exact e
    · exact absurd ((heq 0 i hpos h1.1).2 (hall 0 i hpos h1.1)) (h1.2 0 e)
   have hn := firsts_nodup (compC ls.length (bsL ls wo)) ls.length; cases hl : firsts (compC ls.length (bsL ls wo)) ls.length with
   | nil => rw [hl] at h0; simp at h0
   | cons a r =>
    rw [hl] at hu hn; have ea := hu a (by simp); cases r with
    | nil => rw [ea]
    | cons b r' =>
     have eb := hu b (by simp); rw [ea, eb] at hn; simp at hn
  rw [hf]; rfl
theorem VCon.of_lcon {ls : List Lk} {wo : List Int} {i j : Nat} (h : LCon ls wo i j) {a b : Lk} (ha : ls[i]? = some a) {u : Int} (hu : u ∉ wo) (hua : u = a.1 ∨ u = a.2.1) : ∀ (_ : ls[j]? = some b) {v : Int} (_ : v ∉ wo) (_ : v = b.1 ∨ v = b.2.1), VCon ls wo u v := by
 have same : ∀ {k : Lk}, k ∈ ls → ∀ {x y : Int}, x ∉ wo → y ∉ wo → (x = k.1 ∨ x = k.2.1) → (y = k.1 ∨ y = k.2.1) → VCon ls wo x y := fun {k} hk {x y} hx hy h1 h2 => by
  rcases h1 with rfl | rfl <;> rcases h2 with rfl | rfl
  · exact .refl
  · exact VCon.link hk hx hy
  · exact (VCon.link hk hy hx).symm
  · exact .refl
 induction h generalizing b with
 | refl _ =>
  intro hb v hv hvb
  rw [ha] at hb; cases hb
  exact same (List.mem_of_getElem? ha) hu hv hua hvb
 | step _c0 m1 m2 ih =>
  intro hb v hv hvb
  obtain ⟨c, d, hc, hd, ht⟩ := mem_bsL.1 m1
  rw [hb] at hd; cases hd
  obtain ⟨w, w1, w2, w3⟩ := (touchB_iff _ _ _).1 ht
  exact (ih hc w1 w2).trans (same (List.mem_of_getElem? hb) w1 hv w3 hvb)
theorem LCon.of_vcon {ls : List Lk} {wo : List Int} {i j : Nat} {a b : Lk} (ha : ls[i]? = some a) (hb : ls[j]? = some b) {u v : Int} (hu : u ∉ wo) (hv : v ∉ wo) (hua : u = a.1 ∨ u = a.2.1) (hvb : v = b.1 ∨ v = b.2.1) (h : VCon ls wo u v) : LCon ls wo i j := by
 have hi : i < ls.length := (List.getElem?_eq_some_iff.1 ha).1
 have key : ∀ y, VCon ls wo u y → y ∉ wo → ∀ (m : Nat) (k : Lk), ls[m]? = some k → (y = k.1 ∨ y = k.2.1) → LCon ls wo i m := by
  intro y hy
  induction hy with
  | refl =>
   intro _ m k hm hk; exact (show Con (bsL ls wo) (· < ls.length) i i from .refl hi).step (mem_bsL.2 ⟨a, k, ha, hm, (touchB_iff _ _ _).2 ⟨u, hu, hua, hk⟩⟩) (List.getElem?_eq_some_iff.1 hm).1
  | step _c0 m1 m2 m3 m4 ih =>
   rename_i y z k'; intro hz m k hm hk; obtain ⟨p, hp, hpe⟩ := List.getElem_of_mem m1; have hp2 : ls[p]? = some k' := by rw [List.getElem?_eq_getElem hp, hpe]
   have hy1 : y ∉ wo ∧ (y = k'.1 ∨ y = k'.2.1) ∧ (z = k'.1 ∨ z = k'.2.1) := by
    rcases m4 with ⟨e1, e2⟩ | ⟨e1, e2⟩
    · exact ⟨by rw [e1]; exact m2, .inl e1, .inr e2⟩
    · exact ⟨by rw [e1]; exact m3, .inr e1, .inl e2⟩
   have c1 := ih hy1.1 p k' hp2 hy1.2.1; exact c1.step (mem_bsL.2 ⟨k', k, hp2, hm, (touchB_iff _ _ _).2 ⟨z, hz, hy1.2.2, hk⟩⟩) (List.getElem?_eq_some_iff.1 hm).1
 exact key v h hv j b hb hvb
theorem groups_one_v {ls : List Lk} {wo : List Int} (hr : rightL ls = true) (hne : ls ≠ []) (hwo : wo.length ≤ 1) : (groupsL ls wo).length = 1 ↔ ∀ u v, u ∈ vertsL ls → v ∈ vertsL ls → u ∉ wo → v ∉ wo → VCon ls wo u v := by
 have hR := (rightL_iff ls).1 hr
 rw [groups_one hr]
 constructor
 ·
  rintro ⟨_, h⟩ u v hu hv huw hvw
  obtain ⟨a, ha, hua⟩ := (mem_vertsL ls u).1 hu
  obtain ⟨b, hb, hvb⟩ := (mem_vertsL ls v).1 hv
  obtain ⟨i, hi, hie⟩ := List.getElem_of_mem ha
  obtain ⟨j, hj, hje⟩ := List.getElem_of_mem hb
  exact VCon.of_lcon (h i j hi hj) (by rw [List.getElem?_eq_getElem hi, hie]) huw hua (by rw [List.getElem?_eq_getElem hj, hje]) hvw hvb
 ·
  intro h
  refine ⟨hne, fun i j hi hj => ?_⟩
  have ends : ∀ k ∈ ls, ∃ u, u ∉ wo ∧ (u = k.1 ∨ u = k.2.1) := fun k hk => by
   have ok := hR.2.1 k hk; by_cases h1 : k.1 ∈ wo
   ·
    refine ⟨k.2.1, fun h2 => ?_, .inr rfl⟩; match wo, hwo with
    | [], _ => simp at h1
    | [x], _ => simp at h1 h2; have := ok.2.1; omega
   · exact ⟨k.1, h1, .inl rfl⟩
  obtain ⟨u, u1, u2⟩ := ends _ (List.getElem_mem hi)
  obtain ⟨v, v1, v2⟩ := ends _ (List.getElem_mem hj)
  exact LCon.of_vcon (by simp) (by simp) u1 v1 u2 v2 (h u v ((mem_vertsL ls u).2 ⟨_, List.getElem_mem hi, u2⟩) ((mem_vertsL ls v).2 ⟨_, List.getElem_mem hj, v2⟩) u1 v1)
def nbN (vs : List Int) (ls : List Lk) (i : Nat) : List Nat := ls.flatMap fun k => if vs.idxOf k.1 = i then [vs.idxOf k.2.1] else if vs.idxOf k.2.1 = i then [vs.idxOf k.1] else []
theorem idxOf_get {vs : List Int} (h : vs.Nodup) {i : Nat} (hi : i < vs.length) : vs.idxOf vs[i] = i := List.Nodup.idxOf_getElem h i hi
theorem get_idxOf {vs : List Int} {x : Int} (h : x ∈ vs) : vs[vs.idxOf x]? = some x := by
 rw [List.getElem?_eq_getElem (List.idxOf_lt_length_of_mem h), List.getElem_idxOf]
theorem verts_nodup (ls : List Lk) : (vertsL ls).Nodup := (vertsL_sorted ls).imp fun h e => by omega
theorem idxOf_inj {vs : List Int} {x y : Int} (hx : x ∈ vs) (hy : y ∈ vs) (h : vs.idxOf x = vs.idxOf y) : x = y := by
 have h1 := get_idxOf hx
 have h2 := get_idxOf hy
 rw [h, h2] at h1
 exact (Option.some.inj h1).symm
theorem mem_nbN {ls : List Lk} (hok : ∀ k ∈ ls, OkL k) {i j : Nat} : j ∈ nbN (vertsL ls) ls i ↔ ∃ k ∈ ls, ((vertsL ls).idxOf k.1 = i ∧ (vertsL ls).idxOf k.2.1 = j) ∨ ((vertsL ls).idxOf k.2.1 = i ∧ (vertsL ls).idxOf k.1 = j) := by
 unfold nbN
 rw [List.mem_flatMap]
 constructor
 ·
  rintro ⟨k, hk, hj⟩
  refine ⟨k, hk, ?_⟩
  split at hj
  · rename_i h; simp at hj; exact .inl ⟨h, hj.symm⟩
  ·
   split at hj
   · rename_i h; simp at hj; exact .inr ⟨h, hj.symm⟩
   · simp at hj
 ·
  rintro ⟨k, hk, ⟨h1, h2⟩ | ⟨h1, h2⟩⟩
  · exact ⟨k, hk, by rw [if_pos h1]; simp [h2]⟩
  ·
   refine ⟨k, hk, ?_⟩; have hne : (vertsL ls).idxOf k.1 ≠ i := fun e => by
    have := idxOf_inj ((mem_vertsL ls _).2 ⟨k, hk, .inl rfl⟩) ((mem_vertsL ls _).2 ⟨k, hk, .inr rfl⟩) (e.trans h1.symm); have := (hok k hk).2.1; omega
   rw [if_neg hne, if_pos h1]; simp [h2]
theorem nbN_symm {ls : List Lk} (hok : ∀ k ∈ ls, OkL k) : ∀ a b, b ∈ nbN (vertsL ls) ls a → a ∈ nbN (vertsL ls) ls b := fun a b h => by
 rw [mem_nbN hok] at h ⊢
 obtain ⟨k, hk, h⟩ := h
 exact ⟨k, hk, h.elim (fun e => .inr ⟨e.2, e.1⟩) (fun e => .inl ⟨e.2, e.1⟩)⟩
theorem nbN_lt {ls : List Lk} (hok : ∀ k ∈ ls, OkL k) {a b : Nat} (h : b ∈ nbN (vertsL ls) ls a) : b < (vertsL ls).length ∧ a < (vertsL ls).length := by
 obtain ⟨k, hk, h⟩ := (mem_nbN hok).1 h
 have h1 := List.idxOf_lt_length_of_mem ((mem_vertsL ls _).2 ⟨k, hk, .inl rfl⟩)
 have h2 := List.idxOf_lt_length_of_mem ((mem_vertsL ls _).2 ⟨k, hk, .inr rfl⟩)
 rcases h with ⟨e1, e2⟩ | ⟨e1, e2⟩
 · rw [← e1, ← e2]; exact ⟨h2, h1⟩
 · rw [← e1, ← e2]; exact ⟨h1, h2⟩
theorem nbN_len (vs : List Int) (ls : List Lk) (i : Nat) : (nbN vs ls i).length ≤ ls.length := by
 unfold nbN
 induction ls with
 | nil => simp
 | cons k r ih =>
  rw [List.flatMap_cons, List.length_append]
  have : (if vs.idxOf k.1 = i then [vs.idxOf k.2.1] else if vs.idxOf k.2.1 = i then [vs.idxOf k.1] else []).length ≤ 1 := by
   split
   · simp
   · split <;> simp
  simp only [List.length_cons]; omega
theorem con_vcon {ls : List Lk} (hok : ∀ k ∈ ls, OkL k) {wo : List Int} {S : Nat → Prop} (hS : ∀ x, x < (vertsL ls).length → (S x ↔ ∀ v, (vertsL ls)[x]? = some v → v ∉ wo)) {u v : Int} (hu : u ∈ vertsL ls) (hv : v ∈ vertsL ls) (huw : u ∉ wo) (hvw : v ∉ wo) :
  Con (nbN (vertsL ls) ls) S ((vertsL ls).idxOf u) ((vertsL ls).idxOf v) ↔ VCon ls wo u v := by
 have hSv : ∀ {x}, x ∈ vertsL ls → x ∉ wo → S ((vertsL ls).idxOf x) := fun {x} hx hxw => (hS _ (List.idxOf_lt_length_of_mem hx)).2 fun y hy => by
  rw [get_idxOf hx] at hy; cases hy; exact hxw
 constructor
 ·
  intro h
  have key : ∀ y, Con (nbN (vertsL ls) ls) S ((vertsL ls).idxOf u) y → ∀ z, z ∈ vertsL ls → (vertsL ls).idxOf z = y → VCon ls wo u z := by
   intro y hy; induction hy with
   | refl _ => intro z hz e; have := idxOf_inj hu hz e.symm; subst this; exact .refl
   | step c0 m1 m2 ih =>
    rename_i y z'; intro z hz e; obtain ⟨k, hk, hcase⟩ := (mem_nbN hok).1 m1; have a1 := (mem_vertsL ls _).2 ⟨k, hk, .inl (rfl : k.1 = k.1)⟩; have a2 := (mem_vertsL ls _).2 ⟨k, hk, .inr (rfl : k.2.1 = k.2.1)⟩; have hyS := c0.right; rcases hcase with ⟨e1, e2⟩ | ⟨e1, e2⟩
    ·
     have ez : z = k.2.1 := idxOf_inj hz a2 (by rw [e, e2]); have n1 : k.1 ∉ wo := (hS y (by rw [← e1]; exact List.idxOf_lt_length_of_mem a1)).1 hyS _ (by rw [← e1]; exact get_idxOf a1); have n2 : k.2.1 ∉ wo := (hS z' (by rw [← e2]; exact List.idxOf_lt_length_of_mem a2)).1 m2 _ (by rw [← e2]; exact get_idxOf a2); rw [ez]; exact (ih k.1 a1 e1).trans (VCon.link hk n1 n2)
    ·
     have ez : z = k.1 := idxOf_inj hz a1 (by rw [e, e2]); have n2 : k.2.1 ∉ wo := (hS y (by rw [← e1]; exact List.idxOf_lt_length_of_mem a2)).1 hyS _ (by rw [← e1]; exact get_idxOf a2); have n1 : k.1 ∉ wo := (hS z' (by rw [← e2]; exact List.idxOf_lt_length_of_mem a1)).1 m2 _ (by rw [← e2]; exact get_idxOf a1); rw [ez]; exact (ih k.2.1 a2 e1).trans (VCon.link hk n1 n2).symm
  exact key _ h v hv rfl
 ·
  intro h
  have key : ∀ z, VCon ls wo u z → Con (nbN (vertsL ls) ls) S ((vertsL ls).idxOf u) ((vertsL ls).idxOf z) := by
   intro z hz; induction hz with
   | refl => exact .refl (hSv hu huw)
   | step _c0 m1 m2 m3 m4 ih =>
    rename_i y z k; have a1 := (mem_vertsL ls _).2 ⟨k, m1, .inl (rfl : k.1 = k.1)⟩; have a2 := (mem_vertsL ls _).2 ⟨k, m1, .inr (rfl : k.2.1 = k.2.1)⟩; rcases m4 with ⟨rfl, rfl⟩ | ⟨rfl, rfl⟩
    · exact ih.step ((mem_nbN hok).2 ⟨k, m1, .inl ⟨rfl, rfl⟩⟩) (hSv a2 m3)
    · exact ih.step ((mem_nbN hok).2 ⟨k, m1, .inr ⟨rfl, rfl⟩⟩) (hSv a1 m2)
  exact key v h
theorem two_cuts {ls : List Lk} (hr : rightL ls = true) (h3 : 3 ≤ (vertsL ls).length) {j : Bool} {cut : Nat → Bool} (h : CutSpec (vertsL ls).length (nbN (vertsL ls) ls) (-1) j cut) :
  (j = true ↔ joinedL ls = true) ∧ (j = true → ∀ u v, (vertsL ls)[u]? = some v → (cut u = false ↔ (groupsL ls [v]).length = 1)) := by
 have hR := (rightL_iff ls).1 hr
 have hne : ls ≠ [] := fun e => by subst e; simp [vertsL, endsL] at h3
 have hok := hR.2.1
 have pres : ∀ x, Pres (vertsL ls).length (-1) x ↔ x < (vertsL ls).length := fun x => ⟨fun h => h.1, fun h => ⟨h, by omega⟩⟩
 refine ⟨?_, ?_⟩
 ·
  rw [h.join_iff]
  unfold joinedL
  rw [beq_iff_eq, groups_one_v hr hne (by simp)]
  have hS : ∀ x, x < (vertsL ls).length → (Pres (vertsL ls).length (-1) x ↔ ∀ v, (vertsL ls)[x]? = some v → v ∉ ([] : List Int)) := fun x hx => by simp [pres, hx]
  constructor
  ·
   intro hc u v hu hv _ _; exact (con_vcon hok hS hu hv (by simp) (by simp)).1 (hc _ _ ((pres _).2 (List.idxOf_lt_length_of_mem hu)) ((pres _).2 (List.idxOf_lt_length_of_mem hv)))
  ·
   intro hc x y hx hy; have hx' := (pres x).1 hx; have hy' := (pres y).1 hy; have := (con_vcon hok hS (List.getElem_mem hx') (List.getElem_mem hy') (by simp) (by simp)).2 (hc _ _ (List.getElem_mem hx') (List.getElem_mem hy') (by simp) (by simp)); rwa [idxOf_get (verts_nodup ls) hx', idxOf_get (verts_nodup ls) hy'] at this
 ·
  intro hj u v hv
  have hu : u < (vertsL ls).length := (List.getElem?_eq_some_iff.1 hv).1
  have hve : (vertsL ls)[u] = v := by rw [List.getElem?_eq_getElem hu] at hv; exact Option.some.inj hv
  rw [groups_one_v hr hne (by simp)]
  have hS : ∀ x, x < (vertsL ls).length → (Av (vertsL ls).length (-1) u x ↔ ∀ z, (vertsL ls)[x]? = some z → z ∉ [v]) := fun x hx => by
   unfold Av; rw [pres]; constructor
   ·
    rintro ⟨_, h2⟩ z hz hzv; simp at hzv; subst hzv; rw [List.getElem?_eq_getElem hx] at hz; have e : (vertsL ls)[x] = (vertsL ls)[u] := by rw [Option.some.inj hz, hve]
    exact h2 ((List.getElem_inj (verts_nodup ls)).1 e)
   ·
    intro h2; exact ⟨hx, fun e => by subst e; exact h2 v hv (by simp)⟩
  have hav : ∀ x, Av (vertsL ls).length (-1) u x → x < (vertsL ls).length := fun x hx => (pres x).1 hx.1
  have hci := h.cut_iff hj u ((pres u).2 hu)
  constructor
  ·
   intro hc a b ha hb hav1 hbv1; refine (con_vcon hok hS ha hb hav1 hbv1).1 (Classical.byContradiction fun hno => ?_); have sa := (hS _ (List.idxOf_lt_length_of_mem ha)).2 fun z hz => by rw [get_idxOf ha] at hz; cases hz; exact hav1
   have sb := (hS _ (List.idxOf_lt_length_of_mem hb)).2 fun z hz => by rw [get_idxOf hb] at hz; cases hz; exact hbv1
   rw [hci.2 ⟨_, _, sa, sb, hno⟩] at hc; cases hc
  ·
   intro hc; refine Classical.byContradiction fun hcut => ?_; obtain ⟨x, y, hx, hy, hno⟩ := hci.1 (by simpa using hcut); have hx' := hav x hx; have hy' := hav y hy; have nx := (hS x hx').1 hx _ (List.getElem?_eq_getElem hx'); have ny := (hS y hy').1 hy _ (List.getElem?_eq_getElem hy'); have := (con_vcon hok hS (List.getElem_mem hx') (List.getElem_mem hy') nx ny).2 (hc _ _ (List.getElem_mem hx') (List.getElem_mem hy') nx ny); rw [idxOf_get (verts_nodup ls) hx', idxOf_get (verts_nodup ls) hy'] at this; exact hno this
theorem two_many {ls : List Lk} (hr : rightL ls = true) (h3 : 3 ≤ (vertsL ls).length) {j : Bool} {cut : Nat → Bool} (h : CutSpec (vertsL ls).length (nbN (vertsL ls) ls) (-1) j cut) :
  (j && !(List.range (vertsL ls).length).any cut) = twoL ls := by
 obtain ⟨h1, h2⟩ := two_cuts hr h3 h
 unfold twoL
 cases hj : j with
 | false =>
  have : joinedL ls = false := by
   refine Classical.byContradiction fun e => ?_; have := h1.2 (by simpa using e); rw [hj] at this; cases this
  rw [this]; rfl
 | true =>
  rw [h1.1 hj]
  rw [hj] at h2
  have hd : decide ((vertsL ls).length ≤ 2) = false := by simp; omega
  rw [hd]
  simp only [Bool.true_and, Bool.false_or]
  rw [Bool.eq_iff_iff]
  simp only [Bool.not_eq_true', List.any_eq_false, List.mem_range, List.all_eq_true, beq_iff_eq]
  constructor
  ·
   intro hc v hv; obtain ⟨i, hi, e⟩ := List.getElem_of_mem hv; exact (h2 rfl i v (by rw [List.getElem?_eq_getElem hi, e])).1 (by simpa using hc i hi)
  ·
   intro hc i hi; have := (h2 rfl i _ (List.getElem?_eq_getElem hi)).2 (hc _ (List.getElem_mem hi)); simp [this]
theorem nodup_len_leZ {l m : List Int} (h : l.Nodup) (hs : ∀ x ∈ l, x ∈ m) : l.length ≤ m.length := by
 induction l generalizing m with
 | nil => simp
 | cons a l ih =>
  obtain ⟨h1, h2⟩ := List.nodup_cons.1 h
  have ha := hs a (by simp)
  have h3 := ih (m := m.erase a) h2 fun x hx => by
   have hxa : x ≠ a := fun e => h1 (e ▸ hx); exact (List.mem_erase_of_ne hxa).2 (hs x (by simp [hx]))
  rw [List.length_erase_of_mem ha] at h3
  have := List.length_pos_of_mem ha
  simp only [List.length_cons]; omega
theorem two_few {ls : List Lk} (hr : rightL ls = true) (hne : ls ≠ []) (h3 : (vertsL ls).length < 3) : twoL ls = true := by
 have hR := (rightL_iff ls).1 hr
 unfold twoL
 rw [show decide ((vertsL ls).length ≤ 2) = true by simp; omega]
 simp only [Bool.true_or, Bool.and_true]
 unfold joinedL
 rw [beq_iff_eq, groups_one_v hr hne (by simp)]
 intro u v hu hv _ _
 obtain ⟨a, ha, hua⟩ := (mem_vertsL ls u).1 hu
 obtain ⟨b, hb, hvb⟩ := (mem_vertsL ls v).1 hv
 have oa := hR.2.1 a ha; have ob := hR.2.1 b hb
 have hin : ∀ z, z ∈ vertsL ls → z = a.1 ∨ z = a.2.1 := fun z hz => Classical.byContradiction fun hno => by
  have h1 : a.1 ∈ vertsL ls := (mem_vertsL ls _).2 ⟨a, ha, .inl rfl⟩
  have h2 : a.2.1 ∈ vertsL ls := (mem_vertsL ls _).2 ⟨a, ha, .inr rfl⟩
  have hnd : [z, a.1, a.2.1].Nodup := by
   simp only [List.nodup_cons, List.mem_cons, List.not_mem_nil, or_false, not_or, List.nodup_nil, and_true, not_false_eq_true]; exact ⟨⟨fun e => hno (.inl e), fun e => hno (.inr e)⟩, fun e => by have := oa.2.1; omega⟩
  have : [z, a.1, a.2.1].length ≤ (vertsL ls).length := nodup_len_leZ hnd (fun x hx => by
   simp only [List.mem_cons, List.not_mem_nil, or_false] at hx; rcases hx with rfl | rfl | rfl
   · exact hz
   · exact h1
   · exact h2)
  simp at this; omega
 rcases hin u hu with rfl | rfl <;> rcases hin v hv with rfl | rfl
 · exact .refl
 · exact VCon.link ha (by simp) (by simp)
 · exact (VCon.link ha (by simp) (by simp)).symm
 · exact .refl
end Go.Proofs.YtagjdkkfmfombaaGreat
namespace Go.Proofs.YtagjdkkfmfombaaGreat
open Go Go.RowKit Go.Maps
theorem mapLawZ : Keyed Tryz.prog 3 := int_keyed Tryz.underlying3
theorem mapZeroZ (w : World) : (zeroValue 3).run Tryz.prog w = .ok (.int .i64 0) w := by kernel_rfl
def WfZ (v : Int) : Prop := (Lit.int .i64 v).wf = true
theorem wfZ_of {v : Int} (h : -9223372036854775808 ≤ v ∧ v ≤ 9223372036854775807) : WfZ v := WalkArith.wf_i64 h
theorem keyZ {v : Int} (h : WfZ v) : keyOf Tryz.prog 3 (.int .i64 v) = some (.int .i64 v) := keyOf_int_mk Tryz.underlying3 h
def updF (F : Int → Option Int) (k v : Int) : Int → Option Int := fun j => if j = k then some v else F j
theorem updF_same (F : Int → Option Int) (k v : Int) : updF F k v k = some v := by simp [updF]
theorem updF_ne (F : Int → Option Int) {k j : Int} (v : Int) (h : j ≠ k) : updF F k v j = F j := by simp [updF, h]
def MZs (D : DataW Unit) (F : Int → Option Int) (c : Nat) : Prop :=
 Tidy D ∧ Maps.size D = c ∧ (∀ v, Maps.has D (.int .i64 v) = (F v).isSome) ∧ ∀ v x, F v = some x → ∀ z, D.atKey (.int .i64 v) z = .lit (.int .i64 x)
def MZ (w : World) (B c : Nat) (F : Int → Option Int) : Prop :=
 ∃ D : DataW Unit, w.ownsMap Tryz.prog 3 (plainElem Tryz.prog 3) B c D ∧ MZs D F c
theorem MZs.none : MZs (.map []) (fun _ => none) 0 := ⟨tidy_empty, rfl, fun v => rfl, fun v x h => by cases h⟩
theorem MZs.put {D : DataW Unit} {F : Int → Option Int} {c : Nat} (h : MZs D F c) (k v : Int) : MZs (D.put (.int .i64 k) (.lit (.int .i64 v))) (updF F k v) (if (F k).isSome then c else c + 1) := by
 obtain ⟨h1, h2, h3, h4⟩ := h
 have hk : WideAt.IsKeyLit (.int .i64 k) := by simp [WideAt.IsKeyLit]
 refine ⟨h1.put hk _, ?_, fun j => ?_, fun j x hj z => ?_⟩
 · rw [size_put h1, h3 k, h2]
 ·
  by_cases e : j = k
  · subst e; rw [has_put_same h1.isMap hk, updF_same]; rfl
  · rw [has_put_other (by simp; omega), h3 j, updF_ne _ _ e]
 ·
  by_cases e : j = k
  · subst e; rw [updF_same] at hj; cases hj; rw [atKey_put_same h1.isMap hk]
  ·
   rw [updF_ne _ _ e] at hj; rw [atKey_put_other (by simp; omega)]; exact h4 j x hj z
theorem ownsMap_exact {w : World} {B n : Nat} {D : DataW Unit} (h : w.ownsMap Tryz.prog 3 (plainElem Tryz.prog 3) B n D) : w.ownsMap Tryz.prog 3 (plainElem Tryz.prog 3) B (Maps.size D) D := by
 obtain ⟨es, clock, hb, F, hs, rfl⟩ := h
 exact ⟨es, clock, hb, F, by rw [size_eq, length_read]; exact Nat.le_refl _, rfl⟩
theorem MZ.lt {w : World} {B c : Nat} {F : Int → Option Int} (h : MZ w B c F) : B < w.heap.size := by obtain ⟨D, h1, _⟩ := h; exact h1.lt
theorem MZ.made (w : World) : MZ (w.alloc (.map #[] 0)) w.heap.size 0 (fun _ => none) := ⟨_, World.ownsMap_made _ _ _ _, MZs.none⟩
theorem MZ.block {w w' : World} {B c : Nat} {F : Int → Option Int} (h : MZ w B c F) (e : w'.heap[B]? = w.heap[B]?) : MZ w' B c F := by
 obtain ⟨D, ⟨es, clock, hb, r⟩, h2⟩ := h
 exact ⟨D, ⟨es, clock, e.trans hb, r⟩, h2⟩
theorem MZ.below {w w' : World} {B c : Nat} {F : Int → Option Int} (h : MZ w B c F) (hb : Below w.heap.size w w') : MZ w' B c F := h.block (hb.block B h.lt)
theorem MZ.alloc {w : World} {B c : Nat} {F : Int → Option Int} (h : MZ w B c F) (o : Obj) : MZ (w.alloc o) B c F := h.block (Below.heap_alloc w o B h.lt)
theorem MZ.look {w : World} {B c : Nat} {F : Int → Option Int} (h : MZ w B c F) {v : Int} (hv : WfZ v) :
  (Instr.lookup 87 (.map (some B)) (.int .i64 v) false).run Tryz.prog w = .ok (.int .i64 ((F v).getD 0)) w := by
 obtain ⟨D, hown, _, _, h3, h4⟩ := h
 obtain ⟨c, hrun, hat, _⟩ := hown.lookup_int mapLawZ Tryz.underlying87 Tryz.underlying3 (mapZeroZ w) (keyZ hv)
 rw [hrun]
 cases hF : F v with
 | none =>
  have hh := h3 v; rw [hF] at hh
  rw [atKey_of_not_has hh] at hat
  simp at hat; rw [← hat]; rfl
 | some x =>
  rw [h4 v x hF] at hat
  simp at hat; rw [← hat]; rfl
theorem MZ.lookOk {w : World} {B c : Nat} {F : Int → Option Int} (h : MZ w B c F) {v : Int} (hv : WfZ v) :
  (Instr.lookup 87 (.map (some B)) (.int .i64 v) true).run Tryz.prog w = .ok (.tuple #[.int .i64 ((F v).getD 0), .bool (F v).isSome]) w := by
 obtain ⟨D, hown, _, _, h3, h4⟩ := h
 obtain ⟨u, ps, hrun, hu⟩ := hown.look_ok mapLawZ Tryz.underlying87 (mapZeroZ w) (plainElem_int Tryz.underlying3 (by decide)) (keyZ hv)
 obtain ⟨c, rfl, hc, _⟩ := plainElem_int_inv Tryz.underlying3 hu
 simp only [Prod.mk.injEq] at hc
 rw [hrun, h3 v]
 have hat := hc.1
 cases hF : F v with
 | none =>
  have hh := h3 v; rw [hF] at hh
  rw [atKey_of_not_has hh] at hat
  simp at hat; rw [← hat]; rfl
 | some x =>
  rw [h4 v x hF] at hat
  simp at hat; rw [← hat]; rfl
theorem MZ.store {w : World} {B c : Nat} {F : Int → Option Int} (h : MZ w B c F) {k v : Int} (hk : WfZ k) (hv : WfZ v) (hc : c ≤ 100000000) :
  ∃ w', (Instr.mapUpdate 87 (.map (some B)) (.int .i64 k) (.int .i64 v)).run Tryz.prog w = .ok () w' ∧ MZ w' B (if (F k).isSome then c else c + 1) (updF F k v) ∧ w.grownBy w' (some B) := by
 obtain ⟨D, hown, h2⟩ := h
 obtain ⟨w', hrun, r1, r2⟩ := hown.update mapLawZ Tryz.underlying87 (by unfold maxLen; omega) (keyZ hk) (plainElem_int Tryz.underlying3 hv)
 have h3 := h2.put k v
 have h4 := ownsMap_exact r1
 rw [h3.2.1] at h4
 exact ⟨w', hrun, ⟨_, h4, h3⟩, r2⟩
theorem wpList_put_MZ {w : World} {ops : Array Oper} {rest : List Oper} {o : Oper} {a : Act} {Q : Exit → Act → World → Prop} (hg : o.guard = none) (m x y : Operand) (hop : o.op = Op.mapUpdate 87 m x y) {B c : Nat} {F : Int → Option Int} (h : MZ w B c F) {k v : Int}
  (hm : a.eval m = .map (some B)) (hx : a.eval x = .int .i64 k) (hy : a.eval y = .int .i64 v) (hk : WfZ k) (hv : WfZ v) (hc : c ≤ 100000000)
  (hK : ∀ w', MZ w' B (if (F k).isSome then c else c + 1) (updF F k v) → w.grownBy w' (some B) → wpList Tryz.prog ops Q rest (a.put o.dst undef) w') : wpList Tryz.prog ops Q (o :: rest) a w := by
 refine wpList_plain hg fun K' hK' => ?_
 obtain ⟨w', hrun, r1, r2⟩ := h.store hk hv hc
 unfold Oper.wp
 simp [execOp, hop, hm, hx, hy, hrun, Result.andThen]
 exact hK' _ _ (hK w' r1 r2)
theorem step_put_MZ {w : World} {ops : Array Oper} {o : Oper} {a : Act} {K : Act → World → Prop} {Q : Exit → Act → World → Prop} {E : Prop} (hg : o.guard = none) (m x y : Operand) (hop : o.op = Op.mapUpdate 87 m x y) {B c : Nat} {F : Int → Option Int} (h : MZ w B c F) {k v : Int}
  (hm : a.eval m = .map (some B)) (hx : a.eval x = .int .i64 k) (hy : a.eval y = .int .i64 v) (hk : WfZ k) (hv : WfZ v) (hc : c ≤ 100000000)
  (hK : ∀ w', MZ w' B (if (F k).isSome then c else c + 1) (updF F k v) → w.grownBy w' (some B) → K (a.put o.dst undef) w') :
  if Region.wanted o (yielded ops a.tmps) = true then Oper.wp Tryz.prog o a w K Q else E := by
 rw [if_pos (by simp [Region.wanted, hg])]
 obtain ⟨w', hrun, r1, r2⟩ := h.store hk hv hc
 unfold Oper.wp
 simp [execOp, hop, hm, hx, hy, hrun, Result.andThen]
 exact hK w' r1 r2
theorem run_makeMapZ (n : Int) (w : World) : (Instr.makeMap 87 (some (.int .i64 n))).run Tryz.prog w = .ok (.map (some w.heap.size)) (w.alloc (.map #[] 0)) := by
 simp [Instr.makeMap, run_underlying Tryz.underlying87, asInt, asIntOf, Result.andThen]
end Go.Proofs.YtagjdkkfmfombaaGreat
namespace Go.Proofs.YtagjdkkfmfombaaGreat
open Go Go.RowKit
theorem cell_new1 {W : World} {b : Nat} {v : Value} {t : TypeId} (h : b = W.heap.size) : (W.alloc (.cells #[v] t)).cell? ⟨b, 0, none⟩ = some v := by
 subst h; simp
end Go.Proofs.YtagjdkkfmfombaaGreat
namespace Go.Proofs.YtagjdkkfmfombaaGreat
open Go Go.RowKit
def rowN (n : Nat) (f : Nat → Nat) : List Value := (List.range n).map fun i => vN (f i)
def rowB (n : Nat) (f : Nat → Bool) : List Value := (List.range n).map fun i => .bool (f i)
theorem rowN_len (n : Nat) (f : Nat → Nat) : (rowN n f).length = n := by simp [rowN]
theorem rowB_len (n : Nat) (f : Nat → Bool) : (rowB n f).length = n := by simp [rowB]
theorem rowN_set (n : Nat) (f : Nat → Nat) (i y : Nat) : (rowN n f).set i (vN y) = rowN n (upd f i y) := by
 apply List.ext_getElem (by simp [rowN])
 intro j h1 h2
 simp only [rowN, List.length_set, List.length_map, List.length_range] at h1
 simp only [rowN, List.getElem_set, List.getElem_map, List.getElem_range, upd]
 by_cases e : i = j
 · simp [e]
 · rw [if_neg e, if_neg (fun e' => e e'.symm)]
theorem rowB_set (n : Nat) (f : Nat → Bool) (i : Nat) (y : Bool) : (rowB n f).set i (.bool y) = rowB n (upd f i y) := by
 apply List.ext_getElem (by simp [rowB])
 intro j h1 h2
 simp only [rowB, List.length_set, List.length_map, List.length_range] at h1
 simp only [rowB, List.getElem_set, List.getElem_map, List.getElem_range, upd]
 by_cases e : i = j
 · simp [e]
 · rw [if_neg e, if_neg (fun e' => e e'.symm)]
theorem rowN_zero (n : Nat) : List.replicate n (Value.int .i64 0) = rowN n (fun _ => 0) := by
 apply List.ext_getElem (by simp [rowN])
 intro j h1 h2
 simp [rowN, vN]
theorem rowB_zero (n : Nat) : List.replicate n (Value.bool false) = rowB n (fun _ => false) := by
 apply List.ext_getElem (by simp [rowB])
 intro j h1 h2
 simp [rowB]
theorem Row.atN {w : World} {g n cap : Nat} {e : TypeId} {f : Nat → Nat} (h : Row w g e 1 cap (rowN n f)) {i : Nat} (hi : i < n) : w.cell? ⟨g, i, none⟩ = some (.int .i64 (f i)) := by
 rw [h.cell? i (by rw [rowN_len]; exact hi)]; simp [rowN, hi, vN]
theorem Row.atB {w : World} {g n cap : Nat} {e : TypeId} {f : Nat → Bool} (h : Row w g e 1 cap (rowB n f)) {i : Nat} (hi : i < n) : w.cell? ⟨g, i, none⟩ = some (.bool (f i)) := by
 rw [h.cell? i (by rw [rowB_len]; exact hi)]; simp [rowB, hi]
def RdG (w : World) (G n : Nat) (bs : Nat → List Nat) : Prop := ∀ v, v < n → ∃ au cu, w.cell? ⟨G, v, none⟩ = some (.slice au (bs v).length cu) ∧ CellsAt w au ((bs v).map vN)
theorem RdG.below {w w' : World} {G n : Nat} {bs : Nat → List Nat} (h : RdG w G n bs) (hb : Below w.heap.size w w') : RdG w' G n bs := fun v hv => by
 obtain ⟨au, cu, h1, h2⟩ := h v hv
 exact ⟨au, cu, keep_cell hb h1, h2.below hb⟩
structure CM (w : World) (B gn gl gu ga gc gs cs n : Nat) (num low up at_ : Nat → Nat) (cut : Nat → Bool) (stack : List Nat) : Prop where
 rn : Row w gn 3 1 n (rowN n num)
 rl : Row w gl 3 1 n (rowN n low)
 ru : Row w gu 3 1 n (rowN n up)
 ra : Row w ga 3 1 n (rowN n at_)
 rc : Row w gc 4 1 n (rowB n cut)
 rs : Row w gs 3 1 cs (stack.reverse.map vN)
 nd : gn ≠ gl ∧ gn ≠ gu ∧ gn ≠ ga ∧ gn ≠ gc ∧ gl ≠ gu ∧ gl ≠ ga ∧ gl ≠ gc ∧ gu ≠ ga ∧ gu ≠ gc ∧ ga ≠ gc
 ns : gs ≠ gn ∧ gs ≠ gl ∧ gs ≠ gu ∧ gs ≠ ga ∧ gs ≠ gc
 lo : B ≤ gn ∧ B ≤ gl ∧ B ≤ gu ∧ B ≤ ga ∧ B ≤ gc ∧ B ≤ gs
namespace CM
variable {w w' : World} {B gn gl gu ga gc gs cs n : Nat} {num low up at_ : Nat → Nat} {cut : Nat → Bool} {stack : List Nat}
theorem ext (h : CM w B gn gl gu ga gc gs cs n num low up at_ cut stack) (hb : Below w.heap.size w w') : CM w' B gn gl gu ga gc gs cs n num low up at_ cut stack :=
 { h with rn := h.rn.below hb h.rn.lt, rl := h.rl.below hb h.rl.lt, ru := h.ru.below hb h.ru.lt, ra := h.ra.below hb h.ra.lt, rc := h.rc.below hb h.rc.lt, rs := h.rs.below hb h.rs.lt }
theorem set_num (h : CM w B gn gl gu ga gc gs cs n num low up at_ cut stack) (v t : Nat) : CM (w.setCell ⟨gn, v, none⟩ (vN t)) B gn gl gu ga gc gs cs n (upd num v t) low up at_ cut stack := by
 obtain ⟨rn, rl, ru, ra, rc, rs, nd, ns, lo⟩ := h
 exact ⟨by rw [← rowN_set]; exact rn.set v _, rl.other nd.1.symm _, ru.other nd.2.1.symm _, ra.other nd.2.2.1.symm _, rc.other nd.2.2.2.1.symm _, rs.other ns.1 _, nd, ns, lo⟩
theorem set_low (h : CM w B gn gl gu ga gc gs cs n num low up at_ cut stack) (v t : Nat) : CM (w.setCell ⟨gl, v, none⟩ (vN t)) B gn gl gu ga gc gs cs n num (upd low v t) up at_ cut stack := by
 obtain ⟨rn, rl, ru, ra, rc, rs, nd, ns, lo⟩ := h
 exact ⟨rn.other nd.1 _, by rw [← rowN_set]; exact rl.set v _, ru.other nd.2.2.2.2.1.symm _, ra.other nd.2.2.2.2.2.1.symm _, rc.other nd.2.2.2.2.2.2.1.symm _, rs.other ns.2.1 _, nd, ns, lo⟩
theorem set_up (h : CM w B gn gl gu ga gc gs cs n num low up at_ cut stack) (v t : Nat) : CM (w.setCell ⟨gu, v, none⟩ (vN t)) B gn gl gu ga gc gs cs n num low (upd up v t) at_ cut stack := by
 obtain ⟨rn, rl, ru, ra, rc, rs, nd, ns, lo⟩ := h
 exact ⟨rn.other nd.2.1 _, rl.other nd.2.2.2.2.1 _, by rw [← rowN_set]; exact ru.set v _, ra.other nd.2.2.2.2.2.2.2.1.symm _, rc.other nd.2.2.2.2.2.2.2.2.1.symm _, rs.other ns.2.2.1 _, nd, ns, lo⟩
theorem set_at (h : CM w B gn gl gu ga gc gs cs n num low up at_ cut stack) (v t : Nat) : CM (w.setCell ⟨ga, v, none⟩ (vN t)) B gn gl gu ga gc gs cs n num low up (upd at_ v t) cut stack := by
 obtain ⟨rn, rl, ru, ra, rc, rs, nd, ns, lo⟩ := h
 exact ⟨rn.other nd.2.2.1 _, rl.other nd.2.2.2.2.2.1 _, ru.other nd.2.2.2.2.2.2.2.1 _, by rw [← rowN_set]; exact ra.set v _, rc.other nd.2.2.2.2.2.2.2.2.2.symm _, rs.other ns.2.2.2.1 _, nd, ns, lo⟩
theorem set_cut (h : CM w B gn gl gu ga gc gs cs n num low up at_ cut stack) (v : Nat) (b : Bool) : CM (w.setCell ⟨gc, v, none⟩ (.bool b)) B gn gl gu ga gc gs cs n num low up at_ (upd cut v b) stack := by
 obtain ⟨rn, rl, ru, ra, rc, rs, nd, ns, lo⟩ := h
 exact ⟨rn.other nd.2.2.2.1 _, rl.other nd.2.2.2.2.2.2.1 _, ru.other nd.2.2.2.2.2.2.2.2.1 _, ra.other nd.2.2.2.2.2.2.2.2.2 _, by rw [← rowB_set]; exact rc.set v _, rs.other ns.2.2.2.2 _, nd, ns, lo⟩
theorem pop (h : CM w B gn gl gu ga gc gs cs n num low up at_ cut stack) : CM w B gn gl gu ga gc gs cs n num low up at_ cut stack.tail :=
 { h with rs := (by
   have := h.rs.take (stack.length - 1)
   cases stack with
   | nil => simpa using this
   | cons a r => simpa [List.take_append] using this) }
theorem push {x g' c' : Nat} (h : CM w B gn gl gu ga gc gs cs n num low up at_ cut stack) (hr : Row w' g' 3 1 c' (stack.reverse.map vN ++ [vN x])) (hg : w.grownBy w' (some gs)) (hor : some gs = some g' ∨ w.heap.size ≤ g') :
  CM w' B gn gl gu ga gc g' c' n num low up at_ cut (x :: stack) := by
 obtain ⟨rn, rl, ru, ra, rc, rs, nd, ns, lo⟩ := h
 have hne : ∀ k, k ≠ gs → k < w.heap.size → g' ≠ k := fun k hk hlt e => by
  rcases hor with h1 | h1
  · cases h1; exact hk e.symm
  · omega
 have hs : ∀ k, gs ≠ k → some gs ≠ some k := fun k hk e => hk (Option.some.inj e)
 refine ⟨rn.grown hg (hs _ ns.1), rl.grown hg (hs _ ns.2.1), ru.grown hg (hs _ ns.2.2.1), ra.grown hg (hs _ ns.2.2.2.1), rc.grown hg (hs _ ns.2.2.2.2), by simpa using hr, nd, ?_, ?_⟩
 · exact ⟨hne _ ns.1.symm rn.lt, hne _ ns.2.1.symm rl.lt, hne _ ns.2.2.1.symm ru.lt, hne _ ns.2.2.2.1.symm ra.lt, hne _ ns.2.2.2.2.symm rc.lt⟩
 ·
  obtain ⟨l1, l2, l3, l4, l5, l6⟩ := lo
  refine ⟨l1, l2, l3, l4, l5, ?_⟩
  rcases hor with h1 | h1
  · cases h1; exact l6
  · have := rn.lt; omega
end CM
theorem CT.met_le {n : Nat} {bs : Nat → List Nat} {gone : Int} {root : Nat} {s : CS} (h : CT n bs gone root s) : s.met ≤ n := by
 obtain ⟨o, h1, h2, h3⟩ := h.ord
 have := nodup_len_le (m := List.range n) h1 fun x hx => List.mem_range.2 (h.numP x ((h3 x).1 hx)).1
 rw [List.length_range] at this; omega
def sumR (f : Nat → Nat) : Nat → Nat
 | 0 => 0
 | n + 1 => sumR f n + f n
theorem sumR_congr {f g : Nat → Nat} {n : Nat} (h : ∀ x, x < n → f x = g x) : sumR f n = sumR g n := by
 induction n with
 | zero => rfl
 | succ n ih => rw [sumR, sumR, ih fun x hx => h x (by omega), h n (by omega)]
theorem sumR_one {f g : Nat → Nat} {n v : Nat} (hv : v < n) (h1 : g v + 1 = f v) (h : ∀ x, x ≠ v → f x = g x) : sumR g n + 1 = sumR f n := by
 induction n with
 | zero => omega
 | succ n ih =>
  rw [sumR, sumR]
  by_cases e : v = n
  ·
   subst e; have : sumR f v = sumR g v := sumR_congr fun x hx => h x (by omega); omega
  · have := ih (by omega); have := h n (fun e' => e e'.symm); omega
def restS (n : Nat) (bs : Nat → List Nat) (at_ : Nat → Nat) : Nat := sumR (fun v => (bs v).length - at_ v) n
theorem restS_inc {n : Nat} {bs : Nat → List Nat} {at_ : Nat → Nat} {v : Nat} (hv : v < n) (h : at_ v < (bs v).length) : restS n bs (upd at_ v (at_ v + 1)) + 1 = restS n bs at_ :=
 sumR_one hv (by simp only [upd_same]; omega) fun x hx => by simp only [upd_ne _ _ hx]
def RetCutsK (w : World) (n : Nat) (bs : Nat → List Nat) (gone : Int) (e : Ending) (w' : World) : Prop :=
 ∃ (j : Bool) (cut : Nat → Bool) (gc : Nat), e = .returned (.tuple #[.bool j, .slice (some ⟨gc, 0, none⟩) n n]) ∧ Row w' gc 4 1 n (rowB n cut) ∧ w.heap.size ≤ gc ∧ Below w.heap.size w w' ∧ CutSpec n bs gone j cut
theorem left_len (n : Nat) (gone : Int) (h : -1 ≤ gone) (hn : gone < n) : (((List.range n).filter (presB gone)).length : Int) = if 0 ≤ gone then (n : Int) - 1 else n := by
 have key : ∀ m : Nat, (((List.range m).filter (presB gone)).length : Int) = if 0 ≤ gone ∧ gone < m then (m : Int) - 1 else m := by
  intro m
  induction m with
  | zero => simp
  | succ m ih =>
   rw [List.range_succ, List.filter_append, List.length_append]; by_cases e : (m : Int) = gone
   ·
    have hf : List.filter (presB gone) [m] = [] := by simp [presB, e]
    have : ¬ (0 ≤ gone ∧ gone < (m : Int)) := by omega
    rw [if_neg this] at ih; rw [hf, if_pos (by omega)]; simp only [List.length_nil]; omega
   ·
    have hf : List.filter (presB gone) [m] = [m] := by simp [presB, e]
    rw [hf]; by_cases h2 : 0 ≤ gone ∧ gone < (m : Int)
    · rw [if_pos h2] at ih; rw [if_pos (by omega)]; simp only [List.length_cons, List.length_nil]; omega
    · rw [if_neg h2] at ih; rw [if_neg (by omega)]; simp only [List.length_cons, List.length_nil]; omega
 rw [key n]
 by_cases h0 : 0 ≤ gone
 · rw [if_pos ⟨h0, hn⟩, if_pos h0]
 · rw [if_neg (by omega), if_neg h0]
theorem cut_none {n : Nat} {bs : Nat → List Nat} {gone : Int} (h : ∀ v, ¬ Pres n gone v) : CutSpec n bs gone true (fun _ => false) :=
 ⟨by simp; exact fun x y hx => absurd hx (h x), fun _ u hu => absurd hu (h u), fun _ _ => rfl⟩
end Go.Proofs.YtagjdkkfmfombaaGreat
