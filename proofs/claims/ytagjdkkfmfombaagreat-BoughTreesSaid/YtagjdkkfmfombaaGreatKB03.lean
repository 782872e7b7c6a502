/- Facts that the claim rests on, part 4. -/
import Derived.Test.YtagjdkkfmfombaaGreatKB02
namespace Go.Proofs.YtagjdkkfmfombaaGreat
section
variable {α β : Type}
def goS (s : α → Nat → Nat → List (Int × Nat)) : List α → Nat → Nat → List (Int × Nat)
 | [], _, _ => []
 | c :: cs, p, nx => s c p nx ++ goS s cs p (nx + (s c p nx).length)
def seqS (lab : α → Int) (ch : α → List α) : Nat → α → Nat → Nat → List (Int × Nat)
 | 0, _, _, _ => []
 | f + 1, a, p, i => (lab a, p) :: goS (seqS lab ch f) (ch a) i (i + 1)
def preS (ch : α → List α) : Nat → α → List α
 | 0, _ => []
 | f + 1, a => a :: (ch a).flatMap (preS ch f)
theorem goS_len {s : α → Nat → Nat → List (Int × Nat)} {t : α → List α} (h : ∀ c p i, (s c p i).length = (t c).length) : ∀ (cs : List α) (p nx : Nat), (goS s cs p nx).length = (cs.flatMap t).length
 | [], _, _ => rfl
 | c :: cs, p, nx => by
  unfold goS
  rw [List.length_append, h, goS_len h cs, List.flatMap_cons, List.length_append]
theorem seqS_len (lab : α → Int) (ch : α → List α) : ∀ (f : Nat) (a : α) (p i : Nat), (seqS lab ch f a p i).length = (preS ch f a).length
 | 0, _, _, _ => rfl
 | f + 1, a, p, i => by
  unfold seqS preS
  rw [List.length_cons, List.length_cons, goS_len (seqS_len lab ch f)]
theorem goS_congr {s : α → Nat → Nat → List (Int × Nat)} {s' : β → Nat → Nat → List (Int × Nat)} : ∀ {cs : List α} {cs' : List β}, cs.length = cs'.length → (∀ (i : Nat) c c', cs[i]? = some c → cs'[i]? = some c' → ∀ p nx, s c p nx = s' c' p nx) → ∀ p nx, goS s cs p nx = goS s' cs' p nx
 | [], [], _, _, _, _ => rfl
 | [], _ :: _, h, _, _, _ => by simp at h
 | _ :: _, [], h, _, _, _ => by simp at h
 | c :: cs, c' :: cs', h, hs, p, nx => by
  unfold goS
  rw [hs 0 c c' rfl rfl, goS_congr (by simpa using h) fun i d d' h1 h2 => hs (i + 1) d d' (by simpa using h1) (by simpa using h2)]
theorem seqS_congr {lab : α → Int} {ch : α → List α} {lab' : β → Int} {ch' : β → List β} {f : Nat} {a : α} {a' : β} (h1 : lab a = lab' a') (h2 : (ch a).length = (ch' a').length) (h3 : ∀ (i : Nat) c c', (ch a)[i]? = some c → (ch' a')[i]? = some c' → ∀ p nx, seqS lab ch f c p nx = seqS lab' ch' f c' p nx) (p i : Nat) : seqS lab ch (f + 1) a p i = seqS lab' ch' (f + 1) a' p i := by
 unfold seqS
 rw [h1, goS_congr h2 h3]
def TellS (lab : α → Int) (ch : α → List α) (O : List α) (nx : Nat) (ys : List α) (S : List (Int × Nat)) : Prop :=
 ∀ (j : Nat) y, ys[j]? = some y → ∃ q, S[j]? = some (lab y, q) ∧ q < nx + j ∧ ∃ x, O[q]? = some x ∧ y ∈ ch x
theorem goS_tell {lab : α → Int} {ch : α → List α} {f : Nat}
  (ih : ∀ (O : List α) (a : α) (p i : Nat), (∀ (j : Nat) y, (preS ch f a)[j]? = some y → O[i + j]? = some y) → ∀ (j : Nat) y, (preS ch f a)[j]? = some y → ∃ q, (seqS lab ch f a p i)[j]? = some (lab y, q) ∧ ((j = 0 ∧ q = p ∧ y = a) ∨ (0 < j ∧ q < i + j ∧ ∃ x, O[q]? = some x ∧ y ∈ ch x)))
  (O : List α) (x0 : α) (p : Nat) (hp : O[p]? = some x0) : ∀ (cs : List α), (∀ c ∈ cs, c ∈ ch x0) → ∀ (nx : Nat), p < nx → (∀ (j : Nat) y, (cs.flatMap (preS ch f))[j]? = some y → O[nx + j]? = some y) → TellS lab ch O nx (cs.flatMap (preS ch f)) (goS (seqS lab ch f) cs p nx)
 | [], _, _, _, _ => fun j y hy => by simp at hy
 | c :: cs, hc, nx, hpn, hO => fun j y hy => by
  have hl := seqS_len lab ch f c p nx
  rw [List.flatMap_cons] at hO hy
  unfold goS
  by_cases hj : j < (preS ch f c).length
  ·
   rw [List.getElem?_append_left hj] at hy
   obtain ⟨q, h1, h2⟩ := ih O c p nx (fun j y hy => hO j y (by rw [List.getElem?_append_left (List.getElem?_eq_some_iff.1 hy).1]; exact hy)) j y hy
   refine ⟨q, by rw [List.getElem?_append_left (by omega)]; exact h1, ?_⟩
   rcases h2 with ⟨rfl, rfl, rfl⟩ | ⟨a, b, d⟩
   · exact ⟨by omega, x0, hp, hc _ (by simp)⟩
   · exact ⟨b, d⟩
  ·
   rw [List.getElem?_append_right (by omega)] at hy
   obtain ⟨q, h1, h2, h3⟩ := goS_tell ih O x0 p hp cs (fun d hd => hc d (by simp [hd])) (nx + (seqS lab ch f c p nx).length) (by omega) (fun j' y' hy' => by
    have := hO ((preS ch f c).length + j') y' (by rw [List.getElem?_append_right (by omega), show (preS ch f c).length + j' - (preS ch f c).length = j' by omega]; exact hy')
    rw [hl, show nx + (preS ch f c).length + j' = nx + ((preS ch f c).length + j') by omega]; exact this) (j - (preS ch f c).length) y hy
   refine ⟨q, ?_, ?_, h3⟩
   ·
    rw [List.getElem?_append_right (by omega), hl, ← hl]
    have : (seqS lab ch f c p nx).length = (preS ch f c).length := hl
    rw [this] at h1 ⊢
    exact h1
   · omega
theorem seqS_tell (lab : α → Int) (ch : α → List α) : ∀ (f : Nat) (O : List α) (a : α) (p i : Nat), (∀ (j : Nat) y, (preS ch f a)[j]? = some y → O[i + j]? = some y) → ∀ (j : Nat) y, (preS ch f a)[j]? = some y → ∃ q, (seqS lab ch f a p i)[j]? = some (lab y, q) ∧ ((j = 0 ∧ q = p ∧ y = a) ∨ (0 < j ∧ q < i + j ∧ ∃ x, O[q]? = some x ∧ y ∈ ch x))
 | 0, _, _, _, _, _, j, y, hy => by simp [preS] at hy
 | f + 1, O, a, p, i, hO, j, y, hy => by
  unfold preS at hO hy
  unfold seqS
  match j, hy with
  | 0, hy =>
   simp only [List.getElem?_cons_zero, Option.some.injEq] at hy
   subst hy
   exact ⟨p, rfl, .inl ⟨rfl, rfl, rfl⟩⟩
  | j + 1, hy =>
   rw [List.getElem?_cons_succ] at hy
   obtain ⟨q, h1, h2, h3⟩ := goS_tell (lab := lab) (fun O a p i => seqS_tell lab ch f O a p i) O a i (by have := hO 0 a rfl; simpa using this) (ch a) (fun _ h => h) (i + 1) (by omega) (fun j y hy => by
    have := hO (j + 1) y (by rw [List.getElem?_cons_succ]; exact hy)
    rw [show i + 1 + j = i + (j + 1) by omega]; exact this) j y hy
   exact ⟨q, by rw [List.getElem?_cons_succ]; exact h1, .inr ⟨by omega, by omega, h3⟩⟩
end
structure TellO (n : Nat) (es : List (Int × Int)) (ts : List Int) (O : List Nat) (S : List (Int × Nat)) : Prop where
 nd : O.Nodup
 lt : ∀ v ∈ O, v < n
 len : O.length = n
 sl : S.length = n
 tell : ∀ (i : Nat) v, O[i]? = some v → ∃ q, S[i]? = some (ts.getD v 0, q) ∧ (0 < i → q < i ∧ ∃ u, O[q]? = some u ∧ v ∈ adj es u)
theorem sortP_perm {l m : List (Int × Int)} (h : l.Perm m) : sortP l = sortP m := by
 unfold sortP
 have pw : ∀ l : List (Int × Int), (l.mergeSort fun x y => !decide (cmpP y x < 0)).Pairwise fun x y => (!decide (cmpP y x < 0)) = true := fun l => List.pairwise_mergeSort (fun a b c h1 h2 => by
  simp only [Bool.not_eq_true', decide_eq_false_iff_not, cmpP_neg, lessP] at *
  omega) (fun a b => by
  simp only [Bool.or_eq_true, Bool.not_eq_true', decide_eq_false_iff_not, cmpP_neg, lessP]
  omega) l
 refine List.Perm.eq_of_pairwise (fun a b _ _ h1 h2 => ?_) (pw l) (pw m) ((List.mergeSort_perm _ _).trans (h.trans (List.mergeSort_perm _ _).symm))
 simp only [Bool.not_eq_true', decide_eq_false_iff_not, cmpP_neg, lessP] at h1 h2
 exact Prod.ext (by omega) (by omega)
def codeS (n : Nat) (S : List (Int × Nat)) : List Int :=
 ((n : Int) :: S.map (·.1)) ++ [((n - 1 : Nat) : Int)] ++ (sortP ((List.range' 1 (n - 1)).map fun i => (((S.getD i (0, 0)).2 : Int), (i : Int)))).flatMap fun e => [e.1, e.2]
theorem right_nodup {n : Int} {es : List (Int × Int)} (h : rightB n es = true) : es.Nodup := by
 obtain ⟨-, -, -, -, h5⟩ := (rightB_iff n es).1 h
 have key : ∀ i j (hi : i < es.length) (hj : j < es.length), i < j → lessP es[i] es[j] := by
  intro i j hi hj hij
  obtain ⟨d, rfl⟩ : ∃ d, j = i + 1 + d := ⟨j - i - 1, by omega⟩
  induction d with
  | zero => exact (cmpP_neg _ _).1 (h5 i hj)
  | succ d ih =>
   have h1 := ih (by omega) (by omega); have h2 : lessP es[i + 1 + d] es[i + 1 + (d + 1)] := (cmpP_neg _ _).1 (h5 (i + 1 + d) hj); simp only [lessP] at h1 h2 ⊢; omega
 unfold List.Nodup
 rw [List.pairwise_iff_getElem]
 intro i j hi hj hij e
 have := key i j hi hj hij
 rw [e] at this
 simp only [lessP] at this
 omega
namespace TellO
variable {n : Nat} {es : List (Int × Int)} {ts : List Int} {O : List Nat} {S : List (Int × Nat)}
theorem ends (h : TellO n es ts O S) (ht : TreeV n es) : (es.map (endP O)).Perm ((List.range' 1 (n - 1)).map fun i => (((S.getD i (0, 0)).2 : Int), (i : Int))) := by
 have hok := (rightB_iff n es).1 ht.right
 have hex : ∀ i, ∃ e : Int × Int, i ∈ List.range' 1 (n - 1) → e ∈ es ∧ endP O e = (((S.getD i (0, 0)).2 : Int), (i : Int)) := fun i => by
  by_cases hi : i ∈ List.range' 1 (n - 1)
  ·
   rw [List.mem_range'_1] at hi; have hpos := ht.pos; have hil : i < O.length := by rw [h.len]; omega
   obtain ⟨q, h1, h2⟩ := h.tell i O[i] (List.getElem?_eq_getElem hil); obtain ⟨h3, u, h4, h5⟩ := h2 (by omega); obtain ⟨j, hj, he⟩ := (mem_adj ht.right _ _).1 h5; refine ⟨es[j], fun _ => ⟨List.getElem_mem hj, ?_⟩⟩; have hS : S.getD i (0, 0) = (ts.getD O[i] 0, q) := by rw [List.getD_eq_getElem?_getD, h1]; rfl
   rw [hS]; have i1 : O.idxOf O[i] = i := h.nd.idxOf_getElem i hil; have i2 : O.idxOf u = q := idx_get h.nd h4; unfold endP; rcases he with he | he
   ·
    rw [he]; simp only [Int.toNat_natCast]; rw [i1, i2]; exact Prod.ext (by simp; omega) (by simp; omega)
   ·
    rw [he]; simp only [Int.toNat_natCast]; rw [i1, i2]; exact Prod.ext (by simp; omega) (by simp; omega)
  · exact ⟨(0, 0), fun h => absurd h hi⟩
 obtain ⟨e, he⟩ := Classical.axiomOfChoice hex
 have hinj : ∀ i ∈ List.range' 1 (n - 1), ∀ j ∈ List.range' 1 (n - 1), e i = e j → i = j := fun i hi j hj hij => by
  have a := (he i hi).2
  have b := (he j hj).2
  rw [hij, b] at a
  simp only [Prod.mk.injEq] at a
  omega
 have hnd : ((List.range' 1 (n - 1)).map e).Nodup := nodup_map_on List.nodup_range' hinj
 have hsub : ∀ x ∈ (List.range' 1 (n - 1)).map e, x ∈ es := fun x hx => by
  obtain ⟨i, hi, rfl⟩ := List.mem_map.1 hx
  exact (he i hi).1
 have hperm : es.Perm ((List.range' 1 (n - 1)).map e) := by
  refine (List.perm_ext_iff_of_nodup (right_nodup ht.right) hnd).2 fun x => ⟨fun hx => ?_, hsub x⟩
  refine Classical.byContradiction fun hno => ?_
  have hle := List.Nodup.length_le_of_subset (l₁ := (List.range' 1 (n - 1)).map e) (l₂ := es.erase x) hnd fun y hy => (List.mem_erase_of_ne (fun q => hno (by rw [← q]; exact hy))).2 (hsub y hy)
  rw [List.length_map, List.length_range', List.length_erase_of_mem hx] at hle
  have := List.length_pos_of_mem hx
  have := ht.len
  omega
 refine (hperm.map (endP O)).trans ?_
 rw [List.map_map]
 refine List.Perm.of_eq (List.map_congr_left fun i hi => ?_)
 exact (he i hi).2
theorem code (h : TellO n es ts O S) (ht : TreeV n es) : codeNums ts O es = codeS n S := by
 unfold codeNums codeS
 have h1 : (O.map fun v => ts.getD v 0) = S.map (·.1) := by
  apply List.ext_getElem?
  intro i
  rw [List.getElem?_map, List.getElem?_map]
  by_cases hi : i < O.length
  ·
   obtain ⟨q, hq, -⟩ := h.tell i O[i] (List.getElem?_eq_getElem hi); rw [List.getElem?_eq_getElem hi, hq]; rfl
  ·
   rw [List.getElem?_eq_none (by omega), List.getElem?_eq_none (by rw [h.sl, ← h.len]; omega)]; rfl
 have h2 : es.length = n - 1 := by have := ht.len; omega
 rw [h1, h.len, h2]
 unfold endsF
 rw [sortP_perm (h.ends ht)]
end TellO
structure IsoG (n : Nat) (es : List (Int × Int)) (ts : List Int) (es' : List (Int × Int)) (ts' : List Int) (φ : Nat → Nat) : Prop where
 lt : ∀ v, v < n → φ v < n
 inj : ∀ u v, u < n → v < n → φ u = φ v → u = v
 lab : ∀ v, v < n → ts.getD v 0 = ts'.getD (φ v) 0
 adj : ∀ u v, u < n → v < n → (v ∈ adj es u ↔ φ v ∈ adj es' (φ u))
structure OrdV (n : Nat) (O : List Nat) : Prop where
 nd : O.Nodup
 lt : ∀ v ∈ O, v < n
 len : O.length = n
theorem TellO.ord {n : Nat} {es : List (Int × Int)} {ts : List Int} {O : List Nat} {S : List (Int × Nat)} (h : TellO n es ts O S) : OrdV n O := ⟨h.nd, h.lt, h.len⟩
theorem OrdV.mem {n : Nat} {O : List Nat} (h : OrdV n O) {v : Nat} (hv : v < n) : v ∈ O := all_in h.nd (fun x hx => by rw [h.len]; exact h.lt x hx) (by rw [h.len]; exact hv)
theorem adj_places {n : Nat} {es : List (Int × Int)} {O : List Nat} (hr : rightB n es = true) (ho : OrdV n O) {u v : Nat} (hu : u < n) (hv : v < n) :
  v ∈ adj es u ↔ (((min (O.idxOf u) (O.idxOf v) : Nat) : Int), ((max (O.idxOf u) (O.idxOf v) : Nat) : Int)) ∈ endsF O es := by
 have hok := (rightB_iff n es).1 hr
 unfold endsF sortP
 rw [List.mem_mergeSort, List.mem_map, mem_adj hr]
 constructor
 ·
  rintro ⟨j, hj, he | he⟩
  ·
   refine ⟨es[j], List.getElem_mem hj, ?_⟩; unfold endP; rw [he]; simp only [Int.toNat_natCast]; exact Prod.ext (by simp; omega) (by simp; omega)
  ·
   refine ⟨es[j], List.getElem_mem hj, ?_⟩; unfold endP; rw [he]; simp only [Int.toNat_natCast]; exact Prod.ext (by simp; omega) (by simp; omega)
 ·
  rintro ⟨e, he, h⟩
  obtain ⟨j, hj, rfl⟩ := List.getElem_of_mem he
  obtain ⟨q1, q2, q3⟩ := hok.2.2.2.1 j hj
  obtain ⟨x, hx⟩ : ∃ x : Nat, es[j].1 = (x : Int) := ⟨es[j].1.toNat, by omega⟩
  obtain ⟨y, hy⟩ : ∃ y : Nat, es[j].2 = (y : Int) := ⟨es[j].2.toNat, by omega⟩
  refine ⟨j, hj, ?_⟩
  unfold endP at h
  rw [hx, hy] at h
  simp only [Int.toNat_natCast, Prod.mk.injEq] at h
  have hxn : x < n := by omega
  have hyn : y < n := by omega
  have gu := get_idx (ho.mem hu)
  have gv := get_idx (ho.mem hv)
  have gx := get_idx (ho.mem hxn)
  have gy := get_idx (ho.mem hyn)
  have hc : (O.idxOf u = O.idxOf x ∧ O.idxOf v = O.idxOf y) ∨ (O.idxOf u = O.idxOf y ∧ O.idxOf v = O.idxOf x) := by omega
  rcases hc with ⟨a, b⟩ | ⟨a, b⟩
  ·
   rw [a, gx] at gu; rw [b, gy] at gv; cases gu; cases gv; exact .inl (Prod.ext hx hy)
  ·
   rw [a, gy] at gu; rw [b, gx] at gv; cases gu; cases gv; exact .inr (Prod.ext hx hy)
theorem nums_iso {n n' : Nat} {es es' : List (Int × Int)} {ts ts' : List Int} {O O' : List Nat} (hr : rightB n es = true) (hr' : rightB n' es' = true) (ho : OrdV n O) (ho' : OrdV n' O') (h : codeNums ts O es = codeNums ts' O' es') : n = n' ∧ ∃ φ, IsoG n es ts es' ts' φ := by
 unfold codeNums at h
 simp only [List.cons_append, List.append_assoc, List.cons.injEq] at h
 obtain ⟨h0, h1⟩ := h
 have hn : n = n' := by rw [ho.len, ho'.len] at h0; omega
 subst hn
 obtain ⟨h2, h3⟩ := List.append_inj h1 (by simp [ho.len, ho'.len])
 simp only [List.cons_append, List.nil_append, List.cons.injEq] at h3
 have h4 : endsF O es = endsF O' es' := by
  have key : ∀ {l m : List (Int × Int)}, (l.flatMap fun e => [e.1, e.2]) = (m.flatMap fun e => [e.1, e.2]) → l = m := by
   intro l; induction l with
   | nil => intro m h; cases m with
    | nil => rfl
    | cons b m => simp at h
   | cons a l ih => intro m h; cases m with
    | nil => simp at h
    | cons b m =>
     simp only [List.flatMap_cons, List.cons_append, List.nil_append, List.cons.injEq] at h; rw [ih h.2.2, Prod.ext h.1 h.2.1]
  exact key h3.2
 have hφ : ∀ v, v < n → (O'.getD (O.idxOf v) 0) < n ∧ O'.idxOf (O'.getD (O.idxOf v) 0) = O.idxOf v ∧ O'[O.idxOf v]? = some (O'.getD (O.idxOf v) 0) := fun v hv => by
  have hi := List.idxOf_lt_length_iff.2 (ho.mem hv)
  rw [ho.len, ← ho'.len] at hi
  have e : O'.getD (O.idxOf v) 0 = O'[O.idxOf v] := by rw [List.getD_eq_getElem?_getD, List.getElem?_eq_getElem hi]; rfl
  rw [e]
  exact ⟨ho'.lt _ (List.getElem_mem hi), ho'.nd.idxOf_getElem _ hi, List.getElem?_eq_getElem hi⟩
 refine ⟨rfl, fun v => O'.getD (O.idxOf v) 0, fun v hv => (hφ v hv).1, fun u v hu hv e => ?_, fun v hv => ?_, fun u v hu hv => ?_⟩
 ·
  have a := (hφ u hu).2.1
  have b := (hφ v hv).2.1
  rw [e, b] at a
  have gu := get_idx (ho.mem hu)
  have gv := get_idx (ho.mem hv)
  rw [a] at gv
  rw [gv] at gu
  exact (Option.some.inj gu).symm
 ·
  have gv := get_idx (ho.mem hv)
  have e := congrArg (fun l : List Int => l[O.idxOf v]?) h2
  simp only [List.getElem?_map, gv, (hφ v hv).2.2, Option.map_some, Option.some.injEq] at e
  exact e
 · rw [adj_places hr ho hu hv, adj_places hr' ho' (hφ u hu).1 (hφ v hv).1, (hφ u hu).2.1, (hφ v hv).2.1, h4]
end Go.Proofs.YtagjdkkfmfombaaGreat
namespace Go.Proofs.YtagjdkkfmfombaaGreat
inductive Con (bs : Nat → List Nat) (S : Nat → Prop) (x : Nat) : Nat → Prop
 | refl : S x → Con bs S x x
 | step {y z : Nat} : Con bs S x y → z ∈ bs y → S z → Con bs S x z
namespace Con
variable {bs : Nat → List Nat} {S T : Nat → Prop} {x y z : Nat}
theorem mono (h : Con bs S x y) (hs : ∀ a, S a → T a) : Con bs T x y := by
 induction h with
 | refl h => exact .refl (hs _ h)
 | step _ h1 h2 ih => exact ih.step h1 (hs _ h2)
theorem left (h : Con bs S x y) : S x := by
 induction h with
 | refl h => exact h
 | step _ _ _ ih => exact ih
theorem right (h : Con bs S x y) : S y := by
 cases h with
 | refl h => exact h
 | step _ _ h => exact h
theorem trans (h : Con bs S x y) (k : Con bs S y z) : Con bs S x z := by
 induction k with
 | refl _ => exact h
 | step _ h1 h2 ih => exact ih.step h1 h2
theorem head (hx : S x) (h1 : y ∈ bs x) (k : Con bs S y z) : Con bs S x z := ((Con.refl hx).step h1 k.left).trans k
theorem symm (hs : ∀ a b, b ∈ bs a → a ∈ bs b) (h : Con bs S x y) : Con bs S y x := by
 induction h with
 | refl h => exact .refl h
 | step h0 h1 h2 ih => exact head h2 (hs _ _ h1) ih
theorem closed (D : Nat → Prop) (hD : ∀ a b, D a → b ∈ bs a → S b → D b) (hx : D x) (h : Con bs S x y) : D y := by
 induction h with
 | refl _ => exact hx
 | step _ h1 h2 ih => exact hD _ _ ih h1 h2
end Con
def upd {α : Type} (f : Nat → α) (a : Nat) (b : α) : Nat → α := fun x => if x = a then b else f x
theorem upd_same {α : Type} (f : Nat → α) (a : Nat) (b : α) : upd f a b a = b := by simp [upd]
theorem upd_ne {α : Type} (f : Nat → α) {a x : Nat} (b : α) (h : x ≠ a) : upd f a b x = f x := by simp [upd, h]
structure CS where
 num : Nat → Nat
 low : Nat → Nat
 up : Nat → Nat
 at_ : Nat → Nat
 cut : Nat → Bool
 stack : List Nat
 met : Nat
 kids : Nat
def Pres (n : Nat) (gone : Int) (v : Nat) : Prop := v < n ∧ (v : Int) ≠ gone
def Stk (up : Nat → Nat) (root : Nat) : List Nat → Prop
 | [] => True
 | [a] => a = root
 | a :: b :: r => up a = b ∧ Stk up root (b :: r)
theorem Stk.tail {up : Nat → Nat} {root a : Nat} {l : List Nat} (h : Stk up root (a :: l)) : Stk up root l := by
 cases l with
 | nil => trivial
 | cons b r => exact h.2
theorem Stk.congr {up up' : Nat → Nat} {root : Nat} {l : List Nat} (h : Stk up root l) (he : ∀ a ∈ l, up' a = up a) : Stk up' root l := by
 induction l with
 | nil => trivial
 | cons a l ih =>
  cases l with
  | nil => exact h
  | cons b r => exact ⟨(he a (by simp)).trans h.1, ih h.2 fun c hc => he c (by simp [hc])⟩
namespace CS
variable (s : CS)
def Black (x : Nat) : Prop := s.num x ≠ 0 ∧ x ∉ s.stack
def InB (v x : Nat) : Prop := s.num v ≤ s.num x ∧ ∀ u ∈ s.stack, s.num v < s.num u → s.num x < s.num u
def Ex (bs : Nat → List Nat) (x w : Nat) : Prop := ∃ i, i < s.at_ x ∧ (bs x)[i]? = some w
end CS
structure CT (n : Nat) (bs : Nat → List Nat) (gone : Int) (root : Nat) (s : CS) : Prop where
 numP : ∀ x, s.num x ≠ 0 → Pres n gone x
 numle : ∀ x, s.num x ≤ s.met
 inj : ∀ x y, s.num x ≠ 0 → s.num x = s.num y → x = y
 root1 : s.num root = 1
 ord : ∃ o : List Nat, o.Nodup ∧ o.length = s.met ∧ ∀ x, x ∈ o ↔ s.num x ≠ 0
 stV : ∀ v ∈ s.stack, s.num v ≠ 0
 stS : s.stack.Pairwise (fun a b => s.num b < s.num a)
 chain : Stk s.up root s.stack
 atLe : ∀ v, s.at_ v ≤ (bs v).length
 at0 : ∀ v, s.num v = 0 → s.at_ v = 0
 seen : ∀ v w, s.Ex bs v w → Pres n gone w → s.num w ≠ 0
 full : ∀ x, s.Black x → s.at_ x = (bs x).length
 b1 : ∀ x v, s.Black x → v ∈ s.stack → s.num x < s.num v → ∀ y ∈ bs x, Pres n gone y → s.num y < s.num v
 tree : ∀ v ∈ s.stack, ∀ x, s.num v ≤ s.num x → Con bs (fun y => Pres n gone y ∧ s.num v ≤ s.num y) v x
 pth : ∀ x, s.num x ≠ 0 → Con bs (fun y => Pres n gone y ∧ s.num y ≠ 0 ∧ s.num y ≤ s.num x) root x
def Av (n : Nat) (gone : Int) (u : Nat) (y : Nat) : Prop := Pres n gone y ∧ y ≠ u
structure CL (n : Nat) (bs : Nat → List Nat) (gone : Int) (root : Nat) (s : CS) : Prop where
 lowle : ∀ v ∈ s.stack, s.low v ≤ s.num v
 lb : ∀ v ∈ s.stack, ∀ x w, s.InB v x → s.Ex bs x w → Pres n gone w → s.low v ≤ s.num w
 att : ∀ v ∈ s.stack, s.low v = s.num v ∨ ∃ x w, s.InB v x ∧ w ∈ bs x ∧ s.num w ≠ 0 ∧ s.num w = s.low v
 cutT : ∀ u, s.cut u = true → u ≠ root ∧ s.num u ≠ 0 ∧ ∃ c, s.num c ≠ 0 ∧ c ≠ u ∧ ¬ Con bs (Av n gone u) root c
 cutF : ∀ u, u ≠ root → s.Black u → s.cut u = false → ∀ x, s.num x ≠ 0 → x ≠ u → Con bs (Av n gone u) root x
 cutS : ∀ u ∈ s.stack, u ≠ root → s.cut u = false → ∀ x, s.Black x → s.InB u x → Con bs (Av n gone u) root x
 kids0 : s.kids = 0 → ∀ x, x ≠ root → s.Black x → ¬ s.InB root x
 kids1 : s.kids = 1 → ∃ c, c ≠ root ∧ s.Black c ∧ s.InB root c ∧ ∀ x, x ≠ root → s.Black x → s.InB root x → Con bs (Av n gone root) c x
 kids2 : 2 ≤ s.kids → ∃ c d, s.num c ≠ 0 ∧ s.num d ≠ 0 ∧ c ≠ root ∧ d ≠ root ∧ ¬ Con bs (Av n gone root) c d
section
variable {n : Nat} {bs : Nat → List Nat} {gone : Int} {root : Nat} {s : CS}
theorem CT.le_top (h : CT n bs gone root s) {v : Nat} {r : List Nat} (hs : s.stack = v :: r) {u : Nat} (hu : u ∈ s.stack) : s.num u ≤ s.num v := by
 have h1 := h.stS; rw [hs] at h1 hu
 rcases List.mem_cons.1 hu with rfl | hu
 · exact Nat.le_refl _
 · exact Nat.le_of_lt ((List.pairwise_cons.1 h1).1 u hu)
theorem CT.topIn (h : CT n bs gone root s) {v : Nat} {r : List Nat} (hs : s.stack = v :: r) {x : Nat} (hx : s.num v ≤ s.num x) : s.InB v x :=
 ⟨hx, fun u hu hlt => by have := h.le_top hs hu; omega⟩
theorem CT.full' (h : CT n bs gone root s) {x w : Nat} (hx : s.Black x) (hw : w ∈ bs x) : s.Ex bs x w := by
 obtain ⟨i, hi, e⟩ := List.getElem_of_mem hw
 exact ⟨i, by rw [h.full x hx]; exact hi, by rw [List.getElem?_eq_getElem hi, e]⟩
theorem CT.above (h : CT n bs gone root s) {v : Nat} {r : List Nat} (hs : s.stack = v :: r) {x : Nat} (hx : s.num v < s.num x) : s.Black x :=
 ⟨by omega, fun hx' => by have := h.le_top hs hx'; omega⟩
def CS.skip (s : CS) (v : Nat) : CS := { s with at_ := upd s.at_ v (s.at_ v + 1) }
def CS.exam (s : CS) (v w : Nat) : CS := { s with at_ := upd s.at_ v (s.at_ v + 1), low := upd s.low v (min (s.low v) (s.num w)) }
def CS.disc (s : CS) (v w : Nat) : CS :=
 { s with at_ := upd s.at_ v (s.at_ v + 1), num := upd s.num w (s.met + 1), low := upd s.low w (s.met + 1), up := upd s.up w v, stack := w :: s.stack, met := s.met + 1 }
theorem Ex_inc {v w0 : Nat} (hw : (bs v)[s.at_ v]? = some w0) {at' : Nat → Nat} (e : at' = upd s.at_ v (s.at_ v + 1)) {x w : Nat} (h : ∃ i, i < at' x ∧ (bs x)[i]? = some w) : s.Ex bs x w ∨ (x = v ∧ w = w0) := by
 obtain ⟨i, hi, hg⟩ := h
 subst e
 by_cases hx : x = v
 ·
  subst hx
  rw [upd_same] at hi
  by_cases h2 : i = s.at_ x
  · subst h2; rw [hw] at hg; cases hg; exact .inr ⟨rfl, rfl⟩
  · exact .inl ⟨i, by omega, hg⟩
 ·
  rw [upd_ne _ _ hx] at hi
  exact .inl ⟨i, hi, hg⟩
theorem at_le {v w0 : Nat} (h : CT n bs gone root s) (hw : (bs v)[s.at_ v]? = some w0) (x : Nat) : upd s.at_ v (s.at_ v + 1) x ≤ (bs x).length := by
 by_cases hx : x = v
 · subst hx; rw [upd_same]; exact (List.getElem?_eq_some_iff.1 hw).1
 · rw [upd_ne _ _ hx]; exact h.atLe x
theorem CT.skipLike (h : CT n bs gone root s) {v w : Nat} {r : List Nat} (hs : s.stack = v :: r) (hw : (bs v)[s.at_ v]? = some w) (hn : Pres n gone w → s.num w ≠ 0) (low : Nat → Nat) :
  CT n bs gone root { s with at_ := upd s.at_ v (s.at_ v + 1), low := low } where
 numP := h.numP
 numle := h.numle
 inj := h.inj
 root1 := h.root1
 ord := h.ord
 stV := h.stV
 stS := h.stS
 chain := h.chain
 atLe := at_le h hw
 at0 x hx := by
  by_cases e : x = v
  · subst e; exact absurd hx (h.stV x (by rw [hs]; simp))
  ·
   show upd s.at_ v _ x = 0; rw [upd_ne _ _ e]; exact h.at0 x hx
 seen x y hx hy := by
  rcases Ex_inc hw rfl hx with h1 | ⟨rfl, rfl⟩
  · exact h.seen x y h1 hy
  · exact hn hy
 full x hx := by
  have e : x ≠ v := fun e => hx.2 (by show x ∈ s.stack; rw [hs]; simp [e])
  show upd s.at_ v _ x = _
  rw [upd_ne _ _ e]; exact h.full x hx
 b1 := h.b1
 tree := h.tree
 pth := h.pth
theorem CL.skip (h : CL n bs gone root s) {v w : Nat} (hw : (bs v)[s.at_ v]? = some w) (hn : ¬ Pres n gone w) : CL n bs gone root (s.skip v) :=
 { h with
  lb := fun u hu x y hx he hy => by
   rcases Ex_inc hw rfl he with h1 | ⟨rfl, rfl⟩
   · exact h.lb u hu x y hx h1 hy
   · exact absurd hy hn }
theorem CL.exam (ht : CT n bs gone root s) (h : CL n bs gone root s) {v w : Nat} {r : List Nat} (hs : s.stack = v :: r) (hw : (bs v)[s.at_ v]? = some w) (hn : s.num w ≠ 0) : CL n bs gone root (s.exam v w) := by
 have hlow : ∀ u, (s.exam v w).low u ≤ s.low u := by
  intro u
  show upd s.low v _ u ≤ _
  by_cases e : u = v
  · subst e; rw [upd_same]; exact Nat.min_le_left _ _
  · rw [upd_ne _ _ e]; exact Nat.le_refl _
 have hv : v ∈ s.stack := by rw [hs]; simp
 exact { h with
  lowle := fun u hu => Nat.le_trans (hlow u) (h.lowle u hu)
  lb := fun u hu x y hx he hy => by
   rcases Ex_inc hw rfl he with h1 | ⟨rfl, rfl⟩
   · exact Nat.le_trans (hlow u) (h.lb u hu x y hx h1 hy)
   ·
    by_cases e : u = x
    ·
     subst e; show upd s.low u _ u ≤ _; rw [upd_same]; exact Nat.min_le_right _ _
    ·
     exfalso; have h1 := hx.2 x hv; have h2 := ht.le_top hs hu; have h3 : s.num u ≠ s.num x := fun e' => e (ht.inj u x (ht.stV u hu) e'); have := h1 (by show s.num u < s.num x; omega); exact absurd this (Nat.lt_irrefl _)
  att := fun u hu => by
   by_cases e : u = v
   ·
    subst e; show upd s.low u _ u = s.num u ∨ _; rw [upd_same]; by_cases hlt : s.low u ≤ s.num w
    ·
     rw [Nat.min_eq_left hlt]; rcases h.att u hu with h1 | ⟨x, y, h1, h2, h3, h4⟩
     · exact .inl h1
     · exact .inr ⟨x, y, h1, h2, h3, by show _ = upd s.low u _ u; rw [upd_same, Nat.min_eq_left hlt]; exact h4⟩
    ·
     rw [Nat.min_eq_right (by omega)]; exact .inr ⟨u, w, ht.topIn hs (Nat.le_refl _), List.mem_of_getElem? hw, hn, by show s.num w = upd s.low u _ u; rw [upd_same, Nat.min_eq_right (by omega)]⟩
   ·
    rcases h.att u hu with h1 | ⟨x, y, h1, h2, h3, h4⟩
    · exact .inl (by show upd s.low v _ u = _; rw [upd_ne _ _ e]; exact h1)
    · exact .inr ⟨x, y, h1, h2, h3, by show _ = upd s.low v _ u; rw [upd_ne _ _ e]; exact h4⟩ }
section disc
variable {v w : Nat} {r : List Nat} (ht : CT n bs gone root s) (hs : s.stack = v :: r) (hw : (bs v)[s.at_ v]? = some w) (hp : Pres n gone w) (hn : s.num w = 0)
include ht hs hw hp hn
theorem CT.disc : CT n bs gone root (s.disc v w) := by
 have hv : v ∈ s.stack := by rw [hs]; simp
 have hvn := ht.stV v hv
 have hvw : v ≠ w := fun e => hvn (e ▸ hn)
 have hwst : ∀ u ∈ s.stack, u ≠ w := fun u hu e => ht.stV u hu (e ▸ hn)
 have nw : (s.disc v w).num w = s.met + 1 := upd_same _ _ _
 have no : ∀ x, x ≠ w → (s.disc v w).num x = s.num x := fun x hx => upd_ne _ _ hx
 have nle : ∀ x, s.num x ≤ (s.disc v w).num x := by
  intro x
  by_cases e : x = w
  · subst e; omega
  · rw [no x e]; exact Nat.le_refl _
 have nz : ∀ x, (s.disc v w).num x ≠ 0 → x = w ∨ s.num x ≠ 0 := fun x hx => by
  by_cases e : x = w
  · exact .inl e
  · rw [no x e] at hx; exact .inr hx
 have hle := ht.numle
 have bl : ∀ x, (s.disc v w).Black x → s.Black x := fun x hx => by
  have e : x ≠ w := fun e => hx.2 (by show x ∈ w :: s.stack; simp [e])
  exact ⟨by have := hx.1; rwa [no x e] at this, fun h => hx.2 (by show x ∈ w :: s.stack; simp [h])⟩
 have blw : ∀ x, (s.disc v w).Black x → x ≠ w := fun x hx e => hx.2 (by show x ∈ w :: s.stack; simp [e])
 refine ⟨?_, ?_, ?_, ?_, ?_, ?_, ?_, ?_, at_le ht hw, ?_, ?_, ?_, ?_, ?_, ?_⟩
 ·
  intro x hx
  rcases nz x hx with rfl | h
  · exact hp
  · exact ht.numP x h
 ·
  intro x
  show _ ≤ s.met + 1
  by_cases e : x = w
  · subst e; omega
  · rw [no x e]; have := hle x; omega
 ·
  intro x y hx e
  by_cases ex : x = w
  ·
   by_cases ey : y = w
   · rw [ex, ey]
   · rw [ex, nw, no y ey] at e; have := hle y; omega
  ·
   by_cases ey : y = w
   · rw [ey, nw, no x ex] at e; have := hle x; omega
   · rw [no x ex] at hx e; rw [no y ey] at e; exact ht.inj x y hx e
 · rw [no root fun e => by have := ht.root1; rw [e, hn] at this; cases this]; exact ht.root1
 ·
  obtain ⟨o, h1, h2, h3⟩ := ht.ord
  refine ⟨w :: o, List.nodup_cons.2 ⟨fun h => (h3 w).1 h hn, h1⟩, by simp [CS.disc, h2], fun x => ?_⟩
  rw [List.mem_cons, h3]
  by_cases e : x = w
  · subst e; simp [nw]
  · rw [no x e]; simp [e]
 ·
  intro u hu
  rcases List.mem_cons.1 hu with rfl | hu
  · omega
  · rw [no u (hwst u hu)]; exact ht.stV u hu
 ·
  show (w :: s.stack).Pairwise _
  rw [List.pairwise_cons]
  refine ⟨fun u hu => by rw [nw, no u (hwst u hu)]; have := hle u; omega, ?_⟩
  refine ht.stS.imp_of_mem fun {a b} ha hb hab => ?_
  rw [no a (hwst a ha), no b (hwst b hb)]; exact hab
 ·
  show Stk (upd s.up w v) root (w :: s.stack)
  have hc : Stk (upd s.up w v) root s.stack := ht.chain.congr fun a ha => upd_ne _ _ (hwst a ha)
  rw [hs] at hc ⊢
  exact ⟨upd_same _ _ _, hc⟩
 ·
  intro x hx
  have e : x ≠ w := fun e => by subst e; omega
  rw [no x e] at hx
  show upd s.at_ v _ x = 0
  rw [upd_ne _ _ (fun (e : x = v) => hvn (by rw [← e]; exact hx))]; exact ht.at0 x hx
 ·
  intro x y hx hy
  rcases Ex_inc hw rfl hx with h1 | ⟨rfl, rfl⟩
  · have := ht.seen x y h1 hy; have := nle y; omega
  · omega
 ·
  intro x hx
  have e : x ≠ v := fun e => (bl x hx).2 (by rw [e]; exact hv)
  show upd s.at_ v _ x = _
  rw [upd_ne _ _ e]; exact ht.full x (bl x hx)
 ·
  intro x u hx hu hlt y hy hyp
  have hxb := bl x hx
  have hys := ht.seen x y (ht.full' hxb hy) hyp
  have eyw : y ≠ w := fun e => hys (e ▸ hn)
  rw [no y eyw]
  rcases List.mem_cons.1 hu with rfl | hu
  · rw [nw]; have := hle y; omega
  ·
   rw [no u (hwst u hu)] at hlt ⊢; rw [no x (blw x hx)] at hlt; exact ht.b1 x u hxb hu hlt y hy hyp
 ·
  intro u hu x hx
  rcases List.mem_cons.1 hu with rfl | hus
  ·
   have e : x = u := by
    refine Classical.byContradiction fun e => ?_; rw [no x e, nw] at hx; have := hle x; omega
   subst e; exact .refl ⟨hp, Nat.le_refl _⟩
  ·
   have huw := hwst u hus; rw [no u huw] at hx ⊢; have mono : ∀ a, (Pres n gone a ∧ s.num u ≤ s.num a) → (Pres n gone a ∧ s.num u ≤ (s.disc v w).num a) := fun a ⟨h1, h2⟩ => ⟨h1, Nat.le_trans h2 (nle a)⟩
   by_cases e : x = w
   ·
    subst e; exact ((ht.tree u hus v (ht.le_top hs hus)).mono mono).step (List.mem_of_getElem? hw) ⟨hp, by rw [nw]; have := hle u; omega⟩
   ·
    rw [no x e] at hx; exact (ht.tree u hus x hx).mono mono
 ·
  intro x hx
  have mono : ∀ z, s.num z ≠ 0 → ∀ a, (Pres n gone a ∧ s.num a ≠ 0 ∧ s.num a ≤ s.num z) → (Pres n gone a ∧ (s.disc v w).num a ≠ 0 ∧ (s.disc v w).num a ≤ s.num z) := fun z _ a ⟨h1, h2, h3⟩ => by
   have e : a ≠ w := fun e => h2 (e ▸ hn); rw [no a e]; exact ⟨h1, h2, h3⟩
  rcases nz x hx with rfl | h
  · refine (((ht.pth v hvn).mono (mono v hvn)).mono fun a ⟨h1, h2, h3⟩ => ⟨h1, h2, by rw [nw]; have := hle v; omega⟩).step (List.mem_of_getElem? hw) ⟨hp, by omega, Nat.le_refl _⟩
  ·
   rw [no x fun e => h (e ▸ hn)]; exact (ht.pth x h).mono (mono x h)
theorem CL.disc (h : CL n bs gone root s) : CL n bs gone root (s.disc v w) := by
 have hv : v ∈ s.stack := by rw [hs]; simp
 have hvn := ht.stV v hv
 have hwst : ∀ u ∈ s.stack, u ≠ w := fun u hu e => ht.stV u hu (e ▸ hn)
 have nw : (s.disc v w).num w = s.met + 1 := upd_same _ _ _
 have no : ∀ x, x ≠ w → (s.disc v w).num x = s.num x := fun x hx => upd_ne _ _ hx
 have lw : (s.disc v w).low w = s.met + 1 := upd_same _ _ _
 have lo : ∀ x, x ≠ w → (s.disc v w).low x = s.low x := fun x hx => upd_ne _ _ hx
 have nz : ∀ x, s.num x ≠ 0 → x ≠ w := fun x hx e => hx (e ▸ hn)
 have hle := ht.numle
 have hrw : root ≠ w := nz root (by have := ht.root1; omega)
 have bl : ∀ x, (s.disc v w).Black x → s.Black x ∧ x ≠ w := fun x hx => by
  have e : x ≠ w := fun e => hx.2 (by show x ∈ w :: s.stack; simp [e])
  exact ⟨⟨by have := hx.1; rwa [no x e] at this, fun h => hx.2 (by show x ∈ w :: s.stack; simp [h])⟩, e⟩
 have bl2 : ∀ x, s.Black x → (s.disc v w).Black x := fun x hx => by
  have e := nz x hx.1
  refine ⟨by rw [no x e]; exact hx.1, fun h => ?_⟩
  rcases List.mem_cons.1 h with h | h
  · exact e h
  · exact hx.2 h
 have inb : ∀ u x, u ≠ w → x ≠ w → (s.disc v w).InB u x → s.InB u x := fun u x hu hx hb => by
  have h1 := hb.1; rw [no u hu, no x hx] at h1
  refine ⟨h1, fun z hz hlt => ?_⟩
  have h2 := hb.2 z (by show z ∈ w :: s.stack; simp [hz])
  rw [no u hu, no x hx, no z (hwst z hz)] at h2
  exact h2 hlt
 have inb2 : ∀ u x, u ≠ w → s.num x ≠ 0 → s.InB u x → (s.disc v w).InB u x := fun u x hu hx hb => by
  refine ⟨by rw [no u hu, no x (nz x hx)]; exact hb.1, fun z hz hlt => ?_⟩
  rw [no x (nz x hx)]
  rcases List.mem_cons.1 hz with rfl | hz
  · rw [nw]; have := hle x; omega
  ·
   rw [no u hu, no z (hwst z hz)] at hlt; rw [no z (hwst z hz)]; exact hb.2 z hz hlt
 have inw : ∀ u, u ∈ s.stack → ¬ (s.disc v w).InB u w := fun u hu hb => by
  have h2 := hb.2 w (by show w ∈ w :: s.stack; simp)
  rw [no u (hwst u hu)] at h2
  have := h2 (by rw [nw]; have := hle u; omega)
  omega
 have hx0 : ∀ y, ¬ s.Ex bs w y := fun y ⟨i, hi, _⟩ => by rw [ht.at0 w hn] at hi; omega
 refine ⟨?_, ?_, ?_, ?_, ?_, ?_, ?_, ?_, ?_⟩
 ·
  intro u hu
  rcases List.mem_cons.1 hu with rfl | hu
  · omega
  · rw [no u (hwst u hu), lo u (hwst u hu)]; exact h.lowle u hu
 ·
  intro u hu x y hx he hy
  rcases Ex_inc hw rfl he with h1 | ⟨rfl, rfl⟩
  ·
   have hys := ht.seen x y h1 hy; have hxw : x ≠ w := fun e => hx0 y (e ▸ h1); rw [no y (nz y hys)]; rcases List.mem_cons.1 hu with rfl | hu
   ·
    exfalso; have := hx.1; rw [nw, no x hxw] at this; have := hle x; omega
   ·
    rw [lo u (hwst u hu)]; exact h.lb u hu x y (inb u x (hwst u hu) hxw hx) h1 hy
  ·
   rw [nw]; rcases List.mem_cons.1 hu with rfl | hu
   · omega
   ·
    rw [lo u (hwst u hu)]; have := h.lowle u hu; have := hle u; omega
 ·
  intro u hu
  rcases List.mem_cons.1 hu with rfl | hu
  · exact .inl (by rw [lw, nw])
  ·
   rw [lo u (hwst u hu), no u (hwst u hu)]; rcases h.att u hu with h1 | ⟨x, y, h1, h2, h3, h4⟩
   · exact .inl h1
   ·
    refine .inr ⟨x, y, inb2 u x (hwst u hu) (fun e => ?_) h1, h2, by rw [no y (nz y h3)]; exact h3, by rw [no y (nz y h3)]; exact h4⟩; have := h1.1; have := ht.stV u hu; omega
 ·
  intro u hu
  obtain ⟨h1, h2, c, h3, h4, h5⟩ := h.cutT u hu
  exact ⟨h1, by rw [no u (nz u h2)]; exact h2, c, by rw [no c (nz c h3)]; exact h3, h4, h5⟩
 ·
  intro u hu hb hc x hx hxu
  obtain ⟨hb', huw⟩ := bl u hb
  by_cases e : x = w
  ·
   subst e; have hvu : v ≠ u := fun e => hb'.2 (e ▸ hv); exact (h.cutF u hu hb' hc v hvn hvu).step (List.mem_of_getElem? hw) ⟨hp, hxu⟩
  ·
   rw [no x e] at hx; exact h.cutF u hu hb' hc x hx hxu
 ·
  intro u hu hur hc x hx hin
  obtain ⟨hx', hxw⟩ := bl x hx
  rcases List.mem_cons.1 hu with rfl | hu
  ·
   exfalso; have := hin.1; rw [nw, no x hxw] at this; have := hle x; omega
  · exact h.cutS u hu hur hc x hx' (inb u x (hwst u hu) hxw hin)
 ·
  intro hk x hxr hx hin
  obtain ⟨hx', hxw⟩ := bl x hx
  exact h.kids0 hk x hxr hx' (inb root x hrw hxw hin)
 ·
  intro hk
  obtain ⟨c, h1, h2, h3, h4⟩ := h.kids1 hk
  refine ⟨c, h1, bl2 c h2, inb2 root c hrw h2.1 h3, fun x hxr hx hin => ?_⟩
  obtain ⟨hx', hxw⟩ := bl x hx
  exact h4 x hxr hx' (inb root x hrw hxw hin)
 ·
  intro hk
  obtain ⟨c, d, h1, h2, h3⟩ := h.kids2 hk
  exact ⟨c, d, by rw [no c (nz c h1)]; exact h1, by rw [no d (nz d h2)]; exact h2, h3⟩
end disc
end
end Go.Proofs.YtagjdkkfmfombaaGreat
namespace Go.Proofs.YtagjdkkfmfombaaGreat
def CS.pop (s : CS) (v u root : Nat) : CS :=
 { s with stack := s.stack.tail, low := upd s.low u (min (s.low u) (s.low v)), kids := (if u = root then s.kids + 1 else s.kids), cut := (if u ≠ root ∧ s.num u ≤ s.low v then upd s.cut u true else s.cut) }
def CS.drop (s : CS) : CS := { s with stack := s.stack.tail }
section
variable {n : Nat} {bs : Nat → List Nat} {gone : Int} {root : Nat} {s : CS}
theorem CT.two (h : CT n bs gone root s) {v : Nat} {r : List Nat} (hs : s.stack = v :: r) (hv : v ≠ root) : ∃ u r', r = u :: r' ∧ s.up v = u ∧ s.num u < s.num v := by
 have h1 := h.chain; rw [hs] at h1
 cases r with
 | nil => exact absurd h1 hv
 | cons u r' =>
  refine ⟨u, r', rfl, h1.1, ?_⟩
  have := h.stS; rw [hs] at this
  exact (List.pairwise_cons.1 this).1 u (by simp)
theorem stk_root (up : Nat → Nat) (root : Nat) : ∀ l : List Nat, l ≠ [] → Stk up root l → root ∈ l := by
 intro l
 induction l with
 | nil => intro h; exact absurd rfl h
 | cons a l ih =>
  intro _ h
  cases l with
  | nil => have : a = root := h; simp [this]
  | cons b l => have := ih (by simp) h.2; simp only [List.mem_cons] at this ⊢; exact .inr this
theorem CT.rootIn (h : CT n bs gone root s) {v : Nat} {r : List Nat} (hs : s.stack = v :: r) : root ∈ s.stack := stk_root s.up root _ (by rw [hs]; simp) h.chain
theorem CT.popLike (ht : CT n bs gone root s) {v : Nat} {r : List Nat} (hs : s.stack = v :: r) (hat : s.at_ v = (bs v).length) (low : Nat → Nat) (kids : Nat) (cut : Nat → Bool) :
  CT n bs gone root { s with stack := r, low := low, kids := kids, cut := cut } := by
 have hmem : ∀ u, u ∈ r → u ∈ s.stack := fun u hu => by rw [hs]; simp [hu]
 have hb : ∀ x, (s.num x ≠ 0 ∧ x ∉ r) → x = v ∨ s.Black x := fun x hx => by
  by_cases e : x = v
  · exact .inl e
  · exact .inr ⟨hx.1, by rw [hs]; simp only [List.mem_cons, not_or]; exact ⟨e, hx.2⟩⟩
 exact {
  numP := ht.numP
  numle := ht.numle
  inj := ht.inj
  root1 := ht.root1
  ord := ht.ord
  stV := fun u hu => ht.stV u (hmem u hu)
  stS := by have := ht.stS; rw [hs] at this; exact (List.pairwise_cons.1 this).2
  chain := by have := ht.chain; rw [hs] at this; exact this.tail
  atLe := ht.atLe
  at0 := ht.at0
  seen := ht.seen
  full := fun x hx => by
   rcases hb x hx with rfl | h
   · exact hat
   · exact ht.full x h
  b1 := fun x u hx hu hlt y hy hp => by
   rcases hb x hx with rfl | h
   ·
    exfalso; have := ht.stS; rw [hs] at this; have h1 := (List.pairwise_cons.1 this).1 u hu; have h2 : s.num x < s.num u := hlt; omega
   · exact ht.b1 x u h (hmem u hu) hlt y hy hp
  tree := fun u hu => ht.tree u (hmem u hu)
  pth := ht.pth }
variable (ht : CT n bs gone root s) (hl : CL n bs gone root s) (hsy : ∀ a b, b ∈ bs a → a ∈ bs b) {v u : Nat} {r : List Nat} (hs : s.stack = v :: u :: r) (hat : s.at_ v = (bs v).length)
include ht hl hsy hs hat
theorem pop_out {y z : Nat} (hy : s.num v ≤ s.num y) (hz : z ∈ bs y) (hp : Pres n gone z) (hlt : s.num z < s.num v) : z ∈ u :: r ∧ s.low v ≤ s.num z := by
 have hv : v ∈ s.stack := by rw [hs]; simp
 have hvn := ht.stV v hv
 have hex : s.Ex bs y z := by
  by_cases e : y = v
  ·
   subst e; obtain ⟨i, hi, e⟩ := List.getElem_of_mem hz; exact ⟨i, by rw [hat]; exact hi, by rw [List.getElem?_eq_getElem hi, e]⟩
  ·
   refine ht.full' (ht.above hs ?_) hz; have : s.num v ≠ s.num y := fun e' => e (ht.inj v y hvn e').symm; omega
 have hzn := ht.seen y z hex hp
 refine ⟨?_, hl.lb v hv y z (ht.topIn hs hy) hex hp⟩
 refine Classical.byContradiction fun hnot => ?_
 have hzb : s.Black z := ⟨hzn, by rw [hs]; simp only [List.mem_cons, not_or] at hnot ⊢; exact ⟨fun e => by subst e; omega, hnot⟩⟩
 have := ht.b1 z v hzb hv hlt y (hsy _ _ hz) (ht.numP y (by omega))
 omega
theorem CL.pop : CL n bs gone root (s.pop v u root) := by
 have hv : v ∈ s.stack := by rw [hs]; simp
 have hu : u ∈ s.stack := by rw [hs]; simp
 have hvn := ht.stV v hv
 have hun := ht.stV u hu
 have hstk : (s.pop v u root).stack = u :: r := by show s.stack.tail = _; rw [hs]; rfl
 have hst := ht.stS; rw [hs, List.pairwise_cons, List.pairwise_cons] at hst
 have huv : s.num u < s.num v := hst.1 u (by simp)
 have hr : ∀ z ∈ r, s.num z < s.num u := hst.2.1
 have hmem : ∀ z, z ∈ u :: r → z ∈ s.stack := fun z hz => by rw [hs]; exact List.mem_cons_of_mem _ hz
 have hrv : root ≠ v := fun e => by have := ht.root1; rw [e] at this; omega
 have hu1 : s.num root ≤ s.num u := by have := ht.root1; omega
 have nm : ∀ x, (s.pop v u root).num x = s.num x := fun _ => rfl
 have hb : ∀ x, (s.pop v u root).Black x → x = v ∨ s.Black x := fun x hx => by
  by_cases e : x = v
  · exact .inl e
  ·
   refine .inr ⟨hx.1, fun h => hx.2 ?_⟩; rw [hstk]; rw [hs] at h; rcases List.mem_cons.1 h with h | h
   · exact absurd h e
   · exact h
 have hb2 : ∀ x, s.Black x → (s.pop v u root).Black x := fun x hx => ⟨hx.1, fun h => hx.2 (hmem x (by rw [← hstk]; exact h))⟩
 have hbv : (s.pop v u root).Black v := ⟨hvn, fun h => by
  rw [hstk] at h
  rcases List.mem_cons.1 h with h | h
  · rw [← h] at huv; omega
  · have := hr v h; omega⟩
 have inb2 : ∀ z x, s.InB z x → (s.pop v u root).InB z x := fun z x h => ⟨h.1, fun a ha => h.2 a (hmem a (by rw [← hstk]; exact ha))⟩
 have inb : ∀ z ∈ u :: r, ∀ x, (s.pop v u root).InB z x → s.InB z x ∨ (z = u ∧ s.num v ≤ s.num x) := fun z hz x h => by
  by_cases hvx : s.num v ≤ s.num x
  ·
   rcases List.mem_cons.1 hz with e | hz
   · exact .inr ⟨e, hvx⟩
   ·
    exfalso; have h1 := h.2 u (by rw [hstk]; simp) (hr z hz); have h2 : s.num x < s.num u := h1; omega
  ·
   refine .inl ⟨h.1, fun a ha hlt => ?_⟩; rw [hs] at ha; rcases List.mem_cons.1 ha with rfl | ha
   · omega
   · exact h.2 a (by rw [hstk]; exact ha) hlt
 have low1 : ∀ z, z ≠ u → (s.pop v u root).low z = s.low z := fun z hz => upd_ne _ _ hz
 have lowu : (s.pop v u root).low u = min (s.low u) (s.low v) := upd_same _ _ _
 have lowle : ∀ z, (s.pop v u root).low z ≤ s.low z := fun z => by
  by_cases e : z = u
  · subst e; rw [lowu]; exact Nat.min_le_left _ _
  · rw [low1 z e]; exact Nat.le_refl _
 have tr : ∀ x, s.num v ≤ s.num x → Con bs (Av n gone u) v x := fun x hx =>
  (ht.tree v hv x hx).mono fun a ⟨h1, h2⟩ => ⟨h1, fun e => by subst e; omega⟩
 have sep : s.num u ≤ s.low v → ∀ x, Con bs (Av n gone u) v x → s.num v ≤ s.num x := fun hlow x hx => by
  refine hx.closed (fun y => s.num v ≤ s.num y) (fun y z hy hz hp => ?_) (Nat.le_refl _)
  refine Classical.byContradiction fun hnot => ?_
  obtain ⟨h1, h2⟩ := pop_out ht hl hsy hs hat hy hz hp.1 (by omega)
  rcases List.mem_cons.1 h1 with e | h1
  · exact hp.2 e
  · have := hr z h1; omega
 have sepR : u = root → ∀ x, Con bs (Av n gone root) v x → s.num v ≤ s.num x := fun hur x hx => by
  have hrn : r = [] := by
   cases r with
   | nil => rfl
   | cons a r' =>
    have h1 := hr a (by simp); have h2 := ht.stV a (by rw [hs]; simp); have := ht.root1; rw [hur] at h1; omega
  refine hx.closed (fun y => s.num v ≤ s.num y) (fun y z hy hz hp => ?_) (Nat.le_refl _)
  refine Classical.byContradiction fun hnot => ?_
  obtain ⟨h1, _⟩ := pop_out ht hl hsy hs hat hy hz hp.1 (by omega)
  rw [hrn] at h1
  simp at h1
  exact hp.2 (h1.trans hur)
 refine ⟨?_, ?_, ?_, ?_, ?_, ?_, ?_, ?_, ?_⟩
 ·
  intro z hz
  rw [hstk] at hz
  exact Nat.le_trans (lowle z) (hl.lowle z (hmem z hz))
 ·
  intro z hz x w hx he hp
  rw [hstk] at hz
  rcases inb z hz x hx with h | ⟨rfl, h⟩
  · exact Nat.le_trans (lowle z) (hl.lb z (hmem z hz) x w h he hp)
  ·
   rw [lowu]; exact Nat.le_trans (Nat.min_le_right _ _) (hl.lb v hv x w (ht.topIn hs h) he hp)
 ·
  intro z hz
  rw [hstk] at hz
  by_cases e : z = u
  ·
   subst e; rw [lowu]; by_cases hmin : s.low z ≤ s.low v
   ·
    rw [Nat.min_eq_left hmin]; rcases hl.att z hu with h1 | ⟨x, y, h1, h2, h3, h4⟩
    · exact .inl h1
    · exact .inr ⟨x, y, inb2 z x h1, h2, h3, h4⟩
   ·
    rw [Nat.min_eq_right (by omega)]; rcases hl.att v hv with h1 | ⟨x, y, h1, h2, h3, h4⟩
    · have := hl.lowle z hu; omega
    ·
     refine .inr ⟨x, y, ⟨?_, fun a ha hlt => ?_⟩, h2, h3, h4⟩
     · have := h1.1; show s.num z ≤ s.num x; omega
     ·
      rw [hstk] at ha; rcases List.mem_cons.1 ha with rfl | ha
      · exact absurd hlt (Nat.lt_irrefl _)
      ·
       have h5 := hr a ha; have h6 : s.num z < s.num a := hlt; omega
  ·
   rw [low1 z e]; rcases hl.att z (hmem z hz) with h1 | ⟨x, y, h1, h2, h3, h4⟩
   · exact .inl h1
   · exact .inr ⟨x, y, inb2 z x h1, h2, h3, h4⟩
 ·
  intro z hz
  by_cases hc : u ≠ root ∧ s.num u ≤ s.low v
  ·
   have e1 : (s.pop v u root).cut = upd s.cut u true := if_pos hc; rw [e1] at hz; by_cases e : z = u
   ·
    subst e; refine ⟨hc.1, hun, v, hvn, fun e => by subst e; omega, fun hcon => ?_⟩; have := sep hc.2 root (hcon.symm hsy); have := ht.root1; omega
   · rw [upd_ne _ _ e] at hz; exact hl.cutT z hz
  ·
   have e1 : (s.pop v u root).cut = s.cut := if_neg hc; rw [e1] at hz; exact hl.cutT z hz
 ·
  intro z hzr hzb hzc x hx hxz
  rcases hb z hzb with rfl | hzb
  ·
   have hc' : s.cut z = false := by
    by_cases hc : u ≠ root ∧ s.num u ≤ s.low z
    ·
     have e1 : (s.pop z u root).cut = upd s.cut u true := if_pos hc; rw [e1, upd_ne _ _ (fun (e : z = u) => by rw [e] at huv; omega)] at hzc; exact hzc
    ·
     have e1 : (s.pop z u root).cut = s.cut := if_neg hc; rw [e1] at hzc; exact hzc
   have hx' : s.num x ≠ 0 := hx; by_cases hlt : s.num x < s.num z
   · exact (ht.pth x hx').mono fun a ⟨h1, h2, h3⟩ => ⟨h1, fun e => by subst e; omega⟩
   ·
    have hne : s.num z ≠ s.num x := fun e' => hxz (ht.inj z x hvn e').symm; exact hl.cutS z hv hzr hc' x (ht.above hs (by omega)) (ht.topIn hs (by omega))
  ·
   have hzu : z ≠ u := fun e => hzb.2 (by rw [e]; exact hu); have hc' : s.cut z = false := by
    by_cases hc : u ≠ root ∧ s.num u ≤ s.low v
    ·
     have e1 : (s.pop v u root).cut = upd s.cut u true := if_pos hc; rw [e1, upd_ne _ _ hzu] at hzc; exact hzc
    ·
     have e1 : (s.pop v u root).cut = s.cut := if_neg hc; rw [e1] at hzc; exact hzc
   exact hl.cutF z hzr hzb hc' x hx hxz
 ·
  intro z hz hzr hzc x hxb hin
  rw [hstk] at hz
  by_cases e : z = u
  ·
   subst e; have hlow : s.low v < s.num z := by
    refine Classical.byContradiction fun hnot => ?_; have e1 : (s.pop v z root).cut = upd s.cut z true := if_pos ⟨hzr, by omega⟩; rw [e1, upd_same] at hzc; cases hzc
   have hc' : s.cut z = false := by
    have e1 : (s.pop v z root).cut = s.cut := if_neg fun h => by omega
    rw [e1] at hzc; exact hzc
   rcases inb z hz x hin with h | ⟨_, h⟩
   ·
    have hxv : x ≠ v := fun e => by
     subst e; have := h.2 x hv huv; omega
    rcases hb x hxb with e | hxb
    · exact absurd e hxv
    · exact hl.cutS z hu hzr hc' x hxb h
   ·
    rcases hl.att v hv with h1 | ⟨y, w, h1, h2, h3, h4⟩
    · omega
    ·
     have c1 : Con bs (Av n gone z) root w := (ht.pth w h3).mono fun a ⟨k1, k2, k3⟩ => ⟨k1, fun e => by subst e; omega⟩
     have hyn : s.num y ≠ 0 := by have := h1.1; omega
     have c2 : Con bs (Av n gone z) root y := c1.step (hsy _ _ h2) ⟨ht.numP y hyn, fun e => by subst e; have := h1.1; omega⟩; exact (c2.trans ((tr y h1.1).symm hsy)).trans (tr x h)
  ·
   have hc' : s.cut z = false := by
    by_cases hc : u ≠ root ∧ s.num u ≤ s.low v
    ·
     have e1 : (s.pop v u root).cut = upd s.cut u true := if_pos hc; rw [e1, upd_ne _ _ e] at hzc; exact hzc
    ·
     have e1 : (s.pop v u root).cut = s.cut := if_neg hc; rw [e1] at hzc; exact hzc
   rcases inb z hz x hin with h | ⟨h, _⟩
   ·
    have hzv : s.num z < s.num v := by
     rcases List.mem_cons.1 hz with e' | hz
     · exact absurd e' e
     · have := hr z hz; omega
    rcases hb x hxb with e' | hxb
    ·
     subst e'; have := h.2 x hv hzv; omega
    · exact hl.cutS z (hmem z hz) hzr hc' x hxb h
   · exact absurd h e
 ·
  intro hk x hxr hxb hin
  have hur : u ≠ root := fun e => by
   have e1 : (s.pop v u root).kids = s.kids + 1 := if_pos e; omega
  have e1 : (s.pop v u root).kids = s.kids := if_neg hur
  rw [e1] at hk
  have hri : root ∈ u :: r := by
   have := ht.rootIn hs; rw [hs] at this; rcases List.mem_cons.1 this with h | h
   · exact absurd h hrv
   · exact h
  rcases inb root hri x hin with h | ⟨h, _⟩
  ·
   rcases hb x hxb with rfl | hxb
   · have := h.2 x hv (by omega); omega
   · exact hl.kids0 hk x hxr hxb h
  · exact hur h.symm
 ·
  intro hk
  by_cases hur : u = root
  ·
   have e1 : (s.pop v u root).kids = s.kids + 1 := if_pos hur; have hk0 : s.kids = 0 := by omega
   refine ⟨v, hrv.symm, hbv, ⟨by show s.num root ≤ s.num v; omega, fun a ha hlt => ?_⟩, fun x hxr hxb hin => ?_⟩
   ·
    rw [hstk] at ha; rcases List.mem_cons.1 ha with rfl | ha
    · rw [hur] at hlt; exact absurd hlt (Nat.lt_irrefl _)
    ·
     have h1 := hr a ha; have h2 : s.num root < s.num a := hlt; rw [hur] at h1; omega
   ·
    rcases inb root (by rw [← hur]; simp) x hin with h | ⟨_, h⟩
    ·
     rcases hb x hxb with rfl | hxb
     · rw [← hur]; exact tr x (Nat.le_refl _)
     · exact absurd h (hl.kids0 hk0 x hxr hxb)
    · rw [← hur]; exact tr x h
  ·
   have e1 : (s.pop v u root).kids = s.kids := if_neg hur; rw [e1] at hk; have hri : root ∈ u :: r := by
    have := ht.rootIn hs; rw [hs] at this; rcases List.mem_cons.1 this with h | h
    · exact absurd h hrv
    · exact h
   obtain ⟨c, h1, h2, h3, h4⟩ := hl.kids1 hk; refine ⟨c, h1, hb2 c h2, inb2 root c h3, fun x hxr hxb hin => ?_⟩; rcases inb root hri x hin with h | ⟨h, _⟩
   ·
    rcases hb x hxb with rfl | hxb
    · have := h.2 x hv (by omega); omega
    · exact h4 x hxr hxb h
   · exact absurd h.symm hur
 ·
  intro hk
  by_cases hur : u = root
  ·
   have e1 : (s.pop v u root).kids = s.kids + 1 := if_pos hur; by_cases hk1 : s.kids = 1
   ·
    obtain ⟨c, h1, h2, h3, h4⟩ := hl.kids1 hk1; refine ⟨v, c, hvn, h2.1, hrv.symm, h1, fun hcon => ?_⟩; have h5 := sepR hur c hcon; have h6 := h3.2 v hv (by rw [← hur]; exact huv); omega
   · exact hl.kids2 (by omega)
  ·
   have e1 : (s.pop v u root).kids = s.kids := if_neg hur; rw [e1] at hk; exact hl.kids2 hk
end
section
variable {n : Nat} {bs : Nat → List Nat} {gone : Int} {root : Nat} {s : CS}
theorem CL.drop (hl : CL n bs gone root s) (hs : s.stack = [root]) : CL n bs gone root s.drop := by
 have hstk : s.drop.stack = [] := by show s.stack.tail = _; rw [hs]; rfl
 have hb : ∀ x, s.drop.Black x → x = root ∨ s.Black x := fun x hx => by
  by_cases e : x = root
  · exact .inl e
  · exact .inr ⟨hx.1, by rw [hs]; simpa using e⟩
 have hb2 : ∀ x, s.Black x → s.drop.Black x := fun x hx => ⟨hx.1, by rw [hstk]; simp⟩
 have inb : ∀ x, s.drop.InB root x → s.InB root x := fun x h => ⟨h.1, fun a ha hlt => by
  rw [hs] at ha; simp at ha; subst ha; exact absurd hlt (Nat.lt_irrefl _)⟩
 have inb2 : ∀ x, s.InB root x → s.drop.InB root x := fun x h => ⟨h.1, fun a ha => by rw [hstk] at ha; simp at ha⟩
 have no : ∀ z, z ∉ s.drop.stack := fun z => by rw [hstk]; simp
 refine ⟨fun z hz => absurd hz (no z), fun z hz => absurd hz (no z), fun z hz => absurd hz (no z), hl.cutT, fun z hzr hzb hzc x hx hxz => ?_, fun z hz => absurd hz (no z), fun hk x hxr hxb hin => ?_, fun hk => ?_, hl.kids2⟩
 ·
  rcases hb z hzb with e | hzb
  · exact absurd e hzr
  · exact hl.cutF z hzr hzb hzc x hx hxz
 ·
  rcases hb x hxb with e | hxb
  · exact absurd e hxr
  · exact hl.kids0 hk x hxr hxb (inb x hin)
 ·
  obtain ⟨c, h1, h2, h3, h4⟩ := hl.kids1 hk
  refine ⟨c, h1, hb2 c h2, inb2 c h3, fun x hxr hxb hin => ?_⟩
  rcases hb x hxb with e | hxb
  · exact absurd e hxr
  · exact h4 x hxr hxb (inb x hin)
def CS.start (root : Nat) : CS := ⟨upd (fun _ => 0) root 1, upd (fun _ => 0) root 1, fun _ => 0, fun _ => 0, fun _ => false, [root], 1, 0⟩
theorem CT.start (hr : Pres n gone root) : CT n bs gone root (CS.start root) := by
 have nr : (CS.start root).num root = 1 := by simp [CS.start, upd]
 have no : ∀ x, x ≠ root → (CS.start root).num x = 0 := fun x hx => by simp [CS.start, upd, hx]
 have only : ∀ x, (CS.start root).num x ≠ 0 → x = root := fun x hx => Classical.byContradiction fun e => hx (no x e)
 have nb : ∀ x, ¬ (CS.start root).Black x := fun x hx => hx.2 (by show x ∈ [root]; simp [only x hx.1])
 refine ⟨fun x hx => by rw [only x hx]; exact hr, fun x => ?_, fun x y hx e => ?_, nr, ⟨[root], by simp, rfl, fun x => ?_⟩, fun v hv => ?_, by show [root].Pairwise _; simp, rfl, fun v => Nat.zero_le _, fun _ _ => rfl, fun v w ⟨i, hi, _⟩ => absurd hi (Nat.not_lt_zero _), fun x hx => absurd hx (nb x), fun x v hx => absurd hx (nb x), fun v hv x hx => ?_, fun x hx => ?_⟩
 ·
  by_cases e : x = root
  · subst e; rw [nr]; exact Nat.le_refl _
  · rw [no x e]; exact Nat.zero_le _
 · rw [only x hx, only y (by rw [← e]; exact hx)]
 ·
  constructor
  · intro h; simp at h; subst h; omega
  · intro h; simp [only x h]
 ·
  have : v ∈ [root] := hv
  simp at this; subst this; omega
 ·
  have : v ∈ [root] := hv
  simp at this; subst this
  rw [only x (by omega)]
  exact .refl ⟨hr, Nat.le_refl _⟩
 ·
  rw [only x hx]
  exact .refl ⟨hr, by omega, Nat.le_refl _⟩
theorem CL.start : CL n bs gone root (CS.start root) := by
 have no : ∀ x, x ≠ root → (CS.start root).num x = 0 := fun x hx => by simp [CS.start, upd, hx]
 have only : ∀ x, (CS.start root).num x ≠ 0 → x = root := fun x hx => Classical.byContradiction fun e => hx (no x e)
 have nb : ∀ x, ¬ (CS.start root).Black x := fun x hx => hx.2 (by show x ∈ [root]; simp [only x hx.1])
 refine ⟨fun v _ => Nat.le_refl _, fun v _ x w _ ⟨i, hi, _⟩ => absurd hi (Nat.not_lt_zero _), fun v _ => .inl rfl, fun u hu => ?_, fun u _ hb => absurd hb (nb u), fun u _ _ _ x hx => absurd hx (nb x), fun _ x _ hx => absurd hx (nb x), fun hk => ?_, fun hk => ?_⟩
 · cases hu
 · cases hk
 · exact absurd hk (by show ¬ 2 ≤ 0; omega)
def presB (gone : Int) (x : Nat) : Bool := decide ((x : Int) ≠ gone)
theorem nodup_len_le {l m : List Nat} (h : l.Nodup) (hs : ∀ x ∈ l, x ∈ m) : l.length ≤ m.length := by
 induction l generalizing m with
 | nil => simp
 | cons a l ih =>
  obtain ⟨h1, h2⟩ := List.nodup_cons.1 h
  have ha := hs a (by simp)
  have h3 := ih (m := m.erase a) h2 fun x hx => by
   have hxa : x ≠ a := fun e => h1 (e ▸ hx); exact (List.mem_erase_of_ne hxa).2 (hs x (by simp [hx]))
  rw [List.length_erase_of_mem ha] at h3
  have := List.length_pos_of_mem ha
  simp only [List.length_cons]; omega
structure CutSpec (n : Nat) (bs : Nat → List Nat) (gone : Int) (join : Bool) (cut : Nat → Bool) : Prop where
 join_iff : join = true ↔ ∀ x y, Pres n gone x → Pres n gone y → Con bs (Pres n gone) x y
 cut_iff : join = true → ∀ u, Pres n gone u → (cut u = true ↔ ∃ x y, Av n gone u x ∧ Av n gone u y ∧ ¬ Con bs (Av n gone u) x y)
 cut_no : ∀ u, ¬ Pres n gone u → cut u = false
theorem cut_end (ht : CT n bs gone root s) (hl : CL n bs gone root s) (hsy : ∀ a b, b ∈ bs a → a ∈ bs b) (hs : s.stack = []) (left : Nat) (hleft : left = ((List.range n).filter (presB gone)).length) :
  CutSpec n bs gone (decide (s.met = left)) (upd s.cut root (decide (1 < s.kids))) := by
 have hblack : ∀ x, s.num x ≠ 0 → s.Black x := fun x hx => ⟨hx, by rw [hs]; simp⟩
 have hin : ∀ x, s.num x ≠ 0 → s.InB root x := fun x hx => ⟨by have := ht.root1; omega, fun a ha => by rw [hs] at ha; simp at ha⟩
 have hrn : s.num root ≠ 0 := by have := ht.root1; omega
 have hpr := ht.numP root hrn
 have hreach : ∀ x, Con bs (Pres n gone) root x → s.num x ≠ 0 := fun x hx =>
  hx.closed (fun y => s.num y ≠ 0) (fun a b ha hb hp => ht.seen a b (ht.full' (hblack a ha) hb) hp) hrn
 have hall : s.met = left ↔ ∀ x, Pres n gone x → s.num x ≠ 0 := by
  obtain ⟨o, h1, h2, h3⟩ := ht.ord
  have hsub : ∀ x ∈ o, x ∈ (List.range n).filter (presB gone) := fun x hx => by
   have := ht.numP x ((h3 x).1 hx); simp only [List.mem_filter, List.mem_range, presB, decide_eq_true_eq]; exact this
  have hnd : ((List.range n).filter (presB gone)).Nodup := List.nodup_range.filter _
  constructor
  ·
   intro e x hx; rw [← h3]; refine Classical.byContradiction fun hno => ?_; have hs2 : o ⊆ ((List.range n).filter (presB gone)).erase x := fun y hy => by
    rw [List.Nodup.mem_erase_iff hnd]; exact ⟨fun e => hno (e ▸ hy), hsub y hy⟩
   have hle := nodup_len_le h1 hs2; have hmem : x ∈ (List.range n).filter (presB gone) := by
    simp only [List.mem_filter, List.mem_range, presB, decide_eq_true_eq]; exact hx
   have hlen := List.length_erase_of_mem hmem; have hpos := List.length_pos_of_mem hmem; omega
  ·
   intro hx; have hs2 : ((List.range n).filter (presB gone)) ⊆ o := fun y hy => by
    simp only [List.mem_filter, List.mem_range, presB, decide_eq_true_eq] at hy; exact (h3 y).2 (hx y hy)
   have a1 := nodup_len_le h1 hsub; have a2 := nodup_len_le hnd hs2; omega
 have hjoin : s.met = left → ∀ x, Pres n gone x → Con bs (Pres n gone) root x := fun e x hx =>
  (ht.pth x (hall.1 e x hx)).mono fun a h => h.1
 refine ⟨?_, ?_, ?_⟩
 ·
  rw [decide_eq_true_eq]
  constructor
  ·
   intro e x y hx hy; exact ((hjoin e x hx).symm hsy).trans (hjoin e y hy)
  ·
   intro h; exact hall.2 fun x hx => hreach x (h root x hpr hx)
 ·
  intro hj u hu
  rw [decide_eq_true_eq] at hj
  have hvis := hall.1 hj
  by_cases e : u = root
  ·
   subst e; rw [upd_same, decide_eq_true_eq]; constructor
   ·
    intro hk; obtain ⟨c, d, h1, h2, h3, h4, h5⟩ := hl.kids2 hk; exact ⟨c, d, ⟨ht.numP c h1, h3⟩, ⟨ht.numP d h2, h4⟩, h5⟩
   ·
    rintro ⟨x, y, hx, hy, hno⟩; refine Classical.byContradiction fun hk => ?_; by_cases hk0 : s.kids = 0
    · exact hl.kids0 hk0 x hx.2 (hblack x (hvis x hx.1)) (hin x (hvis x hx.1))
    ·
     obtain ⟨c, h1, h2, h3, h4⟩ := hl.kids1 (by omega); exact hno (((h4 x hx.2 (hblack x (hvis x hx.1)) (hin x (hvis x hx.1))).symm hsy).trans (h4 y hy.2 (hblack y (hvis y hy.1)) (hin y (hvis y hy.1))))
  ·
   rw [upd_ne _ _ e]; constructor
   ·
    intro hc; obtain ⟨h1, h2, c, h3, h4, h5⟩ := hl.cutT u hc; exact ⟨root, c, ⟨hpr, fun e' => e e'.symm⟩, ⟨ht.numP c h3, h4⟩, h5⟩
   ·
    rintro ⟨x, y, hx, hy, hno⟩; refine Classical.byContradiction fun hc => ?_; have hc' : s.cut u = false := by simpa using hc
    have hf := hl.cutF u e (hblack u (hvis u hu)) hc'; exact hno (((hf x (hvis x hx.1) hx.2).symm hsy).trans (hf y (hvis y hy.1) hy.2))
 ·
  intro u hu
  have e : u ≠ root := fun e => hu (e ▸ hpr)
  rw [upd_ne _ _ e]
  refine Classical.byContradiction fun hc => ?_
  exact hu (ht.numP u (hl.cutT u (by simpa using hc)).2.1)
end
end Go.Proofs.YtagjdkkfmfombaaGreat
namespace Go.Proofs.YtagjdkkfmfombaaGreat
def leftN (n : Nat) (G : Nat → Bool) : Nat := ((List.range n).filter fun j => !G j).length
def degG (bs : Nat → List Nat) (G : Nat → Bool) (j : Nat) : Nat := ((bs j).filter fun k => !G k).length
def endB (bs : Nat → List Nat) (G : Nat → Bool) (j : Nat) : Bool := !G j && decide (degG bs G j ≤ 1)
def peel (bs : Nat → List Nat) (n : Nat) (G : Nat → Bool) : Nat → Bool := fun j => G j || (decide (2 < leftN n G) && endB bs G j)
def peels (bs : Nat → List Nat) (n : Nat) : Nat → Nat → Bool
 | 0 => fun _ => false
 | k + 1 => peel bs n (peels bs n k)
theorem leftN_le (n : Nat) (G : Nat → Bool) : leftN n G ≤ n := by
 unfold leftN
 have := List.length_filter_le (fun j => !G j) (List.range n)
 simpa using this
theorem leftN_none (n : Nat) : leftN n (fun _ => false) = n := by
 unfold leftN
 have : (List.range n).filter (fun j => !(fun _ : Nat => false) j) = List.range n := List.filter_eq_self.2 (fun _ _ => rfl)
 rw [this, List.length_range]
theorem filter_split {α : Type} (l : List α) (p q : α → Bool) (hq : ∀ x ∈ l, q x = true → p x = true) : (l.filter fun x => p x && !q x).length + (l.filter q).length = (l.filter p).length := by
 induction l with
 | nil => rfl
 | cons a l ih =>
  have i1 := ih fun x hx => hq x (List.mem_cons_of_mem _ hx)
  have ha := hq a (List.mem_cons_self ..)
  simp only [List.filter_cons]
  cases hp : p a <;> cases hqq : q a
  · simpa using i1
  · rw [ha hqq] at hp; cases hp
  · simp; omega
  · simp; omega
theorem leftN_peel (bs : Nat → List Nat) (n : Nat) (G : Nat → Bool) (h : 2 < leftN n G) : leftN n (peel bs n G) + ((List.range n).filter (endB bs G)).length = leftN n G := by
 unfold leftN
 have e : (fun j => !peel bs n G j) = fun j => (!G j) && !endB bs G j := by
  funext j
  unfold peel
  rw [decide_eq_true h]
  cases G j <;> simp
 rw [e]
 exact filter_split (List.range n) (fun j => !G j) (endB bs G) fun x _ hx => by
  unfold endB at hx
  simp only [Bool.and_eq_true] at hx
  exact hx.1
theorem peel_end {bs : Nat → List Nat} {n : Nat} {G : Nat → Bool} (h : ¬ 2 < leftN n G) : peel bs n G = G := by
 funext j
 unfold peel
 rw [decide_eq_false h]; simp
theorem peels_end {bs : Nat → List Nat} {n k : Nat} (h : ¬ 2 < leftN n (peels bs n k)) (m : Nat) : peels bs n (k + m) = peels bs n k := by
 induction m with
 | zero => rfl
 | succ m ih =>
  show peel bs n (peels bs n (k + m)) = _
  rw [ih, peel_end h]
theorem sub_len {β : Type} : ∀ {l m : List β}, l.Nodup → (∀ x ∈ l, x ∈ m) → l.length ≤ m.length
 | [], _, _, _ => by simp
 | a :: l, m, hn, h => by
  obtain ⟨s, t, rfl⟩ := List.append_of_mem (h a (by simp))
  have hn' := List.nodup_cons.1 hn
  have := sub_len (l := l) (m := s ++ t) hn'.2 fun x hx => by
   have h1 := h x (by simp [hx])
   have hne : x ≠ a := fun e => hn'.1 (by rw [← e]; exact hx)
   simp only [List.mem_append, List.mem_cons] at h1 ⊢
   rcases h1 with h1 | h1 | h1
   · exact .inl h1
   · exact absurd h1 hne
   · exact .inr h1
  simp only [List.length_append, List.length_cons] at this ⊢
  omega
theorem inj_len {α β : Type} {l : List α} {m : List β} (f : α → β) (hn : l.Nodup) (hi : ∀ x ∈ l, ∀ y ∈ l, f x = f y → x = y) (hm : ∀ x ∈ l, f x ∈ m) : l.length ≤ m.length := by
 have h1 : (l.map f).Nodup := by
  rw [List.Nodup, List.pairwise_map]
  exact hn.imp_of_mem fun {a b} ha hb hab e => hab (hi a ha b hb e)
 have := sub_len h1 (m := m) fun y hy => by
  obtain ⟨x, hx, rfl⟩ := List.mem_map.1 hy
  exact hm x hx
 simpa using this
theorem sum_twice {l : List Nat} {f : Nat → Nat} (h : ∀ x ∈ l, 2 ≤ f x) : 2 * l.length ≤ (l.map f).sum := by
 induction l with
 | nil => simp
 | cons a l ih =>
  have i1 := ih fun x hx => h x (by simp [hx])
  have := h a (by simp)
  rw [List.length_cons, List.map_cons, List.sum_cons]
  omega
structure TreeG (bs : Nat → List Nat) (n : Nat) : Prop where
 nd : ∀ i, (bs i).Nodup
 lt : ∀ i j, j ∈ bs i → j < n
 sym : ∀ i j, j ∈ bs i → i ∈ bs j
 leaf : ∀ G, 0 < leftN n G → ∃ j, j < n ∧ endB bs G j = true
def hitC (bs : Nat → List Nat) (P : List Nat) (j : Nat) : Nat := (P.filter fun i => decide (j ∈ bs i)).length
structure LvI (bs : Nat → List Nat) (n : Nat) (G : Nat → Bool) (L : List Nat) : Prop where
 nd : L.Nodup
 mem : ∀ j, j ∈ L ↔ j < n ∧ endB bs G j = true
theorem nodup_same {l m : List Nat} (hl : l.Nodup) (hm : m.Nodup) (h : ∀ x, x ∈ l ↔ x ∈ m) : l.length = m.length :=
 Nat.le_antisymm (nodup_len_le hl fun x hx => (h x).1 hx) (nodup_len_le hm fun x hx => (h x).2 hx)
theorem deg_none (bs : Nat → List Nat) (j : Nat) : degG bs (fun _ => false) j = (bs j).length := by
 unfold degG
 have : (bs j).filter (fun k => !(fun _ : Nat => false) k) = bs j := List.filter_eq_self.2 (fun _ _ => rfl)
 rw [this]
namespace LvI
variable {bs : Nat → List Nat} {n : Nat} {G : Nat → Bool} {L : List Nat}
theorem len (h : LvI bs n G L) : L.length = ((List.range n).filter (endB bs G)).length :=
 nodup_same h.nd (List.nodup_range.sublist List.filter_sublist) fun x => by rw [h.mem, List.mem_filter, List.mem_range]
theorem left (h : LvI bs n G L) (h2 : 2 < leftN n G) : leftN n (peel bs n G) + L.length = leftN n G := by rw [h.len]; exact leftN_peel bs n G h2
theorem pos (h : LvI bs n G L) (ht : TreeG bs n) (h2 : 0 < leftN n G) : 0 < L.length := by
 obtain ⟨j, hj⟩ := ht.leaf G h2
 exact List.length_pos_iff.2 (List.ne_nil_of_mem ((h.mem j).2 hj))
theorem le (h : LvI bs n G L) : L.length ≤ n := by
 rw [h.len]
 have := List.length_filter_le (endB bs G) (List.range n)
 simpa using this
theorem lt (h : LvI bs n G L) {j : Nat} (hj : j ∈ L) : j < n := ((h.mem j).1 hj).1
theorem hit (h : LvI bs n G L) (ht : TreeG bs n) (j : Nat) : hitC bs L j = ((bs j).filter (endB bs G)).length := by
 unfold hitC
 refine nodup_same (h.nd.sublist List.filter_sublist) ((ht.nd j).sublist List.filter_sublist) fun x => ?_
 rw [List.mem_filter, List.mem_filter, h.mem]
 simp only [decide_eq_true_eq]
 constructor
 · rintro ⟨⟨_, h2⟩, h3⟩; exact ⟨ht.sym _ _ h3, h2⟩
 · rintro ⟨h1, h2⟩; exact ⟨⟨ht.lt _ _ h1, h2⟩, ht.sym _ _ h1⟩
theorem deg (h : LvI bs n G L) (ht : TreeG bs n) (h2 : 2 < leftN n G) (j : Nat) : degG bs (peel bs n G) j + hitC bs L j = degG bs G j := by
 rw [h.hit ht]
 unfold degG
 have e : (fun k => !peel bs n G k) = fun k => (!G k) && !endB bs G k := by
  funext k
  unfold peel
  rw [decide_eq_true h2]
  cases G k <;> simp
 rw [e]
 exact filter_split (bs j) (fun k => !G k) (endB bs G) fun x _ hx => by
  unfold endB at hx
  simp only [Bool.and_eq_true] at hx
  exact hx.1
theorem start (ht : TreeG bs n) : LvI bs n (fun _ => false) ((List.range n).filter fun i => decide ((bs i).length < 2)) := by
 refine ⟨List.nodup_range.sublist List.filter_sublist, fun j => ?_⟩
 rw [List.mem_filter, List.mem_range]
 unfold endB
 rw [deg_none]
 simp
 omega
end LvI
structure MoI (n : Nat) (G : Nat → Bool) (c : Nat → Int) (M : List Nat) : Prop where
 nd : M.Nodup
 mem : ∀ j, j ∈ M ↔ j < n ∧ G j = false ∧ c j ≤ 1
def updC (c : Nat → Int) (j : Nat) (v : Int) : Nat → Int := fun x => if x = j then v else c x
namespace MoI
variable {n : Nat} {G : Nat → Bool} {c : Nat → Int} {M : List Nat}
theorem le (h : MoI n G c M) : M.length ≤ n := by
 have := nodup_len_le h.nd (m := List.range n) fun x hx => List.mem_range.2 ((h.mem x).1 hx).1
 simpa using this
theorem start {bs : Nat → List Nat} {G0 : Nat → Bool} (h2 : 2 < leftN n G0) : MoI n (peel bs n G0) (fun j => (degG bs G0 j : Int)) [] := by
 refine ⟨by simp, fun j => ?_⟩
 simp only [List.not_mem_nil, false_iff]
 rintro ⟨_, h1, h3⟩
 unfold peel endB at h1
 rw [decide_eq_true h2] at h1
 simp at h1
 have := h1.2 h1.1
 omega
theorem no (h : MoI n G c M) {j : Nat} (hj : G j = true ∨ c j - 1 ≠ 1) : MoI n G (updC c j (c j - 1)) M := by
 refine ⟨h.nd, fun x => ?_⟩
 rw [h.mem]
 unfold updC
 by_cases e : x = j
 ·
  subst e
  rw [if_pos rfl]
  rcases hj with hj | hj
  · rw [hj]; simp
  · constructor <;> rintro ⟨a, b, d⟩ <;> exact ⟨a, b, by omega⟩
 · rw [if_neg e]
theorem yes (h : MoI n G c M) {j : Nat} (hn : j < n) (h1 : G j = false) (h2 : c j - 1 = 1) : MoI n G (updC c j (c j - 1)) (M ++ [j]) := by
 have hjM : j ∉ M := fun hm => by have := ((h.mem j).1 hm).2.2; omega
 refine ⟨?_, fun x => ?_⟩
 ·
  rw [List.nodup_append]
  exact ⟨h.nd, by simp, fun a ha b hb e => by simp at hb; subst hb; subst e; exact hjM ha⟩
 ·
  rw [List.mem_append, List.mem_singleton, h.mem]
  unfold updC
  by_cases e : x = j
  ·
   subst e; rw [if_pos rfl]; simp [hn, h1]; omega
  ·
   rw [if_neg e]; simp [e]
end MoI
def cntC (bs : Nat → List Nat) (G : Nat → Bool) (P pre : List Nat) : Nat → Int := fun j => (degG bs G j : Int) - (hitC bs P j : Int) - if j ∈ pre then 1 else 0
theorem cntC_start (bs : Nat → List Nat) (G : Nat → Bool) : cntC bs G [] [] = fun j => (degG bs G j : Int) := by funext j; simp [cntC, hitC]
theorem cntC_dec {bs : Nat → List Nat} {G : Nat → Bool} {P pre : List Nat} {j : Nat} (h : j ∉ pre) : updC (cntC bs G P pre) j (cntC bs G P pre j - 1) = cntC bs G P (pre ++ [j]) := by
 funext x
 unfold updC cntC
 by_cases e : x = j
 · subst e; simp [h]
 · simp [e]
theorem cntC_next {bs : Nat → List Nat} {G : Nat → Bool} {P : List Nat} {i : Nat} : cntC bs G P (bs i) = cntC bs G (P ++ [i]) [] := by
 funext x
 unfold cntC hitC
 rw [List.filter_append, List.length_append]
 by_cases e : x ∈ bs i <;> simp [e]
 omega
theorem cntC_end {bs : Nat → List Nat} {n : Nat} {G : Nat → Bool} {L : List Nat} (h : LvI bs n G L) (ht : TreeG bs n) (h2 : 2 < leftN n G) : cntC bs G L [] = fun j => (degG bs (peel bs n G) j : Int) := by
 funext j
 have := h.deg ht h2 j
 simp [cntC]
 omega
theorem MoI.lv {bs : Nat → List Nat} {n : Nat} {G : Nat → Bool} {M : List Nat} (h : MoI n G (fun j => (degG bs G j : Int)) M) : LvI bs n G M :=
 ⟨h.nd, fun j => by rw [h.mem]; unfold endB; simp; omega⟩
inductive Wi (bs : Nat → List Nat) (S : Nat → Prop) (v : Nat) : Nat → Nat → Prop
 | start : S v → Wi bs S v 0 v
 | stay {d u : Nat} : Wi bs S v d u → Wi bs S v (d + 1) u
 | step {d u z : Nat} : Wi bs S v d u → z ∈ bs u → S z → Wi bs S v (d + 1) z
namespace Wi
variable {bs : Nat → List Nat} {S S' : Nat → Prop} {v u d d' : Nat}
theorem alive (h : Wi bs S v d u) : S u := by
 induction h with
 | start h => exact h
 | stay _ ih => exact ih
 | step _ _ h _ => exact h
theorem le (h : Wi bs S v d u) (hd : d ≤ d') : Wi bs S v d' u := by
 induction d' with
 | zero =>
  have : d = 0 := by omega
  subst this; exact h
 | succ d' ih =>
  by_cases e : d = d' + 1
  · subst e; exact h
  · exact (ih (by omega)).stay
theorem mono (h : Wi bs S v d u) (hs : ∀ x, S x → S' x) : Wi bs S' v d u := by
 induction h with
 | start h => exact .start (hs _ h)
 | stay _ ih => exact ih.stay
 | step _ h1 h2 ih => exact ih.step h1 (hs _ h2)
theorem con (h : Wi bs S v d u) : Con bs S v u := by
 induction h with
 | start h => exact .refl h
 | stay _ ih => exact ih
 | step _ h1 h2 ih => exact ih.step h1 h2
theorem of_con (h : Con bs S v u) : ∃ d, Wi bs S v d u := by
 induction h with
 | refl h => exact ⟨0, .start h⟩
 | step _ h1 h2 ih =>
  obtain ⟨d, hd⟩ := ih
  exact ⟨d + 1, hd.step h1 h2⟩
theorem zero (h : Wi bs S v 0 u) : u = v := by
 cases h with
 | start _ => rfl
end Wi
def aliveG (G : Nat → Bool) : Nat → Prop := fun j => G j = false
def finW (bs : Nat → List Nat) (G : Nat → Bool) (v d : Nat) : Prop := ∀ u, G u = false → Wi bs (aliveG G) v d u
structure GoodG (bs : Nat → List Nat) (n : Nat) (G : Nat → Bool) : Prop where
 lt : ∀ j, G j = false → j < n
 con : ∀ x y, G x = false → G y = false → Con bs (aliveG G) x y
theorem deg_one {bs : Nat → List Nat} {G : Nat → Bool} {j x y : Nat} (h : degG bs G j ≤ 1) (hx : x ∈ bs j) (hy : y ∈ bs j) (gx : G x = false) (gy : G y = false) : x = y := by
 unfold degG at h
 have a1 : x ∈ (bs j).filter fun k => !G k := List.mem_filter.2 ⟨hx, by simp [gx]⟩
 have a2 : y ∈ (bs j).filter fun k => !G k := List.mem_filter.2 ⟨hy, by simp [gy]⟩
 match hl : (bs j).filter (fun k => !G k), h with
 | [], _ => rw [hl] at a1; simp at a1
 | [z], _ =>
  rw [hl] at a1 a2
  simp at a1 a2
  rw [a1, a2]
theorem left_pos {n : Nat} {G : Nat → Bool} {j : Nat} (hj : j < n) (h : G j = false) : 0 < leftN n G := by
 unfold leftN
 exact List.length_pos_iff.2 (List.ne_nil_of_mem (List.mem_filter.2 ⟨List.mem_range.2 hj, by simp [h]⟩))
theorem left_lt {n : Nat} {G G' : Nat → Bool} (h : ∀ j, G' j = false → G j = false) {l : Nat} (hl : l < n) (h1 : G l = false) (h2 : G' l = true) : leftN n G' < leftN n G := by
 unfold leftN
 have hs : ∀ x ∈ (List.range n).filter (fun j => !G' j), x ∈ ((List.range n).filter fun j => !G j).erase l := fun x hx => by
  rw [List.mem_filter] at hx
  have hx2 : G' x = false := by simpa using hx.2
  rw [(List.nodup_range.sublist List.filter_sublist).mem_erase_iff]
  exact ⟨fun e => (by rw [e, h2] at hx2; cases hx2), List.mem_filter.2 ⟨hx.1, by simp [h x hx2]⟩⟩
 have := nodup_len_le (List.nodup_range.sublist List.filter_sublist) hs
 rw [List.length_erase_of_mem (List.mem_filter.2 ⟨List.mem_range.2 hl, by simp [h1]⟩)] at this
 have := left_pos hl h1
 unfold leftN at this
 omega
theorem left_three {n : Nat} {G : Nat → Bool} (h : 2 < leftN n G) (x y : Nat) : ∃ z, G z = false ∧ z ≠ x ∧ z ≠ y := by
 refine Classical.byContradiction fun hno => ?_
 unfold leftN at h
 have := nodup_len_le (l := (List.range n).filter fun j => !G j) (m := [x, y]) (List.nodup_range.sublist List.filter_sublist) fun z hz => by
  have hz2 : G z = false := by simpa using (List.mem_filter.1 hz).2
  by_cases e1 : z = x
  · simp [e1]
  ·
   by_cases e2 : z = y
   · simp [e2]
   · exact absurd ⟨z, hz2, e1, e2⟩ hno
 simp only [List.length_cons, List.length_nil] at this
 omega
theorem no_cycle {bs : Nat → List Nat} {n : Nat} (ht : TreeG bs n) : ∀ (m : Nat) (G : Nat → Bool), leftN n G ≤ m → GoodG bs n G → ∀ u, u < n → G u = true → ∀ x y, x ∈ bs u → y ∈ bs u → G x = false → G y = false → x = y := by
 intro m
 induction m with
 | zero =>
  intro G hm hg u hu _ x y _ _ hx _
  have := left_pos (hg.lt x hx) hx
  omega
 | succ m ih =>
  intro G hm hg u hu hGu x y hxu hyu hx hy
  refine Classical.byContradiction fun hxy => ?_
  obtain ⟨G', hG'⟩ : ∃ G' : Nat → Bool, G' = fun j => G j && decide (j ≠ u) := ⟨_, rfl⟩
  have g1 : ∀ j, G j = false → G' j = false := fun j hj => by rw [hG']; simp [hj]
  have g2 : ∀ j, G' j = false → j ≠ u → G j = false := fun j hj hne => by
   rw [hG'] at hj; simpa [hne] using hj
  have gu : G' u = false := by rw [hG']; simp
  obtain ⟨l, hl, he⟩ := ht.leaf G' (left_pos hu gu)
  unfold endB at he
  simp only [Bool.and_eq_true, Bool.not_eq_true', decide_eq_true_eq] at he
  obtain ⟨hl0, hl1⟩ := he
  have hlu : l ≠ u := fun e => hxy (by subst e; exact deg_one hl1 hxu hyu (g1 x hx) (g1 y hy))
  have hGl := g2 l hl0 hlu
  by_cases hlb : l ∈ bs u
  ·
   
   have hul := ht.sym _ _ hlb
   have stay : ∀ z, Con bs (aliveG G) l z → z = l := fun z hz => Con.closed (· = l) (fun a b ha hab hb => by
    rw [ha] at hab; have : b = u := deg_one hl1 hab hul (g1 b hb) gu; have hb' : G b = false := hb
    rw [this, hGu] at hb'; cases hb') rfl hz
   have e1 := stay x (hg.con l x hGl hx); have e2 := stay y (hg.con l y hGl hy); exact hxy (e1.trans e2.symm)
  ·
   have hxl : x ≠ l := fun e => hlb (e ▸ hxu); have hyl : y ≠ l := fun e => hlb (e ▸ hyu); obtain ⟨G2, hG2⟩ : ∃ G2 : Nat → Bool, G2 = fun j => G j || decide (j = l) := ⟨_, rfl⟩
   have k1 : ∀ j, G2 j = false → G j = false ∧ j ≠ l := fun j hj => by
    rw [hG2] at hj; simpa using hj
   have k2 : ∀ j, G j = false → j ≠ l → G2 j = false := fun j hj hne => by rw [hG2]; simp [hj, hne]
   have kl : G2 l = true := by rw [hG2]; simp
   have hcon : ∀ p q, G2 p = false → G2 q = false → Con bs (aliveG G2) p q := fun p q hp hq => by
    obtain ⟨hp1, hp2⟩ := k1 p hp; obtain ⟨hq1, hq2⟩ := k1 q hq; have key : ∀ z, Con bs (aliveG G) p z → (z ≠ l → Con bs (aliveG G2) p z) ∧ (z = l → ∀ w, w ∈ bs l → G w = false → w ≠ l → Con bs (aliveG G2) p w) := by
     intro z hz; induction hz with
     | refl _ => exact ⟨fun _ => .refl hp, fun e => absurd e hp2⟩
     | @step z z' _ hzz hz' ih' =>
      have hz'' : G z' = false := hz'; refine ⟨fun hne => ?_, fun e w hw hGw hwl => ?_⟩
      ·
       by_cases e : z = l
       ·
        subst e; exact ih'.2 rfl z' hzz hz'' hne
       · exact (ih'.1 e).step hzz (k2 z' hz'' hne)
      ·
       subst e; by_cases e : z = z'
       ·
        subst e; exact ih'.2 rfl w hw hGw hwl
       ·
        have hGz := (ih'.1 e).right; obtain ⟨hGz1, _⟩ := k1 z hGz; have : w = z := deg_one hl1 hw (ht.sym _ _ hzz) (g1 w hGw) (g1 z hGz1); rw [this]; exact ih'.1 e
    exact (key q (hg.con p q hp1 hq1)).1 hq2
   have hlt := left_lt (n := n) (fun j hj => (k1 j hj).1) hl hGl kl; exact hxy (ih G2 (by omega) ⟨fun j hj => hg.lt j (k1 j hj).1, hcon⟩ u hu (by rw [hG2]; simp [hGu]) x y hxu hyu (k2 x hx hxl) (k2 y hy hyl))
section
variable {bs : Nat → List Nat} {n : Nat} {G : Nat → Bool}
theorem peel_alive (h2 : 2 < leftN n G) {j : Nat} : peel bs n G j = false ↔ G j = false ∧ ¬ degG bs G j ≤ 1 := by
 unfold peel endB
 rw [decide_eq_true h2]
 cases G j <;> simp
theorem GoodG.next (hg : GoodG bs n G) (h2 : 2 < leftN n G) {u : Nat} (hu : G u = false) : ∃ w, w ∈ bs u ∧ G w = false ∧ w ≠ u := by
 refine Classical.byContradiction fun hno => ?_
 obtain ⟨z, hz, hzu, _⟩ := left_three h2 u u
 have : z = u := Con.closed (· = u) (fun a b ha hab hb => by
  rw [ha] at hab
  exact Classical.byContradiction fun hne => hno ⟨b, hab, hb, hne⟩) rfl (hg.con u z hu hz)
 exact hzu this
theorem GoodG.stem (ht : TreeG bs n) (hg : GoodG bs n G) (h2 : 2 < leftN n G) {u w : Nat} (hu : G u = false) (hd : degG bs G u ≤ 1) (hw : w ∈ bs u) (hgw : G w = false) : ¬ degG bs G w ≤ 1 := fun hd2 => by
 obtain ⟨z, hz, hzu, hzw⟩ := left_three h2 u w
 have : z = u ∨ z = w := Con.closed (fun a => a = u ∨ a = w) (fun a b ha hab hb => by
  rcases ha with rfl | rfl
  · exact .inr (deg_one hd hab hw hb hgw)
  · exact .inl (deg_one hd2 hab (ht.sym _ _ hw) hb hu)) (.inl rfl) (hg.con u z hu hz)
 exact this.elim hzu hzw
theorem Wi.trim (ht : TreeG bs n) (hg : GoodG bs n G) (h2 : 2 < leftN n G) {v : Nat} (hv : peel bs n G v = false) {d u : Nat} (h : Wi bs (aliveG G) v d u) :
  (peel bs n G u = false → Wi bs (aliveG (peel bs n G)) v d u) ∧ (peel bs n G u = true → ∃ d', d = d' + 1 ∧ ∀ w, w ∈ bs u → G w = false → Wi bs (aliveG (peel bs n G)) v d' w) := by
 induction h with
 | start _ => exact ⟨fun h => .start h, fun h => by rw [hv] at h; cases h⟩
 | stay _ ih => exact ⟨fun h => (ih.1 h).stay, fun h => by
   obtain ⟨d', rfl, hw⟩ := ih.2 h
   exact ⟨_, rfl, fun w h1 h3 => (hw w h1 h3).stay⟩⟩
 | @step d u z hwi hz hgz ih =>
  have hgu : G u = false := hwi.alive
  have hgz' : G z = false := hgz
  have ends : ∀ {x}, G x = false → peel bs n G x = true → degG bs G x ≤ 1 := fun {x} h1 h3 => Classical.byContradiction fun hno => by
   rw [(peel_alive h2).2 ⟨h1, hno⟩] at h3; cases h3
  cases hu : peel bs n G u with
  | false =>
   refine ⟨fun h => (ih.1 hu).step hz h, fun h => ⟨d, rfl, fun w hw hgw => ?_⟩⟩; have : w = u := deg_one (ends hgz' h) hw (ht.sym _ _ hz) hgw hgu; rw [this]; exact ih.1 hu
  | true =>
   obtain ⟨d', rfl, hw⟩ := ih.2 hu; refine ⟨fun _ => ((hw z hz hgz').stay).stay, fun h => absurd (ends hgz' h) (hg.stem ht h2 hgu (ends hgu hu) hz hgz')⟩
theorem GoodG.peel (ht : TreeG bs n) (hg : GoodG bs n G) (h2 : 2 < leftN n G) : GoodG bs n (peel bs n G) := by
 refine ⟨fun j hj => hg.lt j ((peel_alive h2).1 hj).1, fun x y hx hy => ?_⟩
 obtain ⟨d, hd⟩ := Wi.of_con (hg.con x y ((peel_alive h2).1 hx).1 ((peel_alive h2).1 hy).1)
 exact ((hd.trim ht hg h2 hx).1 hy).con
theorem fin_peel (ht : TreeG bs n) (irr : ∀ i, i ∉ bs i) (hg : GoodG bs n G) (h2 : 2 < leftN n G) {v : Nat} (hv : peel bs n G v = false) (d : Nat) : finW bs G v d ↔ 1 ≤ d ∧ finW bs (peel bs n G) v (d - 1) := by
 have hgv := ((peel_alive h2).1 hv).1
 constructor
 ·
  intro hf
  match d, hf with
  | 0, hf =>
   obtain ⟨z, hz, hzv, _⟩ := left_three h2 v v; exact absurd (hf z hz).zero hzv
  | d + 1, hf =>
   refine ⟨by omega, fun u hu => ?_⟩; obtain ⟨hgu, hdu⟩ := (peel_alive h2).1 hu; simp only [Nat.add_sub_cancel]; have hwd : Wi bs (aliveG G) v d u := by
    refine Classical.byContradiction fun hno => hdu ?_; have huv : u ≠ v := fun e => hno (by rw [e]; exact (Wi.start (show aliveG G v from hgv)).le (by omega)); obtain ⟨A, hA⟩ : ∃ A : Nat → Bool, A = fun j => G j || decide (j = u) := ⟨_, rfl⟩
    have k1 : ∀ j, A j = false → G j = false ∧ j ≠ u := fun j hj => by
     rw [hA] at hj; simpa using hj
    have k2 : ∀ j, G j = false → j ≠ u → A j = false := fun j hj hne => by rw [hA]; simp [hj, hne]
    have key : ∀ m z, Wi bs (aliveG G) v m z → m ≤ d → Con bs (aliveG A) v z := fun m z hw => by
     induction hw with
     | start _ => exact fun _ => .refl (k2 v hgv fun e => huv e.symm)
     | stay _ ih => exact fun hm => ih (by omega)
     | @step m y z hy hz hgz ih =>
      intro hm; exact (ih (by omega)).step hz (k2 z hgz fun e => hno (by rw [← e]; exact (hy.step hz hgz).le hm))
    have all : ∀ z, A z = false → Con bs (aliveG A) v z := fun z hz => by
     obtain ⟨hgz, hzu⟩ := k1 z hz; have hw := hf z hgz; cases hw with
     | stay hw => exact key d z hw (Nat.le_refl _)
     | step hw hz' _ => exact (key d _ hw (Nat.le_refl _)).step hz' hz
    have hgA : GoodG bs n A := ⟨fun j hj => hg.lt j (k1 j hj).1, fun x y hx hy => (Con.symm ht.sym (all x hx)).trans (all y hy)⟩
    have huniq := no_cycle ht (leftN n A) A (Nat.le_refl _) hgA u (hg.lt u hgu) (by rw [hA]; simp); unfold degG; have hnd : ((bs u).filter fun k => !G k).Nodup := (ht.nd u).sublist List.filter_sublist; match hl : (bs u).filter (fun k => !G k), hnd with
    | [], _ => simp
    | [_], _ => simp
    | x :: y :: l, hnd =>
     exfalso; have mx : x ∈ (bs u).filter fun k => !G k := by rw [hl]; simp
     have my : y ∈ (bs u).filter fun k => !G k := by rw [hl]; simp
     rw [List.mem_filter] at mx my; have gx : G x = false := by simpa using mx.2
     have gy : G y = false := by simpa using my.2
     have : x = y := huniq x y mx.1 my.1 (k2 x gx fun e => irr u (e ▸ mx.1)) (k2 y gy fun e => irr u (e ▸ my.1)); subst this; simp at hnd
   exact (hwd.trim ht hg h2 hv).1 hu
 ·
  rintro ⟨hd, hf⟩ u hu
  obtain ⟨d, rfl⟩ : ∃ e, d = e + 1 := ⟨d - 1, by omega⟩
  simp only [Nat.add_sub_cancel] at hf
  have hs : ∀ x, aliveG (Go.Proofs.YtagjdkkfmfombaaGreat.peel bs n G) x → aliveG G x := fun x hx => ((peel_alive h2).1 hx).1
  by_cases hd1 : degG bs G u ≤ 1
  ·
   obtain ⟨w, hw, hgw, _⟩ := hg.next h2 hu; have hnd := hg.stem ht h2 hu hd1 hw hgw; exact ((hf w ((peel_alive h2).2 ⟨hgw, hnd⟩)).mono hs).step (ht.sym _ _ hw) hu
  · exact ((hf u ((peel_alive h2).2 ⟨hu, hd1⟩)).mono hs).stay
theorem fin_end (ht : TreeG bs n) (hg : GoodG bs n G) (h2 : 2 < leftN n G) {v w : Nat} (hv : G v = false) (hd : degG bs G v ≤ 1) (hw : w ∈ bs v) (hgw : G w = false) {d : Nat} (hf : finW bs G v d) : 1 ≤ d ∧ finW bs G w (d - 1) := by
 have key : ∀ {d u}, Wi bs (aliveG G) v d u → u = v ∨ ∃ e, d = e + 1 ∧ Wi bs (aliveG G) w e u := fun {d u} h => by
  induction h with
  | start _ => exact .inl rfl
  | stay _ ih =>
   rcases ih with h | ⟨e, rfl, h⟩
   · exact .inl h
   · exact .inr ⟨_, rfl, h.stay⟩
  | @step d u z _ hz hgz ih =>
   rcases ih with h | ⟨e, rfl, h⟩
   ·
    subst h; have : z = w := deg_one hd hz hw hgz hgw; exact .inr ⟨d, rfl, by rw [this]; exact (Wi.start (show aliveG G w from hgw)).le (by omega)⟩
   · exact .inr ⟨_, rfl, h.step hz hgz⟩
 obtain ⟨z, hz, hzv, hzw⟩ := left_three h2 v w
 rcases key (hf z hz) with h | ⟨e, rfl, h⟩
 · exact absurd h hzv
 ·
  refine ⟨by omega, fun u hu => ?_⟩
  simp only [Nat.add_sub_cancel]
  rcases key (hf u hu) with rfl | ⟨e', he, h'⟩
  ·
   match e, h with
   | 0, h => exact absurd h.zero hzw
   | e + 1, _ => exact ((Wi.start (show aliveG G w from hgw)).step (ht.sym _ _ hw) hu).le (by omega)
  ·
   have : e' = e := by omega
   rw [← this]; exact h'
end
def resN (n : Nat) (G : Nat → Bool) : Nat → Bool := fun j => G j || decide (n ≤ j)
theorem res_iff {n : Nat} {G : Nat → Bool} {j : Nat} : resN n G j = false ↔ G j = false ∧ j < n := by
 unfold resN
 simp
theorem left_res (n : Nat) (G : Nat → Bool) : leftN n (resN n G) = leftN n G := by
 unfold leftN
 congr 1
 refine List.filter_congr fun j hj => ?_
 have := List.mem_range.1 hj
 unfold resN
 rw [decide_eq_false (by omega), Bool.or_false]
section
variable {bs : Nat → List Nat} {n : Nat}
theorem deg_res (ht : TreeG bs n) (G : Nat → Bool) (j : Nat) : degG bs (resN n G) j = degG bs G j := by
 unfold degG
 congr 1
 refine List.filter_congr fun k hk => ?_
 have := ht.lt _ _ hk
 unfold resN
 rw [decide_eq_false (by omega), Bool.or_false]
theorem res_peel (ht : TreeG bs n) (G : Nat → Bool) : resN n (peel bs n G) = peel bs n (resN n G) := by
 funext j
 unfold peel endB
 rw [left_res, deg_res ht]
 unfold resN
 by_cases h : n ≤ j
 · rw [decide_eq_true h]; simp
 · rw [decide_eq_false h]; simp
def alv (bs : Nat → List Nat) (n k : Nat) : Nat → Bool := resN n (peels bs n k)
theorem alv_succ (ht : TreeG bs n) (k : Nat) : alv bs n (k + 1) = peel bs n (alv bs n k) := by
 unfold alv
 rw [← res_peel ht]; rfl
theorem alv_zero (j : Nat) : alv bs n 0 j = false ↔ j < n := by
 unfold alv
 rw [res_iff]
 exact ⟨fun h => h.2, fun h => ⟨rfl, h⟩⟩
abbrev farW (bs : Nat → List Nat) (n v d : Nat) : Prop := finW bs (alv bs n 0) v d
theorem left_end (ht : TreeG bs n) : ∀ k, leftN n (alv bs n k) ≤ 2 ∨ leftN n (alv bs n k) + k ≤ n := by
 intro k
 induction k with
 | zero => right; exact leftN_le _ _
 | succ k ih =>
  rw [alv_succ ht]
  by_cases h : 2 < leftN n (alv bs n k)
  ·
   have h1 := leftN_peel bs n _ h; obtain ⟨j, hj, he⟩ := ht.leaf (alv bs n k) (by omega); have : 0 < ((List.range n).filter (endB bs (alv bs n k))).length := List.length_pos_iff.2 (List.ne_nil_of_mem (List.mem_filter.2 ⟨List.mem_range.2 hj, he⟩)); rcases ih with h2 | h2
   · omega
   · right; omega
  · rw [peel_end h]; left; omega
structure ChainG (bs : Nat → List Nat) (n : Nat) (G : Nat → Bool) : Prop where
 good : GoodG bs n G
 pos : 0 < leftN n G
 far : ∃ r, ∀ v, G v = false → ∀ e, farW bs n v e ↔ r ≤ e ∧ finW bs G v (e - r)
 out : ∀ v, v < n → G v = true → ∃ w, G w = false ∧ ∀ e, farW bs n v e → 1 ≤ e ∧ farW bs n w (e - 1)
theorem ChainG.peel (ht : TreeG bs n) (irr : ∀ i, i ∉ bs i) {G : Nat → Bool} (h : ChainG bs n G) : ChainG bs n (peel bs n G) := by
 by_cases h2 : 2 < leftN n G
 ·
  obtain ⟨r, hr⟩ := h.far
  have ends : ∀ {x}, G x = false → Go.Proofs.YtagjdkkfmfombaaGreat.peel bs n G x = true → degG bs G x ≤ 1 := fun {x} h1 h3 => Classical.byContradiction fun hno => by
   rw [(peel_alive h2).2 ⟨h1, hno⟩] at h3; cases h3
  have beside : ∀ {x}, G x = false → Go.Proofs.YtagjdkkfmfombaaGreat.peel bs n G x = true → ∃ w, Go.Proofs.YtagjdkkfmfombaaGreat.peel bs n G w = false ∧ ∀ e, farW bs n x e → 1 ≤ e ∧ farW bs n w (e - 1) := fun {x} h1 h3 => by
   have hd := ends h1 h3; obtain ⟨w, hw, hgw, _⟩ := h.good.next h2 h1; have hnd := h.good.stem ht h2 h1 hd hw hgw; refine ⟨w, (peel_alive h2).2 ⟨hgw, hnd⟩, fun e he => ?_⟩; obtain ⟨e1, e2⟩ := (hr x h1 e).1 he; obtain ⟨e3, e4⟩ := fin_end ht h.good h2 h1 hd hw hgw e2; refine ⟨by omega, (hr w hgw (e - 1)).2 ⟨by omega, ?_⟩⟩; rw [show e - 1 - r = e - r - 1 by omega]; exact e4
  refine ⟨h.good.peel ht h2, ?_, ⟨r + 1, fun v hv e => ?_⟩, fun v hv hgv => ?_⟩
  ·
   obtain ⟨z, hz, _, _⟩ := left_three h2 0 0; cases hp : Go.Proofs.YtagjdkkfmfombaaGreat.peel bs n G z with
   | false => exact left_pos (h.good.lt z hz) hp
   | true =>
    obtain ⟨w, hw, _⟩ := beside hz hp; exact left_pos (h.good.lt w ((peel_alive h2).1 hw).1) hw
  ·
   rw [hr v ((peel_alive h2).1 hv).1 e, fin_peel ht irr h.good h2 hv]; constructor
   ·
    rintro ⟨a, b, c⟩; refine ⟨by omega, ?_⟩; rw [show e - (r + 1) = e - r - 1 by omega]; exact c
   ·
    rintro ⟨a, c⟩; refine ⟨by omega, by omega, ?_⟩; rw [show e - r - 1 = e - (r + 1) by omega]; exact c
  ·
   cases hg : G v with
   | false => exact beside hg hgv
   | true =>
    obtain ⟨w, hw, hwf⟩ := h.out v hv hg; cases hp : Go.Proofs.YtagjdkkfmfombaaGreat.peel bs n G w with
    | false => exact ⟨w, hp, hwf⟩
    | true =>
     obtain ⟨x, hx, hxf⟩ := beside hw hp; refine ⟨x, hx, fun e he => ?_⟩; obtain ⟨a, b⟩ := hwf e he; obtain ⟨c, d⟩ := hxf _ b; refine ⟨a, fun u hu => (d u hu).le (by omega)⟩
 · rw [peel_end h2]; exact h
theorem chain (ht : TreeG bs n) (irr : ∀ i, i ∉ bs i) (hn : 0 < n) (hc : ∀ x y, x < n → y < n → Con bs (· < n) x y) : ∀ k, ChainG bs n (alv bs n k) := by
 intro k
 induction k with
 | zero =>
  refine ⟨⟨fun j hj => (alv_zero j).1 hj, fun x y hx hy => (hc x y ((alv_zero x).1 hx) ((alv_zero y).1 hy)).mono fun a ha => (alv_zero a).2 ha⟩, left_pos hn ((alv_zero 0).2 hn), ⟨0, fun v _ e => ?_⟩, fun v hv h => ?_⟩
  · simp
  · rw [(alv_zero v).2 hv] at h; cases h
 | succ k ih => rw [alv_succ ht]; exact ih.peel ht irr
end
end Go.Proofs.YtagjdkkfmfombaaGreat
