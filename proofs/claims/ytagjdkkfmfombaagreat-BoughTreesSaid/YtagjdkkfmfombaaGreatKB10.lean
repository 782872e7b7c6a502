/- Facts that the claim rests on, part 11. -/
import Derived.Test.YtagjdkkfmfombaaGreatKB09
namespace Go.Proofs.YtagjdkkfmfombaaGreat
theorem nd_inj {α : Type} [BEq α] [LawfulBEq α] {l : List α} (hn : l.Nodup) {i j : Nat} (hi : i < l.length) (hj : j < l.length) (e : l[i] = l[j]) : i = j := by
 have a := hn.idxOf_getElem i hi
 have b := hn.idxOf_getElem j hj
 rw [e, b] at a
 exact a.symm
namespace Kt
variable (D : Kt) (wo : Nat → Nat)
def onB (k v : Nat) : Prop := v = D.ex k ∨ v = D.ey k
def oth (v k : Nat) : Nat := if D.ex k = v then D.ey k else D.ex k
open Classical in
noncomputable def hb (v : Nat) : Nat := match D.kn v with
 | some q => (D.up q).toNat
 | none => if h : ∃ k, k < D.m ∧ D.onB k v then Classical.choose h else 0
noncomputable def upD (r v : Nat) : Int := if v = r then -1 else (D.oth v (D.hb v) : Nat)
noncomputable def depD (r v : Nat) : Nat := if v = r then 0 else 1 + D.dep (D.hb v)
def chD (v : Nat) : List Nat := match D.kn v with
 | some q => (D.below wo q).map (D.oth v)
 | none => []
end Kt
structure KtV (n : Nat) (es : List (Int × Int)) (D : Kt) : Prop where
 tr : TreeV n es
 m : D.m = es.length
 e : ∀ k, k < D.m → es[k]? = some ((D.ex k : Int), (D.ey k : Int))
 pos : 0 < D.m
 cv : ∀ q, D.m ≤ q → q < D.n → D.kn (D.cv q) = some q ∧ D.cv q < n
 kn : ∀ v q, D.kn v = some q → D.m ≤ q ∧ q < D.n ∧ D.cv q = v
 one : ∀ v k l, D.kn v = none → k < D.m → l < D.m → D.onB k v → D.onB l v → k = l
 two : ∀ v q, D.kn v = some q → ∃ k l, k < D.m ∧ l < D.m ∧ k ≠ l ∧ D.onB k v ∧ D.onB l v
 bs : ∀ x y, y ∈ D.bs x ↔ (x < D.m ∧ D.m ≤ y ∧ y < D.n ∧ D.onB x (D.cv y)) ∨ (D.m ≤ x ∧ x < D.n ∧ y < D.m ∧ D.onB y (D.cv x))
 bnd : ∀ x, (D.bs x).Nodup
 hung : Hung D.n D.bs D.root D.up D.dep
 adj : ∀ x y, x < D.n → y ∈ D.bs x → D.up x = (y : Int) ∨ D.up y = (x : Int)
 dl : ∀ k, k < D.n → D.dep k < D.n
 mn : D.m ≤ D.n
theorem Kt.mem_below {D : Kt} {wo : Nat → Nat} {q b : Nat} : b ∈ D.below wo q ↔ b ∈ D.bs q ∧ (b : Int) ≠ D.up q := by
 unfold Kt.below Kt.kids
 rw [List.mem_mergeSort, List.mem_filter]
 simp
namespace KtV
variable {n : Nat} {es : List (Int × Int)} {D : Kt} {wo : Nat → Nat}
theorem ends (h : KtV n es D) {k : Nat} (hk : k < D.m) : D.ex k < D.ey k ∧ D.ey k < n := by
 have hj : k < es.length := by have := h.m; omega
 have ho := ((rightB_iff n es).1 h.tr.right).2.2.2.1 k hj
 have he := h.e k hk
 rw [List.getElem?_eq_getElem hj] at he
 rw [Option.some.inj he] at ho
 simp only at ho
 omega
theorem oth_on (h : KtV n es D) {k v : Nat} (hk : k < D.m) (hv : D.onB k v) : D.onB k (D.oth v k) ∧ D.oth v k ≠ v ∧ D.oth v k < n ∧ v < n ∧ D.oth (D.oth v k) k = v := by
 obtain ⟨h1, h2⟩ := h.ends hk
 unfold Kt.onB at hv ⊢
 unfold Kt.oth
 by_cases e : D.ex k = v
 · rw [if_pos e, if_neg (by omega)]; exact ⟨.inr rfl, by omega, by omega, by omega, by omega⟩
 ·
  have : v = D.ey k := by omega
  rw [if_neg e, if_pos rfl]
  exact ⟨.inl rfl, by omega, by omega, by omega, by omega⟩
theorem oth_eq (h : KtV n es D) {k u v : Nat} (hk : k < D.m) (hu : D.onB k u) (hv : D.onB k v) (hne : u ≠ v) : D.oth v k = u := by
 obtain ⟨h1, h2⟩ := h.ends hk
 unfold Kt.onB at hu hv
 unfold Kt.oth
 by_cases e : D.ex k = v
 · rw [if_pos e]; omega
 · rw [if_neg e]; omega
theorem adj_oth (h : KtV n es D) {k v : Nat} (hk : k < D.m) (hv : D.onB k v) : v ∈ Go.Proofs.YtagjdkkfmfombaaGreat.adj es (D.oth v k) := by
 have hj : k < es.length := by have := h.m; omega
 have he := h.e k hk
 rw [List.getElem?_eq_getElem hj] at he
 refine (mem_adj h.tr.right _ _).2 ⟨k, hj, ?_⟩
 rw [Option.some.inj he]
 unfold Kt.onB at hv
 unfold Kt.oth
 by_cases e : D.ex k = v
 · rw [if_pos e, e]; exact .inr rfl
 ·
  rw [if_neg e]
  have : v = D.ey k := by omega
  rw [this]; exact .inl rfl
theorem of_adj (h : KtV n es D) {u v : Nat} (ha : v ∈ Go.Proofs.YtagjdkkfmfombaaGreat.adj es u) : ∃ k, k < D.m ∧ D.onB k u ∧ D.onB k v ∧ u ≠ v := by
 obtain ⟨j, hj, he⟩ := (mem_adj h.tr.right _ _).1 ha
 have hk : j < D.m := by have := h.m; omega
 have he2 := h.e j hk
 rw [List.getElem?_eq_getElem hj] at he2
 rw [Option.some.inj he2] at he
 have h1 := h.ends hk
 unfold Kt.onB
 simp only [Prod.mk.injEq] at he
 refine ⟨j, hk, ?_⟩
 omega
theorem same (h : KtV n es D) {k l u v : Nat} (hk : k < D.m) (hl : l < D.m) (h1 : D.onB k u) (h2 : D.onB k v) (h3 : D.onB l u) (h4 : D.onB l v) (hne : u ≠ v) : k = l := by
 have e1 := h.ends hk
 have e2 := h.ends hl
 unfold Kt.onB at h1 h2 h3 h4
 have a1 := h.e k hk
 have a2 := h.e l hl
 have : D.ex k = D.ex l ∧ D.ey k = D.ey l := by omega
 rw [← this.1, ← this.2] at a2
 have hkl : k < es.length := by have := h.m; omega
 have hll : l < es.length := by have := h.m; omega
 have hnd := right_nodup h.tr.right
 rw [List.getElem?_eq_getElem hkl] at a1
 rw [List.getElem?_eq_getElem hll] at a2
 exact nd_inj hnd hkl hll ((Option.some.inj a1).trans (Option.some.inj a2).symm)
theorem oth_inj (h : KtV n es D) {k l v : Nat} (hk : k < D.m) (hl : l < D.m) (h1 : D.onB k v) (h2 : D.onB l v) (e : D.oth v k = D.oth v l) : k = l := by
 obtain ⟨a1, a2, -⟩ := h.oth_on hk h1
 obtain ⟨b1, -⟩ := h.oth_on hl h2
 exact h.same hk hl h1 a1 h2 (e ▸ b1) (Ne.symm a2)
theorem updep (h : KtV n es D) {k p : Nat} (hk : k < D.n) (e : D.up k = (p : Int)) : k ≠ D.root ∧ p < D.n ∧ p ∈ D.bs k ∧ D.dep k = D.dep p + 1 := by
 have hne : k ≠ D.root := fun e2 => by rw [e2, h.hung.upr] at e; omega
 obtain ⟨p', h1, h2, h3, h4⟩ := h.hung.par k hk hne
 obtain rfl : p' = p := by omega
 exact ⟨hne, h1, h3, h4⟩
theorem bs_block (h : KtV n es D) {k q : Nat} (hk : k < D.m) : q ∈ D.bs k ↔ D.m ≤ q ∧ q < D.n ∧ D.onB k (D.cv q) := by
 rw [h.bs]
 constructor
 ·
  rintro (⟨_, a⟩ | ⟨a, _⟩)
  · exact a
  · omega
 · intro a; exact .inl ⟨hk, a⟩
theorem bs_cut (h : KtV n es D) {k q : Nat} (hq : D.m ≤ q) (hn : q < D.n) : k ∈ D.bs q ↔ k < D.m ∧ D.onB k (D.cv q) := by
 rw [h.bs]
 constructor
 ·
  rintro (⟨a, _⟩ | ⟨_, _, a⟩)
  · omega
  · exact a
 · intro a; exact .inr ⟨hq, hn, a⟩
def RootV (D : Kt) (r : Nat) : Prop := (D.m ≤ D.root ∧ r = D.cv D.root) ∨ (D.root < D.m ∧ D.onB D.root r)
theorem root_lt (h : KtV n es D) {r : Nat} (hr : RootV D r) : r < n := by
 rcases hr with ⟨h1, h2⟩ | ⟨h1, h2⟩
 · rw [h2]; exact (h.cv _ h1 h.hung.rt).2
 ·
  have := h.ends h1
  unfold Kt.onB at h2
  omega
theorem some_block (h : KtV n es D) {v : Nat} (hv : v < n) : ∃ k, k < D.m ∧ D.onB k v := by
 have hn : 2 ≤ n := by have := h.tr.len; have := h.m; have := h.pos; omega
 obtain ⟨r, hr, hne⟩ : ∃ r, r < n ∧ v ≠ r := by
  by_cases e : v = 0
  · exact ⟨1, by omega, by omega⟩
  · exact ⟨0, by omega, e⟩
 obtain ⟨up, dep, hh⟩ := h.tr.hung hr
 obtain ⟨u, _, _, h3, _⟩ := hh.par v hv hne
 obtain ⟨k, h1, _, h2, _⟩ := h.of_adj h3
 exact ⟨k, h1, h2⟩
theorem hb_ok (h : KtV n es D) {r v : Nat} (hr : RootV D r) (hv : v < n) (hne : v ≠ r) : D.hb v < D.m ∧ D.onB (D.hb v) v ∧
  ((D.hb v ≠ D.root ∧ ∃ q, D.up (D.hb v) = (q : Nat) ∧ D.m ≤ q ∧ q < D.n ∧ D.oth v (D.hb v) = D.cv q) ∨ (D.hb v = D.root ∧ D.oth v (D.hb v) = r)) := by
 have fin : ∀ p, p < D.m → D.onB p v → (∀ q, D.kn v = some q → D.up q = (p : Nat)) → ((p ≠ D.root ∧ ∃ q, D.up p = (q : Nat) ∧ D.m ≤ q ∧ q < D.n ∧ D.oth v p = D.cv q) ∨ (p = D.root ∧ D.oth v p = r)) := fun p hp hon hq => by
  have hpn : p < D.n := by have := h.mn; omega
  by_cases e : p = D.root
  ·
   refine .inr ⟨e, ?_⟩; rcases hr with ⟨a, _⟩ | ⟨_, b⟩
   · omega
   · exact h.oth_eq hp (by rw [e]; exact b) hon (Ne.symm hne)
  ·
   refine .inl ⟨e, ?_⟩; obtain ⟨q, h1, h2, h3, h4⟩ := h.hung.par p hpn e; obtain ⟨k1, k2, k3⟩ := (h.bs_block hp).1 h3; refine ⟨q, h2, k1, k2, h.oth_eq hp k3 hon fun e2 => ?_⟩; have h5 := (h.cv q k1 k2).1; rw [e2] at h5; have h6 := (h.updep k2 (hq q h5)).2.2.2; omega
 unfold Kt.hb
 cases hk : D.kn v with
 | some q =>
  obtain ⟨k1, k2, k3⟩ := h.kn v q hk
  have hqr : q ≠ D.root := fun e => by
   rcases hr with ⟨_, b⟩ | ⟨a, _⟩
   · rw [← e, k3] at b; exact hne b.symm
   · omega
  obtain ⟨p, h1, h2, h3, _⟩ := h.hung.par q k2 hqr
  obtain ⟨h5, h6⟩ := (h.bs_cut k1 k2).1 h3
  rw [k3] at h6
  simp only [h2, Int.toNat_natCast]
  exact ⟨h5, h6, fin p h5 h6 fun q' hq' => by rw [hk] at hq'; cases hq'; exact h2⟩
 | none =>
  have hex := h.some_block hv
  simp only
  rw [dif_pos hex]
  obtain ⟨h1, h2⟩ := Classical.choose_spec hex
  exact ⟨h1, h2, fin _ h1 h2 fun q' hq' => by rw [hk] at hq'; cases hq'⟩
theorem hb_eq (h : KtV n es D) {v b : Nat} (hv : v < n) (hb : b < D.m) (hon : D.onB b v) (hup : D.up b ≠ (D.kn v).elim (-2) fun q => (q : Int)) : D.hb v = b := by
 unfold Kt.hb
 cases hk : D.kn v with
 | some q =>
  rw [hk] at hup
  obtain ⟨k1, k2, k3⟩ := h.kn v q hk
  have hqb : q ∈ D.bs b := (h.bs_block hb).2 ⟨k1, k2, by rw [k3]; exact hon⟩
  rcases h.adj b q (by have := h.mn; omega) hqb with e | e
  · exact absurd e hup
  · simp only [e, Int.toNat_natCast]
 | none =>
  have hex := h.some_block hv
  simp only
  rw [dif_pos hex]
  obtain ⟨h1, h2⟩ := Classical.choose_spec hex
  exact h.one v _ b hk h1 hb h2 hon
theorem hv (h : KtV n es D) {r : Nat} (hr : RootV D r) : HV n es r (D.upD r) (D.depD r) := by
 refine ⟨h.root_lt hr, by unfold Kt.upD; rw [if_pos rfl], fun v hv hne => ?_⟩
 obtain ⟨h1, h2, h3⟩ := h.hb_ok hr hv hne
 obtain ⟨h4, h5, h6, -, -⟩ := h.oth_on h1 h2
 refine ⟨_, h6, by unfold Kt.upD; rw [if_neg hne], h.adj_oth h1 h2, ?_⟩
 unfold Kt.depD
 rw [if_neg hne]
 by_cases e : D.oth v (D.hb v) = r
 · rw [if_pos e]; omega
 ·
  rw [if_neg e]
  rcases h3 with ⟨h7, q, h8, h9, h10, h11⟩ | ⟨_, h8⟩
  ·
   obtain ⟨k1, k2, k3⟩ := h.hb_ok hr h6 e; have hq := (h.cv q h9 h10).1; have hd := (h.updep (by have := h.mn; omega) h8).2.2.2; have : D.hb (D.oth v (D.hb v)) = (D.up q).toNat := by
    rw [h11]; conv => lhs; unfold Kt.hb
    rw [hq]
   have hqr : q ≠ D.root := fun e2 => by
    rcases hr with ⟨_, b⟩ | ⟨a, _⟩
    · rw [← e2] at b; exact e (h11.trans b.symm)
    · omega
   obtain ⟨p, p1, p2, p3, p4⟩ := h.hung.par q h10 hqr; rw [this, p2, Int.toNat_natCast]; omega
  · exact absurd h8 e
theorem mem_ch (h : KtV n es D) {v w : Nat} : w ∈ D.chD wo v ↔ ∃ q b, D.kn v = some q ∧ D.cv q = v ∧ D.m ≤ q ∧ q < D.n ∧ b < D.m ∧ D.onB b v ∧ D.up b = (q : Nat) ∧ w = D.oth v b := by
 unfold Kt.chD
 cases hk : D.kn v with
 | none => simp
 | some q =>
  obtain ⟨k1, k2, k3⟩ := h.kn v q hk
  simp only [List.mem_map]
  constructor
  ·
   rintro ⟨b, hb, rfl⟩; obtain ⟨h1, h2⟩ := Kt.mem_below.1 hb; obtain ⟨h3, h4⟩ := (h.bs_cut k1 k2).1 h1; rw [k3] at h4; refine ⟨q, b, rfl, k3, k1, k2, h3, h4, ?_, rfl⟩; rcases h.adj q b k2 h1 with e | e
   · exact absurd e.symm h2
   · exact e
  ·
   rintro ⟨q', b, e, _, _, _, h3, h4, h5, rfl⟩; cases e; refine ⟨b, Kt.mem_below.2 ⟨(h.bs_cut k1 k2).2 ⟨h3, by rw [k3]; exact h4⟩, fun e2 => ?_⟩, rfl⟩; have d1 := (h.updep (by have := h.mn; omega) h5).2.2.2; have d2 := (h.updep k2 e2.symm).2.2.2; omega
theorem chOk (h : KtV n es D) (wo : Nat → Nat) {r : Nat} (hr : RootV D r) : ChV n r (D.upD r) (D.chD wo) := by
 refine ⟨fun v hv => ?_, fun v hv w hw => ?_, fun v w hv hw e hne => ?_⟩
 ·
  unfold Kt.chD
  cases hk : D.kn v with
  | none => simp
  | some q =>
   obtain ⟨k1, k2, k3⟩ := h.kn v q hk; simp only; refine nodup_map_on ?_ fun x hx y hy e => ?_
   ·
    unfold Kt.below Kt.kids; exact (List.mergeSort_perm _ _).nodup_iff.2 ((h.bnd q).sublist List.filter_sublist)
   ·
    have a := (h.bs_cut k1 k2).1 (Kt.mem_below.1 hx).1; have b := (h.bs_cut k1 k2).1 (Kt.mem_below.1 hy).1; rw [k3] at a b; exact h.oth_inj a.1 b.1 a.2 b.2 e
 ·
  obtain ⟨q, b, h1, h2, h3, h4, h5, h6, h7, rfl⟩ := h.mem_ch.1 hw
  obtain ⟨o1, o2, o3, o4, o5⟩ := h.oth_on h5 h6
  refine ⟨o3, ?_⟩
  have hbn : b < D.n := by have := h.mn; omega
  have hwr : D.oth v b ≠ r := fun e => by
   rcases hr with ⟨a1, a2⟩ | ⟨a1, a2⟩
   ·
    have hrb : D.root ∈ D.bs b := (h.bs_block h5).2 ⟨a1, h.hung.rt, by rw [← a2, ← e]; exact o1⟩; rcases h.adj b _ hbn hrb with e2 | e2
    ·
     have : q = D.root := by omega
     rw [this] at h2; exact o2 (e.trans (a2.trans h2))
    · rw [h.hung.upr] at e2; omega
   ·
    have hbr : b ≠ D.root := (h.updep hbn h7).1; cases hkr : D.kn r with
    | none => exact hbr (h.one r b D.root hkr h5 a1 (by rw [← e]; exact o1) a2)
    | some q2 =>
     obtain ⟨k1, k2, k3⟩ := h.kn r q2 hkr; rcases h.adj D.root q2 h.hung.rt ((h.bs_block a1).2 ⟨k1, k2, by rw [k3]; exact a2⟩) with e2 | e2
     · rw [h.hung.upr] at e2; omega
     ·
      rcases h.adj b q2 hbn ((h.bs_block h5).2 ⟨k1, k2, by rw [k3, ← e]; exact o1⟩) with e3 | e3
      ·
       have : q2 = q := by omega
       rw [this, h2] at k3; exact o2 (e.trans k3.symm)
      · exact hbr (by omega)
  unfold Kt.upD
  rw [if_neg hwr, h.hb_eq o3 h5 o1 (fun e => ?_), o5]
  rw [h7] at e
  cases hkw : D.kn (D.oth v b) with
  | none => rw [hkw] at e; simp only [Option.elim] at e; omega
  | some q2 =>
   rw [hkw] at e; simp only [Option.elim] at e; have : q2 = q := by omega
   have := (h.kn _ _ hkw).2.2; rw [‹q2 = q›, h2] at this; exact o2 this.symm
 ·
  unfold Kt.upD at e
  by_cases hwr : w = r
  · rw [if_pos hwr] at e; omega
  ·
   rw [if_neg hwr] at e; obtain ⟨h1, h2, h3⟩ := h.hb_ok hr hw hwr; have e2 : D.oth w (D.hb w) = v := by omega
   rcases h3 with ⟨_, q, h8, h9, h10, h11⟩ | ⟨_, h8⟩
   ·
    obtain ⟨o1, o2, o3, o4, o5⟩ := h.oth_on h1 h2; have hv2 : D.cv q = v := h11.symm.trans e2; refine h.mem_ch.2 ⟨q, D.hb w, by rw [← hv2]; exact (h.cv q h9 h10).1, hv2, h9, h10, h1, by rw [← e2]; exact o1, h8, by rw [← e2]; exact o5.symm⟩
   · exact absurd (e2.symm.trans h8) hne
theorem chRoot (h : KtV n es D) (wo : Nat → Nat) {r : Nat} (hr : RootV D r) {w : Nat} (hw : w < n) (e : D.upD r w = (r : Int)) (hb : D.root < D.m → w ≠ D.oth r D.root) : w ∈ D.chD wo r := by
 unfold Kt.upD at e
 by_cases hwr : w = r
 · rw [if_pos hwr] at e; omega
 ·
  rw [if_neg hwr] at e
  obtain ⟨h1, h2, h3⟩ := h.hb_ok hr hw hwr
  have e2 : D.oth w (D.hb w) = r := by omega
  obtain ⟨o1, o2, o3, o4, o5⟩ := h.oth_on h1 h2
  rcases h3 with ⟨_, q, h8, h9, h10, h11⟩ | ⟨h7, h8⟩
  ·
   have hv2 : D.cv q = r := h11.symm.trans e2; refine h.mem_ch.2 ⟨q, D.hb w, by rw [← hv2]; exact (h.cv q h9 h10).1, hv2, h9, h10, h1, by rw [← e2]; exact o1, h8, by rw [← e2]; exact o5.symm⟩
  ·
   rw [h7] at h1 o5 e2; rw [e2] at o5; exact absurd o5.symm (hb h1)
theorem second (h : KtV n es D) (wo : Nat → Nat) {r : Nat} (hm : D.root < D.m) (hr : D.onB D.root r) : D.oth r D.root < n ∧ D.upD r (D.oth r D.root) = (r : Int) ∧ D.oth r D.root ∉ D.chD wo r := by
 obtain ⟨o1, o2, o3, o4, o5⟩ := h.oth_on hm hr
 refine ⟨o3, ?_, fun hc => ?_⟩
 ·
  unfold Kt.upD
  rw [if_neg o2, h.hb_eq o3 hm o1 (fun e => ?_), o5]
  rw [h.hung.upr] at e
  cases hkw : D.kn (D.oth r D.root) with
  | none => rw [hkw] at e; simp only [Option.elim] at e; omega
  | some q2 => rw [hkw] at e; simp only [Option.elim] at e; omega
 ·
  obtain ⟨q, b, h1, h2, h3, h4, h5, h6, h7, e⟩ := h.mem_ch.1 hc
  have := h.oth_inj hm h5 hr h6 e
  exact (h.updep (by have := h.mn; omega) h7).1 this.symm
theorem ordB_two (D : Kt) (wo : Nat → Nat) (k : Nat) : D.ordB wo k = [D.ex k, D.ey k] ∨ D.ordB wo k = [D.ey k, D.ex k] := by
 unfold Kt.ordB ord2
 split
 · exact .inr rfl
 · exact .inl rfl
theorem ordB_on (h : KtV n es D) (wo : Nat → Nat) {k v : Nat} (hk : k < D.m) (hv : D.onB k v) : D.ordB wo k = [v, D.oth v k] ∨ D.ordB wo k = [D.oth v k, v] := by
 have h1 := h.ends hk
 unfold Kt.onB at hv
 rcases ordB_two D wo k with e | e <;> rcases hv with e2 | e2 <;> rw [e, e2] <;> unfold Kt.oth
 · rw [if_pos rfl]; exact .inl rfl
 · rw [if_neg (by omega)]; exact .inr rfl
 · rw [if_pos rfl]; exact .inr rfl
 · rw [if_neg (by omega)]; exact .inl rfl
theorem put_new {acc : List Nat} {v : Nat} (h : v ∉ acc) : Kt.put acc v = acc ++ [v] := by unfold Kt.put; rw [if_neg h]
theorem put_old {acc : List Nat} {v : Nat} (h : v ∈ acc) : Kt.put acc v = acc := by unfold Kt.put; rw [if_pos h]
def atV (D : Kt) (wo : Nat → Nat) (f k : Nat) (a : List Nat) (v : Nat) : List Nat := match D.kn v with
 | some q => if (q : Int) = D.up k then a else D.visit wo f q a
 | none => a
theorem visit_block (D : Kt) (wo : Nat → Nat) (f k : Nat) (acc : List Nat) (hk : k < D.m) : D.visit wo (f + 1) k acc = (D.ordB wo k).foldl (atV D wo f k) ((D.ordB wo k).foldl Kt.put acc) := by
 conv => lhs; unfold Kt.visit
 rw [if_pos hk]
 rfl
theorem visit_cut (D : Kt) (wo : Nat → Nat) (f q : Nat) (acc : List Nat) (hq : D.m ≤ q) : D.visit wo (f + 1) q acc = (D.below wo q).foldl (fun a b => D.visit wo f b a) (Kt.put acc (D.cv q)) := by
 conv => lhs; unfold Kt.visit
 rw [if_neg (by omega)]
theorem fold_pre {ch : Nat → List Nat} {oth : Nat → Nat} {f : Nat} {g : List Nat → Nat → List Nat} : ∀ (bl : List Nat) (acc : List Nat),
  (∀ b ∈ bl, ∀ a : List Nat, (∀ x ∈ acc, x ∈ a) → (a ++ preS ch f (oth b)).Nodup → g a b = a ++ preS ch f (oth b)) → (acc ++ (bl.map oth).flatMap (preS ch f)).Nodup → bl.foldl g acc = acc ++ (bl.map oth).flatMap (preS ch f)
 | [], acc, _, _ => by simp
 | b :: bl, acc, hg, hn => by
  rw [List.map_cons, List.flatMap_cons, ← List.append_assoc] at hn ⊢
  rw [List.foldl_cons, hg b (by simp) acc (fun _ h => h) (hn.sublist (List.sublist_append_left _ _))]
  exact fold_pre bl _ (fun b' hb' a ha hna => hg b' (by simp [hb']) a (fun x hx => ha x (List.mem_append_left _ hx)) hna) hn
theorem visit_pre (h : KtV n es D) (wo : Nat → Nat) : ∀ (f q : Nat) (acc : List Nat), D.m ≤ q → q < D.n → D.cv q ∈ acc → (acc ++ (D.chD wo (D.cv q)).flatMap (preS (D.chD wo) f)).Nodup → D.visit wo (2 * f + 1) q acc = acc ++ (D.chD wo (D.cv q)).flatMap (preS (D.chD wo) f) := by
 intro f
 induction f with
 | zero =>
  intro q acc hq hn hm hnd
  rw [visit_cut D wo _ q acc hq, put_old hm]
  have e1 : ∀ l : List Nat, l.flatMap (preS (D.chD wo) 0) = [] := fun l => by simp [preS]
  have e2 : ∀ (l : List Nat) (a : List Nat), l.foldl (fun a b => D.visit wo (2 * 0) b a) a = a := fun l => by
   induction l with
   | nil => intro a; rfl
   | cons b l ih => intro a; rw [List.foldl_cons, ih]; rfl
  rw [e1, e2, List.append_nil]
 | succ f ih =>
  intro q acc hq hn hm hnd
  have hkq := (h.cv q hq hn).1
  have hch : D.chD wo (D.cv q) = (D.below wo q).map (D.oth (D.cv q)) := by
   conv => lhs; unfold Kt.chD
   rw [hkq]
  rw [visit_cut D wo _ q acc hq, put_old hm]
  rw [hch] at hnd ⊢
  refine fold_pre _ _ (fun b hb a ha hna => ?_) hnd
  obtain ⟨h1, h2⟩ := Kt.mem_below.1 hb
  obtain ⟨h3, h4⟩ := (h.bs_cut hq hn).1 h1
  have hup : D.up b = (q : Int) := by
   rcases h.adj q b hn h1 with e | e
   · exact absurd e.symm h2
   · exact e
  obtain ⟨o1, o2, o3, o4, o5⟩ := h.oth_on h3 h4
  obtain ⟨v, hv⟩ : ∃ v, v = D.cv q := ⟨_, rfl⟩
  obtain ⟨u, hu⟩ : ∃ u, u = D.oth (D.cv q) b := ⟨_, rfl⟩
  have hva : v ∈ a := hv ▸ ha _ hm
  rw [← hu] at o1 o2 o3 hna ⊢
  rw [← hv] at hkq h4 o2
  have hpre : preS (D.chD wo) (f + 1) u = u :: (D.chD wo u).flatMap (preS (D.chD wo) f) := by conv => lhs; unfold preS
  rw [hpre] at hna ⊢
  have hua : u ∉ a := fun hm => by
   rw [List.nodup_append] at hna; exact hna.2.2 u hm u (by simp) rfl
  have hputs : (D.ordB wo b).foldl Kt.put a = a ++ [u] := by
   rcases h.ordB_on wo h3 h4 with e | e
   ·
    rw [e, hv, ← hu, ← hv]; simp only [List.foldl_cons, List.foldl_nil]; rw [put_old hva, put_new hua]
   ·
    rw [e, hv, ← hu, ← hv]; simp only [List.foldl_cons, List.foldl_nil]; rw [put_new hua, put_old (by simp [hva])]
  have hav : ∀ a', atV D wo (2 * f + 1) b a' v = a' := fun a' => by
   unfold atV; rw [hkq]; simp only; rw [if_pos hup.symm]
  have hau : atV D wo (2 * f + 1) b (a ++ [u]) u = a ++ (u :: (D.chD wo u).flatMap (preS (D.chD wo) f)) := by
   unfold atV; cases hk : D.kn u with
   | none =>
    have : D.chD wo u = [] := by unfold Kt.chD; rw [hk]
    rw [this]; rfl
   | some q' =>
    obtain ⟨k1, k2, k3⟩ := h.kn u q' hk; simp only; rw [if_neg fun e => ?_]
    · rw [ih q' (a ++ [u]) k1 k2 (by rw [k3]; simp) (by rw [k3, List.append_assoc]; exact hna), k3, List.append_assoc]; rfl
    ·
     rw [hup] at e; have : q' = q := by omega
     rw [this, ← hv] at k3; exact o2 k3.symm
  show D.visit wo (2 * f + 1 + 1) b a = _
  rw [visit_block D wo _ b a h3, hputs]
  rcases h.ordB_on wo h3 h4 with e | e
  ·
   rw [e, hv, ← hu, ← hv]; simp only [List.foldl_cons, List.foldl_nil]; rw [hav, hau]
  ·
   rw [e, hv, ← hu, ← hv]; simp only [List.foldl_cons, List.foldl_nil]; rw [hau, hav]
def ordO (D : Kt) (wo : Nat → Nat) : List Nat := D.visit wo (if D.root < D.m then 2 * D.n + 4 else 2 * D.n + 3) D.root []
def seqO (D : Kt) (wo : Nat → Nat) (ts : List Int) : List (Int × Nat) :=
 if D.root < D.m then
  match D.ordB wo D.root with
  | [a, b] => (ts.getD a 0, 0) :: (ts.getD b 0, 0) :: (goS (seqS (fun v => ts.getD v 0) (D.chD wo) (D.n + 1)) (D.chD wo a) 0 2 ++ goS (seqS (fun v => ts.getD v 0) (D.chD wo) (D.n + 1)) (D.chD wo b) 1 (2 + ((D.chD wo a).flatMap (preS (D.chD wo) (D.n + 1))).length))
  | _ => []
 else seqS (fun v => ts.getD v 0) (D.chD wo) (D.n + 2) (D.cv D.root) 0 0
theorem tellO (h : KtV n es D) (wo : Nat → Nat) (ts : List Int) : TellO n es ts (ordO D wo) (seqO D wo ts) := by
 have hdep : ∀ r, RootV D r → ∀ v, v < n → D.depD r v < D.n + 1 := fun r hr v hv => by
  unfold Kt.depD
  split
  · omega
  ·
   rename_i hne; have h1 := (h.hb_ok hr hv hne).1; have := h.dl (D.hb v) (by have := h.mn; omega); omega
 unfold ordO seqO
 by_cases hm : D.root < D.m
 ·
  rw [if_pos hm, if_pos hm]
  obtain ⟨a, ha, hord⟩ : ∃ a, D.onB D.root a ∧ D.ordB wo D.root = [a, D.oth a D.root] := by
   rcases h.ordB_on wo hm (v := D.ex D.root) (.inl rfl) with e | e
   · exact ⟨_, .inl rfl, e⟩
   ·
    obtain ⟨o1, _, _, _, o5⟩ := h.oth_on hm (v := D.ex D.root) (.inl rfl); exact ⟨_, o1, by rw [e, o5]⟩
  obtain ⟨b, hb⟩ : ∃ b, b = D.oth a D.root := ⟨_, rfl⟩
  have hr : RootV D a := .inr ⟨hm, ha⟩
  obtain ⟨s1, s2, s3⟩ := h.second wo hm ha
  have ht := (h.hv hr).tellO2 ts (h.chOk wo hr) s1 s2 (fun w hw e hne => h.chRoot wo hr hw e fun _ => hne) s3 (D.n + 1) (hdep a hr)
  rw [hord]
  rw [← hb] at ht ⊢
  simp only
  have hab : b ≠ a := by rw [hb]; exact (h.oth_on hm ha).2.1
  have hupr : ∀ q : Nat, (q : Int) ≠ D.up D.root := fun q e => by rw [h.hung.upr] at e; omega
  have hat : ∀ (acc : List Nat) v, v ∈ acc → (acc ++ (D.chD wo v).flatMap (preS (D.chD wo) (D.n + 1))).Nodup → atV D wo (2 * (D.n + 1) + 1) D.root acc v = acc ++ (D.chD wo v).flatMap (preS (D.chD wo) (D.n + 1)) := fun acc v hv hnd => by
   unfold atV; cases hk : D.kn v with
   | none =>
    have : D.chD wo v = [] := by unfold Kt.chD; rw [hk]
    rw [this]; simp
   | some q =>
    obtain ⟨k1, k2, k3⟩ := h.kn v q hk; simp only; rw [if_neg (hupr q), h.visit_pre wo _ q acc k1 k2 (by rw [k3]; exact hv) (by rw [k3]; exact hnd), k3]
  have hvis : D.visit wo (2 * D.n + 4) D.root [] = a :: b :: ((D.chD wo a).flatMap (preS (D.chD wo) (D.n + 1)) ++ (D.chD wo b).flatMap (preS (D.chD wo) (D.n + 1))) := by
   rw [show 2 * D.n + 4 = (2 * (D.n + 1) + 1) + 1 by omega, visit_block D wo _ _ _ hm, hord, ← hb]; simp only [List.foldl_cons, List.foldl_nil]; have e1 : Kt.put (Kt.put [] a) b = [a, b] := by
    rw [put_new (acc := []) (by simp)]; rw [put_new (by simpa using hab)]; rfl
   have hnd := ht.nd; rw [e1, hat [a, b] a (by simp) ?_, hat _ b (by simp) ?_]
   · simp
   ·
    refine hnd.sublist ?_; simp
   ·
    refine hnd.sublist ?_; simp
  rw [hvis]
  exact ht
 ·
  rw [if_neg hm, if_neg hm]
  have hr : RootV D (D.cv D.root) := .inl ⟨by omega, rfl⟩
  have ht := (h.hv hr).tellO ts (h.chOk wo hr) (fun w hw e => h.chRoot wo hr hw e fun hm2 => absurd hm2 hm) (D.n + 1) (hdep _ hr)
  have hpre : preS (D.chD wo) (D.n + 1 + 1) (D.cv D.root) = D.cv D.root :: (D.chD wo (D.cv D.root)).flatMap (preS (D.chD wo) (D.n + 1)) := by conv => lhs; unfold preS
  have hvis : D.visit wo (2 * D.n + 3) D.root [] = preS (D.chD wo) (D.n + 1 + 1) (D.cv D.root) := by
   have e1 : D.visit wo (2 * D.n + 3) D.root [] = D.visit wo (2 * (D.n + 1) + 1) D.root [D.cv D.root] := by
    rw [show 2 * D.n + 3 = 2 * (D.n + 1) + 1 by omega, visit_cut D wo _ _ _ (by omega), visit_cut D wo _ _ _ (by omega), put_new (acc := []) (by simp), put_old (by simp)]; rfl
   rw [e1, h.visit_pre wo _ D.root _ (by omega) h.hung.rt (by simp) ?_, hpre]
   · rfl
   ·
    have := ht.nd; rw [hpre] at this; exact this
  rw [hvis]
  exact ht
end KtV
end Go.Proofs.YtagjdkkfmfombaaGreat
namespace Go.Proofs.YtagjdkkfmfombaaGreat
theorem IsoG.back {n : Nat} {es es' : List (Int × Int)} {ts ts' : List Int} {φ : Nat → Nat} (h : IsoG n es ts es' ts' φ) : ∃ χ : Nat → Nat, (∀ v, v < n → χ v < n ∧ χ (φ v) = v ∧ φ (χ v) = v) ∧ IsoG n es' ts' es ts χ := by
 have hsur : ∀ v, v < n → ∃ u, u < n ∧ φ u = v := fun v hv => by
  have hnd : ((List.range n).map φ).Nodup := nodup_map_on List.nodup_range fun x hx y hy e => h.inj x y (List.mem_range.1 hx) (List.mem_range.1 hy) e
  have hlt : ∀ v ∈ (List.range n).map φ, v < ((List.range n).map φ).length := fun v hv => by
   obtain ⟨u, hu, rfl⟩ := List.mem_map.1 hv; rw [List.length_map, List.length_range]; exact h.lt u (List.mem_range.1 hu)
  have := all_in hnd hlt (v := v) (by rw [List.length_map, List.length_range]; exact hv)
  obtain ⟨u, hu, e⟩ := List.mem_map.1 this
  exact ⟨u, List.mem_range.1 hu, e⟩
 have hex : ∀ v, ∃ u, v < n → u < n ∧ φ u = v := fun v => by
  by_cases hv : v < n
  ·
   obtain ⟨u, hu⟩ := hsur v hv; exact ⟨u, fun _ => hu⟩
  · exact ⟨0, fun h => absurd h hv⟩
 obtain ⟨χ, hχ⟩ := Classical.axiomOfChoice hex
 refine ⟨χ, fun v hv => ⟨(hχ v hv).1, ?_, (hχ v hv).2⟩, fun v hv => (hχ v hv).1, fun u v hu hv e => ?_, fun v hv => ?_, fun u v hu hv => ?_⟩
 ·
  have a := hχ (φ v) (h.lt v hv)
  exact h.inj _ _ a.1 hv a.2
 ·
  have a := (hχ u hu).2
  have b := (hχ v hv).2
  rw [e] at a
  exact a.symm.trans b
 ·
  have a := hχ v hv
  rw [h.lab _ a.1, a.2]
 ·
  have a := hχ u hu
  have b := hχ v hv
  rw [h.adj _ _ a.1 b.1, a.2, b.2]
structure IsoN (N : Nat) (bs bs' : Nat → List Nat) (ψ : Nat → Nat) : Prop where
 lt : ∀ x, x < N → ψ x < N
 inj : ∀ x y, x < N → y < N → ψ x = ψ y → x = y
 bs : ∀ x y, x < N → y < N → (y ∈ bs x ↔ ψ y ∈ bs' (ψ x))
namespace IsoN
variable {N : Nat} {bs bs' : Nat → List Nat} {ψ : Nat → Nat}
theorem sur (h : IsoN N bs bs' ψ) {y : Nat} (hy : y < N) : ∃ x, x < N ∧ ψ x = y := by
 have hnd : ((List.range N).map ψ).Nodup := nodup_map_on List.nodup_range fun x hx y hy e => h.inj x y (List.mem_range.1 hx) (List.mem_range.1 hy) e
 have hlt : ∀ v ∈ (List.range N).map ψ, v < ((List.range N).map ψ).length := fun v hv => by
  obtain ⟨u, hu, rfl⟩ := List.mem_map.1 hv
  rw [List.length_map, List.length_range]
  exact h.lt u (List.mem_range.1 hu)
 have := all_in hnd hlt (v := y) (by rw [List.length_map, List.length_range]; exact hy)
 obtain ⟨u, hu, e⟩ := List.mem_map.1 this
 exact ⟨u, List.mem_range.1 hu, e⟩
theorem cnt (h : IsoN N bs bs' ψ) {l l' : List Nat} (hl : l.Nodup) (hl' : l'.Nodup) (h1 : ∀ x ∈ l, x < N) (h2 : ∀ x ∈ l', x < N) (hm : ∀ x, x < N → (x ∈ l ↔ ψ x ∈ l')) : l'.length = l.length := by
 have hp : (l.map ψ).Nodup := nodup_map_on hl fun x hx y hy e => h.inj x y (h1 x hx) (h1 y hy) e
 have := nodup_same hl' hp fun y => by
  rw [List.mem_map]
  constructor
  ·
   intro hy; obtain ⟨x, hx, rfl⟩ := h.sur (h2 y hy); exact ⟨x, (hm x hx).2 hy, rfl⟩
  ·
   rintro ⟨x, hx, rfl⟩; exact (hm x (h1 x hx)).1 hx
 rw [this, List.length_map]
theorem left (h : IsoN N bs bs' ψ) {G G' : Nat → Bool} (hG : ∀ x, x < N → G' (ψ x) = G x) : leftN N G' = leftN N G := by
 unfold leftN
 refine h.cnt (List.nodup_range.sublist List.filter_sublist) (List.nodup_range.sublist List.filter_sublist) (fun x hx => List.mem_range.1 (List.mem_filter.1 hx).1) (fun x hx => List.mem_range.1 (List.mem_filter.1 hx).1) fun x hx => ?_
 simp only [List.mem_filter, List.mem_range]
 rw [hG x hx]
 simp [hx, h.lt x hx]
theorem deg (h : IsoN N bs bs' ψ) (ht : TreeG bs N) (ht' : TreeG bs' N) {G G' : Nat → Bool} (hG : ∀ x, x < N → G' (ψ x) = G x) {x : Nat} (hx : x < N) : degG bs' G' (ψ x) = degG bs G x := by
 unfold degG
 refine h.cnt ((ht.nd x).sublist List.filter_sublist) ((ht'.nd _).sublist List.filter_sublist) (fun y hy => ht.lt x y (List.mem_filter.1 hy).1) (fun y hy => ht'.lt _ y (List.mem_filter.1 hy).1) fun y hy => ?_
 simp only [List.mem_filter]
 rw [hG y hy, h.bs x y hx hy]
theorem alive (h : IsoN N bs bs' ψ) (ht : TreeG bs N) (ht' : TreeG bs' N) : ∀ k x, x < N → alv bs' N k (ψ x) = alv bs N k x := by
 intro k
 induction k with
 | zero =>
  intro x hx
  rw [(alv_zero (bs := bs) (n := N) x).2 hx, (alv_zero (bs := bs') (n := N) _).2 (h.lt x hx)]
 | succ k ih =>
  intro x hx
  rw [alv_succ ht, alv_succ ht']
  unfold peel endB
  rw [h.left ih, h.deg ht ht' ih hx, ih x hx]
end IsoN
structure ShOk (n : Nat) (ts : List Int) (D : Kt) (U : List Int) : Prop where
 up : U.Pairwise (· < ·)
 mem : ∀ x, x ∈ U ↔ ∃ v, v < n ∧ x = ts.getD v 0
 shs : D.shs = U.length
 sh : ∀ v, v < n → D.sh v = U.idxOf (ts.getD v 0)
theorem rise_eq : ∀ {l m : List Int}, l.Pairwise (· < ·) → m.Pairwise (· < ·) → (∀ x, x ∈ l ↔ x ∈ m) → l = m
 | [], [], _, _, _ => rfl
 | [], b :: m, _, _, h => absurd ((h b).2 (by simp)) (by simp)
 | a :: l, [], _, _, h => absurd ((h a).1 (by simp)) (by simp)
 | a :: l, b :: m, hl, hm, h => by
  obtain ⟨l1, l2⟩ := List.pairwise_cons.1 hl
  obtain ⟨m1, m2⟩ := List.pairwise_cons.1 hm
  have hab : a = b := by
   rcases List.mem_cons.1 ((h a).1 (by simp)) with e | e
   · exact e
   ·
    rcases List.mem_cons.1 ((h b).2 (by simp)) with e' | e'
    · exact e'.symm
    · have := m1 a e; have := l1 b e'; omega
  subst hab
  have : l = m := rise_eq l2 m2 fun x => by
   constructor
   ·
    intro hx; rcases List.mem_cons.1 ((h x).1 (by simp [hx])) with e | e
    · subst e; have := l1 _ hx; omega
    · exact e
   ·
    intro hx; rcases List.mem_cons.1 ((h x).2 (by simp [hx])) with e | e
    · subst e; have := m1 _ hx; omega
    · exact e
  rw [this]
structure KtG (n : Nat) (es : List (Int × Int)) (ts : List Int) (D : Kt) (U : List Int) (wo : Nat → Nat) : Prop where
 v : KtV n es D
 s : ShOk n ts D U
 w : D.Weighed wo
 t : ∃ c L, TreeT D.m c L ∧ D.n = D.m + c ∧ D.bs = bsT D.m L ∧ TreeT.isCentre D.m c L D.root
 nl : D.n ≤ 1000
 sl : D.shs ≤ 1000
structure KtI (n : Nat) (D D' : Kt) (φ ψ : Nat → Nat) : Prop where
 m : D'.m = D.m
 nn : D'.n = D.n
 iso : IsoN D.n D.bs D'.bs ψ
 kd : ∀ x, x < D.n → (ψ x < D.m ↔ x < D.m)
 cv : ∀ q, D.m ≤ q → q < D.n → D'.cv (ψ q) = φ (D.cv q)
 on : ∀ k v, k < D.m → v < n → (D'.onB (ψ k) (φ v) ↔ D.onB k v)
 kn : ∀ v, v < n → D'.kn (φ v) = (D.kn v).map ψ
 lt : ∀ v, v < n → φ v < n
 inj : ∀ u v, u < n → v < n → φ u = φ v → u = v
namespace KtG
variable {n : Nat} {es es' : List (Int × Int)} {ts ts' : List Int} {D D' : Kt} {U U' : List Int} {wo wo' : Nat → Nat}
theorem block (h : KtV n es D) (h' : KtV n es' D') {φ : Nat → Nat} (i : IsoG n es ts es' ts' φ) {k : Nat} (hk : k < D.m) : ∃ k', k' < D'.m ∧ D'.onB k' (φ (D.ex k)) ∧ D'.onB k' (φ (D.ey k)) := by
 have he := h.ends hk
 have ha := h.adj_oth hk (v := D.ey k) (.inr rfl)
 have : D.oth (D.ey k) k = D.ex k := h.oth_eq hk (.inl rfl) (.inr rfl) (by omega)
 rw [this, i.adj _ _ (by omega) (by omega)] at ha
 obtain ⟨k', h1, h2, h3, _⟩ := h'.of_adj ha
 exact ⟨k', h1, h2, h3⟩
theorem onIff (h : KtV n es D) (h' : KtV n es' D') {φ : Nat → Nat} (i : IsoG n es ts es' ts' φ) {k k' : Nat} (hk : k < D.m) (hk' : k' < D'.m) (h1 : D'.onB k' (φ (D.ex k))) (h2 : D'.onB k' (φ (D.ey k))) {v : Nat} (hv : v < n) : D'.onB k' (φ v) ↔ D.onB k v := by
 have he := h.ends hk
 have hne : φ (D.ex k) ≠ φ (D.ey k) := fun e => by
  have := i.inj _ _ (by omega) (by omega) e
  omega
 constructor
 ·
  intro h3
  unfold Kt.onB at h1 h2 h3 ⊢
  have : φ v = φ (D.ex k) ∨ φ v = φ (D.ey k) := by omega
  rcases this with e | e
  · exact .inl (i.inj _ _ hv (by omega) e)
  · exact .inr (i.inj _ _ hv (by omega) e)
 ·
  intro h3
  unfold Kt.onB at h3
  rcases h3 with e | e
  · rw [e]; exact h1
  · rw [e]; exact h2
theorem cutIff (h : KtV n es D) (h' : KtV n es' D') {φ : Nat → Nat} (i : IsoG n es ts es' ts' φ) {v : Nat} (hv : v < n) (hc : (D.kn v).isSome) : (D'.kn (φ v)).isSome := by
 cases hk : D.kn v with
 | none => rw [hk] at hc; simp at hc
 | some q =>
  obtain ⟨k, l, h1, h2, h3, h4, h5⟩ := h.two v q hk
  obtain ⟨k', a1, a2, a3⟩ := block h h' i h1
  obtain ⟨l', b1, b2, b3⟩ := block h h' i h2
  cases hk' : D'.kn (φ v) with
  | some q' => rfl
  | none =>
   exfalso; have o1 := (onIff h h' i h1 a1 a2 a3 hv).2 h4; have o2 := (onIff h h' i h2 b1 b2 b3 hv).2 h5; have e := h'.one (φ v) k' l' hk' a1 b1 o1 o2; subst e; obtain ⟨p1, p2, p3, p4, p5⟩ := h.oth_on h1 h4; have : D'.onB k' (φ (D.oth v k)) := (onIff h h' i h1 a1 a2 a3 p3).2 p1; have := (onIff h h' i h2 a1 b2 b3 p3).1 this; exact h3 (h.same h1 h2 p1 h4 this h5 p2)
theorem map (h : KtG n es ts D U wo) (h' : KtG n es' ts' D' U' wo') {φ : Nat → Nat} (i : IsoG n es ts es' ts' φ) : ∃ ψ, KtI n D D' φ ψ := by
 obtain ⟨χ, hχ, ib⟩ := i.back
 have hv := h.v
 have hv' := h'.v
 have hm : D'.m = D.m := by
  rw [hv.m, hv'.m]
  have := hv.tr.len
  have := hv'.tr.len
  omega
 have hex : ∀ x, ∃ y, x < D.n → y < D'.n ∧ (y < D'.m ↔ x < D.m) ∧ (x < D.m → D'.onB y (φ (D.ex x)) ∧ D'.onB y (φ (D.ey x))) ∧ (D.m ≤ x → D'.cv y = φ (D.cv x)) := fun x => by
  by_cases hx : x < D.n
  ·
   by_cases hxm : x < D.m
   ·
    obtain ⟨k', h1, h2, h3⟩ := block hv hv' i hxm; refine ⟨k', fun _ => ⟨by have := hv'.mn; omega, by omega, fun _ => ⟨h2, h3⟩, fun h => by omega⟩⟩
   ·
    obtain ⟨c1, c2⟩ := hv.cv x (by omega) hx; have := cutIff hv hv' i c2 (by rw [c1]; rfl); obtain ⟨q', hq'⟩ := Option.isSome_iff_exists.1 this; obtain ⟨k1, k2, k3⟩ := hv'.kn _ _ hq'; exact ⟨q', fun _ => ⟨k2, by omega, fun h => by omega, fun _ => k3⟩⟩
  · exact ⟨0, fun h => absurd h hx⟩
 obtain ⟨ψ, hψ⟩ := Classical.axiomOfChoice hex
 have hinj : ∀ x y, x < D.n → y < D.n → ψ x = ψ y → x = y := fun x y hx hy e => by
  obtain ⟨x1, x2, x3, x4⟩ := hψ x hx
  obtain ⟨y1, y2, y3, y4⟩ := hψ y hy
  rw [e] at x2 x3 x4
  by_cases hxm : x < D.m
  ·
   have hym : y < D.m := by omega
   obtain ⟨a1, a2⟩ := x3 hxm; obtain ⟨b1, b2⟩ := y3 hym; have e1 := hv.ends hxm; have e2 := hv.ends hym; have c1 := (onIff hv hv' i hym (by omega) b1 b2 (v := D.ex x) (by omega)).1 a1; have c2 := (onIff hv hv' i hym (by omega) b1 b2 (v := D.ey x) (by omega)).1 a2; exact hv.same hxm hym (.inl rfl) (.inr rfl) c1 c2 (by omega)
  ·
   have hym : ¬ y < D.m := by omega
   have c := hv.cv x (by omega) hx; have d := hv.cv y (by omega) hy; have e1 := i.inj _ _ c.2 d.2 ((x4 (by omega)).symm.trans (y4 (by omega))); have k1 := c.1; rw [e1, d.1] at k1; exact (Option.some.inj k1).symm
 have hle : D.n ≤ D'.n := by
  have := inj_len (l := List.range D.n) (m := List.range D'.n) ψ List.nodup_range (fun x hx y hy e => hinj x y (List.mem_range.1 hx) (List.mem_range.1 hy) e) fun x hx => List.mem_range.2 (hψ x (List.mem_range.1 hx)).1
  simpa using this
 have hge : D'.n ≤ D.n := by
  have hx2 : ∀ x, ∃ y, x < D'.n → y < D.n ∧ (y < D.m ↔ x < D'.m) ∧ (x < D'.m → D.onB y (χ (D'.ex x)) ∧ D.onB y (χ (D'.ey x))) ∧ (D'.m ≤ x → D.cv y = χ (D'.cv x)) := fun x => by
   by_cases hx : x < D'.n
   ·
    by_cases hxm : x < D'.m
    ·
     obtain ⟨k', h1, h2, h3⟩ := block hv' hv ib hxm; refine ⟨k', fun _ => ⟨by have := hv.mn; omega, by omega, fun _ => ⟨h2, h3⟩, fun h => by omega⟩⟩
    ·
     obtain ⟨c1, c2⟩ := hv'.cv x (by omega) hx; have := cutIff hv' hv ib c2 (by rw [c1]; rfl); obtain ⟨q', hq'⟩ := Option.isSome_iff_exists.1 this; obtain ⟨k1, k2, k3⟩ := hv.kn _ _ hq'; exact ⟨q', fun _ => ⟨k2, by omega, fun h => by omega, fun _ => k3⟩⟩
   · exact ⟨0, fun h => absurd h hx⟩
  obtain ⟨θ, hθ⟩ := Classical.axiomOfChoice hx2
  have hin2 : ∀ x y, x < D'.n → y < D'.n → θ x = θ y → x = y := fun x y hx hy e => by
   obtain ⟨x1, x2, x3, x4⟩ := hθ x hx; obtain ⟨y1, y2, y3, y4⟩ := hθ y hy; rw [e] at x2 x3 x4; by_cases hxm : x < D'.m
   ·
    have hym : y < D'.m := by omega
    obtain ⟨a1, a2⟩ := x3 hxm; obtain ⟨b1, b2⟩ := y3 hym; have e1 := hv'.ends hxm; have e2 := hv'.ends hym; have c1 := (onIff hv' hv ib hym (by omega) b1 b2 (v := D'.ex x) (by omega)).1 a1; have c2 := (onIff hv' hv ib hym (by omega) b1 b2 (v := D'.ey x) (by omega)).1 a2; exact hv'.same hxm hym (.inl rfl) (.inr rfl) c1 c2 (by omega)
   ·
    have hym : ¬ y < D'.m := by omega
    have c := hv'.cv x (by omega) hx; have d := hv'.cv y (by omega) hy; have e1 := ib.inj _ _ c.2 d.2 ((x4 (by omega)).symm.trans (y4 (by omega))); have k1 := c.1; rw [e1, d.1] at k1; exact (Option.some.inj k1).symm
  have := inj_len (l := List.range D'.n) (m := List.range D.n) θ List.nodup_range (fun x hx y hy e => hin2 x y (List.mem_range.1 hx) (List.mem_range.1 hy) e) fun x hx => List.mem_range.2 (hθ x (List.mem_range.1 hx)).1
  simpa using this
 have hn : D'.n = D.n := by omega
 have hon : ∀ k v, k < D.m → v < n → (D'.onB (ψ k) (φ v) ↔ D.onB k v) := fun k v hk hv2 => by
  obtain ⟨x1, x2, x3, x4⟩ := hψ k (by have := hv.mn; omega)
  exact onIff hv hv' i hk (by omega) (x3 hk).1 (x3 hk).2 hv2
 refine ⟨ψ, hm, hn, ⟨fun x hx => by have := (hψ x hx).1; omega, hinj, fun x y hx hy => ?_⟩, fun x hx => by have := (hψ x hx).2.1; omega, fun q h1 h2 => (hψ q h2).2.2.2 h1, hon, fun v hvn => ?_, i.lt, i.inj⟩
 ·
  obtain ⟨x1, x2, x3, x4⟩ := hψ x hx
  obtain ⟨y1, y2, y3, y4⟩ := hψ y hy
  rw [hv.bs, hv'.bs]
  constructor
  ·
   rintro (⟨a1, a2, a3, a4⟩ | ⟨a1, a2, a3, a4⟩)
   ·
    refine .inl ⟨by omega, by omega, by omega, ?_⟩; rw [y4 a2]; exact (hon x _ a1 (hv.cv y a2 a3).2).2 a4
   ·
    refine .inr ⟨by omega, by omega, by omega, ?_⟩; rw [x4 a1]; exact (hon y _ a3 (hv.cv x a1 a2).2).2 a4
  ·
   rintro (⟨a1, a2, a3, a4⟩ | ⟨a1, a2, a3, a4⟩)
   ·
    have b1 : x < D.m := by omega
    have b2 : D.m ≤ y := by omega
    rw [y4 b2] at a4; exact .inl ⟨b1, b2, hy, (hon x _ b1 (hv.cv y b2 hy).2).1 a4⟩
   ·
    have b1 : D.m ≤ x := by omega
    have b2 : y < D.m := by omega
    rw [x4 b1] at a4; exact .inr ⟨b1, hx, b2, (hon y _ b2 (hv.cv x b1 hx).2).1 a4⟩
 ·
  cases hk : D.kn v with
  | some q =>
   obtain ⟨k1, k2, k3⟩ := hv.kn v q hk; obtain ⟨x1, x2, x3, x4⟩ := hψ q k2; have := (hv'.cv (ψ q) (by omega) x1).1; rw [x4 k1, k3] at this; exact this
  | none =>
   cases hk' : D'.kn (φ v) with
   | none => rfl
   | some q' =>
    exfalso; have := cutIff hv' hv ib (i.lt v hvn) (by rw [hk']; rfl); rw [(hχ v hvn).2.1, hk] at this; simp at this
end KtG
end Go.Proofs.YtagjdkkfmfombaaGreat
namespace Go.Proofs.YtagjdkkfmfombaaGreat
theorem rise_ltV {es : List (Int × Int)} (h : ∀ k (h : k + 1 < es.length), cmpP es[k] es[k+1] < 0) : ∀ (d i : Nat) (hj : i + d + 1 < es.length), cmpP (es[i]'(by omega)) es[i+d+1] < 0 := by
 intro d
 induction d with
 | zero => intro i hj; exact h i hj
 | succ d ih =>
  intro i hj
  have a := ih i (by omega)
  have b := h (i + d + 1) hj
  have e : i + (d + 1) + 1 = i + d + 1 + 1 := by omega
  simp only [e]
  rw [cmpP_neg] at a b ⊢
  simp only [lessP] at a b ⊢
  omega
theorem adj_riseV {n : Int} {es : List (Int × Int)} (h : rightB n es = true) (u : Nat) : (adj es u).Pairwise (· < ·) := by
 obtain ⟨h0, h1, h2, h3, h4⟩ := (rightB_iff _ _).1 h
 have hr := rise_ltV h4
 unfold adj
 rw [List.pairwise_flatMap]
 constructor
 ·
  intro e he
  unfold adj1; split
  · simp
  · split <;> simp
 ·
  rw [List.pairwise_iff_getElem]
  intro i j hi hj hij x hx y hy
  obtain ⟨d, rfl⟩ : ∃ d, j = i + d + 1 := ⟨j - i - 1, by omega⟩
  have hc := hr d i hj
  rw [cmpP_neg] at hc
  simp only [lessP] at hc
  have q1 := h3 i hi
  have q2 := h3 (i + d + 1) hj
  unfold adj1 at hx hy
  split at hx
  ·
   simp at hx; split at hy
   · simp at hy; omega
   ·
    split at hy
    · simp at hy; omega
    · simp at hy
  ·
   split at hx
   ·
    simp at hx; split at hy
    · simp at hy; omega
    ·
     split at hy
     · simp at hy; omega
     · simp at hy
   · simp at hx
end Go.Proofs.YtagjdkkfmfombaaGreat
namespace Go.Proofs.YtagjdkkfmfombaaGreat
theorem adj_nodup {n : Nat} {es : List (Int × Int)} (h : rightB n es = true) (u : Nat) : (adj es u).Nodup := (adj_riseV h u).imp fun h => by omega
def kidsT (es : List (Int × Int)) (v : Nat) (from_ : Int) : List Nat := (adj es v).filter fun w => !decide ((w : Int) = from_)
def brack (a : Int) (L : List (List Int)) : List Int := 40 :: (four a ++ (L.flatten ++ [41]))
def textH (es : List (Int × Int)) (ts : List Int) : Nat → Nat → Int → List Int
 | 0, _, _ => []
 | f + 1, v, from_ => brack (ts.getD v 0) (sortB ((kidsT es v from_).map fun w => textH es ts f w v))
def Wd : Nat → List Int → Prop
 | 0, _ => False
 | k + 1, x => ∃ a L, x = brack a L ∧ ∀ y ∈ L, Wd k y
theorem wd_list {k k' : Nat} (ih : ∀ {x y r r' : List Int}, Wd k x → Wd k' y → x ++ r = y ++ r' → x = y ∧ r = r') (h40 : ∀ {j x}, Wd j x → ∃ t, x = 40 :: t) : ∀ {L L' : List (List Int)} {r r' : List Int}, (∀ y ∈ L, Wd k y) → (∀ y ∈ L', Wd k' y) → L.flatten ++ 41 :: r = L'.flatten ++ 41 :: r' → L = L' ∧ r = r'
 | [], [], r, r', _, _, h => by simpa using h
 | [], y :: L', r, r', _, h2, h => by
  obtain ⟨t, rfl⟩ := h40 (h2 y (by simp))
  simp at h
 | x :: L, [], r, r', h1, _, h => by
  obtain ⟨t, rfl⟩ := h40 (h1 x (by simp))
  simp at h
 | x :: L, y :: L', r, r', h1, h2, h => by
  rw [List.flatten_cons, List.flatten_cons, List.append_assoc, List.append_assoc] at h
  obtain ⟨e1, e2⟩ := ih (h1 x (by simp)) (h2 y (by simp)) h
  obtain ⟨e3, e4⟩ := wd_list ih h40 (fun z hz => h1 z (by simp [hz])) (fun z hz => h2 z (by simp [hz])) e2
  exact ⟨by rw [e1, e3], e4⟩
theorem wd_40 : ∀ {j x}, Wd j x → ∃ t, x = 40 :: t
 | 0, _, h => h.elim
 | j + 1, x, h => by obtain ⟨a, L, rfl, _⟩ := h; exact ⟨_, rfl⟩
theorem brack_open {k k' : Nat} (ih : ∀ {x y r r' : List Int}, Wd k x → Wd k' y → x ++ r = y ++ r' → x = y ∧ r = r') {a a' : Int} {L L' : List (List Int)} {r r' : List Int} (h1 : ∀ y ∈ L, Wd k y) (h2 : ∀ y ∈ L', Wd k' y) (h : brack a L ++ r = brack a' L' ++ r') : four a = four a' ∧ L = L' ∧ r = r' := by
 unfold brack at h
 simp only [List.cons_append, List.append_assoc, List.cons.injEq, true_and] at h
 obtain ⟨e1, e2⟩ := List.append_inj h (by simp [four])
 obtain ⟨e3, e4⟩ := wd_list ih wd_40 h1 h2 (by simpa using e2)
 exact ⟨e1, e3, e4⟩
theorem wd_split : ∀ {k k' : Nat} {x y r r' : List Int}, Wd k x → Wd k' y → x ++ r = y ++ r' → x = y ∧ r = r'
 | 0, _, _, _, _, _, h, _, _ => h.elim
 | _ + 1, 0, _, _, _, _, _, h, _ => h.elim
 | k + 1, k' + 1, x, y, r, r', h1, h2, h => by
  obtain ⟨a, L, rfl, m1⟩ := h1
  obtain ⟨a', L', rfl, m2⟩ := h2
  obtain ⟨e1, e2, e3⟩ := brack_open (fun a b c => wd_split a b c) m1 m2 h
  exact ⟨by unfold brack; rw [e1, e2], e3⟩
theorem brack_inj {k k' : Nat} {a a' : Int} {L L' : List (List Int)} (h1 : ∀ y ∈ L, Wd k y) (h2 : ∀ y ∈ L', Wd k' y) (h : brack a L = brack a' L') : four a = four a' ∧ L = L' := by
 have := brack_open (r := []) (r' := []) (fun a b c => wd_split (k := k) (k' := k') a b c) h1 h2 (by rw [h])
 exact ⟨this.1, this.2.1⟩
theorem mem_sortB {l : List (List Int)} {x : List Int} : x ∈ sortB l ↔ x ∈ l := by unfold sortB; rw [List.mem_mergeSort]
theorem riseB_eq {l m : List (List Int)} (hp : l.Perm m) (hl : l.Pairwise fun x y => ¬ lessB y x) (hm : m.Pairwise fun x y => ¬ lessB y x) : l = m :=
 List.Perm.eq_of_pairwise (fun a b _ _ h1 h2 => by
  rcases lessB_tri a b with t | t | t
  · exact absurd t h2
  · exact t
  · exact absurd t h1) hl hm hp
theorem sortB_perm {l m : List (List Int)} (h : l.Perm m) : sortB l = sortB m :=
 riseB_eq ((List.mergeSort_perm _ _).trans (h.trans (List.mergeSort_perm _ _).symm)) (sortB_rises l) (sortB_rises m)
section
variable {n n' r r' : Nat} {es es' : List (Int × Int)} {ts ts' : List Int} {up up' : Nat → Int} {dep dep' : Nat → Nat} {N N' : Nat}
def txH (es : List (Int × Int)) (ts : List Int) (up : Nat → Int) (f v : Nat) : List Int := textH es ts f v (up v)
theorem mem_kids (h : HV n es r up dep) (ht : TreeV n es) {v w : Nat} (_hv : v < n) : w ∈ kidsT es v (up v) ↔ w < n ∧ up w = (v : Int) := by
 unfold kidsT
 rw [List.mem_filter]
 constructor
 ·
  rintro ⟨h1, h2⟩
  have hne : ¬ (w : Int) = up v := by simpa using h2
  rcases h.edge ht h1 with e | e
  · exact ⟨(adj_ne ht.right h1).2.2, e⟩
  · exact absurd e.symm hne
 ·
  rintro ⟨h1, h2⟩
  obtain ⟨_, h3, h4, h5⟩ := h.root h1 h2
  refine ⟨adj_symV ht.right (adj_symV ht.right h4), ?_⟩
  have : ¬ (w : Int) = up v := fun e => by
   have := (h.root h3 e.symm).2.2.2; omega
  simpa using this
theorem txH_succ (h : HV n es r up dep) (ht : TreeV n es) {v : Nat} (hv : v < n) (f : Nat) : txH es ts up (f + 1) v = brack (ts.getD v 0) (sortB ((kidsT es v (up v)).map (txH es ts up f))) := by
 unfold txH
 conv => lhs; unfold textH
 congr 2
 refine List.map_congr_left fun w hw => ?_
 rw [((mem_kids h ht hv).1 hw).2]
theorem txH_wd (h : HV n es r up dep) (ht : TreeV n es) (hN : ∀ v, v < n → dep v < N) : ∀ (f v : Nat), v < n → N ≤ f + dep v → Wd f (txH es ts up f v)
 | 0, v, hv, hd => by have := hN v hv; omega
 | f + 1, v, hv, hd => by
  rw [txH_succ h ht hv]
  refine ⟨_, _, rfl, fun y hy => ?_⟩
  obtain ⟨w, hw, rfl⟩ := List.mem_map.1 (mem_sortB.1 hy)
  obtain ⟨h1, h2⟩ := (mem_kids h ht hv).1 hw
  have := (h.root h1 h2).2.2.2
  exact txH_wd h ht hN f w h1 (by omega)
theorem txH_fuel (h : HV n es r up dep) (ht : TreeV n es) (hN : ∀ v, v < n → dep v < N) : ∀ (f f' v : Nat), v < n → N ≤ f + dep v → N ≤ f' + dep v → txH es ts up f v = txH es ts up f' v
 | 0, _, v, hv, hd, _ => by have := hN v hv; omega
 | _ + 1, 0, v, hv, _, hd => by have := hN v hv; omega
 | f + 1, f' + 1, v, hv, hd, hd' => by
  rw [txH_succ h ht hv, txH_succ h ht hv]
  congr 2
  refine List.map_congr_left fun w hw => ?_
  obtain ⟨h1, h2⟩ := (mem_kids h ht hv).1 hw
  have := (h.root h1 h2).2.2.2
  exact txH_fuel h ht hN f f' w h1 (by omega) (by omega)
def chT (es : List (Int × Int)) (ts : List Int) (up : Nat → Int) (N v : Nat) : List Nat := (kidsT es v (up v)).mergeSort fun x y => !decide (cmpB (txH es ts up N y) (txH es ts up N x) < 0)
theorem chT_map (es : List (Int × Int)) (ts : List Int) (up : Nat → Int) (N v : Nat) : (chT es ts up N v).map (txH es ts up N) = sortB ((kidsT es v (up v)).map (txH es ts up N)) := by
 refine riseB_eq (((List.mergeSort_perm _ _).map _).trans (List.mergeSort_perm _ _).symm) ?_ (sortB_rises _)
 rw [List.pairwise_map]
 have := List.pairwise_mergeSort (le := fun x y => !decide (cmpB (txH es ts up N y) (txH es ts up N x) < 0)) (fun a b c h1 h2 => by
  rw [sortB_le] at *
  intro h
  rcases lessB_tri (txH es ts up N c) (txH es ts up N b) with t | t | t
  · exact h2 t
  · rw [t] at h; exact h1 h
  · exact h1 (lessB_trans t h)) (fun a b => by
  rw [Bool.or_eq_true, sortB_le, sortB_le]
  rcases lessB_tri (txH es ts up N a) (txH es ts up N b) with t | t | t
  · exact .inl fun h => lessB_irr _ (lessB_trans t h)
  · exact .inl fun h => lessB_irr _ (by rw [t] at h; exact h)
  · exact .inr fun h => lessB_irr _ (lessB_trans t h)) (kidsT es v (up v))
 exact this.imp fun h => (sortB_le _ _).1 h
theorem chT_ok (h : HV n es r up dep) (ht : TreeV n es) (ts : List Int) (N : Nat) : ChV n r up (chT es ts up N) ∧ ∀ w, w < n → up w = (r : Int) → w ∈ chT es ts up N r := by
 refine ⟨⟨fun v _ => ?_, fun v hv w hw => ?_, fun v w hv hw e _ => ?_⟩, fun w hw e => ?_⟩
 ·
  unfold chT
  exact (List.mergeSort_perm _ _).nodup_iff.2 ((adj_nodup ht.right v).sublist List.filter_sublist)
 ·
  unfold chT at hw
  rw [List.mem_mergeSort] at hw
  exact (mem_kids h ht hv).1 hw
 ·
  unfold chT
  rw [List.mem_mergeSort]
  exact (mem_kids h ht hv).2 ⟨hw, e⟩
 ·
  unfold chT
  rw [List.mem_mergeSort]
  exact (mem_kids h ht h.rt).2 ⟨hw, e⟩
theorem seq_text (h : HV n es r up dep) (ht : TreeV n es) (hN : ∀ v, v < n → dep v < N) (h' : HV n' es' r' up' dep') (ht' : TreeV n' es') (hN' : ∀ v, v < n' → dep' v < N')
  (l1 : ∀ v, v < n → 0 ≤ ts.getD v 0 ∧ ts.getD v 0 < 4294967296) (l2 : ∀ v, v < n' → 0 ≤ ts'.getD v 0 ∧ ts'.getD v 0 < 4294967296) :
  ∀ (f v v' : Nat), v < n → v' < n' → N ≤ f + dep v → txH es ts up N v = txH es' ts' up' N' v' → ∀ p i, seqS (fun v => ts.getD v 0) (chT es ts up N) f v p i = seqS (fun v => ts'.getD v 0) (chT es' ts' up' N') f v' p i := by
 intro f
 induction f with
 | zero => intro v v' hv hv' hd; have := hN v hv; omega
 | succ f ih =>
  intro v v' hv hv' hd e p i
  have e1 := e
  rw [txH_fuel h ht hN N (N + 1) v hv (by omega) (by omega), txH_fuel h' ht' hN' N' (N' + 1) v' hv' (by omega) (by omega), txH_succ h ht hv, txH_succ h' ht' hv', ← chT_map, ← chT_map] at e1
  have wd : ∀ (n r : Nat) (es : List (Int × Int)) (ts : List Int) (up : Nat → Int) (dep : Nat → Nat) (N v : Nat), HV n es r up dep → TreeV n es → (∀ v, v < n → dep v < N) → v < n → ∀ y ∈ (chT es ts up N v).map (txH es ts up N), Wd N y := fun n r es ts up dep N v h ht hN hv y hy => by
   obtain ⟨w, hw, rfl⟩ := List.mem_map.1 hy; have hwn := ((chT_ok h ht ts N).1.upc v hv w hw).1; exact txH_wd h ht hN N w hwn (by omega)
  obtain ⟨e2, e3⟩ := brack_inj (wd n r es ts up dep N v h ht hN hv) (wd n' r' es' ts' up' dep' N' v' h' ht' hN' hv') e1
  have hl : (chT es ts up N v).length = (chT es' ts' up' N' v').length := by have := congrArg List.length e3; simpa using this
  refine seqS_congr (lab := fun v => ts.getD v 0) (ch := chT es ts up N) (lab' := fun v => ts'.getD v 0) (ch' := chT es' ts' up' N') (a := v) (a' := v') (four_inj (l1 v hv) (l2 v' hv') e2) hl (fun j c c' hc hc' p nx => ?_) p i
  obtain ⟨c1, c2⟩ := (chT_ok h ht ts N).1.upc v hv c (List.mem_of_getElem? hc)
  obtain ⟨c3, c4⟩ := (chT_ok h' ht' ts' N').1.upc v' hv' c' (List.mem_of_getElem? hc')
  have := (h.root c1 c2).2.2.2
  refine ih c c' c1 c3 (by omega) ?_ p nx
  have := congrArg (fun l : List (List Int) => l[j]?) e3
  simpa [hc, hc'] using this
end
def bestF (best s : List Int) : List Int := if best = [] ∨ cmpB s best < 0 then s else best
def bestL (l : List (List Int)) : List Int := l.foldl bestF []
theorem best_fold : ∀ (l : List (List Int)) (b : List Int), b ≠ [] → (∀ x ∈ l, x ≠ []) → (l.foldl bestF b = b ∨ l.foldl bestF b ∈ l) ∧ ¬ lessB b (l.foldl bestF b) ∧ ∀ x ∈ l, ¬ lessB x (l.foldl bestF b)
 | [], b, _, _ => ⟨.inl rfl, lessB_irr b, fun x hx => by simp at hx⟩
 | s :: l, b, hb, hl => by
  rw [List.foldl_cons]
  by_cases h : lessB s b
  ·
   have e : bestF b s = s := by unfold bestF; rw [if_pos (.inr ((cmpB_neg _ _).2 h))]
   rw [e]
   obtain ⟨i1, i2, i3⟩ := best_fold l s (hl s (by simp)) fun x hx => hl x (by simp [hx])
   refine ⟨.inr ?_, fun h2 => i2 (lessB_trans h h2), fun x hx => ?_⟩
   ·
    rcases i1 with e | e
    · rw [e]; simp
    · simp [e]
   ·
    rcases List.mem_cons.1 hx with e | hx
    · rw [e]; exact i2
    · exact i3 x hx
  ·
   have e : bestF b s = b := by
    unfold bestF; rw [if_neg]; rintro (h2 | h2)
    · exact hb h2
    · exact h ((cmpB_neg _ _).1 h2)
   rw [e]
   obtain ⟨i1, i2, i3⟩ := best_fold l b hb fun x hx => hl x (by simp [hx])
   refine ⟨?_, i2, fun x hx => ?_⟩
   ·
    rcases i1 with e | e
    · exact .inl e
    · exact .inr (by simp [e])
   ·
    rcases List.mem_cons.1 hx with e | hx
    ·
     rw [e]
     intro h2
     rcases lessB_tri b (l.foldl bestF b) with t | t | t
     · exact i2 t
     · rw [← t] at h2; exact h h2
     · exact h (lessB_trans h2 t)
    · exact i3 x hx
theorem bestL_ok {l : List (List Int)} (hne : l ≠ []) (hl : ∀ x ∈ l, x ≠ []) : bestL l ∈ l ∧ ∀ x ∈ l, ¬ lessB x (bestL l) := by
 obtain ⟨s, l', rfl⟩ := List.exists_cons_of_ne_nil hne
 unfold bestL
 rw [List.foldl_cons]
 have e : bestF [] s = s := by unfold bestF; rw [if_pos (.inl rfl)]
 rw [e]
 obtain ⟨i1, i2, i3⟩ := best_fold l' s (hl s (by simp)) fun x hx => hl x (by simp [hx])
 refine ⟨?_, fun x hx => ?_⟩
 ·
  rcases i1 with e | e
  · rw [e]; simp
  · simp [e]
 ·
  rcases List.mem_cons.1 hx with e | hx
  · rw [e]; exact i2
  · exact i3 x hx
theorem bestL_same {l m : List (List Int)} (hne : l ≠ []) (hl : ∀ x ∈ l, x ≠ []) (h : ∀ x, x ∈ l ↔ x ∈ m) : bestL l = bestL m := by
 have hm : m ≠ [] := by
  obtain ⟨s, l', rfl⟩ := List.exists_cons_of_ne_nil hne
  exact List.ne_nil_of_mem ((h s).1 (by simp))
 obtain ⟨a1, a2⟩ := bestL_ok hne hl
 obtain ⟨b1, b2⟩ := bestL_ok hm fun x hx => hl x ((h x).2 hx)
 rcases lessB_tri (bestL l) (bestL m) with t | t | t
 · exact absurd t (b2 _ ((h _).1 a1))
 · exact t
 · exact absurd t (a2 _ ((h _).2 b1))
def textG (n : Nat) (es : List (Int × Int)) (ts : List Int) : List Int := bestL ((List.range n).map fun v => textH es ts n v (-1))
theorem textH_ne {es : List (Int × Int)} {ts : List Int} {f v : Nat} {u : Int} (hf : 0 < f) : textH es ts f v u ≠ [] := by
 obtain ⟨k, rfl⟩ : ∃ k, f = k + 1 := ⟨f - 1, by omega⟩
 unfold textH brack
 simp
theorem textG_list {n : Nat} {es : List (Int × Int)} {ts : List Int} (hn : 0 < n) : (List.range n).map (fun v => textH es ts n v (-1)) ≠ [] ∧ ∀ x ∈ (List.range n).map (fun v => textH es ts n v (-1)), x ≠ [] := by
 refine ⟨fun e => ?_, fun x hx => ?_⟩
 ·
  have := congrArg List.length e
  simp at this
  omega
 ·
  obtain ⟨v, _, rfl⟩ := List.mem_map.1 hx
  exact textH_ne hn
theorem TreeV.hungN {n : Nat} {es : List (Int × Int)} (h : TreeV n es) {r : Nat} (hr : r < n) : ∃ up dep, HV n es r up dep ∧ ∀ v, v < n → dep v < n := by
 obtain ⟨up, dep, hh⟩ := h.hung hr
 obtain ⟨dep2, hd2⟩ : ∃ dep2 : Nat → Nat, ∀ v, dep2 v = ((List.range n).filter fun u => decide (dep u < dep v)).length := ⟨_, fun _ => rfl⟩
 refine ⟨up, dep2, ⟨hr, hh.upr, fun v hv hne => ?_⟩, fun v hv => ?_⟩
 ·
  obtain ⟨u, h1, h2, h3, h4⟩ := hh.par v hv hne
  refine ⟨u, h1, h2, h3, ?_⟩
  rw [hd2, hd2]
  have := nodup_len_le (l := u :: (List.range n).filter fun x => decide (dep x < dep u)) (m := (List.range n).filter fun x => decide (dep x < dep v)) (List.nodup_cons.2 ⟨fun hm => by have := (List.mem_filter.1 hm).2; simp at this, List.nodup_range.sublist List.filter_sublist⟩) fun x hx => by
   rcases List.mem_cons.1 hx with e | hx
   · rw [e]; exact List.mem_filter.2 ⟨List.mem_range.2 h1, by simpa using h4⟩
   ·
    obtain ⟨a, b⟩ := List.mem_filter.1 hx; refine List.mem_filter.2 ⟨a, ?_⟩; simp only [decide_eq_true_eq] at b ⊢; omega
  simp only [List.length_cons] at this
  omega
 ·
  rw [hd2]
  have := nodup_len_le (l := v :: (List.range n).filter fun x => decide (dep x < dep v)) (m := List.range n) (List.nodup_cons.2 ⟨fun hm => by have := (List.mem_filter.1 hm).2; simp at this, List.nodup_range.sublist List.filter_sublist⟩) fun x hx => by
   rcases List.mem_cons.1 hx with e | hx
   · rw [e]; exact List.mem_range.2 hv
   · exact (List.mem_filter.1 hx).1
  simp only [List.length_cons, List.length_range] at this
  omega
theorem text_names {n : Nat} {es es' : List (Int × Int)} {ts ts' : List Int} (hr : rightB n es = true) (hr' : rightB n es' = true) {φ : Nat → Nat} (i : IsoG n es ts es' ts' φ) : ∀ (f v : Nat) (a b : Int), v < n → ((a = -1 ∧ b = -1) ∨ ∃ u : Nat, u < n ∧ a = u ∧ b = φ u) → textH es' ts' f (φ v) b = textH es ts f v a
 | 0, _, _, _, _, _ => rfl
 | f + 1, v, a, b, hv, hab => by
  obtain ⟨χ, hχ, _⟩ := i.back
  unfold textH
  rw [i.lab v hv]
  congr 1
  have hk : ∀ w ∈ kidsT es v a, w < n := fun w hw => (adj_ne hr (List.mem_filter.1 hw).1).2.2
  have hab2 : ∀ w, w < n → ((φ w : Int) = b ↔ (w : Int) = a) := fun w hw => by
   rcases hab with ⟨e1, e2⟩ | ⟨u, hu, e1, e2⟩
   · omega
   ·
    rw [e1, e2]
    constructor
    ·
     intro e
     have := i.inj w u hw hu (by omega)
     omega
    ·
     intro e
     have : w = u := by omega
     rw [this]
  have hp : (kidsT es' (φ v) b).Perm ((kidsT es v a).map φ) := by
   refine (List.perm_ext_iff_of_nodup ((adj_nodup hr' _).sublist List.filter_sublist) (nodup_map_on ((adj_nodup hr _).sublist List.filter_sublist) fun x hx y hy e => i.inj x y (hk x hx) (hk y hy) e)).2 fun y => ?_; rw [List.mem_map, List.mem_filter]; constructor
   ·
    rintro ⟨h1, h2⟩; have hy := (adj_ne hr' h1).2.2; obtain ⟨x1, x2, x3⟩ := hχ y hy; rw [← x3] at h1 h2; refine ⟨χ y, List.mem_filter.2 ⟨(i.adj v _ hv x1).2 h1, ?_⟩, x3⟩; simp only [Bool.not_eq_true', decide_eq_false_iff_not] at h2 ⊢; exact fun e => h2 ((hab2 _ x1).2 e)
   ·
    rintro ⟨x, hx, rfl⟩; obtain ⟨h1, h2⟩ := List.mem_filter.1 hx; have hxn := (adj_ne hr h1).2.2; refine ⟨(i.adj v x hv hxn).1 h1, ?_⟩; simp only [Bool.not_eq_true', decide_eq_false_iff_not] at h2 ⊢; exact fun e => h2 ((hab2 _ hxn).1 e)
  rw [sortB_perm (hp.map fun w => textH es' ts' f w ((φ v : Nat) : Int)), List.map_map]
  congr 1
  refine List.map_congr_left fun w hw => ?_
  exact text_names hr hr' i f w v (φ v : Nat) (hk w hw) (.inr ⟨v, hv, rfl, rfl⟩)
theorem text_iff {n n' : Nat} {es es' : List (Int × Int)} {ts ts' : List Int} (ht : TreeV n es) (ht' : TreeV n' es')
  (l1 : ∀ v, v < n → 0 ≤ ts.getD v 0 ∧ ts.getD v 0 < 4294967296) (l2 : ∀ v, v < n' → 0 ≤ ts'.getD v 0 ∧ ts'.getD v 0 < 4294967296) :
  textG n es ts = textG n' es' ts' ↔ n = n' ∧ ∃ φ, IsoG n es ts es' ts' φ := by
 constructor
 ·
  intro h
  obtain ⟨a1, a2⟩ := textG_list (es := es) (ts := ts) ht.pos
  obtain ⟨b1, b2⟩ := textG_list (es := es') (ts := ts') ht'.pos
  obtain ⟨r, hr, er⟩ := List.mem_map.1 (bestL_ok a1 a2).1
  obtain ⟨r', hr', er'⟩ := List.mem_map.1 (bestL_ok b1 b2).1
  rw [List.mem_range] at hr hr'
  obtain ⟨up, dep, hh, hN⟩ := ht.hungN hr
  obtain ⟨up', dep', hh', hN'⟩ := ht'.hungN hr'
  have e : txH es ts up n r = txH es' ts' up' n' r' := by
   unfold txH; rw [hh.upr, hh'.upr, er, er']; exact h
  obtain ⟨F, hF1, hF2⟩ : ∃ F, n ≤ F ∧ n' ≤ F := ⟨max n n', by omega, by omega⟩
  obtain ⟨c1, c2⟩ := chT_ok hh ht ts n
  obtain ⟨c3, c4⟩ := chT_ok hh' ht' ts' n'
  have t1 := hh.tellO ts c1 c2 F fun v hv => by have := hN v hv; omega
  have t2 := hh'.tellO ts' c3 c4 F fun v hv => by have := hN' v hv; omega
  have hs := seq_text hh ht hN hh' ht' hN' l1 l2 (F + 1) r r' hr hr' (by omega) e 0 0
  have hn : n = n' := by
   have s1 := t1.sl; have s2 := t2.sl; rw [hs] at s1; omega
  refine nums_iso ht.right ht'.right t1.ord t2.ord ?_
  rw [t1.code ht, t2.code ht', hs, hn]
 ·
  rintro ⟨rfl, φ, i⟩
  obtain ⟨a1, a2⟩ := textG_list (es := es) (ts := ts) ht.pos
  obtain ⟨χ, hχ, _⟩ := i.back
  unfold textG
  refine bestL_same a1 a2 fun x => ?_
  rw [List.mem_map, List.mem_map]
  constructor
  ·
   rintro ⟨v, hv, rfl⟩; rw [List.mem_range] at hv; exact ⟨φ v, List.mem_range.2 (i.lt v hv), text_names ht.right ht'.right i n v (-1) (-1) hv (.inl ⟨rfl, rfl⟩)⟩
  ·
   rintro ⟨v, hv, rfl⟩; rw [List.mem_range] at hv; obtain ⟨x1, x2, x3⟩ := hχ v hv; refine ⟨χ v, List.mem_range.2 x1, ?_⟩; have := text_names ht.right ht'.right i n (χ v) (-1) (-1) x1 (.inl ⟨rfl, rfl⟩); rw [x3] at this; exact this.symm
end Go.Proofs.YtagjdkkfmfombaaGreat
namespace Go.Proofs.YtagjdkkfmfombaaGreat
open Go
def byU (l : List Int) : List UInt8 := l.map fun x => UInt8.ofNat x.toNat
def strV (l : List Int) : Value := .string ⟨(byU l).toArray⟩
def ByL (l : List Int) : Prop := ∀ x ∈ l, 0 ≤ x ∧ x < 256
theorem byU_one {a b : Int} (ha : 0 ≤ a ∧ a < 256) (hb : 0 ≤ b ∧ b < 256) : (UInt8.ofNat a.toNat < UInt8.ofNat b.toNat ↔ a < b) ∧ (UInt8.ofNat a.toNat = UInt8.ofNat b.toNat ↔ a = b) := by
 have e1 : (UInt8.ofNat a.toNat).toNat = a.toNat := by rw [UInt8.toNat_ofNat']; omega
 have e2 : (UInt8.ofNat b.toNat).toNat = b.toNat := by rw [UInt8.toNat_ofNat']; omega
 constructor
 · rw [UInt8.lt_iff_toNat_lt, e1, e2]; omega
 · rw [← UInt8.toNat_inj, e1, e2]; omega
theorem bytesLess_iff : ∀ {x y : List Int}, ByL x → ByL y → (Op.bytesLess (byU x) (byU y) = true ↔ lessB x y)
 | [], [], _, _ => by simp [byU, Op.bytesLess, lessB]
 | _ :: _, [], _, _ => by simp [byU, Op.bytesLess, lessB]
 | [], _ :: _, _, _ => by simp [byU, Op.bytesLess, lessB]
 | a :: x, b :: y, hx, hy => by
  have h1 := byU_one (hx a (by simp)) (hy b (by simp))
  have ih := bytesLess_iff (x := x) (y := y) (fun z hz => hx z (by simp [hz])) fun z hz => hy z (by simp [hz])
  show Op.bytesLess (UInt8.ofNat a.toNat :: byU x) (UInt8.ofNat b.toNat :: byU y) = true ↔ _
  unfold Op.bytesLess lessB
  simp only [Bool.or_eq_true, decide_eq_true_eq, Bool.and_eq_true, beq_iff_eq, h1.1, h1.2, ih]
theorem byU_inj : ∀ {x y : List Int}, ByL x → ByL y → (byU x = byU y ↔ x = y)
 | [], [], _, _ => by simp
 | _ :: _, [], _, _ => by simp [byU]
 | [], _ :: _, _, _ => by simp [byU]
 | a :: x, b :: y, hx, hy => by
  have h1 := byU_one (hx a (by simp)) (hy b (by simp))
  have ih := byU_inj (x := x) (y := y) (fun z hz => hx z (by simp [hz])) fun z hz => hy z (by simp [hz])
  show (UInt8.ofNat a.toNat :: byU x = UInt8.ofNat b.toNat :: byU y) ↔ _
  rw [List.cons.injEq, List.cons.injEq, h1.2, ih]
theorem byU_len (l : List Int) : (byU l).length = l.length := by simp [byU]
theorem byU_append (x y : List Int) : byU (x ++ y) = byU x ++ byU y := by simp [byU]
theorem four_by (a : Int) : ByL (four a) := fun z hz => by
 simp only [four, List.mem_cons, List.not_mem_nil, or_false] at hz
 omega
theorem flat_by {L : List (List Int)} (h : ∀ x ∈ L, ByL x) : ByL L.flatten := fun z hz => by
 obtain ⟨x, hx, hzx⟩ := List.mem_flatten.1 hz
 exact h x hx z hzx
theorem brack_by {a : Int} {L : List (List Int)} (h : ∀ x ∈ L, ByL x) : ByL (brack a L) := fun z hz => by
 unfold brack at hz
 rcases List.mem_cons.1 hz with e | hz
 · omega
 ·
  rcases List.mem_append.1 hz with hz | hz
  · exact four_by a z hz
  ·
   rcases List.mem_append.1 hz with hz | hz
   · exact flat_by h z hz
   · simp at hz; omega
theorem textH_by (es : List (Int × Int)) (ts : List Int) : ∀ (f v : Nat) (u : Int), ByL (textH es ts f v u)
 | 0, _, _ => fun z hz => by simp [textH] at hz
 | f + 1, v, u => by
  unfold textH
  refine brack_by fun x hx => ?_
  obtain ⟨w, _, rfl⟩ := List.mem_map.1 (mem_sortB.1 hx)
  exact textH_by es ts f w v
theorem flat_len {L M : List (List Int)} (h : L.Perm M) : L.flatten.length = M.flatten.length := by
 induction h with
 | nil => rfl
 | cons x _ ih => simp only [List.flatten_cons, List.length_append, ih]
 | swap x y l => simp only [List.flatten_cons, List.length_append]; omega
 | trans _ _ h1 h2 => exact h1.trans h2
theorem brack_len (a : Int) (L : List (List Int)) : (brack a L).length = 6 + L.flatten.length := by
 unfold brack
 simp only [List.length_cons, List.length_append, List.length_nil, four]
 omega
theorem flat_six {α : Type} {s t : α → List Int} {p : α → List Nat} : ∀ (cs : List α), (∀ c ∈ cs, (s c).length = 6 * (p c).length) → (cs.map s).flatten.length = 6 * (cs.flatMap p).length
 | [], _ => rfl
 | c :: cs, h => by
  rw [List.map_cons, List.flatten_cons, List.flatMap_cons, List.length_append, List.length_append, h c (by simp), flat_six (t := t) cs fun d hd => h d (by simp [hd])]
  omega
theorem txH_len {n r N : Nat} {es : List (Int × Int)} {up : Nat → Int} {dep : Nat → Nat} (ts : List Int) (h : HV n es r up dep) (ht : TreeV n es) (hN : ∀ v, v < n → dep v < N) : ∀ (f v : Nat), v < n → N ≤ f + dep v → (txH es ts up f v).length = 6 * (preS (chT es ts up N) f v).length
 | 0, v, hv, hd => by have := hN v hv; omega
 | f + 1, v, hv, hd => by
  rw [txH_succ h ht hv, brack_len]
  have hp : (chT es ts up N v).Perm (kidsT es v (up v)) := List.mergeSort_perm _ _
  have e1 : (sortB ((kidsT es v (up v)).map (txH es ts up f))).flatten.length = ((chT es ts up N v).map (txH es ts up f)).flatten.length := flat_len ((List.mergeSort_perm _ _).trans (hp.map _).symm)
  rw [e1]
  unfold preS
  rw [List.length_cons, flat_six (s := txH es ts up f) (t := fun _ => []) (p := preS (chT es ts up N) f) _ fun c hc => ?_]
  · omega
  ·
   obtain ⟨c1, c2⟩ := (chT_ok h ht ts N).1.upc v hv c hc
   have := (h.root c1 c2).2.2.2
   exact txH_len ts h ht hN f c c1 (by omega)
theorem txH_le {n r N : Nat} {es : List (Int × Int)} {up : Nat → Int} {dep : Nat → Nat} (ts : List Int) (h : HV n es r up dep) (ht : TreeV n es) (hN : ∀ v, v < n → dep v < N) {f v : Nat} (hv : v < n) (hd : N ≤ f + dep v) : (txH es ts up f v).length ≤ 6 * n := by
 rw [txH_len ts h ht hN f v hv hd]
 obtain ⟨p1, p2⟩ := h.pre (chT_ok h ht ts N).1 f v hv
 have := nodup_len_le p1 (m := List.range n) fun x hx => List.mem_range.2 (p2 x hx).1
 rw [List.length_range] at this
 omega
theorem sortB_ins {L : List (List Int)} {s : List Int} {at_ : Nat} (hL : L.Pairwise fun x y => ¬ lessB y x) (h1 : ∀ y ∈ L.take at_, ¬ lessB s y) (h2 : ∀ y ∈ L.drop at_, ¬ lessB y s) : (L.take at_ ++ [s] ++ L.drop at_).Perm (L ++ [s]) ∧ (L.take at_ ++ [s] ++ L.drop at_).Pairwise fun x y => ¬ lessB y x := by
 refine ⟨?_, ?_⟩
 ·
  have e : L ++ [s] = L.take at_ ++ L.drop at_ ++ [s] := by rw [List.take_append_drop]
  rw [e, List.append_assoc, List.append_assoc]
  exact List.Perm.append_left _ (List.perm_append_comm)
 ·
  rw [List.append_assoc, List.pairwise_append]
  refine ⟨hL.sublist (List.take_sublist _ _), ?_, fun x hx y hy => ?_⟩
  ·
   rw [List.singleton_append, List.pairwise_cons]; exact ⟨h2, hL.sublist (List.drop_sublist _ _)⟩
  ·
   rw [List.singleton_append] at hy; rcases List.mem_cons.1 hy with e | hy
   · rw [e]; exact h1 x hx
   ·
    rw [← List.take_append_drop at_ L, List.pairwise_append] at hL; exact hL.2.2 x hx y hy
end Go.Proofs.YtagjdkkfmfombaaGreat
namespace Go.Proofs.YtagjdkkfmfombaaGreat
open Go Go.RowKit
def boughB (n : Int) (es : List (Int × Int)) (ts : List Int) : Bool := rightB n es && (decide (0 < n) && (tintsB ts n && decide ((partsL (besideL n.toNat es)).length = 1)))
set_option maxHeartbeats 1000000 in
theorem boughRight_walk (n : Int) (a : Option Addr) (ca : Nat) (es : List (Int × Int)) (b : Option Addr) (cb : Nat) (ts : List Int) (w : World) (hr : RdP w a es) (hcap : es.length ≤ 9223372036854775807) (ht : RdI w b ts) (hl : ts.length ≤ 9223372036854775807) :
  Calls Tryz.prog 15 #[.agg #[.int .i64 n, .slice a es.length ca], .slice b ts.length cb] w fun e w' => e = .returned (.bool (boughB n es ts)) ∧ Below w.heap.size w w' := by
 have hrw := fun w hr => right_walk n a ca es w hr hcap
 have htw := fun w ht => tints_walk b cb ts n w ht hl
 have hpw := fun w hr => partsFn_walk n a ca es w hr hcap
 have hb0 := bl_alloc w (.cells #[.int .i64 n, .slice a es.length ca] 24)
 obtain ⟨pl, hpl⟩ : ∃ pl, pl = (partsL (besideL n.toNat es)).length := ⟨_, rfl⟩
 have c0 : (w.alloc (.cells #[.int .i64 n, .slice a es.length ca] 24)).cell? ⟨w.heap.size, 0, none⟩ = some (.int .i64 n) := by simp
 have c1 : (w.alloc (.cells #[.int .i64 n, .slice a es.length ca] 24)).cell? ⟨w.heap.size, 1, none⟩ = some (.slice a es.length ca) := by simp
 have hr0 := hr.below hb0
 have ht0 := ht.below hb0
 have hbb : boughB n es ts = (rightB n es && (decide (0 < n) && (tintsB ts n && decide (pl = 1)))) := by rw [hpl]; rfl
 have hlp : ∀ (w : World) e w', RetPartsFn w n es e w' → rightB n es = true → Below w.heap.size w w' ∧ ∃ G c, e = .returned (.slice (some ⟨G, 0, none⟩) pl c) := fun w e w' h hrt => by
  obtain ⟨h1, ⟨h2, _⟩ | ⟨_, G, c, vals, h2, _⟩⟩ := h
  · rw [hrt] at h2; cases h2
  · exact ⟨h1, G, c, by rw [hpl]; exact h2⟩
 have Hrw := Lib.hid hrw; have Htw := Lib.hid htw; have Hpw := Lib.hid hpw; have Hb0 := Lib.hid hb0; have Hr0 := Lib.hid hr0; have Ht0 := Lib.hid ht0; have Hbb := Lib.hid hbb; have Hlp := Lib.hid hlp
 clear hrw htw hpw hb0 hr0 ht0 hbb hlp hpl hr ht
 go_enter Tryz.func15, Tryz.ntmps15
 go_wp2_with fail
 refine (Hrw.out _ Hr0.out).mono ?_
 rintro e w1 ⟨rfl, hb1⟩
 have d0 := keep_cell hb1 c0
 have d1 := keep_cell hb1 c1
 have hB1 := bl_trans Hb0.out hb1
 cases hrt : rightB n es with
 | false =>
  have hz : boughB n es ts = false := by rw [Hbb.out, hrt]; rfl
  have HB1 := Lib.hid hB1; have Hz := Lib.hid hz
  clear hB1 hz hrt
  go_wp2_with fail
  go_ret
  exact ⟨by rw [Hz.out]; rfl, HB1.out⟩
 | true =>
  by_cases hn : 0 < n
  ·
   have hn1 : decide (0 < n) = true := decide_eq_true hn; have ht1 := Ht0.out.below hb1; have hr1 := Hr0.out.below hb1; have HB1 := Lib.hid hB1; have Ht1 := Lib.hid ht1; have Hr1 := Lib.hid hr1; have Hrt := Lib.hid hrt; have Hn1 := Lib.hid hn1; clear hB1 ht1 hr1 hrt hn1; go_wp2_with fail; refine (Htw.out _ Ht1.out).mono ?_; rintro e w2 ⟨rfl, rfl⟩; cases htt : tintsB ts n with
   | false =>
    have hz : boughB n es ts = false := by rw [Hbb.out, Hrt.out, Hn1.out, htt]; rfl
    have Hz := Lib.hid hz; clear hz htt; go_wp2_with fail; go_ret; exact ⟨by rw [Hz.out]; rfl, HB1.out⟩
   | true =>
    have Htt := Lib.hid htt; clear htt; go_wp2_with fail; refine (Hpw.out _ Hr1.out).mono ?_; rintro e w3 hp; obtain ⟨hb3, G, c, rfl⟩ := Hlp.out _ _ _ hp Hrt.out; have hz : boughB n es ts = decide (pl = 1) := by rw [Hbb.out, Hrt.out, Hn1.out, Htt.out]; rfl
    have hB3 := bl_trans HB1.out hb3; have Hz := Lib.hid hz; have HB3 := Lib.hid hB3; clear hz hB3 hb3 hp; by_cases hp1 : pl = 1
    ·
     have e1 : ((pl : Int) == 1) = true := by simp [hp1]
     have Hp1 := Lib.hid hp1; clear hp1; go_wp2_with fail; go_ret; exact ⟨by rw [Hz.out, decide_eq_true Hp1.out]; rfl, HB3.out⟩
    ·
     have e1 : ((pl : Int) == 1) = false := by simp; omega
     have Hp1 := Lib.hid hp1; clear hp1; go_wp2_with fail; go_ret; exact ⟨by rw [Hz.out, decide_eq_false Hp1.out]; rfl, HB3.out⟩
  ·
   have hz : boughB n es ts = false := by rw [Hbb.out, decide_eq_false hn]; simp
   have HB1 := Lib.hid hB1; have Hz := Lib.hid hz; clear hB1 hz hrt; go_wp2_with fail; go_ret; exact ⟨by rw [Hz.out]; rfl, HB1.out⟩
theorem parts_all {n : Nat} {es : List (Int × Int)} (hr : rightB n es = true) (hn : 0 < n) (h1 : (partsL (besideL n es)).length = 1) : ∀ x, x < n → x ∈ reachL n es 0 := by
 rw [partsL_eq hr, List.length_map] at h1
 have h0 : 0 ∈ headsL n es := List.mem_filter.2 ⟨List.mem_range.2 hn, by rw [isHead_iff]; intro u hu; omega⟩
 have hone : ∀ v ∈ headsL n es, v = 0 := fun v hv => by
  match hh : headsL n es, h1 with
  | [a], _ =>
   rw [hh] at h0 hv; simp at h0 hv; omega
 intro x hx
 have hmin : ∀ k v, v ≤ k → v < n → x ∈ reachL n es v → ∃ u, u < n ∧ x ∈ reachL n es u ∧ isHead n es u = true := by
  intro k
  induction k with
  | zero =>
   intro v hv hvn hxv; obtain rfl : v = 0 := by omega
   exact ⟨0, hvn, hxv, by rw [isHead_iff]; intro u hu; omega⟩
  | succ k ih =>
   intro v hv hvn hxv; by_cases hh : isHead n es v = true
   · exact ⟨v, hvn, hxv, hh⟩
   ·
    obtain ⟨u, hu, hvu⟩ : ∃ u, u < v ∧ v ∈ reachL n es u := Classical.byContradiction fun hno => hh (isHead_iff.2 fun u hu hm => hno ⟨u, hu, hm⟩); exact ih u (by omega) (by omega) (reach_trans hr (by omega) hvn hvu hxv)
 obtain ⟨u, hu, hxu, hhu⟩ := hmin x x (Nat.le_refl _) hx (reach_refl hr hx)
 have := hone u (List.mem_filter.2 ⟨List.mem_range.2 hu, hhu⟩)
 rw [this] at hxu
 exact hxu
def treeB (n : Int) (es : List (Int × Int)) (ts : List Int) : Bool := decide (n ≤ 30) && (decide ((es.length : Int) = n - 1) && (boughB n es ts && ts.all fun t => decide (t < 16)))
structure TreeTT (n : Nat) (es : List (Int × Int)) (ts : List Int) : Prop where
 tr : TreeV n es
 nl : n ≤ 30
 tl : ts.length = n
 tb : ∀ v, v < n → 0 ≤ ts.getD v 0 ∧ ts.getD v 0 < 16
 tt : tintsB ts n = true
theorem treeB_spec {n : Int} {es : List (Int × Int)} {ts : List Int} (h : treeB n es ts = true) : ∃ m : Nat, n = m ∧ TreeTT m es ts := by
 unfold treeB boughB at h
 simp only [Bool.and_eq_true, decide_eq_true_eq] at h
 obtain ⟨h1, h2, ⟨h3, h4, h5, h6⟩, h7⟩ := h
 obtain ⟨m, rfl⟩ : ∃ m : Nat, n = m := ⟨n.toNat, by omega⟩
 rw [Int.toNat_natCast] at h6
 have h5' := h5
 unfold tintsB at h5
 simp only [Bool.and_eq_true, decide_eq_true_eq, List.all_eq_true] at h5 h7
 refine ⟨m, rfl, ⟨h3, by omega, by omega, parts_all h3 (by omega) h6⟩, by omega, by omega, fun v hv => ?_, h5'⟩
 have hv2 : v < ts.length := by omega
 rw [List.getD_eq_getElem?_getD, List.getElem?_eq_getElem hv2]
 have a := h5.2 _ (List.getElem_mem hv2)
 have b := h7 _ (List.getElem_mem hv2)
 simp only [Option.getD_some]
 omega
set_option maxHeartbeats 1000000 in
theorem tree_walk (n : Int) (a : Option Addr) (ca : Nat) (es : List (Int × Int)) (b : Option Addr) (cb : Nat) (ts : List Int) (w : World) (hn : -9223372036854775808 ≤ n ∧ n ≤ 9223372036854775807) (hr : RdP w a es) (hcap : es.length ≤ 9223372036854775807) (ht : RdI w b ts) (hl : ts.length ≤ 9223372036854775807) :
  Calls Tryz.prog 5 #[.agg #[.int .i64 n, .slice a es.length ca], .slice b ts.length cb] w fun e w' => e = .returned (.bool (treeB n es ts)) ∧ Below w.heap.size w w' := by
 have hbw := fun w hr ht => boughRight_walk n a ca es b cb ts w hr hcap ht hl
 have hb0 := bl_alloc w (.cells #[.int .i64 n, .slice a es.length ca] 24)
 have hr0 := hr.below hb0
 have ht0 := ht.below hb0
 have hbb : treeB n es ts = (decide (n ≤ 30) && (decide ((es.length : Int) = n - 1) && (boughB n es ts && ts.all fun t => decide (t < 16)))) := rfl
 have Hbw := Lib.hid hbw; have Hb0 := Lib.hid hb0; have Hr0 := Lib.hid hr0; have Ht0 := Lib.hid ht0; have Hbb := Lib.hid hbb
 clear hbw hb0 hr0 ht0 hbb hr ht
 go_enter Tryz.func5, Tryz.ntmps5
 by_cases h30 : n ≤ 30
 ·
  have i1 : ¬ n > 30 := by omega
  have hw : IntKind.i64.wrap (n - 1) = n - 1 ∨ n = -9223372036854775808 := by
   by_cases h : n = -9223372036854775808
   · exact .inr h
   · exact .inl (IntWalk.i64_in _ (by omega))
  obtain ⟨z, hzz⟩ : ∃ z, z = IntKind.i64.wrap (n - 1) := ⟨_, rfl⟩
  rw [← hzz] at hw
  have hzz2 := hzz.symm
  clear hzz
  cases hc : ((es.length : Int) != z) with
  | false =>
   have hc2 : (es.length : Int) = z := by simpa using hc
   have Hc2 := Lib.hid hc2; have Hw := Lib.hid hw; clear hc2 hw; go_wp2_with fail; refine (Hbw.out _ Hr0.out Ht0.out).mono ?_; rintro e w1 ⟨rfl, hb1⟩; have hB1 := bl_trans Hb0.out hb1; have ht1 := Ht0.out.below hb1; cases hbo : boughB n es ts with
   | false =>
    have hz : treeB n es ts = false := by rw [Hbb.out, hbo]; simp
    have Hz := Lib.hid hz; have HB1 := Lib.hid hB1; clear hz hB1 hbo ht1; go_wp2_with fail; go_ret; exact ⟨by rw [Hz.out]; rfl, HB1.out⟩
   | true =>
    have hm : (es.length : Int) = n - 1 := by
     rcases Hw.out with e | e
     · rw [Hc2.out, e]
     ·
      unfold boughB at hbo; simp only [Bool.and_eq_true, decide_eq_true_eq] at hbo; omega
    have hz : treeB n es ts = ts.all fun t => decide (t < 16) := by rw [Hbb.out, hbo, decide_eq_true h30, decide_eq_true hm]; rfl
    have Hz := Lib.hid hz; have HB1 := Lib.hid hB1; have Ht1 := Lib.hid ht1; clear hz hB1 hbo ht1 hm hc; go_wp2_with fail; go_loopg [27] ts.length (fun r iv wj => ∃ k : Nat, k + r = ts.length ∧ iv = .int .i64 k ∧ (∀ j (h : j < ts.length), j < k → ts[j] < 16) ∧ w1 = wj)
    case atStart => exact ⟨0, by omega, rfl, fun j _ h => absurd h (by omega), rfl⟩
    case round =>
     obtain ⟨k, hk, rfl, hall, rfl⟩ := hrel; by_cases hkl : k < ts.length
     ·
      obtain ⟨bb, oo, rfl, hx⟩ := Ht1.out.at k hkl; obtain ⟨x, hxx⟩ : ∃ x, x = ts[k] := ⟨_, rfl⟩
      rw [← hxx] at hx; have i4 : (k : Int) < (ts.length : Int) := by omega
      have i5 : (0 : Int) ≤ (k : Int) := by omega
      have Hall := Lib.hid hall; have Hk := Lib.hid hk; have Hxx := Lib.hid hxx; clear hall hk hxx; by_cases h16 : x ≥ 16
      ·
       have hz : treeB n es ts = false := by
        rw [Hz.out, List.all_eq_false]; exact ⟨_, List.getElem_mem hkl, by rw [← Hxx.out]; simp; omega⟩
       have Hz2 := Lib.hid hz; clear hz; go_wp2_with fail; go_ret; exact ⟨by rw [Hz2.out]; rfl, HB1.out⟩
      ·
       go_wp2_with fail; go_roundg (gk - 1)
       case measure => have := Hk.out; omega
       case rel =>
        refine ⟨k + 1, by have := Hk.out; omega, by go_num, fun j hj hjk => ?_, rfl⟩; by_cases e : j = k
        · subst e; rw [← Hxx.out]; omega
        · exact Hall.out j hj (by omega)
     ·
      have i4 : ¬ (k : Int) < (ts.length : Int) := by omega
      have hz : treeB n es ts = true := by
       rw [Hz.out, List.all_eq_true]; intro x hx; obtain ⟨j, hj, rfl⟩ := List.getElem_of_mem hx; exact decide_eq_true (hall j hj (by omega))
      have Hz2 := Lib.hid hz; clear hz hall hk; go_wp2_with fail; go_ret; exact ⟨by rw [Hz2.out]; rfl, HB1.out⟩
  | true =>
   have hc2 : (es.length : Int) ≠ z := by simpa using hc
   have hz : treeB n es ts = false := by
    rw [Hbb.out, decide_eq_false (p := (es.length : Int) = n - 1) fun e => ?_]
    · simp
    ·
     rcases hw with e2 | e2
     · exact hc2 (by rw [e2]; exact e)
     · omega
   have Hz := Lib.hid hz; clear hz hw hc2; go_wp2_with fail; go_ret; exact ⟨by rw [Hz.out]; rfl, Hb0.out⟩
 ·
  have i1 : n > 30 := by omega
  have hz : treeB n es ts = false := by rw [Hbb.out, decide_eq_false h30]; rfl
  have Hz := Lib.hid hz
  clear hz
  go_wp2_with fail
  go_ret
  exact ⟨by rw [Hz.out]; rfl, Hb0.out⟩
end Go.Proofs.YtagjdkkfmfombaaGreat
