/- The search with low points: a vertex is left behind; the start; the end. -/
import Derived.Test.YtagcbnpahgfgmaaCutP
namespace Go.Proofs.Ytagcbnpahgfgmaa

/-- the top v is left; u is the one ahead of it: the root, or another one -/
def CS.pop (s : CS) (v u root : Nat) : CS :=
  { s with stack := s.stack.tail, low := upd s.low u (min (s.low u) (s.low v)), kids := (if u = root then s.kids + 1 else s.kids), cut := (if u ≠ root ∧ s.num u ≤ s.low v then upd s.cut u true else s.cut) }
def CS.drop (s : CS) : CS := { s with stack := s.stack.tail }

section
variable {n : Nat} {bs : Nat → List Nat} {gone : Int} {root : Nat} {s : CS}

theorem CT.root_of (h : CT n bs gone root s) {a : Nat} (hr : [a] = s.stack) : a = root := by
  have := h.chain; rw [← hr] at this; exact this
theorem CT.two (h : CT n bs gone root s) {v : Nat} {r : List Nat} (hs : s.stack = v :: r) (hv : v ≠ root) : ∃ u r', r = u :: r' ∧ s.up v = u ∧ s.num u < s.num v := by
  have h1 := h.chain; rw [hs] at h1
  cases r with
  | nil => exact absurd h1 hv
  | cons u r' =>
    refine ⟨u, r', rfl, h1.1, ?_⟩
    have := h.stS; rw [hs] at this
    exact (List.pairwise_cons.1 this).1 u (by simp)
theorem stk_root (up : Nat → Nat) (root : Nat) : ∀ l : List Nat, l ≠ [] → Stk up root l → root ∈ l := by
  intro l
  induction l with
  | nil => intro h; exact absurd rfl h
  | cons a l ih =>
    intro _ h
    cases l with
    | nil => have : a = root := h; simp [this]
    | cons b l => have := ih (by simp) h.2; simp only [List.mem_cons] at this ⊢; exact .inr this
theorem CT.rootIn (h : CT n bs gone root s) {v : Nat} {r : List Nat} (hs : s.stack = v :: r) : root ∈ s.stack := stk_root s.up root _ (by rw [hs]; simp) h.chain

theorem CT.popLike (ht : CT n bs gone root s) {v : Nat} {r : List Nat} (hs : s.stack = v :: r) (hat : s.at_ v = (bs v).length) (low : Nat → Nat) (kids : Nat) (cut : Nat → Bool) :
    CT n bs gone root { s with stack := r, low := low, kids := kids, cut := cut } := by
  have hmem : ∀ u, u ∈ r → u ∈ s.stack := fun u hu => by rw [hs]; simp [hu]
  have hb : ∀ x, (s.num x ≠ 0 ∧ x ∉ r) → x = v ∨ s.Black x := fun x hx => by
    by_cases e : x = v
    · exact .inl e
    · exact .inr ⟨hx.1, by rw [hs]; simp only [List.mem_cons, not_or]; exact ⟨e, hx.2⟩⟩
  exact {
    numP := ht.numP
    numle := ht.numle
    inj := ht.inj
    root1 := ht.root1
    ord := ht.ord
    stV := fun u hu => ht.stV u (hmem u hu)
    stS := by have := ht.stS; rw [hs] at this; exact (List.pairwise_cons.1 this).2
    chain := by have := ht.chain; rw [hs] at this; exact this.tail
    atLe := ht.atLe
    at0 := ht.at0
    seen := ht.seen
    full := fun x hx => by
      rcases hb x hx with rfl | h
      · exact hat
      · exact ht.full x h
    b1 := fun x u hx hu hlt y hy hp => by
      rcases hb x hx with rfl | h
      · exfalso
        have := ht.stS; rw [hs] at this
        have h1 := (List.pairwise_cons.1 this).1 u hu
        have h2 : s.num x < s.num u := hlt
        omega
      · exact ht.b1 x u h (hmem u hu) hlt y hy hp
    tree := fun u hu => ht.tree u (hmem u hu)
    pth := ht.pth }

variable (ht : CT n bs gone root s) (hl : CL n bs gone root s) (hsy : ∀ a b, b ∈ bs a → a ∈ bs b) {v u : Nat} {r : List Nat} (hs : s.stack = v :: u :: r) (hat : s.at_ v = (bs v).length)
include ht hl hsy hs hat

/-- what lies from v on is shut off by the stack -/
theorem pop_out {y z : Nat} (hy : s.num v ≤ s.num y) (hz : z ∈ bs y) (hp : Pres n gone z) (hlt : s.num z < s.num v) : z ∈ u :: r ∧ s.low v ≤ s.num z := by
  have hv : v ∈ s.stack := by rw [hs]; simp
  have hvn := ht.stV v hv
  have hex : s.Ex bs y z := by
    by_cases e : y = v
    · subst e
      obtain ⟨i, hi, e⟩ := List.getElem_of_mem hz
      exact ⟨i, by rw [hat]; exact hi, by rw [List.getElem?_eq_getElem hi, e]⟩
    · refine ht.full' (ht.above hs ?_) hz
      have : s.num v ≠ s.num y := fun e' => e (ht.inj v y hvn e').symm
      omega
  have hzn := ht.seen y z hex hp
  refine ⟨?_, hl.lb v hv y z (ht.topIn hs hy) hex hp⟩
  refine Classical.byContradiction fun hnot => ?_
  have hzb : s.Black z := ⟨hzn, by rw [hs]; simp only [List.mem_cons, not_or] at hnot ⊢; exact ⟨fun e => by subst e; omega, hnot⟩⟩
  have := ht.b1 z v hzb hv hlt y (hsy _ _ hz) (ht.numP y (by omega))
  omega

theorem CL.pop : CL n bs gone root (s.pop v u root) := by
  have hv : v ∈ s.stack := by rw [hs]; simp
  have hu : u ∈ s.stack := by rw [hs]; simp
  have hvn := ht.stV v hv
  have hun := ht.stV u hu
  have hstk : (s.pop v u root).stack = u :: r := by show s.stack.tail = _; rw [hs]; rfl
  have hst := ht.stS; rw [hs, List.pairwise_cons, List.pairwise_cons] at hst
  have huv : s.num u < s.num v := hst.1 u (by simp)
  have hr : ∀ z ∈ r, s.num z < s.num u := hst.2.1
  have hmem : ∀ z, z ∈ u :: r → z ∈ s.stack := fun z hz => by rw [hs]; exact List.mem_cons_of_mem _ hz
  have hrv : root ≠ v := fun e => by have := ht.root1; rw [e] at this; omega
  have hu1 : s.num root ≤ s.num u := by have := ht.root1; omega
  have nm : ∀ x, (s.pop v u root).num x = s.num x := fun _ => rfl
  have hb : ∀ x, (s.pop v u root).Black x → x = v ∨ s.Black x := fun x hx => by
    by_cases e : x = v
    · exact .inl e
    · refine .inr ⟨hx.1, fun h => hx.2 ?_⟩
      rw [hstk]; rw [hs] at h
      rcases List.mem_cons.1 h with h | h
      · exact absurd h e
      · exact h
  have hb2 : ∀ x, s.Black x → (s.pop v u root).Black x := fun x hx => ⟨hx.1, fun h => hx.2 (hmem x (by rw [← hstk]; exact h))⟩
  have hbv : (s.pop v u root).Black v := ⟨hvn, fun h => by
    rw [hstk] at h
    rcases List.mem_cons.1 h with h | h
    · rw [← h] at huv; omega
    · have := hr v h; omega⟩
  have inb2 : ∀ z x, s.InB z x → (s.pop v u root).InB z x := fun z x h => ⟨h.1, fun a ha => h.2 a (hmem a (by rw [← hstk]; exact ha))⟩
  have inb : ∀ z ∈ u :: r, ∀ x, (s.pop v u root).InB z x → s.InB z x ∨ (z = u ∧ s.num v ≤ s.num x) := fun z hz x h => by
    by_cases hvx : s.num v ≤ s.num x
    · rcases List.mem_cons.1 hz with e | hz
      · exact .inr ⟨e, hvx⟩
      · exfalso
        have h1 := h.2 u (by rw [hstk]; simp) (hr z hz)
        have h2 : s.num x < s.num u := h1
        omega
    · refine .inl ⟨h.1, fun a ha hlt => ?_⟩
      rw [hs] at ha
      rcases List.mem_cons.1 ha with rfl | ha
      · omega
      · exact h.2 a (by rw [hstk]; exact ha) hlt
  have low1 : ∀ z, z ≠ u → (s.pop v u root).low z = s.low z := fun z hz => upd_ne _ _ hz
  have lowu : (s.pop v u root).low u = min (s.low u) (s.low v) := upd_same _ _ _
  have lowle : ∀ z, (s.pop v u root).low z ≤ s.low z := fun z => by
    by_cases e : z = u
    · subst e; rw [lowu]; exact Nat.min_le_left _ _
    · rw [low1 z e]; exact Nat.le_refl _
  -- within the part from v on, without u
  have tr : ∀ x, s.num v ≤ s.num x → Con bs (Av n gone u) v x := fun x hx =>
    (ht.tree v hv x hx).mono fun a ⟨h1, h2⟩ => ⟨h1, fun e => by subst e; omega⟩
  -- nothing from v on leads ahead of u: u parts it
  have sep : s.num u ≤ s.low v → ∀ x, Con bs (Av n gone u) v x → s.num v ≤ s.num x := fun hlow x hx => by
    refine hx.closed (fun y => s.num v ≤ s.num y) (fun y z hy hz hp => ?_) (Nat.le_refl _)
    refine Classical.byContradiction fun hnot => ?_
    obtain ⟨h1, h2⟩ := pop_out ht hl hsy hs hat hy hz hp.1 (by omega)
    rcases List.mem_cons.1 h1 with e | h1
    · exact hp.2 e
    · have := hr z h1; omega
  have sepR : u = root → ∀ x, Con bs (Av n gone root) v x → s.num v ≤ s.num x := fun hur x hx => by
    have hrn : r = [] := by
      cases r with
      | nil => rfl
      | cons a r' =>
        have h1 := hr a (by simp)
        have h2 := ht.stV a (by rw [hs]; simp)
        have := ht.root1
        rw [hur] at h1; omega
    refine hx.closed (fun y => s.num v ≤ s.num y) (fun y z hy hz hp => ?_) (Nat.le_refl _)
    refine Classical.byContradiction fun hnot => ?_
    obtain ⟨h1, _⟩ := pop_out ht hl hsy hs hat hy hz hp.1 (by omega)
    rw [hrn] at h1
    simp at h1
    exact hp.2 (h1.trans hur)
  refine ⟨?_, ?_, ?_, ?_, ?_, ?_, ?_, ?_, ?_⟩
  · intro z hz
    rw [hstk] at hz
    exact Nat.le_trans (lowle z) (hl.lowle z (hmem z hz))
  · intro z hz x w hx he hp
    rw [hstk] at hz
    rcases inb z hz x hx with h | ⟨rfl, h⟩
    · exact Nat.le_trans (lowle z) (hl.lb z (hmem z hz) x w h he hp)
    · rw [lowu]
      exact Nat.le_trans (Nat.min_le_right _ _) (hl.lb v hv x w (ht.topIn hs h) he hp)
  · intro z hz
    rw [hstk] at hz
    by_cases e : z = u
    · subst e
      rw [lowu]
      by_cases hmin : s.low z ≤ s.low v
      · rw [Nat.min_eq_left hmin]
        rcases hl.att z hu with h1 | ⟨x, y, h1, h2, h3, h4⟩
        · exact .inl h1
        · exact .inr ⟨x, y, inb2 z x h1, h2, h3, h4⟩
      · rw [Nat.min_eq_right (by omega)]
        rcases hl.att v hv with h1 | ⟨x, y, h1, h2, h3, h4⟩
        · have := hl.lowle z hu; omega
        · refine .inr ⟨x, y, ⟨?_, fun a ha hlt => ?_⟩, h2, h3, h4⟩
          · have := h1.1; show s.num z ≤ s.num x; omega
          · rw [hstk] at ha
            rcases List.mem_cons.1 ha with rfl | ha
            · exact absurd hlt (Nat.lt_irrefl _)
            · have h5 := hr a ha
              have h6 : s.num z < s.num a := hlt
              omega
    · rw [low1 z e]
      rcases hl.att z (hmem z hz) with h1 | ⟨x, y, h1, h2, h3, h4⟩
      · exact .inl h1
      · exact .inr ⟨x, y, inb2 z x h1, h2, h3, h4⟩
  · intro z hz
    by_cases hc : u ≠ root ∧ s.num u ≤ s.low v
    · have e1 : (s.pop v u root).cut = upd s.cut u true := if_pos hc
      rw [e1] at hz
      by_cases e : z = u
      · subst e
        refine ⟨hc.1, hun, v, hvn, fun e => by subst e; omega, fun hcon => ?_⟩
        have := sep hc.2 root (hcon.symm hsy)
        have := ht.root1; omega
      · rw [upd_ne _ _ e] at hz; exact hl.cutT z hz
    · have e1 : (s.pop v u root).cut = s.cut := if_neg hc
      rw [e1] at hz
      exact hl.cutT z hz
  · intro z hzr hzb hzc x hx hxz
    rcases hb z hzb with rfl | hzb
    · have hc' : s.cut z = false := by
        by_cases hc : u ≠ root ∧ s.num u ≤ s.low z
        · have e1 : (s.pop z u root).cut = upd s.cut u true := if_pos hc
          rw [e1, upd_ne _ _ (fun (e : z = u) => by rw [e] at huv; omega)] at hzc; exact hzc
        · have e1 : (s.pop z u root).cut = s.cut := if_neg hc
          rw [e1] at hzc; exact hzc
      have hx' : s.num x ≠ 0 := hx
      by_cases hlt : s.num x < s.num z
      · exact (ht.pth x hx').mono fun a ⟨h1, h2, h3⟩ => ⟨h1, fun e => by subst e; omega⟩
      · have hne : s.num z ≠ s.num x := fun e' => hxz (ht.inj z x hvn e').symm
        exact hl.cutS z hv hzr hc' x (ht.above hs (by omega)) (ht.topIn hs (by omega))
    · have hzu : z ≠ u := fun e => hzb.2 (by rw [e]; exact hu)
      have hc' : s.cut z = false := by
        by_cases hc : u ≠ root ∧ s.num u ≤ s.low v
        · have e1 : (s.pop v u root).cut = upd s.cut u true := if_pos hc
          rw [e1, upd_ne _ _ hzu] at hzc; exact hzc
        · have e1 : (s.pop v u root).cut = s.cut := if_neg hc
          rw [e1] at hzc; exact hzc
      exact hl.cutF z hzr hzb hc' x hx hxz
  · intro z hz hzr hzc x hxb hin
    rw [hstk] at hz
    by_cases e : z = u
    · subst e
      have hlow : s.low v < s.num z := by
        refine Classical.byContradiction fun hnot => ?_
        have e1 : (s.pop v z root).cut = upd s.cut z true := if_pos ⟨hzr, by omega⟩
        rw [e1, upd_same] at hzc; cases hzc
      have hc' : s.cut z = false := by
        have e1 : (s.pop v z root).cut = s.cut := if_neg fun h => by omega
        rw [e1] at hzc; exact hzc
      rcases inb z hz x hin with h | ⟨_, h⟩
      · have hxv : x ≠ v := fun e => by
          subst e
          have := h.2 x hv huv; omega
        rcases hb x hxb with e | hxb
        · exact absurd e hxv
        · exact hl.cutS z hu hzr hc' x hxb h
      · rcases hl.att v hv with h1 | ⟨y, w, h1, h2, h3, h4⟩
        · omega
        · have c1 : Con bs (Av n gone z) root w := (ht.pth w h3).mono fun a ⟨k1, k2, k3⟩ => ⟨k1, fun e => by subst e; omega⟩
          have hyn : s.num y ≠ 0 := by have := h1.1; omega
          have c2 : Con bs (Av n gone z) root y := c1.step (hsy _ _ h2) ⟨ht.numP y hyn, fun e => by subst e; have := h1.1; omega⟩
          exact (c2.trans ((tr y h1.1).symm hsy)).trans (tr x h)
    · have hc' : s.cut z = false := by
        by_cases hc : u ≠ root ∧ s.num u ≤ s.low v
        · have e1 : (s.pop v u root).cut = upd s.cut u true := if_pos hc
          rw [e1, upd_ne _ _ e] at hzc; exact hzc
        · have e1 : (s.pop v u root).cut = s.cut := if_neg hc
          rw [e1] at hzc; exact hzc
      rcases inb z hz x hin with h | ⟨h, _⟩
      · have hzv : s.num z < s.num v := by
          rcases List.mem_cons.1 hz with e' | hz
          · exact absurd e' e
          · have := hr z hz; omega
        rcases hb x hxb with e' | hxb
        · subst e'
          have := h.2 x hv hzv; omega
        · exact hl.cutS z (hmem z hz) hzr hc' x hxb h
      · exact absurd h e
  · intro hk x hxr hxb hin
    have hur : u ≠ root := fun e => by
      have e1 : (s.pop v u root).kids = s.kids + 1 := if_pos e
      omega
    have e1 : (s.pop v u root).kids = s.kids := if_neg hur
    rw [e1] at hk
    have hri : root ∈ u :: r := by
      have := ht.rootIn hs; rw [hs] at this
      rcases List.mem_cons.1 this with h | h
      · exact absurd h hrv
      · exact h
    rcases inb root hri x hin with h | ⟨h, _⟩
    · rcases hb x hxb with rfl | hxb
      · have := h.2 x hv (by omega); omega
      · exact hl.kids0 hk x hxr hxb h
    · exact hur h.symm
  · intro hk
    by_cases hur : u = root
    · have e1 : (s.pop v u root).kids = s.kids + 1 := if_pos hur
      have hk0 : s.kids = 0 := by omega
      refine ⟨v, hrv.symm, hbv, ⟨by show s.num root ≤ s.num v; omega, fun a ha hlt => ?_⟩, fun x hxr hxb hin => ?_⟩
      · rw [hstk] at ha
        rcases List.mem_cons.1 ha with rfl | ha
        · rw [hur] at hlt; exact absurd hlt (Nat.lt_irrefl _)
        · have h1 := hr a ha
          have h2 : s.num root < s.num a := hlt
          rw [hur] at h1; omega
      · rcases inb root (by rw [← hur]; simp) x hin with h | ⟨_, h⟩
        · rcases hb x hxb with rfl | hxb
          · rw [← hur]; exact tr x (Nat.le_refl _)
          · exact absurd h (hl.kids0 hk0 x hxr hxb)
        · rw [← hur]; exact tr x h
    · have e1 : (s.pop v u root).kids = s.kids := if_neg hur
      rw [e1] at hk
      have hri : root ∈ u :: r := by
        have := ht.rootIn hs; rw [hs] at this
        rcases List.mem_cons.1 this with h | h
        · exact absurd h hrv
        · exact h
      obtain ⟨c, h1, h2, h3, h4⟩ := hl.kids1 hk
      refine ⟨c, h1, hb2 c h2, inb2 root c h3, fun x hxr hxb hin => ?_⟩
      rcases inb root hri x hin with h | ⟨h, _⟩
      · rcases hb x hxb with rfl | hxb
        · have := h.2 x hv (by omega); omega
        · exact h4 x hxr hxb h
      · exact absurd h.symm hur
  · intro hk
    by_cases hur : u = root
    · have e1 : (s.pop v u root).kids = s.kids + 1 := if_pos hur
      by_cases hk1 : s.kids = 1
      · obtain ⟨c, h1, h2, h3, h4⟩ := hl.kids1 hk1
        refine ⟨v, c, hvn, h2.1, hrv.symm, h1, fun hcon => ?_⟩
        have h5 := sepR hur c hcon
        have h6 := h3.2 v hv (by rw [← hur]; exact huv)
        omega
      · exact hl.kids2 (by omega)
    · have e1 : (s.pop v u root).kids = s.kids := if_neg hur
      rw [e1] at hk
      exact hl.kids2 hk
end

section
variable {n : Nat} {bs : Nat → List Nat} {gone : Int} {root : Nat} {s : CS}
/-- the root is left: the search is over -/
theorem CL.drop (hl : CL n bs gone root s) (hs : s.stack = [root]) : CL n bs gone root s.drop := by
  have hstk : s.drop.stack = [] := by show s.stack.tail = _; rw [hs]; rfl
  have hb : ∀ x, s.drop.Black x → x = root ∨ s.Black x := fun x hx => by
    by_cases e : x = root
    · exact .inl e
    · exact .inr ⟨hx.1, by rw [hs]; simpa using e⟩
  have hb2 : ∀ x, s.Black x → s.drop.Black x := fun x hx => ⟨hx.1, by rw [hstk]; simp⟩
  have inb : ∀ x, s.drop.InB root x → s.InB root x := fun x h => ⟨h.1, fun a ha hlt => by
    rw [hs] at ha; simp at ha; subst ha; exact absurd hlt (Nat.lt_irrefl _)⟩
  have inb2 : ∀ x, s.InB root x → s.drop.InB root x := fun x h => ⟨h.1, fun a ha => by rw [hstk] at ha; simp at ha⟩
  have no : ∀ z, z ∉ s.drop.stack := fun z => by rw [hstk]; simp
  refine ⟨fun z hz => absurd hz (no z), fun z hz => absurd hz (no z), fun z hz => absurd hz (no z), hl.cutT, fun z hzr hzb hzc x hx hxz => ?_, fun z hz => absurd hz (no z), fun hk x hxr hxb hin => ?_, fun hk => ?_, hl.kids2⟩
  · rcases hb z hzb with e | hzb
    · exact absurd e hzr
    · exact hl.cutF z hzr hzb hzc x hx hxz
  · rcases hb x hxb with e | hxb
    · exact absurd e hxr
    · exact hl.kids0 hk x hxr hxb (inb x hin)
  · obtain ⟨c, h1, h2, h3, h4⟩ := hl.kids1 hk
    refine ⟨c, h1, hb2 c h2, inb2 c h3, fun x hxr hxb hin => ?_⟩
    rcases hb x hxb with e | hxb
    · exact absurd e hxr
    · exact h4 x hxr hxb (inb x hin)

def CS.start (root : Nat) : CS := ⟨upd (fun _ => 0) root 1, upd (fun _ => 0) root 1, fun _ => 0, fun _ => 0, fun _ => false, [root], 1, 0⟩
theorem CT.start (hr : Pres n gone root) : CT n bs gone root (CS.start root) := by
  have nr : (CS.start root).num root = 1 := by simp [CS.start, upd]
  have no : ∀ x, x ≠ root → (CS.start root).num x = 0 := fun x hx => by simp [CS.start, upd, hx]
  have only : ∀ x, (CS.start root).num x ≠ 0 → x = root := fun x hx => Classical.byContradiction fun e => hx (no x e)
  have nb : ∀ x, ¬ (CS.start root).Black x := fun x hx => hx.2 (by show x ∈ [root]; simp [only x hx.1])
  refine ⟨fun x hx => by rw [only x hx]; exact hr, fun x => ?_, fun x y hx e => ?_, nr, ⟨[root], by simp, rfl, fun x => ?_⟩, fun v hv => ?_, by show [root].Pairwise _; simp, rfl, fun v => Nat.zero_le _, fun _ _ => rfl, fun v w ⟨i, hi, _⟩ => absurd hi (Nat.not_lt_zero _), fun x hx => absurd hx (nb x), fun x v hx => absurd hx (nb x), fun v hv x hx => ?_, fun x hx => ?_⟩
  · by_cases e : x = root
    · subst e; rw [nr]; exact Nat.le_refl _
    · rw [no x e]; exact Nat.zero_le _
  · rw [only x hx, only y (by rw [← e]; exact hx)]
  · constructor
    · intro h; simp at h; subst h; omega
    · intro h; simp [only x h]
  · have : v ∈ [root] := hv
    simp at this; subst this; omega
  · have : v ∈ [root] := hv
    simp at this; subst this
    rw [only x (by omega)]
    exact .refl ⟨hr, Nat.le_refl _⟩
  · rw [only x hx]
    exact .refl ⟨hr, by omega, Nat.le_refl _⟩
theorem CL.start : CL n bs gone root (CS.start root) := by
  have no : ∀ x, x ≠ root → (CS.start root).num x = 0 := fun x hx => by simp [CS.start, upd, hx]
  have only : ∀ x, (CS.start root).num x ≠ 0 → x = root := fun x hx => Classical.byContradiction fun e => hx (no x e)
  have nb : ∀ x, ¬ (CS.start root).Black x := fun x hx => hx.2 (by show x ∈ [root]; simp [only x hx.1])
  refine ⟨fun v _ => Nat.le_refl _, fun v _ x w _ ⟨i, hi, _⟩ => absurd hi (Nat.not_lt_zero _), fun v _ => .inl rfl, fun u hu => ?_, fun u _ hb => absurd hb (nb u), fun u _ _ _ x hx => absurd hx (nb x), fun _ x _ hx => absurd hx (nb x), fun hk => ?_, fun hk => ?_⟩
  · cases hu
  · cases hk
  · exact absurd hk (by show ¬ 2 ≤ 0; omega)

def presB (gone : Int) (x : Nat) : Bool := decide ((x : Int) ≠ gone)
theorem nodup_len_le {l m : List Nat} (h : l.Nodup) (hs : ∀ x ∈ l, x ∈ m) : l.length ≤ m.length := by
  induction l generalizing m with
  | nil => simp
  | cons a l ih =>
    obtain ⟨h1, h2⟩ := List.nodup_cons.1 h
    have ha := hs a (by simp)
    have h3 := ih (m := m.erase a) h2 fun x hx => by
      have hxa : x ≠ a := fun e => h1 (e ▸ hx)
      exact (List.mem_erase_of_ne hxa).2 (hs x (by simp [hx]))
    rw [List.length_erase_of_mem ha] at h3
    have := List.length_pos_of_mem ha
    simp only [List.length_cons]; omega
/-- What the search tells: 'join': whether all of them hang together; 'cut': without whom they don't. -/
structure CutSpec (n : Nat) (bs : Nat → List Nat) (gone : Int) (join : Bool) (cut : Nat → Bool) : Prop where
  join_iff : join = true ↔ ∀ x y, Pres n gone x → Pres n gone y → Con bs (Pres n gone) x y
  cut_iff : join = true → ∀ u, Pres n gone u → (cut u = true ↔ ∃ x y, Av n gone u x ∧ Av n gone u y ∧ ¬ Con bs (Av n gone u) x y)
  cut_no : ∀ u, ¬ Pres n gone u → cut u = false

/-- at the end -/
theorem cut_end (ht : CT n bs gone root s) (hl : CL n bs gone root s) (hsy : ∀ a b, b ∈ bs a → a ∈ bs b) (hs : s.stack = []) (left : Nat) (hleft : left = ((List.range n).filter (presB gone)).length) :
    CutSpec n bs gone (decide (s.met = left)) (upd s.cut root (decide (1 < s.kids))) := by
  have hblack : ∀ x, s.num x ≠ 0 → s.Black x := fun x hx => ⟨hx, by rw [hs]; simp⟩
  have hin : ∀ x, s.num x ≠ 0 → s.InB root x := fun x hx => ⟨by have := ht.root1; omega, fun a ha => by rw [hs] at ha; simp at ha⟩
  have hrn : s.num root ≠ 0 := by have := ht.root1; omega
  have hpr := ht.numP root hrn
  have hreach : ∀ x, Con bs (Pres n gone) root x → s.num x ≠ 0 := fun x hx =>
    hx.closed (fun y => s.num y ≠ 0) (fun a b ha hb hp => ht.seen a b (ht.full' (hblack a ha) hb) hp) hrn
  have hall : s.met = left ↔ ∀ x, Pres n gone x → s.num x ≠ 0 := by
    obtain ⟨o, h1, h2, h3⟩ := ht.ord
    have hsub : ∀ x ∈ o, x ∈ (List.range n).filter (presB gone) := fun x hx => by
      have := ht.numP x ((h3 x).1 hx)
      simp only [List.mem_filter, List.mem_range, presB, decide_eq_true_eq]
      exact this
    have hnd : ((List.range n).filter (presB gone)).Nodup := List.nodup_range.filter _
    constructor
    · intro e x hx
      rw [← h3]
      refine Classical.byContradiction fun hno => ?_
      have hs2 : o ⊆ ((List.range n).filter (presB gone)).erase x := fun y hy => by
        rw [List.Nodup.mem_erase_iff hnd]
        exact ⟨fun e => hno (e ▸ hy), hsub y hy⟩
      have hle := nodup_len_le h1 hs2
      have hmem : x ∈ (List.range n).filter (presB gone) := by
        simp only [List.mem_filter, List.mem_range, presB, decide_eq_true_eq]; exact hx
      have hlen := List.length_erase_of_mem hmem
      have hpos := List.length_pos_of_mem hmem
      omega
    · intro hx
      have hs2 : ((List.range n).filter (presB gone)) ⊆ o := fun y hy => by
        simp only [List.mem_filter, List.mem_range, presB, decide_eq_true_eq] at hy
        exact (h3 y).2 (hx y hy)
      have a1 := nodup_len_le h1 hsub
      have a2 := nodup_len_le hnd hs2
      omega
  have hjoin : s.met = left → ∀ x, Pres n gone x → Con bs (Pres n gone) root x := fun e x hx =>
    (ht.pth x (hall.1 e x hx)).mono fun a h => h.1
  refine ⟨?_, ?_, ?_⟩
  · rw [decide_eq_true_eq]
    constructor
    · intro e x y hx hy
      exact ((hjoin e x hx).symm hsy).trans (hjoin e y hy)
    · intro h
      exact hall.2 fun x hx => hreach x (h root x hpr hx)
  · intro hj u hu
    rw [decide_eq_true_eq] at hj
    have hvis := hall.1 hj
    by_cases e : u = root
    · subst e
      rw [upd_same, decide_eq_true_eq]
      constructor
      · intro hk
        obtain ⟨c, d, h1, h2, h3, h4, h5⟩ := hl.kids2 hk
        exact ⟨c, d, ⟨ht.numP c h1, h3⟩, ⟨ht.numP d h2, h4⟩, h5⟩
      · rintro ⟨x, y, hx, hy, hno⟩
        refine Classical.byContradiction fun hk => ?_
        by_cases hk0 : s.kids = 0
        · exact hl.kids0 hk0 x hx.2 (hblack x (hvis x hx.1)) (hin x (hvis x hx.1))
        · obtain ⟨c, h1, h2, h3, h4⟩ := hl.kids1 (by omega)
          exact hno (((h4 x hx.2 (hblack x (hvis x hx.1)) (hin x (hvis x hx.1))).symm hsy).trans (h4 y hy.2 (hblack y (hvis y hy.1)) (hin y (hvis y hy.1))))
    · rw [upd_ne _ _ e]
      constructor
      · intro hc
        obtain ⟨h1, h2, c, h3, h4, h5⟩ := hl.cutT u hc
        exact ⟨root, c, ⟨hpr, fun e' => e e'.symm⟩, ⟨ht.numP c h3, h4⟩, h5⟩
      · rintro ⟨x, y, hx, hy, hno⟩
        refine Classical.byContradiction fun hc => ?_
        have hc' : s.cut u = false := by simpa using hc
        have hf := hl.cutF u e (hblack u (hvis u hu)) hc'
        exact hno (((hf x (hvis x hx.1) hx.2).symm hsy).trans (hf y (hvis y hy.1) hy.2))
  · intro u hu
    have e : u ≠ root := fun e => hu (e ▸ hpr)
    rw [upd_ne _ _ e]
    refine Classical.byContradiction fun hc => ?_
    exact hu (ht.numP u (hl.cutT u (by simpa using hc)).2.1)
end
end Go.Proofs.Ytagcbnpahgfgmaa
