/- Facts that the claim rests on, part 15. -/
import Derived.Test.YtagjdkkfmfombaaGreatKB13
namespace Go.Proofs.YtagjdkkfmfombaaGreat
open Go Go.RowKit
section
variable {P : Program} {md : Region.Mode} {l : List Oper} {Q : Exit → Act → World → Prop} {S : World → Prop} {M : Nat}
theorem invT (hS : ∀ w, S w) (Inv : Nat → Array Bool → Act → World → Prop) (h0 : ∀ L a w, Inv 0 L a w → Region.ready md l.toArray L = [] ∧ Q .normal a w)
  (hs : ∀ f L a w, Inv (f + 1) L a w → Region.ready md l.toArray L ≠ [] ∧ ∀ i ∈ Region.ready md l.toArray L, ∃ o, l[i]? = some o ∧ ∀ K : Act → World → Prop, (∀ a w, Inv f (L.setIfInBounds i true) a w → K a w) →
   if Region.wanted o (yielded l.toArray a.tmps) = true then Oper.wp P o a w K Q else K (a.put o.dst undef) w) :
  ∀ (f : Nat) (L : Array Bool) (a : Act) (w : World), Inv f L a w → anyT P md l.toArray Q S M f L a w
 | 0, L, a, w, h => h0 L a w h
 | f + 1, L, a, w, h => ⟨fun e => absurd e (hs f L a w h).1, fun i hi => by
   obtain ⟨o, ho, hk⟩ := (hs f L a w h).2 i hi
   exact wpOp_step (by simpa using ho) fun K hK => hk K fun a w hI => hK a w ⟨fun _ => hS w, invT hS Inv h0 hs f _ _ _ hI⟩⟩
end
def putsL (a : Act) (ds : List Nat) (v : Nat → Value) : Act := ds.foldl (fun a d => a.put (some d) (v d)) a
theorem putsL_size : ∀ (ds : List Nat) (a : Act) (v : Nat → Value), (putsL a ds v).tmps.size = a.tmps.size ∧ (putsL a ds v).defers = a.defers
 | [], _, _ => ⟨rfl, rfl⟩
 | d :: ds, a, v => by
  obtain ⟨h1, h2⟩ := putsL_size ds (a.put (some d) (v d)) v
  exact ⟨h1.trans (by simp [Act.put]), h2.trans rfl⟩
theorem putsL_get : ∀ (ds : List Nat) (a : Act) (v : Nat → Value) (k : Nat), k < a.tmps.size → (putsL a ds v).tmps[k]? = if k ∈ ds then some (v k) else a.tmps[k]?
 | [], _, _, _, _ => by simp [putsL]
 | d :: ds, a, v, k, hk => by
  have := putsL_get ds (a.put (some d) (v d)) v k (by simpa [Act.put] using hk)
  unfold putsL at this ⊢
  rw [List.foldl_cons, this]
  by_cases h : k ∈ ds
  · rw [if_pos h, if_pos (by simp [h])]
  ·
   rw [if_neg h]
   by_cases e : k = d
   ·
    subst e
    rw [if_pos (by simp)]
    simp [Act.put, hk]
   ·
    rw [if_neg (by simp [h, e])]
    simp [Act.put, Array.getElem?_setIfInBounds, Ne.symm e]
theorem putsL_eval {ds : List Nat} {a : Act} {v : Nat → Value} {k : Nat} (hk : k < a.tmps.size) (h : k ∈ ds) : (putsL a ds v).eval (.tmp k) = v k := by
 show (putsL a ds v).tmps.getD k undef = v k
 rw [Array.getD_eq_getD_getElem?, putsL_get ds a v k hk, if_pos h]; rfl
theorem putsL_put {ds : List Nat} {a : Act} {v : Nat → Value} {d : Nat} (hd : d ∈ ds) (hds : ∀ k ∈ ds, k < a.tmps.size) (x : Value) : (putsL a ds v).put (some d) x = putsL a ds (fun k => if k = d then x else v k) := by
 obtain ⟨s1, s2⟩ := putsL_size ds a v
 obtain ⟨r1, r2⟩ := putsL_size ds a (fun k => if k = d then x else v k)
 have e : ((putsL a ds v).put (some d) x).tmps = (putsL a ds (fun k => if k = d then x else v k)).tmps := by
  apply Array.ext_getElem?
  intro k
  show ((putsL a ds v).tmps.setIfInBounds d x)[k]? = _
  by_cases hk : k < a.tmps.size
  ·
   rw [Array.getElem?_setIfInBounds, putsL_get ds a _ k hk, putsL_get ds a _ k hk]; by_cases e : d = k
   ·
    subst e; rw [if_pos rfl, if_pos (by rw [s1]; exact hk), if_pos hd, if_pos rfl]
   · rw [if_neg e, if_neg (Ne.symm e)]
  · rw [Array.getElem?_eq_none (by simp [s1]; omega), Array.getElem?_eq_none (by omega)]
 have e2 : ((putsL a ds v).put (some d) x).defers = (putsL a ds (fun k => if k = d then x else v k)).defers := by
  show (putsL a ds v).defers = _
  rw [s2, r2]
 cases h1 : (putsL a ds v).put (some d) x
 cases h2 : putsL a ds (fun k => if k = d then x else v k)
 rw [h1, h2] at e e2
 simp only at e e2
 rw [e, e2]
def lstM (m : Nat → Bool) (p : Nat) : Array Bool := ((List.range 24).map fun i => if i = 5 then m 0 else if i = 7 then m 1 else if i = 9 then m 2 else if i = 11 then m 3 else if i < 12 then true else decide (i - 12 < p)).toArray
def reqM (m : Nat → Bool) (p : Nat) : Bool := (decide (p < 1) || m 0) && (decide (p < 4) || m 1) && (decide (p < 7) || m 2) && (decide (p < 10) || m 3)
def bitM (b0 b1 b2 b3 : Bool) : Nat → Bool := fun k => if k = 0 then b0 else if k = 1 then b1 else if k = 2 then b2 else b3
def oneM (md : Region.Mode) (ops : Array Oper) (m : Nat → Bool) (p : Nat) : Bool :=
 !reqM m p || ((Region.ready md ops (lstM m p)).all (fun i => (List.range 4).any (fun k => i == 5 + 2 * k && !m k) || (i == 12 + p && decide (p < 12) && reqM m (p + 1))) && ((Region.ready md ops (lstM m p) == []) == (m 0 && m 1 && m 2 && m 3 && p == 12)))
def chkM (md : Region.Mode) (ops : Array Oper) : Bool :=
 [true, false].all fun b0 => [true, false].all fun b1 => [true, false].all fun b2 => [true, false].all fun b3 => (List.range 13).all fun p => oneM md ops (bitM b0 b1 b2 b3) p
theorem chkM_at {md : Region.Mode} {ops : Array Oper} (h : chkM md ops = true) (m : Nat → Bool) {p : Nat} (hp : p ≤ 12) : oneM md ops m p = true := by
 have hb : ∀ b : Bool, b ∈ [true, false] := fun b => by cases b <;> simp
 unfold chkM at h
 rw [List.all_eq_true] at h
 have h1 := h _ (hb (m 0))
 rw [List.all_eq_true] at h1
 have h2 := h1 _ (hb (m 1))
 rw [List.all_eq_true] at h2
 have h3 := h2 _ (hb (m 2))
 rw [List.all_eq_true] at h3
 have h4 := h3 _ (hb (m 3))
 rw [List.all_eq_true] at h4
 have h5 := h4 p (List.mem_range.2 (by omega))
 have e1 : lstM (bitM (m 0) (m 1) (m 2) (m 3)) p = lstM m p := rfl
 have e2 : ∀ p, reqM (bitM (m 0) (m 1) (m 2) (m 3)) p = reqM m p := fun _ => rfl
 unfold oneM at h5 ⊢
 rw [e1, e2, e2] at h5
 have e3 : ∀ i, ((List.range 4).any fun k => i == 5 + 2 * k && !bitM (m 0) (m 1) (m 2) (m 3) k) = (List.range 4).any fun k => i == 5 + 2 * k && !m k := fun i => rfl
 simp only [e3] at h5
 exact h5
def updB (m : Nat → Bool) (k : Nat) : Nat → Bool := fun j => if j = k then true else m j
theorem lstM_make (m : Nat → Bool) (p : Nat) {k : Nat} (hk : k < 4) : (lstM m p).setIfInBounds (5 + 2 * k) true = lstM (updB m k) p := by
 match k, hk with
 | 0, _ => rfl
 | 1, _ => rfl
 | 2, _ => rfl
 | 3, _ => rfl
theorem lstM_chain (m : Nat → Bool) {p : Nat} (hp : p < 12) : (lstM m p).setIfInBounds (12 + p) true = lstM m (p + 1) := by
 match p, hp with
 | 0, _ => rfl
 | 1, _ => rfl
 | 2, _ => rfl
 | 3, _ => rfl
 | 4, _ => rfl
 | 5, _ => rfl
 | 6, _ => rfl
 | 7, _ => rfl
 | 8, _ => rfl
 | 9, _ => rfl
 | 10, _ => rfl
 | 11, _ => rfl
def fldM (k : Nat) : Nat := if k = 0 then 1 else if k = 1 then 3 else if k = 2 then 4 else 5
def tabM (T2 : List Value) (N : Nat) (g : Nat → Nat) : Nat → List Value
 | 0 => T2
 | s + 1 => (tabM T2 N g s).set (fldM s) (.slice (some ⟨g s, 0, none⟩) N N)
structure SltM (T N : Nat) (v : Nat → Value) (m : Nat → Bool) (p : Nat) (g : Nat → Nat) : Prop where
 t : ∀ k, k < 4 → v (174 + k) = .pointer (some ⟨T, 0, none⟩)
 n : ∀ k, k < 4 → v (178 + 2 * k) = .int .i64 (N : Nat)
 s : ∀ k, k < 4 → m k = true → v (179 + 2 * k) = .slice (some ⟨g k, 0, none⟩) N N
 c0 : ∀ k, k < 4 → 3 * k < p → v (186 + 2 * k) = .pointer (some ⟨T, 0, none⟩)
 c1 : ∀ k, k < 4 → 3 * k + 1 < p → v (187 + 2 * k) = .pointer (some ⟨T, fldM k, none⟩)
structure WldM (v4 : World) (T N : Nat) (T2 : List Value) (zM : Nat → Value) (tyM : Nat → TypeId) (m : Nat → Bool) (p : Nat) (g : Nat → Nat) (w : World) : Prop where
 bx : BelX v4.heap.size (fun a => a.block = T) v4 w
 tc : TC w T (tabM T2 N g (p / 3))
 row : ∀ k, k < 4 → m k = true → Row w (g k) (tyM k) 1 N (List.replicate N (zM k)) ∧ v4.heap.size ≤ g k
 ne : ∀ k j, k < 4 → j < 4 → k ≠ j → m k = true → m j = true → g k ≠ g j
def OpIs (l : List Oper) (i : Nat) (d : Option Tmp) (op : Op) : Prop := ∃ o, l[i]? = some o ∧ o.guard = none ∧ o.dst = d ∧ o.op = op
theorem tabM_congr {T2 : List Value} {N : Nat} {g g' : Nat → Nat} : ∀ (s : Nat), (∀ k, k < s → g k = g' k) → tabM T2 N g s = tabM T2 N g' s
 | 0, _ => rfl
 | s + 1, h => by unfold tabM; rw [tabM_congr s fun k hk => h k (by omega), h s (by omega)]
theorem reqM_k {m : Nat → Bool} {p k : Nat} (h : reqM m p = true) (hk : k < 4) (hp : 3 * k < p) : m k = true := by
 unfold reqM at h
 simp only [Bool.and_eq_true, Bool.or_eq_true, decide_eq_true_eq] at h
 obtain ⟨⟨⟨h0, h1⟩, h2⟩, h3⟩ := h
 match k, hk with
 | 0, _ =>
   rcases h0 with h | h; · omega
   exact h
 | 1, _ =>
   rcases h1 with h | h; · omega
   exact h
 | 2, _ =>
   rcases h2 with h | h; · omega
   exact h
 | 3, _ =>
   rcases h3 with h | h; · omega
   exact h
theorem reqM_upd {m : Nat → Bool} {p k : Nat} (h : reqM m p = true) : reqM (updB m k) p = true := by
 unfold reqM updB at *
 simp only [Bool.and_eq_true, Bool.or_eq_true, decide_eq_true_eq] at h ⊢
 obtain ⟨⟨⟨h0, h1⟩, h2⟩, h3⟩ := h
 refine ⟨⟨⟨?_, ?_⟩, ?_⟩, ?_⟩ <;> split <;> simp_all
def cntM (m : Nat → Bool) : Nat := (m 0).toNat + (m 1).toNat + (m 2).toNat + (m 3).toNat
theorem cntM_upd {m : Nat → Bool} {k : Nat} (hk : k < 4) (h : m k = false) : cntM (updB m k) = cntM m + 1 := by
 unfold cntM updB
 match k, hk with
 | 0, _ => simp [h]; omega
 | 1, _ => simp [h]; omega
 | 2, _ => simp [h]; omega
 | 3, _ => simp [h]
section
variable {P : Program} {l : List Oper} {Q : Exit → Act → World → Prop} {S : World → Prop} {M : Nat}
theorem fourM {v4 : World} {T N : Nat} {T2 : List Value} {zM : Nat → Value} {tyM slT : Nat → TypeId} {st : TypeId} {aB : Act} (hS : ∀ w, S w) (hsz : 193 < aB.tmps.size)
  (hchk : chkM .any l.toArray = true) (hT2 : T2.length = 11) (hTl : T < v4.heap.size) (hN : N ≤ maxLen)
  (om : ∀ k, k < 4 → OpIs l (5 + 2 * k) (some (179 + 2 * k)) (.makeSlice (slT k) (.tmp (178 + 2 * k)) (.tmp (178 + 2 * k))))
  (o0 : ∀ k, k < 4 → OpIs l (12 + 3 * k) (some (186 + 2 * k)) (.nilCheck (.tmp (174 + k))))
  (o1 : ∀ k, k < 4 → OpIs l (12 + (3 * k + 1)) (some (187 + 2 * k)) (.fieldAddr st (.tmp (186 + 2 * k)) (fldM k)))
  (o2 : ∀ k, k < 4 → OpIs l (12 + (3 * k + 2)) none (.store (slT k) (.tmp (187 + 2 * k)) (.tmp (179 + 2 * k))))
  (rm : ∀ k, k < 4 → ∀ w, (Instr.makeSlice (slT k) (.int .i64 (N : Nat)) (.int .i64 (N : Nat))).run P w = .ok (.slice (some ⟨w.heap.size, 0, none⟩) N N) (w.alloc (.cells (madeCells #[zM k] N) (tyM k))))
  (rf : ∀ k, k < 4 → ∀ w, (Instr.fieldAt st (.pointer (some ⟨T, 0, none⟩)) (fldM k)).run P w = .ok (.pointer (some ⟨T, fldM k, none⟩)) w)
  (rs : ∀ k, k < 4 → ∀ w old g, w.cell? ⟨T, fldM k, none⟩ = some old → w.frozen? ⟨T, fldM k, none⟩ = false → (Instr.storeAt (slT k) (.pointer (some ⟨T, fldM k, none⟩)) (.slice (some ⟨g, 0, none⟩) N N)).run P w = .ok () (w.setCell ⟨T, fldM k, none⟩ (.slice (some ⟨g, 0, none⟩) N N)))
  (hQ : ∀ v g w, WldM v4 T N T2 zM tyM (fun _ => true) 12 g w → Q .normal (putsL aB (List.range' 174 20) v) w)
  (v : Nat → Value) (hv : ∀ k, k < 4 → v (174 + k) = .pointer (some ⟨T, 0, none⟩) ∧ v (178 + 2 * k) = .int .i64 (N : Nat)) (w : World) (hw : BelX v4.heap.size (fun a => a.block = T) v4 w) (htc : TC w T T2) :
  anyT P .any l.toArray Q S M 16 (lstM (fun _ => false) 0) (putsL aB (List.range' 174 20) v) w := by
 have hin : ∀ k : Nat, 174 ≤ k → k < 194 → k ∈ List.range' 174 20 := fun k h1 h2 => List.mem_range'_1.2 ⟨h1, by omega⟩
 have hds : ∀ k ∈ List.range' 174 20, k < aB.tmps.size := fun k hk => by have := List.mem_range'_1.1 hk; omega
 have hev : ∀ (v : Nat → Value) (k : Nat), 174 ≤ k → k < 194 → (putsL aB (List.range' 174 20) v).eval (.tmp k) = v k := fun v k h1 h2 => putsL_eval (by omega) (hin k h1 h2)
 have hpt : ∀ (v : Nat → Value) (k : Nat) x, 174 ≤ k → k < 194 → (putsL aB (List.range' 174 20) v).put (some k) x = putsL aB (List.range' 174 20) (fun j => if j = k then x else v j) := fun v k x h1 h2 => putsL_put (hin k h1 h2) hds x
 refine invT hS (fun f L a w => ∃ m p v g, L = lstM m p ∧ a = putsL aB (List.range' 174 20) v ∧ p ≤ 12 ∧ f + cntM m + p = 16 ∧ reqM m p = true ∧ SltM T N v m p g ∧ WldM v4 T N T2 zM tyM m p g w) ?_ ?_ 16 _ _ _ ⟨fun _ => false, 0, v, fun _ => 0, rfl, rfl, by omega, rfl, rfl, ⟨fun k hk => (hv k hk).1, fun k hk => (hv k hk).2, fun k _ h => (by cases h), fun k _ h => (by omega), fun k _ h => (by omega)⟩, ⟨hw, htc, fun k _ h => (by cases h), fun k j _ _ _ h => (by cases h)⟩⟩
 ·
  rintro L a w ⟨m, p, v, g, rfl, rfl, hp, hf, hr, hsl, hwl⟩
  have hb : ∀ b : Bool, b.toNat ≤ 1 := fun b => by cases b <;> simp
  unfold cntM at hf
  have b0 := hb (m 0)
  have b1 := hb (m 1)
  have b2 := hb (m 2)
  have b3 := hb (m 3)
  obtain rfl : p = 12 := by omega
  have hone : ∀ k, k < 4 → m k = true := fun k hk => by
   have : ∀ b : Bool, b.toNat = 1 → b = true := fun b => by cases b <;> simp
   match k, hk with
   | 0, _ => exact this _ (by omega)
   | 1, _ => exact this _ (by omega)
   | 2, _ => exact this _ (by omega)
   | 3, _ => exact this _ (by omega)
  refine ⟨?_, hQ v g w ⟨hwl.bx, hwl.tc, fun k hk _ => hwl.row k hk (hone k hk), fun k j hk hj hne _ _ => hwl.ne k j hk hj hne (hone k hk) (hone j hj)⟩⟩
  have := chkM_at hchk m (p := 12) (by omega)
  unfold oneM at this
  rw [hr, hone 0 (by omega), hone 1 (by omega), hone 2 (by omega), hone 3 (by omega)] at this
  simp only [Bool.not_true, Bool.false_or, Bool.and_eq_true] at this
  have h2 := this.2
  simp only [Bool.and_self, beq_self_eq_true, Bool.true_and, beq_iff_eq] at h2
  exact beq_iff_eq.1 (by simpa using h2)
 ·
  rintro f L a w ⟨m, p, v, g, rfl, rfl, hp, hf, hr, hsl, hwl⟩
  have hc := chkM_at hchk m hp
  unfold oneM at hc
  rw [hr] at hc
  simp only [Bool.not_true, Bool.false_or, Bool.and_eq_true, List.all_eq_true] at hc
  obtain ⟨hc1, hc2⟩ := hc
  refine ⟨fun e => ?_, fun i hi => ?_⟩
  ·
   rw [e] at hc2; have : (m 0 && m 1 && m 2 && m 3 && p == 12) = true := by simpa using hc2
   simp only [Bool.and_eq_true, beq_iff_eq] at this; obtain ⟨⟨⟨⟨h0, h1⟩, h2⟩, h3⟩, h4⟩ := this; unfold cntM at hf; rw [h0, h1, h2, h3, h4] at hf; simp at hf <;> omega
  ·
   have h1 := hc1 i hi; simp only [Bool.or_eq_true, List.any_eq_true, Bool.and_eq_true, beq_iff_eq, Bool.not_eq_true', decide_eq_true_eq, List.mem_range] at h1; rcases h1 with ⟨k, hk, rfl, hmk⟩ | ⟨⟨rfl, hp12⟩, hreq⟩
   ·
    
    obtain ⟨o, ho, hg, hd, hop⟩ := om k hk; refine ⟨o, ho, fun K hK => ?_⟩; rw [if_pos (by simp [Region.wanted, hg])]; have hs : (putsL aB (List.range' 174 20) v).eval (.tmp (178 + 2 * k)) = .int .i64 (N : Nat) := by rw [hev v (178 + 2 * k) (by omega) (by omega)]; exact hsl.n k hk
    unfold Oper.wp; simp only [execOp, hop, hs, Sem.run_bind, rm k hk, Result.andThen, Sem.run_pure, Oper.upon_value]; rw [hd, hpt v (179 + 2 * k) _ (by omega) (by omega)]; have hwz := hwl.bx.size; refine hK _ _ ⟨updB m k, p, _, fun j => if j = k then w.heap.size else g j, lstM_make m p hk, rfl, hp, by rw [cntM_upd hk hmk]; omega, reqM_upd hr, ⟨fun j hj => ?_, fun j hj => ?_, fun j hj hmj => ?_, fun j hj hp => ?_, fun j hj hp => ?_⟩, ⟨hwl.bx.below (bl_alloc _ _) hwz, ?_, fun j hj hmj => ?_, fun j j' hj hj' hne hmj hmj' => ?_⟩⟩
    · rw [if_neg (by omega)]; exact hsl.t j hj
    · rw [if_neg (by omega)]; exact hsl.n j hj
    ·
     by_cases e : j = k
     · subst e; rw [if_pos rfl, if_pos rfl]
     ·
      rw [if_neg (by omega), if_neg e]; unfold updB at hmj; rw [if_neg e] at hmj; exact hsl.s j hj hmj
    · rw [if_neg (by omega)]; exact hsl.c0 j hj hp
    · rw [if_neg (by omega)]; exact hsl.c1 j hj hp
    ·
     have := hwl.tc.below (bl_alloc w (.cells (madeCells #[zM k] N) (tyM k))); rw [tabM_congr (p / 3) (g' := g) fun j hj => ?_]
     · exact this
     ·
      refine if_neg fun e => ?_; subst e; rw [reqM_k hr hk (by omega)] at hmk; cases hmk
    ·
     by_cases e : j = k
     ·
      subst e; rw [if_pos rfl]; exact ⟨row_made w (zM j) N (tyM j) hN, hwz⟩
     ·
      rw [if_neg e]; unfold updB at hmj; rw [if_neg e] at hmj; obtain ⟨r1, r2⟩ := hwl.row j hj hmj; exact ⟨r1.alloc _, r2⟩
    ·
     unfold updB at hmj hmj'; by_cases e : j = k <;> by_cases e' : j' = k
     · omega
     ·
      rw [if_pos e, if_neg e']; rw [if_neg e'] at hmj'; have := (hwl.row j' hj' hmj').1.lt; omega
     ·
      rw [if_neg e, if_pos e']; rw [if_neg e] at hmj; have := (hwl.row j hj hmj).1.lt; omega
     ·
      rw [if_neg e, if_neg e']; rw [if_neg e] at hmj; rw [if_neg e'] at hmj'; exact hwl.ne j j' hj hj' hne hmj hmj'
   ·
    
    obtain ⟨k, hk⟩ : ∃ k, k = p / 3 := ⟨_, rfl⟩
    have hk4 : k < 4 := by omega
    have hc3 : p = 3 * k ∨ p = 3 * k + 1 ∨ p = 3 * k + 2 := by omega
    have hmk := reqM_k hreq hk4 (by omega); rcases hc3 with e | e | e
    ·
     obtain ⟨o, ho, hg, hd, hop⟩ := o0 k hk4; rw [← e] at ho; refine ⟨o, ho, fun K hK => ?_⟩; rw [if_pos (by simp [Region.wanted, hg])]; have hs : (putsL aB (List.range' 174 20) v).eval (.tmp (174 + k)) = .pointer (some ⟨T, 0, none⟩) := by rw [hev v (174 + k) (by omega) (by omega)]; exact hsl.t k hk4
     unfold Oper.wp; simp only [execOp, hop, hs, Sem.run_pure, Oper.upon_value]; rw [hd, hpt v (186 + 2 * k) _ (by omega) (by omega)]; refine hK _ _ ⟨m, p + 1, _, g, lstM_chain m hp12, rfl, by omega, by omega, hreq, ⟨fun j hj => ?_, fun j hj => ?_, fun j hj hmj => ?_, fun j hj hp => ?_, fun j hj hp => ?_⟩, ⟨hwl.bx, ?_, hwl.row, hwl.ne⟩⟩
     · rw [if_neg (by omega)]; exact hsl.t j hj
     · rw [if_neg (by omega)]; exact hsl.n j hj
     · rw [if_neg (by omega)]; exact hsl.s j hj hmj
     ·
      by_cases ej : j = k
      · rw [if_pos (by omega)]
      · rw [if_neg (by omega)]; exact hsl.c0 j hj (by omega)
     · rw [if_neg (by omega)]; exact hsl.c1 j hj (by omega)
     · rw [show (p + 1) / 3 = p / 3 by omega]; exact hwl.tc
    ·
     obtain ⟨o, ho, hg, hd, hop⟩ := o1 k hk4; rw [← e] at ho; refine ⟨o, ho, fun K hK => ?_⟩; rw [if_pos (by simp [Region.wanted, hg])]; have hs : (putsL aB (List.range' 174 20) v).eval (.tmp (186 + 2 * k)) = .pointer (some ⟨T, 0, none⟩) := by rw [hev v (186 + 2 * k) (by omega) (by omega)]; exact hsl.c0 k hk4 (by omega)
     unfold Oper.wp; simp only [execOp, hop, hs, Sem.run_bind, rf k hk4, Result.andThen, Sem.run_pure, Oper.upon_value]; rw [hd, hpt v (187 + 2 * k) _ (by omega) (by omega)]; refine hK _ _ ⟨m, p + 1, _, g, lstM_chain m hp12, rfl, by omega, by omega, hreq, ⟨fun j hj => ?_, fun j hj => ?_, fun j hj hmj => ?_, fun j hj hp => ?_, fun j hj hp => ?_⟩, ⟨hwl.bx, ?_, hwl.row, hwl.ne⟩⟩
     · rw [if_neg (by omega)]; exact hsl.t j hj
     · rw [if_neg (by omega)]; exact hsl.n j hj
     · rw [if_neg (by omega)]; exact hsl.s j hj hmj
     · rw [if_neg (by omega)]; exact hsl.c0 j hj (by omega)
     ·
      by_cases ej : j = k
      · rw [if_pos (by omega), ej]
      · rw [if_neg (by omega)]; exact hsl.c1 j hj (by omega)
     · rw [show (p + 1) / 3 = p / 3 by omega]; exact hwl.tc
    ·
     obtain ⟨o, ho, hg, hd, hop⟩ := o2 k hk4; rw [← e] at ho; refine ⟨o, ho, fun K hK => ?_⟩; rw [if_pos (by simp [Region.wanted, hg])]; have hs1 : (putsL aB (List.range' 174 20) v).eval (.tmp (187 + 2 * k)) = .pointer (some ⟨T, fldM k, none⟩) := by rw [hev v (187 + 2 * k) (by omega) (by omega)]; exact hsl.c1 k hk4 (by omega)
     have hs2 : (putsL aB (List.range' 174 20) v).eval (.tmp (179 + 2 * k)) = .slice (some ⟨g k, 0, none⟩) N N := by rw [hev v (179 + 2 * k) (by omega) (by omega)]; exact hsl.s k hk4 hmk
     have htl : ∀ s, (tabM T2 N g s).length = 11 := fun s => by
      induction s with
      | zero => exact hT2
      | succ s ih => unfold tabM; rw [List.length_set]; exact ih
     have hfl : fldM k < 11 := by unfold fldM; split <;> (try split) <;> (try split) <;> omega
     obtain ⟨old, hold⟩ : ∃ old, (tabM T2 N g (p / 3))[fldM k]? = some old := ⟨_, List.getElem?_eq_getElem (by rw [htl]; exact hfl)⟩
     have hrun := rs k hk4 w old (g k) (hwl.tc.at_ _ _ hold) (hwl.tc.fz _); unfold Oper.wp; simp only [execOp, hop, hs1, hs2, Sem.run_bind, hrun, Result.andThen, Sem.run_pure, Oper.upon_skip]; rw [hd]; have hgT : ∀ j, j < 4 → m j = true → g j ≠ T := fun j hj hmj => by have := (hwl.row j hj hmj).2; omega
     refine hK _ _ ⟨m, p + 1, v, g, lstM_chain m hp12, rfl, by omega, by omega, hreq, ⟨hsl.t, hsl.n, hsl.s, fun j hj hp => hsl.c0 j hj (by omega), fun j hj hp => hsl.c1 j hj (by omega)⟩, ⟨hwl.bx.setCell (.inr rfl) _, ?_, fun j hj hmj => ⟨(hwl.row j hj hmj).1.other (hgT j hj hmj) _, (hwl.row j hj hmj).2⟩, hwl.ne⟩⟩; rw [show (p + 1) / 3 = k + 1 by omega]; have := hwl.tc.set (fldM k) (.slice (some ⟨g k, 0, none⟩) N N); rw [← hk] at this; exact this
end
theorem putsL_self (a : Act) (ds : List Nat) : putsL a ds (fun k => a.tmps.getD k undef) = a := by
 obtain ⟨s1, s2⟩ := putsL_size ds a (fun k => a.tmps.getD k undef)
 have e : (putsL a ds (fun k => a.tmps.getD k undef)).tmps = a.tmps := by
  apply Array.ext_getElem?
  intro k
  by_cases hk : k < a.tmps.size
  ·
   rw [putsL_get ds a _ k hk]; split
   · simp [Array.getD, hk]
   · rfl
  · rw [Array.getElem?_eq_none (by omega), Array.getElem?_eq_none (by omega)]
 cases h1 : putsL a ds (fun k => a.tmps.getD k undef)
 rw [h1] at e s2
 cases a
 simp only at e s2
 rw [e, s2]
theorem anyT_cast {P : Program} {md : Region.Mode} {ops : Array Oper} {Q : Exit → Act → World → Prop} {S : World → Prop} {M f : Nat} {L L' : Array Bool} {a a' : Act} {w : World} (hL : L = L') (ha : a = a') (h : anyT P md ops Q S M f L' a' w) : anyT P md ops Q S M f L a w := by
 subst hL ha; exact h
theorem ownRows_nil {w : World} {G N : Nat} {tO e : TypeId} (h : Row w G tO 1 N (List.replicate N (.slice none 0 0))) : OwnRows w G tO e N (List.replicate N (.slice none 0 0)) (List.replicate N []) where
 len := by simp
 outer := h
 own v u r hu hr := by
  obtain ⟨_, hu⟩ := List.getElem?_eq_some_iff.1 hu
  obtain ⟨_, hr⟩ := List.getElem?_eq_some_iff.1 hr
  simp at hu hr
  subst hu; subst hr
  exact own_nil _ _ _
 young v u g hu hg := by
  obtain ⟨_, hu⟩ := List.getElem?_eq_some_iff.1 hu
  simp at hu; subst hu; simp [Value.ownBlock] at hg
 apart v v' u u' g _ hu _ hg := by
  obtain ⟨_, hu⟩ := List.getElem?_eq_some_iff.1 hu
  simp at hu; subst hu; simp [Value.ownBlock] at hg
def zMk : Nat → Value := fun k => if k = 0 then .slice none 0 0 else .int .i64 0
def tMk : Nat → TypeId := fun k => if k = 0 then 25 else 3
def sMk : Nat → TypeId := fun k => if k = 0 then 59 else 25
theorem madeW_of {v4 : World} {T N : Nat} {T2 : List Value} {g : Nat → Nat} {w : World} (h : WldM v4 T N T2 zMk tMk (fun _ => true) 12 g w) : MadeW v4 T T2 N w := by
 have r := fun k hk => h.row k hk rfl
 refine ⟨g 0, g 1, g 2, g 3, h.tc, ownRows_nil (r 0 (by omega)).1, ⟨?_, ?_, ?_⟩, ⟨?_, ?_, ?_, ?_, ?_, ?_⟩, ⟨(r 0 (by omega)).2, (r 1 (by omega)).2, (r 2 (by omega)).2, (r 3 (by omega)).2⟩, h.bx⟩
 · rw [intsF_zero]; exact (r 1 (by omega)).1
 · rw [intsF_zero]; exact (r 2 (by omega)).1
 · rw [intsF_zero]; exact (r 3 (by omega)).1
 all_goals exact h.ne _ _ (by omega) (by omega) (by omega) rfl rfl
theorem field_run (T : Nat) (w : World) : ∀ k, k < 4 → (Instr.fieldAt 90 (.pointer (some ⟨T, 0, none⟩)) (fldM k)).run Tryz.prog w = .ok (.pointer (some ⟨T, fldM k, none⟩)) w
 | 0, _ => by kernel_rfl
 | 1, _ => by kernel_rfl
 | 2, _ => by kernel_rfl
 | 3, _ => by kernel_rfl
theorem store_run (T N g k : Nat) (w : World) (old : Value) (hk : k < 4) (hc : w.cell? ⟨T, fldM k, none⟩ = some old) (hf : w.frozen? ⟨T, fldM k, none⟩ = false) : (Instr.storeAt (sMk k) (.pointer (some ⟨T, fldM k, none⟩)) (.slice (some ⟨g, 0, none⟩) N N)).run Tryz.prog w = .ok () (w.setCell ⟨T, fldM k, none⟩ (.slice (some ⟨g, 0, none⟩) N N)) := by
 unfold sMk
 by_cases h0 : k = 0
 ·
  rw [if_pos h0]
  simp [go_sem, hc, hf]
 ·
  rw [if_neg h0]
  simp [go_sem, hc, hf]
end Go.Proofs.YtagjdkkfmfombaaGreat
