/- Part 1 of a verified evaluator, and what it reckons of the player. -/
import Derived.Test.YtpjhkpmmbeoghaaGreatDoorK00
import Derived.OrdersIn
import Derived.RangeFuncLeaves
import Derived.MapKept
import Derived.WideKeyRuns
import Derived.Laws.BytesString
import Derived.Lib.AppendStr
import Derived.Lib.ConvBytes
import Derived.Laws.StructEq
import Derived.Laws.Concat
set_option linter.unusedVariables false
set_option linter.unusedSimpArgs false
set_option linter.unusedSectionVars false
namespace Go.Proofs.YtpjhkpmmbeoghaaGreatDoor.Ev
open Go
def Good {κ : Type} (L : (κ → Res) → Prop) (G : κ → Res) : Prop := L G ∨ ∀ k, G k ≠ .ok
def Lin (G : KF → Res) : Prop := Good (fun G => ∃ w M nm I ni, ∀ kf, G kf = kf w M nm I ni) G
def CallLin (call : CallT) : Prop := ∀ f ws M nm I ni, Lin (call f ws M nm I ni)
def FOK (F : Fence) : Prop := (∀ f, F.fn f) ∧ F.depth = none ∧ F.alive = false
theorem FOK.room {F : Fence} (h : FOK F) (n : Nat) : F.room n := fun d hd => by rw [h.2.1] at hd; cases hd
theorem FOK.one {F : Fence} (h : FOK F) {n : Nat} : F.depth.isSome = true → 1 ≤ n := fun hd => by rw [h.2.1] at hd; cases hd
theorem FOK.fenced {F : Fence} (h : FOK F) (P : Program) (m : Machine) : m.fenced P F := fun _ _ => ⟨(fun e => by rw [h.2.2] at e; cases e), .inl (h.1 _), fun _ _ => h.1 _, h.room _⟩
theorem FOK.of_calls {F : Fence} (h : FOK F) {n : Nat} {P : Program} {f : FuncId} {args : Array Value} {w : World} {R : Ending → World → Prop} (hc : Calls P f args w R) : CallsIn F n P f args w R := by
  refine ⟨h.1 f, fun cs _ => ?_⟩
  obtain ⟨e, w', fr, h1, h2, h3⟩ := hc cs
  refine ⟨e, w', fr, h1, ?_, h3⟩
  cases e with
  | returned v => exact (StepsIn.of_steps h2).mono fun m _ => h.fenced P m
  | panicked ch => exact (StepsIn.of_steps h2).mono fun m _ => h.fenced P m
  | outgrown => exact h2
def CallPost (c : Cf) (kf : KF) (e : Ending) (w' : World) : Prop :=
  ∃ word v c', e = .returned v ∧ w' = c'.w ∧ kf word c'.M c'.nm c'.I c'.ni = .ok ∧ HR c' ∧ IB c'.I c'.ni ∧ Ext c c' ∧ WR c'.f c'.I c'.ni word v
def OpPost (o : Oper) (a : Act) (c : Cf) (kf : KF) (a' : Act) (w' : World) : Prop :=
  ∃ word v c', a' = a.put o.dst v ∧ w' = c'.w ∧ kf word c'.M c'.nm c'.I c'.ni = .ok ∧ HR c' ∧ IB c'.I c'.ni ∧ Ext c c' ∧ WR c'.f c'.I c'.ni word v
def OpGo (P : Program) (o : Oper) (a : Act) (c : Cf) (kf : KF) : Prop :=
  ∀ (F : Fence) (n : Nat), FOK F → o.wpIn F n P a c.w (OpPost o a c kf) (fun _ _ _ => False)
def OpSnd (P : Program) (call : CallT) : Prop :=
  ∀ (o : Oper) (a : Act) (c : Cf) (E : Fr) (kf : KF), stepK P call (lowOp P o) E c.M c.nm c.I c.ni kf = .ok → (∀ x ∈ o.op.operands, OpR c.f c.I c.ni E a x) → HR c → IB c.I c.ni → OpGo P o a c kf
def CallSnd (P : Program) (call : CallT) : Prop :=
  ∀ (f : Nat) (ws : List Nat) (c : Cf) (kf : KF) (args : Array Value), call f ws c.M c.nm c.I c.ni kf = .ok → HR c → IB c.I c.ni → args.size = ws.length → (∀ i (h : i < ws.length) (h' : i < args.size), WR c.f c.I c.ni ws[i] args[i]) →
    (∃ fn, P.funcs[f]? = some fn ∧ fn.body.isSome = true) ∧ ∀ (F : Fence) (n : Nat), FOK F → CallsIn F n P f args c.w (CallPost c kf)
def MarksOk (c : Cf) (n0 : Nat) (ds : List Deferred) : Prop :=
  ds.Pairwise (fun d d' => d.target ≠ d'.target) ∧ ∀ d ∈ ds, ∃ D, d = { target := .collected D, args := #[] } ∧ n0 ≤ D ∧ c.w.heap[D]? = some (.deferred (some [])) ∧ ∀ b F, c.f b = some F → hd c.M b ≠ 0 → F.blk ≠ D
structure FR (c : Cf) (E : Fr) (a : Act) (nt n0 : Nat) : Prop where
  size : a.tmps.size = nt
  wr : ∀ t, WR c.f c.I c.ni (fcell E t) (a.tmps.getD t undef)
  marks : MarksOk c n0 a.defers
  low : n0 ≤ c.w.heap.size
theorem MarksOk.ext {c c' : Cf} {n0 : Nat} {ds : List Deferred} (h : Ext c c') (hm : MarksOk c n0 ds) : MarksOk c' n0 ds := by
  refine ⟨hm.1, fun d hd => ?_⟩
  obtain ⟨D, h1, h0, h2, h3⟩ := hm.2 d hd
  have hlt : D < c.w.heap.size := (Array.getElem?_eq_some_iff.1 h2).1
  refine ⟨D, h1, h0, (h.frame D hlt h3).trans h2, fun b F e1 e2 e3 => ?_⟩
  obtain ⟨b0, F0, q1, q2, q3⟩ := h.img b F e1 e2 (e3 ▸ hlt)
  exact h3 b0 F0 q1 q2 (q3.trans e3)
theorem FR.ext {c c' : Cf} {E : Fr} {nt n0 : Nat} {a : Act} (h : Ext c c') (hr : FR c E a nt n0) : FR c' E a nt n0 := ⟨hr.size, fun t => (hr.wr t).mono h.f h.I, hr.marks.ext h, Nat.le_trans hr.low h.size⟩
theorem fcell_put (E : Fr) (d t w : Nat) : fcell (putS E (96 * d) w) t = if t = d then w else fcell E t := by
  show @Bool.rec (fun _ => Nat) (E (96 * t)) w (Nat.beq (96 * t) (96 * d)) = _
  by_cases h : t = d
  · subst h; rw [Nat.beq_refl, if_pos rfl]
  · rw [if_neg h]
    have : Nat.beq (96 * t) (96 * d) = false := by
      cases hb : Nat.beq (96 * t) (96 * d) with
      | false => rfl
      | true => have := Nat.eq_of_beq_eq_true hb; omega
    rw [this]; rfl
theorem slot_eq (E : Fr) (t : Nat) : slot E (96 * t) = fcell E t := rfl
theorem FR.opR {c : Cf} {E : Fr} {nt n0 : Nat} {a : Act} (hr : FR c E a nt n0) (x : Operand) : OpR c.f c.I c.ni E a x := by
  cases x with
  | tmp t => exact hr.wr t
  | _ => trivial
theorem FR.put {c : Cf} {E : Fr} {nt n0 d w : Nat} {a : Act} {v : Value} (hr : FR c E a nt n0) (hd : d < nt) (hw : WR c.f c.I c.ni w v) : FR c (putS E (96 * d) w) (a.put (some d) v) nt n0 := by
  refine ⟨by simp [Act.put, hr.size], fun t => ?_, hr.marks, hr.low⟩
  rw [fcell_put]
  have hsz := hr.size
  by_cases ht : t = d
  · subst ht
    rw [if_pos rfl]
    have : (a.put (some t) v).tmps.getD t undef = v := by simp [Act.put, hsz, hd]
    rw [this]; exact hw
  · rw [if_neg ht]
    have : (a.put (some d) v).tmps.getD t undef = a.tmps.getD t undef := by
      simp [Act.put, Array.getElem?_setIfInBounds_ne (Ne.symm ht)]
    rw [this]; exact hr.wr t
theorem putN {a : Act} {v : Value} : a.put none v = a := rfl
theorem WR.isBool {f : Nat → Option FB} {I ni w : Nat} {v : Value} (h : WR f I ni w v) (b : Bool) : (w = if b then 33 else 1) ↔ v = .bool b := by
  constructor
  · intro hw
    cases b
    · exact h.bool0 hw
    · exact h.bool1 hw
  · intro hv
    subst hv
    cases h with
    | bool b => cases b <;> rfl
theorem wanted_word {c : Cf} {E : Fr} {nt n0 j t : Nat} {a : Act} {ops : Array Oper} {want : Bool} (hr : FR c E a nt n0) (ht : (ops[j]?).bind (·.dst) = some t) :
    (yielded ops a.tmps j == some want) = Nat.beq (slot E (96 * t)) (if want then 33 else 1) := by
  rw [slot_eq, nbeq, Bool.eq_iff_iff, decide_eq_true_eq, (hr.wr t).isBool want]
  simp only [yielded, ht, Option.bind_some, beq_iff_eq]
  cases hg : a.tmps[t]? with
  | none =>
    have : a.tmps.getD t undef = undef := by simp [hg]
    rw [this]
    simp [undef]
  | some v =>
    have : a.tmps.getD t undef = v := by simp [hg]
    rw [this]
    cases v <;> simp
def CPost (c : Cf) (nt n0 : Nat) (kn : KN) (kx : KX) (e : Exit) (a' : Act) (w' : World) : Prop :=
  ∃ E' c', HR c' ∧ IB c'.I c'.ni ∧ Ext c c' ∧ FR c' E' a' nt n0 ∧ w' = c'.w ∧
    ((e = .normal ∧ kn E' c'.M c'.nm c'.I c'.ni = .ok) ∨ (e = .ret ∧ kx 0 E' c'.M c'.nm c'.I c'.ni = .ok) ∨ ∃ id, e = .exit id ∧ kx (id + 1) E' c'.M c'.nm c'.I c'.ni = .ok)
theorem CPost.trans {c c' : Cf} {nt n0 : Nat} {kn : KN} {kx : KX} {e : Exit} {a' : Act} {w' : World} (hr : HR c) (h : Ext c c') (hp : CPost c' nt n0 kn kx e a' w') : CPost c nt n0 kn kx e a' w' := by
  obtain ⟨E', c2, h1, h2, h3, h4, h5, h6⟩ := hp
  exact ⟨E', c2, h1, h2, h.trans hr h3, h4, h5, h6⟩
theorem wpIn_post {P : Program} {F : Fence} {n : Nat} {o : Oper} {a : Act} {w : World} {K K' : Act → World → Prop} {Q Q' : Exit → Act → World → Prop} (hk : ∀ a w, K a w → K' a w) (hq : ∀ e a w, Q e a w → Q' e a w) (h : o.wpIn F n P a w K Q) : o.wpIn F n P a w K' Q' := by
  refine ⟨h.1, ?_⟩
  have h2 := h.2
  revert h2
  generalize (o.semAt F.round a.eval).run P w = r
  intro h2
  cases r with
  | ok x w2 =>
    cases x <;> simp only [Oper.uponIn] at h2 ⊢ <;> first
      | exact hk _ _ h2
      | (obtain ⟨k3, k4, k5⟩ := h2; refine ⟨k3, k4, fun cs hr => ?_⟩; obtain ⟨e, w3, fr, k6, k7⟩ := k5 cs hr; refine ⟨e, w3, fr, ?_, k7⟩; cases e with | returned v => exact hk _ _ k6 | panicked c => exact hq _ _ _ k6 | outgrown => obtain ⟨a0, w0, k8⟩ := k6; exact ⟨a0, w0, hq _ _ _ k8⟩)
      | (obtain ⟨k3, k4, k5⟩ := h2; refine ⟨k3, k4, fun b cs hr => ?_⟩; obtain ⟨e, w3, k6, k7⟩ := k5 b cs hr; refine ⟨e, w3, ?_, k7⟩; cases e with | returned v => exact hk _ _ k6 | panicked c => exact hq _ _ _ k6 | outgrown => obtain ⟨a0, w0, k8⟩ := k6; exact ⟨a0, w0, hq _ _ _ k8⟩)
      | (obtain ⟨k3, k4⟩ := h2; refine ⟨k3, fun b cs hr => ?_⟩; obtain ⟨v, w3, k6, k7⟩ := k4 b cs hr; exact ⟨v, w3, hk _ _ k6, k7⟩)
  | halt x w2 => cases x <;> simp only [Oper.uponIn] at h2 ⊢ <;> exact hq _ _ _ h2
theorem wpOpsIn_post {P : Program} {F : Fence} {n : Nat} {ops : Array Oper} {Q Q' : Exit → Act → World → Prop} (hq : ∀ e a w, Q e a w → Q' e a w) : ∀ (is : List Nat) (a : Act) (w : World), wpOpsIn F n P ops Q is a w → wpOpsIn F n P ops Q' is a w
  | [], a, w, h => hq _ _ _ h
  | i :: is, a, w, h => by
    simp only [wpOpsIn] at h ⊢
    split
    · rename_i hi; rw [hi] at h; exact wpOpsIn_post hq is a w h
    · rename_i o hi
      rw [hi] at h
      simp only at h
      split
      · rename_i hw; rw [if_pos hw] at h; exact wpIn_post (fun a w => wpOpsIn_post hq is a w) hq h
      · rename_i hw; rw [if_neg hw] at h; exact ⟨h.1, wpOpsIn_post hq is _ _ h.2⟩
section
variable {P : Program} {call : CallT} {nt n0 : Nat}
theorem ri_ok (ho : OpSnd P call) {F : Fence} {n : Nat} (hF : FOK F) {ops : Array Oper} {o : Oper} {c : Cf} {E : Fr} {a : Act} {kn : KN} (h : riK P call (lowRI P nt ops o) E c.M c.nm c.I c.ni kn = .ok) (hr : HR c) (hI : IB c.I c.ni) (hf : FR c E a nt n0)
    (K : Act → World → Prop) (hK : ∀ E' c' a', kn E' c'.M c'.nm c'.I c'.ni = .ok → HR c' → IB c'.I c'.ni → Ext c c' → FR c' E' a' nt n0 → K a' c'.w) :
    if Region.wanted o (yielded ops a.tmps) then o.wpIn F n P a c.w K (fun _ _ _ => False) else (∀ f, o.about P c.w a.eval = some f → F.fn f) ∧ K (a.put o.dst undef) c.w := by
  have go : ∀ (kf : KF), stepK P call (lowOp P o) E c.M c.nm c.I c.ni kf = .ok → (∀ word v c', kf word c'.M c'.nm c'.I c'.ni = .ok → HR c' → IB c'.I c'.ni → Ext c c' → WR c'.f c'.I c'.ni word v → FR c' E a nt n0 → K (a.put o.dst v) c'.w) → o.wpIn F n P a c.w K (fun _ _ _ => False) := fun kf hs hk => by
    refine Oper.wpIn_mono (fun a' w' hp => ?_) (ho o a c E kf hs (fun x _ => hf.opR x) hr hI F n hF)
    obtain ⟨word, v, c', rfl, rfl, h1, h2, h3, h4, h5⟩ := hp
    exact hk word v c' h1 h2 h3 h4 h5 (hf.ext h4)
  unfold lowRI at h
  cases hg : o.guard with
  | none =>
    have hw : Region.wanted o (yielded ops a.tmps) = true := by simp [Region.wanted, hg]
    rw [if_pos hw]
    simp only [hg] at h
    cases hd : o.dst with
    | none =>
      simp only [hd] at h
      refine go _ h fun word v c' h1 h2 h3 h4 h5 h6 => ?_
      rw [hd, putN]
      exact hK E c' a h1 h2 h3 h4 h6
    | some d =>
      simp only [hd] at h
      split at h
      case isFalse => cases h
      rename_i hlt
      refine go _ h fun word v c' h1 h2 h3 h4 h5 h6 => ?_
      rw [hd]
      exact hK _ c' _ h1 h2 h3 h4 (h6.put hlt h5)
  | some gw =>
    obtain ⟨j, want⟩ := gw
    have hwt : Region.wanted o (yielded ops a.tmps) = (yielded ops a.tmps j == some want) := by simp [Region.wanted, hg]
    simp only [hg] at h
    cases ht : (ops[j]?).bind (·.dst) with
    | none =>
      simp only [ht] at h
      cases hd : o.dst <;> simp only [hd] at h <;> cases h
    | some t =>
      rw [hwt, wanted_word hf ht]
      simp only [ht] at h
      have h2 : ¬ (if want = true then 33 else 1) = 2 := by cases want <;> decide
      cases hd : o.dst with
      | none =>
        simp only [hd, if_neg h2] at h
        rcases iff_ok h with ⟨h3, h⟩ | ⟨h3, h⟩
        · rw [if_pos h3]
          refine go _ h fun word v c' h1 h2 h3 h4 h5 h6 => ?_
          rw [hd, putN]
          exact hK E c' a h1 h2 h3 h4 h6
        · rw [if_neg (by rw [h3]; simp)]
          exact ⟨fun f _ => hF.1 f, hK E c a h hr hI (.refl _) hf⟩
      | some d =>
        simp only [hd, if_neg h2] at h
        split at h
        case isFalse => cases h
        rename_i hlt
        rcases iff_ok h with ⟨h3, h⟩ | ⟨h3, h⟩
        · rw [if_pos h3]
          refine go _ h fun word v c' h1 h2 h3 h4 h5 h6 => ?_
          rw [hd]
          exact hK _ c' _ h1 h2 h3 h4 (h6.put hlt h5)
        · rw [if_neg (by rw [h3]; simp)]
          exact ⟨fun f _ => hF.1 f, hK _ c _ h hr hI (.refl _) (hf.put hlt .undef)⟩
theorem ops_ok (ho : OpSnd P call) {F : Fence} {n : Nat} (hF : FOK F) {ops : Array Oper} {kx : KX} : ∀ (l : List Oper) (is : List Nat), is.length = l.length → (∀ j (h : j < is.length) (h' : j < l.length), ops[is[j]]? = some l[j]) →
    ∀ {c : Cf} {E : Fr} {a : Act} {kn : KN}, regK P call (l.map (lowRI P nt ops)) E c.M c.nm c.I c.ni kn = .ok → HR c → IB c.I c.ni → FR c E a nt n0 → wpOpsIn F n P ops (CPost c nt n0 kn kx) is a c.w
  | [], [], _, _, c, E, a, kn, h, hr, hI, hf => ⟨E, c, hr, hI, .refl _, hf, rfl, .inl ⟨rfl, h⟩⟩
  | o :: l, i :: is, hl, hix, c, E, a, kn, h, hr, hI, hf => by
    have hi : ops[i]? = some o := hix 0 (by simp) (by simp)
    have key := ri_ok (P := P) (nt := nt) (n0 := n0) (n := n) (kn := fun E M nm I ni => regK P call (l.map (lowRI P nt ops)) E M nm I ni kn) ho hF (ops := ops) (o := o) h hr hI hf
      (fun a' w' => wpOpsIn F n P ops (CPost c nt n0 kn kx) is a' w') (fun E' c' a' h1 h2 h3 h4 h5 => ?_)
    · simp only [wpOpsIn, hi]
      split
      · rename_i hw
        rw [if_pos hw] at key
        exact wpIn_post (fun _ _ h => h) (fun _ _ _ h => h.elim) key
      · rename_i hw
        rw [if_neg hw] at key
        exact key
    · refine wpOpsIn_post ?_ is a' c'.w (ops_ok (kx := kx) ho hF l is (by simpa using hl) (fun j q1 q2 => hix (j + 1) (by simpa using q1) (by simpa using q2)) h1 h2 h3 h5)
      exact fun e a w hp => CPost.trans hr h4 hp
end
end Go.Proofs.YtpjhkpmmbeoghaaGreatDoor.Ev
namespace Go.Proofs.YtpjhkpmmbeoghaaGreatDoor.Ev
open Go
section
variable {F : Fence} {n : Nat} {P : Program} {Q : Exit → Act → World → Prop} {a : Act} {w : World}
def LoopGo (F : Fence) (n : Nat) (P : Program) (c : Code) (Q : Exit → Act → World → Prop) (a : Act) (w : World) : Prop :=
  ∀ (b : Frame) (k : List Item) (cs : List Frame), b.roundOf = F.round → F.fn b.fn → F.room (cs.length + 1 + n) →
    ∃ e a' w', Q e a' w' ∧ ArrivesIn (Machine.fenced P F) P (lone (b.atR a (.code c :: .inLoop c :: k)) cs w) b k cs e a' w'
theorem LoopGo.wp {c : Code} (h : LoopGo F n P c Q a w) : (Code.loop c).wpIn F n P Q a w := by
  intro b k cs hro hb hr
  obtain ⟨e, a', w', hq, harr⟩ := h b k cs hro hb hr
  exact ⟨e, a', w', hq, .of_steps (.one (fenced_calm hb hr rfl) stepR_loop) harr⟩
theorem LoopGo.round {c : Code} (h : c.wpIn F n P (Exit.then (LoopGo F n P c Q) Q) a w) : LoopGo F n P c Q a w := by
  intro b k cs hro hb hr
  obtain ⟨e, a₁, w₁, hq, harr⟩ := h b (.inLoop c :: k) cs hro hb hr
  cases e with
  | normal =>
    obtain ⟨e₂, a₂, w₂, hq₂, harr₂⟩ := hq b k cs hro hb hr
    exact ⟨e₂, a₂, w₂, hq₂, .of_steps (StepsIn.trans harr (.one (fenced_calm hb hr rfl) stepR_inLoop)) harr₂⟩
  | exit id => exact ⟨_, a₁, w₁, hq, .pass (x := .inLoop c) rfl (fun _ _ => .inl (by simp)) harr⟩
  | goto l => exact ⟨_, a₁, w₁, hq, .pass (x := .inLoop c) rfl (fun _ _ => .inl (by simp)) harr⟩
  | ret => exact ⟨_, a₁, w₁, hq, .pass (x := .inLoop c) rfl (fun _ _ => .inl (by simp)) harr⟩
  | panic ch => exact ⟨_, a₁, w₁, hq, .pass (x := .inLoop c) rfl (fun _ _ => .inl (by simp)) harr⟩
  | outgrown => exact ⟨_, a₁, w₁, hq, .pass (x := .inLoop c) rfl (fun _ _ => .inl (by simp)) harr⟩
theorem wpIn_scope_straight {c : Code} (h : c.wpIn F n P (fun e a w => (∀ l, e ≠ .goto l) ∧ Q e a w) a w) : (Code.scope c).wpIn F n P Q a w := by
  intro b k cs hro hb hr
  obtain ⟨e, a₁, w₁, ⟨hg, hq⟩, harr⟩ := h b (.inScope c :: k) cs hro hb hr
  have h0 : (lone (b.atR a (.code (.scope c) :: k)) cs w).fenced P F := fenced_calm hb hr rfl
  have hs : step P (lone (b.atR a (.code (.scope c) :: k)) cs w) = .next (lone (b.atR a (.code c :: .inScope c :: k)) cs w) := step_lone_go (by simp [stepG, stepG.exec, Frame.atR])
  cases e with
  | normal =>
    have hs2 : step P (lone (b.atR a₁ (.inScope c :: k)) cs w₁) = .next (lone (b.atR a₁ k) cs w₁) := step_lone_go (by simp [stepG, stepG.exec, Frame.atR])
    exact ⟨.normal, a₁, w₁, hq, .head h0 hs (StepsIn.trans harr (.one (fenced_calm hb hr rfl) hs2))⟩
  | exit id =>
    refine ⟨.exit id, a₁, w₁, hq, fun k' hk => .head h0 hs (harr.1 k' (by simp [exitTo, hk])), fun hr' hk => ?_⟩
    obtain ⟨k₁, h1, h2⟩ := harr.2 hr' (by simp [exitTo, hk])
    exact ⟨k₁, h1, .head h0 hs h2⟩
  | goto l => exact absurd rfl (hg l)
  | ret => exact ⟨_, a₁, w₁, hq, .of_steps (.one h0 hs) harr⟩
  | panic ch => exact ⟨_, a₁, w₁, hq, .of_steps (.one h0 hs) harr⟩
  | outgrown => exact ⟨_, a₁, w₁, hq, .of_steps (.one h0 hs) harr⟩
theorem wpAnyIn_post {md : Region.Mode} {ops : Array Oper} {Q' : Exit → Act → World → Prop} (hq : ∀ e a w, Q e a w → Q' e a w) : ∀ (fuel : Nat) (listed : Array Bool) (a : Act) (w : World), wpAnyIn F n P md ops Q fuel listed a w → wpAnyIn F n P md ops Q' fuel listed a w
  | 0, _, _, _, h => ⟨h.1, hq _ _ _ h.2⟩
  | fuel + 1, listed, a, w, h => by
    refine ⟨fun h0 => hq _ _ _ (h.1 h0), fun i hi => ?_⟩
    have h1 := h.2 i hi
    unfold wpOpIn at h1 ⊢
    split
    · rename_i ho; rw [ho] at h1; exact wpAnyIn_post hq fuel _ a w h1
    · rename_i o ho
      rw [ho] at h1
      simp only at h1
      split
      · rename_i hw; rw [if_pos hw] at h1; exact wpIn_post (fun a w => wpAnyIn_post hq fuel _ a w) hq h1
      · rename_i hw; rw [if_neg hw] at h1; exact ⟨h1.1, wpAnyIn_post hq fuel _ _ _ h1.2⟩
end
end Go.Proofs.YtpjhkpmmbeoghaaGreatDoor.Ev
namespace Go.Proofs.YtpjhkpmmbeoghaaGreatDoor.Ev
open Go
section
variable {P : Program}
def CodeSnd (P : Program) (ct : CodeT) (code : Code) (nt : Nat) : Prop :=
  ∀ (n0 : Nat) (E : Fr) (c : Cf) (a : Act) (kn : KN) (kx : KX), ct E c.M c.nm c.I c.ni kn kx = .ok → HR c → IB c.I c.ni → FR c E a nt n0 → ∀ (F : Fence) (n : Nat), FOK F → (F.round = none ∨ noRF code = true) →
    code.wpIn F n P (CPost c nt n0 kn kx) a c.w
def RegDSnd (P : Program) : Prop :=
  ∀ (call : CallT) (ops : Array Oper) (nt n0 : Nat) (E : Fr) (c : Cf) (a : Act) (kn : KN) (kx : KX), OpSnd P call → CallLin call → drawOk P ops = true → regDK P call (lowDI P nt ops [] (eager P ops)) E c.M c.nm c.I c.ni kn = .ok → HR c → IB c.I c.ni → FR c E a nt n0 →
    ∀ (F : Fence) (n : Nat), FOK F → wpAnyIn F n P .any ops (CPost c nt n0 kn kx) ops.size (Array.replicate ops.size false) a c.w
def BackSnd (P : Program) (bw : Nat) : Prop :=
  ∀ (f : Operand) (ps : Array Tmp) (assign body : Code) (ia ib : CodeT) (nt n0 : Nat) (E : Fr) (c : Cf) (a : Act) (kn : KN) (kx : KX), CodeSnd P ia assign nt → CodeSnd P ib body nt → psOk nt ps.toList = true → noRF assign = true → noRF body = true → backK bw (lowOpd f) ps.toList E c.M c.nm c.I c.ni ia ib kn = .ok → HR c → IB c.I c.ni → FR c E a nt n0 →
    ∀ (F : Fence) (n : Nat), FOK F → F.round = none → (Code.rangeFunc f ps assign body).wpIn F n P (CPost c nt n0 kn kx) a c.w
theorem drew_ext (c : Cf) : Ext c { c with w := { c.w with drawn := c.w.drawn + 1 } } := Ext.drew rfl ⟨rfl, rfl, rfl⟩
theorem codeK_ok {bw : Nat} {call : CallT} (hop : OpSnd P call) (hl : CallLin call) (hd : RegDSnd P) (hb : BackSnd P bw) (hm : P.follows .mixedOrders = true) (nt : Nat) (code : Code) : CodeSnd P (codeK P bw call nt code) code nt := by
  induction code with
  | skip =>
    intro n0 E c a kn kx h hr hI hf F n hF hN
    exact wpIn_skip ⟨E, c, hr, hI, .refl _, hf, rfl, .inl ⟨rfl, h⟩⟩
  | region id ops draw =>
    intro n0 E c a kn kx h hr hI hf F n hF hN
    cases draw with
    | false =>
      refine wpIn_region ?_
      have h : regG P call (groupL (ops.toList.map (lowRI P nt ops))) E c.M c.nm c.I c.ni kn = .ok := h
      rw [regG_eq] at h
      exact ops_ok hop hF ops.toList (List.range ops.size) (by simp) (fun j q1 q2 => by simp) h hr hI hf
    | true =>
      refine wpIn_region_any hm ?_
      obtain ⟨h1, h2⟩ := iff_bad h
      rw [regGD_eq] at h2
      have hr' := hr.drew (w' := { c.w with drawn := c.w.drawn + 1 }) rfl
      have hf' := hf.ext (drew_ext c)
      have := hd call ops nt n0 E { c with w := { c.w with drawn := c.w.drawn + 1 } } a kn kx hop hl h1 h2 hr' hI hf' F n hF
      exact wpAnyIn_post (fun e a' w' hp => CPost.trans hr (drew_ext c) hp) _ _ _ _ this
  | seq x y ihx ihy =>
    intro n0 E c a kn kx h hr hI hf F n hF hN
    refine wpIn_seq (wpIn_mono (ihx n0 E c a _ kx h hr hI hf F n hF (hN.imp id fun h => (Bool.and_eq_true_iff.1 h).1)) fun e a' w' hp => ?_)
    obtain ⟨E', c', h1, h2, h3, h4, rfl, h6⟩ := hp
    rcases h6 with ⟨rfl, h7⟩ | ⟨rfl, h7⟩ | ⟨id, rfl, h7⟩
    · exact wpIn_mono (ihy n0 E' c' a' kn kx h7 h1 h2 h4 F n hF (hN.imp id fun h => (Bool.and_eq_true_iff.1 h).2)) fun e a2 w2 hp => CPost.trans hr h3 hp
    · exact ⟨E', c', h1, h2, h3, h4, rfl, .inr (.inl ⟨rfl, h7⟩)⟩
    · exact ⟨E', c', h1, h2, h3, h4, rfl, .inr (.inr ⟨id, rfl, h7⟩)⟩
  | cond cnd x y ihx ihy =>
    intro n0 E c a kn kx h hr hI hf F n hF hN
    obtain ⟨w, I', n', h1, h2, h3⟩ := opdK_ok (k := fun w _ _ => iff (Nat.beq w 33) (codeK P bw call nt x E c.M c.nm c.I c.ni kn kx) (iff (Nat.beq w 1) (codeK P bw call nt y E c.M c.nm c.I c.ni kn kx) (.bad 63 w))) h (hf.opR cnd) hI
    rcases iff_ok h1 with ⟨h4, h5⟩ | ⟨_, h5⟩
    · exact wpIn_cond_true (h3.bool1 (Nat.eq_of_beq_eq_true h4)) (ihx n0 E c a kn kx h5 hr hI hf F n hF (hN.imp id fun h => (Bool.and_eq_true_iff.1 h).1))
    · obtain ⟨h4, h5⟩ := iff_bad h5
      exact wpIn_cond_false (h3.bool0 (Nat.eq_of_beq_eq_true h4)) (ihy n0 E c a kn kx h5 hr hI hf F n hF (hN.imp id fun h => (Bool.and_eq_true_iff.1 h).2))
  | block id b ih =>
    intro n0 E c a kn kx h hr hI hf F n hF hN
    refine wpIn_block (wpIn_mono (ih n0 E c a kn _ h hr hI hf F n hF hN) fun e a' w' hp => ?_)
    obtain ⟨E', c', h1, h2, h3, h4, rfl, h6⟩ := hp
    rcases h6 with ⟨rfl, h7⟩ | ⟨rfl, h7⟩ | ⟨id', rfl, h7⟩
    · exact ⟨E', c', h1, h2, h3, h4, rfl, .inl ⟨rfl, h7⟩⟩
    · rcases iff_ok h7 with ⟨h8, h7⟩ | ⟨-, h7⟩
      · have := Nat.eq_of_beq_eq_true h8; omega
      · exact ⟨E', c', h1, h2, h3, h4, rfl, .inr (.inl ⟨rfl, h7⟩)⟩
    · show (if id' = id then CPost c nt n0 kn kx .normal a' c'.w else CPost c nt n0 kn kx (.exit id') a' c'.w)
      rcases iff_ok h7 with ⟨h8, h7⟩ | ⟨h8, h7⟩
      · have := Nat.eq_of_beq_eq_true h8
        rw [if_pos (by omega)]
        exact ⟨E', c', h1, h2, h3, h4, rfl, .inl ⟨rfl, h7⟩⟩
      · rw [if_neg (fun he => by subst he; rw [Nat.beq_refl] at h8; cases h8)]
        exact ⟨E', c', h1, h2, h3, h4, rfl, .inr (.inr ⟨id', rfl, h7⟩)⟩
  | loop b ih =>
    intro n0 E c a kn kx h hr hI hf F n hF hN
    have go : ∀ (m : Nat) (E : Fr) (c : Cf) (a : Act), loopK (codeK P bw call nt b) kx m E c.M c.nm c.I c.ni = .ok → HR c → IB c.I c.ni → FR c E a nt n0 → LoopGo F n P b (CPost c nt n0 kn kx) a c.w := by
      intro m
      induction m with
      | zero => intro E c a h; cases h
      | succ m im =>
        intro E c a h hr hI hf
        refine LoopGo.round (wpIn_mono (ih n0 E c a _ kx h hr hI hf F n hF hN) fun e a' w' hp => ?_)
        obtain ⟨E', c', h1, h2, h3, h4, rfl, h6⟩ := hp
        rcases h6 with ⟨rfl, h7⟩ | ⟨rfl, h7⟩ | ⟨id, rfl, h7⟩
        · have hg := im E' c' a' h7 h1 h2 h4
          intro bf k cs hro hb hroom
          obtain ⟨e, a2, w2, hq, harr⟩ := hg bf k cs hro hb hroom
          exact ⟨e, a2, w2, CPost.trans hr h3 hq, harr⟩
        · exact ⟨E', c', h1, h2, h3, h4, rfl, .inr (.inl ⟨rfl, h7⟩)⟩
        · exact ⟨E', c', h1, h2, h3, h4, rfl, .inr (.inr ⟨id, rfl, h7⟩)⟩
    exact (go LF E c a h hr hI hf).wp
  | rangeFunc f ps assign body iha ihb =>
    intro n0 E c a kn kx h hr hI hf F n hF hN
    obtain ⟨h1, h⟩ := iff_bad h
    have h1 := Bool.and_eq_true_iff.1 h1
    have h2 := Bool.and_eq_true_iff.1 h1.2
    exact hb f ps assign body _ _ nt n0 E c a kn kx iha ihb h1.1 h2.1 h2.2 h hr hI hf F n hF (hN.resolve_right fun h => by cases h)
  | exit id =>
    intro n0 E c a kn kx h hr hI hf F n hF hN
    exact wpIn_exit ⟨E, c, hr, hI, .refl _, hf, rfl, .inr (.inr ⟨id, rfl, h⟩)⟩
  | scope b ih =>
    intro n0 E c a kn kx h hr hI hf F n hF hN
    refine wpIn_scope_straight (wpIn_mono (ih n0 E c a kn kx h hr hI hf F n hF hN) fun e a' w' hp => ⟨fun l he => ?_, hp⟩)
    obtain ⟨E', c', -, -, -, -, -, h6⟩ := hp
    rcases h6 with ⟨rfl, _⟩ | ⟨rfl, _⟩ | ⟨id, rfl, _⟩ <;> cases he
  | label l =>
    intro n0 E c a kn kx h hr hI hf F n hF hN
    exact wpIn_label ⟨E, c, hr, hI, .refl _, hf, rfl, .inl ⟨rfl, h⟩⟩
  | goto l => intro n0 E c a kn kx h; cases h
  | ret =>
    intro n0 E c a kn kx h hr hI hf F n hF hN
    exact wpIn_ret ⟨E, c, hr, hI, .refl _, hf, rfl, .inr (.inl ⟨rfl, h⟩)⟩
  | refuse s => intro n0 E c a kn kx h; cases h
end
end Go.Proofs.YtpjhkpmmbeoghaaGreatDoor.Ev
namespace Go.Proofs.YtpjhkpmmbeoghaaGreatDoor.Ev
open Go
section
variable {P : Program}
theorem HR.turn {c : Cf} (h : HR c) {k : Nat} {ob : Obj} {w' : World} (hw : w'.heap = c.w.heap.setIfInBounds k ob) (hno : ∀ b F, c.f b = some F → hd c.M b ≠ 0 → F.blk ≠ k) : HR { c with w := w' } where
  mlt := h.mlt
  ilt := h.ilt
  lay0 := h.lay0
  apart := h.apart
  dom := h.dom
  hdr := h.hdr
  cells b F hf hk := by
    have hk' : hd c.M b % 4 = 1 := hk
    obtain ⟨cs, elem, fr, h1, h2⟩ := h.cells b F hf hk'
    exact ⟨cs, elem, fr, by show w'.heap[_]? = _; rw [hw, Array.getElem?_setIfInBounds_ne (Ne.symm (hno b F hf (by omega)))]; exact h1, h2⟩
  maps b F hf hk := by
    have hk' : hd c.M b % 4 = 3 := hk
    obtain ⟨h0, es, clock, b', k', h1, h2⟩ := h.maps b F hf hk'
    exact ⟨h0, es, clock, b', k', by show w'.heap[_]? = _; rw [hw, Array.getElem?_setIfInBounds_ne (Ne.symm (hno b F hf (by omega)))]; exact h1, h2⟩
  lt b F hf := by show _ < w'.heap.size; rw [hw]; simpa using h.lt b F hf
  inj := h.inj
theorem Ext.turn {c0 c : Cf} (he : Ext c0 c) {k : Nat} {ob : Obj} {w' : World} (hw : w'.heap = c.w.heap.setIfInBounds k ob) (ht : w'.tape = c.w.tape ∧ w'.os = c.w.os ∧ w'.output = c.w.output) (hk : c0.w.heap.size ≤ k) : Ext c0 { c with w := w' } :=
  ⟨he.lay, he.layN, he.f, he.fN, he.I, he.nm, he.keep, ⟨ht.1.trans he.tape.1, ht.2.1.trans he.tape.2.1, ht.2.2.trans he.tape.2.2⟩, by show _ ≤ w'.heap.size; rw [hw]; simpa using he.size,
    fun j hj hn => by show w'.heap[j]? = _; rw [hw, Array.getElem?_setIfInBounds_ne (by omega)]; exact he.frame j hj hn, he.img⟩
def resVal (_P : Program) (tmps : Array Value) : ResultVar → Sem Value
  | .tmp t => pure (tmps.getD t undef)
  | .cell a t => do loadVar t (← asAddr (tmps.getD a undef))
theorem results_eq (fn : Func) (tmps : Array Value) : results fn tmps = (do let vs ← fn.results.mapM (resVal P tmps); pure (if h : vs.size = 1 then vs[0] else .tuple vs)) := by
  unfold results
  congr 1
theorem run_mapM {α : Type} (g : α → Sem Value) (W : World) : ∀ (l : List α) (vs : List Value), l.length = vs.length → (∀ i (h : i < l.length) (h' : i < vs.length), (g l[i]).run P W = .ok vs[i] W) → (l.mapM g).run P W = .ok vs W
  | [], [], _, _ => rfl
  | x :: l, v :: vs, hl, h => by
    have h0 := h 0 (by simp) (by simp)
    have ih := run_mapM g W l vs (by simpa using hl) fun i q1 q2 => h (i + 1) (by simpa using q1) (by simpa using q2)
    simp only [List.getElem_cons_zero] at h0
    simp only [List.mapM_cons, Sem.run_bind, h0, Result.andThen_ok, ih, Sem.run_pure]
theorem run_results {fn : Func} {tmps : Array Value} {vs : List Value} {W : World} (hl : fn.results.toList.length = vs.length) (h : ∀ i (h : i < fn.results.toList.length) (h' : i < vs.length), (resVal P tmps fn.results.toList[i]).run P W = .ok vs[i] W) :
    (results fn tmps).run P W = .ok (if h : vs.toArray.size = 1 then vs.toArray[0] else .tuple vs.toArray) W := by
  rw [results_eq (P := P), Array.mapM_eq_mapM_toList]
  simp only [Sem.run_bind, Sem.run_map, run_mapM (resVal P tmps) W _ vs hl h, Result.andThen_ok, Sem.run_pure]
theorem tuple_ok {f : Nat → Option FB} {I ni n : Nat} {ws : List Nat} {vs : List Value} (hI : IB I ni) (hn : ws.length = n) (hb : ni + n < 16777216) (hv : vs.length = n) (h : ∀ i (h : i < ws.length) (h' : i < vs.length), WR f I ni ws[i] vs[i]) :
    IOk I ni (addRow I ni (rowOf ws)) (ni + n) ∧ WR f (addRow I ni (rowOf ws)) (ni + n) (19 + 32 * (ni + 16777216 * n)) (.tuple vs.toArray) := by
  obtain ⟨h1, h2⟩ := rowOf_ok (l := ws) fun w hw => by
    obtain ⟨i, hi, rfl⟩ := List.getElem_of_mem hw
    exact (h i hi (by omega)).lt96
  rw [hn] at h1
  refine ⟨.grow hI h1 hb, .tuple ni n _ (by simp [hv]) (by omega) (by omega) (Nat.le_refl _) fun i hi => ?_⟩
  have hi' : i < vs.length := by simpa using hi
  rw [cell_add hI.1, if_neg (by omega), Nat.add_sub_cancel_left, h2 i (by omega)]
  simpa using (h i (by omega) hi').mono (.refl _) (iext_add hI.1)
theorem mapM_some {α β : Type} {g : α → Option β} : ∀ {l : List α} {r : List β}, l.mapM g = some r → l.length = r.length ∧ ∀ i (h : i < l.length) (h' : i < r.length), g l[i] = some r[i]
  | [], r, h => by
    simp at h; subst h; exact ⟨rfl, fun i h => absurd h (by simp)⟩
  | x :: l, r, h => by
    simp only [List.mapM_cons, Option.bind_eq_bind, Option.pure_def] at h
    cases hx : g x with
    | none => simp [hx] at h
    | some y =>
      cases hl : l.mapM g with
      | none => simp [hx, hl] at h
      | some ys =>
        simp [hx, hl] at h
        subst h
        obtain ⟨h1, h2⟩ := mapM_some hl
        refine ⟨by simp [h1], fun i q1 q2 => ?_⟩
        cases i with
        | zero => simpa using hx
        | succ i => exact h2 i (by simpa using q1) (by simpa using q2)
theorem slotsOf_get : ∀ (E : Fr) (l : List Nat), (slotsOf E l).length = l.length ∧ ∀ i (h : i < (slotsOf E l).length) (h' : i < l.length), (slotsOf E l)[i] = slot E l[i]
  | _, [] => ⟨rfl, fun i h => absurd h (by simp [slotsOf])⟩
  | E, o :: l => by
    obtain ⟨h1, h2⟩ := slotsOf_get E l
    have e : slotsOf E (o :: l) = slot E o :: slotsOf E l := rfl
    rw [e]
    refine ⟨by simp [h1], fun i q1 q2 => ?_⟩
    cases i with
    | zero => rfl
    | succ i => exact h2 i (by simpa using q1) (by simpa using q2)
def RetOut (P : Program) (c : Cf) (kf : KF) (s : Sem Value) : Prop :=
  ∃ word v I' ni', kf word c.M c.nm I' ni' = .ok ∧ IOk c.I c.ni I' ni' ∧ WR c.f I' ni' word v ∧ s.run P c.w = .ok v c.w
theorem rvsK_ok {c : Cf} {E : Fr} {a : Act} (hr : HR c) (hwr : ∀ t, WR c.f c.I c.ni (fcell E t) (a.tmps.getD t undef)) : ∀ (l : List ResultVar) (rv : List RV), l.mapM (lowRV P) = some rv → ∀ {I ni : Nat} {k : List Nat → Nat → Nat → Res}, IOk c.I c.ni I ni → rvsK rv E c.M I ni k = .ok →
    ∃ (ws : List Nat) (vs : List Value) (I' ni' : Nat), k ws I' ni' = .ok ∧ IOk I ni I' ni' ∧ ws.length = l.length ∧ vs.length = l.length ∧ (∀ i (h : i < ws.length) (h' : i < vs.length), WR c.f I' ni' ws[i] vs[i]) ∧ ∀ i (h : i < l.length) (h' : i < vs.length), (resVal P a.tmps l[i]).run P c.w = .ok vs[i] c.w
  | [], rv, hm, I, ni, k, hI, h => by
    simp at hm; subst hm
    exact ⟨[], [], I, ni, h, .refl hI.lt, rfl, rfl, fun i h => absurd h (by simp), fun i h => absurd h (by simp)⟩
  | x :: l, rv, hm, I, ni, k, hI, h => by
    obtain ⟨hl, hg⟩ := mapM_some hm
    cases rv with
    | nil => simp at hl
    | cons y rv =>
      have hx := hg 0 (by simp) (by simp)
      simp only [List.getElem_cons_zero] at hx
      have hrest : l.mapM (lowRV P) = some rv := by
        simp only [List.mapM_cons, Option.bind_eq_bind, Option.pure_def, hx, Option.bind_some] at hm
        cases hl : l.mapM (lowRV P) with
        | none => simp [hl] at hm
        | some ys => simp [hl] at hm; rw [hm]
      have first : ∃ w v I1 n1, (rvsK rv E c.M I1 n1 fun ws I ni => k (w :: ws) I ni) = .ok ∧ IOk I ni I1 n1 ∧ WR c.f I1 n1 w v ∧ (resVal P a.tmps x).run P c.w = .ok v c.w := by
        have hr1 := hr.growI hI.ext hI.lt.1
        cases x with
        | tmp t =>
          simp only [lowRV, Option.some.injEq] at hx
          subst hx
          exact ⟨_, _, I, ni, h, .refl hI.lt, (hwr t).mono (.refl _) hI.ext, rfl⟩
        | cell t ty =>
          simp only [lowRV] at hx
          cases hd : P.underlying ty with
          | none => simp [hd] at hx
          | some d =>
            simp only [hd] at hx
            have hop : OpR c.f I ni E a (.tmp t) := (hwr t).mono (.refl _) hI.ext
            by_cases hag : aggD d = true
            · rw [if_pos hag] at hx
              simp only [szOf, Option.map_map, Option.map_eq_some_iff] at hx
              obtain ⟨i, hi, rfl⟩ := hx
              obtain ⟨w, I1, n1, v, h1, h2, h3, h4⟩ := loadNK_ok (c := { c with I := I, ni := ni }) (E := E) (a := a) (x := .tmp t) (P := P) (kv := fun w I ni => rvsK rv E c.M I ni fun ws I ni => k (w :: ws) I ni) hr1 hd hag hi h hop hI.lt
              refine ⟨w, v, I1, n1, h1, h2, h3, ?_⟩
              have h5 : (Instr.loadAt ty (a.tmps.getD t undef)).run P c.w = .ok v c.w := by
                have h4' : (do let v ← Instr.loadAt ty (a.tmps.getD t undef); pure (Next.value v) : Sem Next).run P c.w = .ok (.value v) c.w := h4
                rw [Sem.run_bind] at h4'
                cases hl : (Instr.loadAt ty (a.tmps.getD t undef)).run P c.w with
                | ok u w2 => rw [hl] at h4'; simp at h4'; obtain ⟨rfl, rfl⟩ := h4'; rfl
                | halt x w2 => rw [hl] at h4'; simp at h4'
              simp only [resVal]
              simp only [Instr.loadAt, Sem.run_bind] at h5 ⊢
              cases hv : a.tmps.getD t undef with
              | pointer o => cases o with
                | some A => rw [hv] at h5; simpa [Instr.sureAddr, asAddr] using h5
                | none => rw [hv] at h5; simp [Instr.sureAddr] at h5
              | _ => rw [hv] at h5; simp [Instr.sureAddr] at h5
            · rw [if_neg hag] at hx
              cases hx
              have hag' : aggD d = false := by simpa using hag
              obtain ⟨w, I1, n1, v, h1, h2, h3, h4⟩ := load1K_ok (c := { c with I := I, ni := ni }) (E := E) (a := a) (x := .tmp t) (P := P) (kv := fun w I ni => rvsK rv E c.M I ni fun ws I ni => k (w :: ws) I ni) hr1 hd hag' h hop hI.lt
              refine ⟨w, v, I1, n1, h1, h2, h3, ?_⟩
              have h5 : (Instr.loadAt ty (a.tmps.getD t undef)).run P c.w = .ok v c.w := by
                have h4' : (do let v ← Instr.loadAt ty (a.tmps.getD t undef); pure (Next.value v) : Sem Next).run P c.w = .ok (.value v) c.w := h4
                rw [Sem.run_bind] at h4'
                cases hl : (Instr.loadAt ty (a.tmps.getD t undef)).run P c.w with
                | ok u w2 => rw [hl] at h4'; simp at h4'; obtain ⟨rfl, rfl⟩ := h4'; rfl
                | halt x w2 => rw [hl] at h4'; simp at h4'
              simp only [resVal]
              simp only [Instr.loadAt, Sem.run_bind] at h5 ⊢
              cases hv : a.tmps.getD t undef with
              | pointer o => cases o with
                | some A => rw [hv] at h5; simpa [Instr.sureAddr, asAddr] using h5
                | none => rw [hv] at h5; simp [Instr.sureAddr] at h5
              | _ => rw [hv] at h5; simp [Instr.sureAddr] at h5
      obtain ⟨w, v, I1, n1, h1, h2, h3, h4⟩ := first
      obtain ⟨ws, vs, I2, n2, h5, h6, h7, h8, h9, h10⟩ := rvsK_ok hr hwr l rv hrest (hI.trans h2) h1
      refine ⟨w :: ws, v :: vs, I2, n2, h5, h2.trans h6, by simp [h7], by simp [h8], fun i q1 q2 => ?_, fun i q1 q2 => ?_⟩
      · cases i with
        | zero => exact h3.mono (.refl _) h6.ext
        | succ i => exact h9 i (by simpa using q1) (by simpa using q2)
      · cases i with
        | zero => exact h4
        | succ i => exact h10 i (by simpa using q1) (by simpa using q2)
end
end Go.Proofs.YtpjhkpmmbeoghaaGreatDoor.Ev
namespace Go.Proofs.YtpjhkpmmbeoghaaGreatDoor.Ev
open Go
section
variable {P : Program}
theorem res_one (v : Value) : (if h : [v].toArray.size = 1 then [v].toArray[0] else Value.tuple [v].toArray) = v := by simp
theorem res_many {vs : List Value} (h : vs.length ≠ 1) : (if h : vs.toArray.size = 1 then vs.toArray[0] else Value.tuple vs.toArray) = .tuple vs.toArray := by rw [dif_neg]; simpa using h
theorem retK_ok {fn : Func} {c : Cf} {E : Fr} {a : Act} {kf : KF} (hr : HR c) (hI : IB c.I c.ni) (hwr : ∀ t, WR c.f c.I c.ni (fcell E t) (a.tmps.getD t undef)) (h : retK (lowRes P fn.results) E c.M c.nm c.I c.ni kf = .ok) : RetOut P c kf (results fn a.tmps) := by
  unfold lowRes at h
  split at h
  · rename_i t hl
    refine ⟨_, a.tmps.getD t undef, c.I, c.ni, h, .refl hI, hwr t, ?_⟩
    have := run_results (P := P) (fn := fn) (tmps := a.tmps) (vs := [a.tmps.getD t undef]) (W := c.w) (by rw [hl]; rfl) fun i q1 q2 => by
      have : i = 0 := by simp at q2; omega
      subst this
      simp [hl, resVal]
    rw [this, res_one]
  · rename_i hno
    split at h
    · rename_i offs hm
      obtain ⟨hl, hg⟩ := mapM_some hm
      obtain ⟨h1, h2⟩ := growK_ok (k := fun I' ni' => kf _ c.M c.nm I' ni') h
      obtain ⟨s1, s2⟩ := slotsOf_get E offs
      have hts : ∀ i (q : i < fn.results.toList.length) (q' : i < offs.length), ∃ t, fn.results.toList[i] = .tmp t ∧ offs[i] = 96 * t := fun i q q' => by
        have := hg i q q'
        cases hx : fn.results.toList[i] with
        | tmp t => rw [hx] at this; simp only [Option.some.injEq] at this; exact ⟨t, rfl, this.symm⟩
        | cell a t => rw [hx] at this; simp at this
      let vs : List Value := fn.results.toList.map fun x => match x with | .tmp t => a.tmps.getD t undef | .cell .. => undef
      have hvl : vs.length = fn.results.toList.length := by simp [vs]
      obtain ⟨g1, g2⟩ := tuple_ok (f := c.f) (ws := slotsOf E offs) (vs := vs) (n := offs.length) hI s1 h1 (by omega) fun i q1 q2 => by
        obtain ⟨t, e1, e2⟩ := hts i (by omega) (by omega)
        rw [s2 i q1 (by omega), e2]
        simp only [vs, List.getElem_map, e1]
        exact hwr t
      refine ⟨_, .tuple vs.toArray, _, _, h2, g1, g2, ?_⟩
      have := run_results (P := P) (fn := fn) (tmps := a.tmps) (vs := vs) (W := c.w) hvl.symm fun i q1 q2 => by
        obtain ⟨t, e1, e2⟩ := hts i q1 (by omega)
        simp only [vs, List.getElem_map, e1]
        rfl
      rw [this, res_many]
      intro h1'
      obtain ⟨x, hx⟩ := List.length_eq_one_iff.1 (hvl ▸ h1')
      obtain ⟨t, e1, -⟩ := hts 0 (by rw [hx]; simp) (by rw [hx] at hl; simp at hl; omega)
      simp only [hx, List.getElem_cons_zero] at e1
      exact hno t (by rw [hx, e1])
    · split at h
      · rename_i rv hm
        obtain ⟨ws, vs, I', n', h1, h2, h3, h4, h5, h6⟩ := rvsK_ok hr hwr _ rv hm (.refl hI) h
        have hrun := run_results (P := P) (fn := fn) (tmps := a.tmps) (vs := vs) (W := c.w) h4.symm h6
        have hl := (mapM_some hm).1
        cases ws with
        | nil => cases h1
        | cons w ws' =>
          cases ws' with
          | nil =>
            cases vs with
            | nil => simp at h3 h4; omega
            | cons v vs' =>
              have : vs' = [] := by
                simp only [List.length_cons, List.length_nil] at h3 h4
                exact List.eq_nil_of_length_eq_zero (by omega)
              subst this
              refine ⟨w, v, I', n', h1, h2, h5 0 (by simp) (by simp), ?_⟩
              rw [hrun, res_one]
          | cons w2 ws'' =>
            obtain ⟨h7, h8⟩ := growK_ok (k := fun I'' ni'' => kf _ c.M c.nm I'' ni'') h1
            obtain ⟨g1, g2⟩ := tuple_ok (f := c.f) (ws := w :: w2 :: ws'') (vs := vs) (n := rv.length) h2.lt (by rw [h3]; exact hl) h7 (by omega) h5
            refine ⟨_, .tuple vs.toArray, _, _, h8, h2.trans g1, g2, ?_⟩
            rw [hrun, res_many]
            rw [h4, ← h3]
            simp
      · cases h
theorem leaves_ok {fn : Func} {F : Fence} {n : Nat} {c0 : Cf} {n0 : Nat} {kf : KF} {E : Fr} (hn0 : c0.w.heap.size ≤ n0) : ∀ (ds : List Deferred) (c : Cf) (a : Act), HR c0 → HR c → IB c.I c.ni → Ext c0 c → (∀ t, WR c.f c.I c.ni (fcell E t) (a.tmps.getD t undef)) → MarksOk c n0 ds →
    retK (lowRes P fn.results) E c.M c.nm c.I c.ni kf = .ok → LeavesInM F n P fn a.tmps (CallPost c0 kf) ds .returning c.w
  | [], c, a, hr0, hr, hI, he, hwr, hm, h => by
    obtain ⟨word, v, I', n', h1, h2, h3, h4⟩ := retK_ok hr hI hwr h
    exact ⟨v, h4, word, v, { c with I := I', ni := n' }, rfl, rfl, h1, hr.growI h2.ext h2.lt.1, h2.lt, he.trans hr0 (.growI h2.ext), h3⟩
  | d :: ds, c, a, hr0, hr, hI, he, hwr, hm, h => by
    obtain ⟨D, rfl, hD0, hD, hDn⟩ := hm.2 d (by simp)
    have hlt : D < c.w.heap.size := (Array.getElem?_eq_some_iff.1 hD).1
    refine ⟨by simp, .inl ⟨D, { c.w with heap := c.w.heap.setIfInBounds D (.deferred none) }, rfl, ?_, ?_⟩⟩
    · simp [Instr.takeDeferred, getObj, setObj, Sem.run, hD]
    · have hrt := hr.turn (w' := { c.w with heap := c.w.heap.setIfInBounds D (.deferred none) }) (k := D) rfl hDn
      have het := he.turn (w' := { c.w with heap := c.w.heap.setIfInBounds D (.deferred none) }) (k := D) rfl ⟨rfl, rfl, rfl⟩ (by omega)
      have hm1 := List.pairwise_cons.1 hm.1
      refine leaves_ok hn0 ds { c with w := { c.w with heap := c.w.heap.setIfInBounds D (.deferred none) } } a hr0 hrt hI het hwr ⟨hm1.2, fun d' hd' => ?_⟩ h
      obtain ⟨D', e1, q0, q1, q2⟩ := hm.2 d' (by simp [hd'])
      refine ⟨D', e1, q0, ?_, q2⟩
      have hne : D ≠ D' := fun e => by
        subst e
        subst e1
        exact hm1.1 _ hd' rfl
      show (c.w.heap.setIfInBounds D _)[D']? = _
      rw [Array.getElem?_setIfInBounds_ne hne]; exact q1
theorem frOf_cons (w : Nat) (ws : List Nat) (o : Nat) : frOf (w :: ws) o = @Bool.rec (fun _ => Nat) (frOf ws (o - 96)) w (Nat.beq o 0) := rfl
theorem frOf_in {ws : List Nat} (t : Nat) (h : t < ws.length) : fcell (frOf ws) t = ws[t] := by
  induction ws generalizing t with
  | nil => simp at h
  | cons w ws ih =>
    show frOf (w :: ws) (96 * t) = _
    rw [frOf_cons]
    cases t with
    | zero => rfl
    | succ t =>
      have : Nat.beq (96 * (t + 1)) 0 = false := rfl
      rw [this]
      have h9 : frOf ws (96 * t) = ws[t]'(by simpa using h) := ih t (by simpa using h)
      show frOf ws (96 * (t + 1) - 96) = _
      rw [show 96 * (t + 1) - 96 = 96 * t by omega]
      exact h9
theorem frOf_out {ws : List Nat} {t : Nat} (h : ws.length ≤ t) : fcell (frOf ws) t = 0 := by
  induction ws generalizing t with
  | nil => rfl
  | cons w ws ih =>
    show frOf (w :: ws) (96 * t) = _
    rw [frOf_cons]
    cases t with
    | zero => simp at h
    | succ t =>
      have : Nat.beq (96 * (t + 1)) 0 = false := rfl
      rw [this]
      show frOf ws (96 * (t + 1) - 96) = _
      rw [show 96 * (t + 1) - 96 = 96 * t by omega]
      exact ih (by simpa using h)
theorem callW_ok {bw : Nat} {call : CallT} (hev : ∀ nt code, CodeSnd P (codeK P bw call nt code) code nt) : CallSnd P (callW P bw call) := by
  intro f ws c kf args h hr hI hsz hargs
  unfold callW funInfo at h
  cases hfn : P.funcs[f]? with
  | none => rw [hfn] at h; cases h
  | some fn =>
    cases hb : fn.body with
    | none => simp only [hfn, hb] at h; cases h
    | some code =>
      simp only [hfn, hb] at h
      refine ⟨⟨fn, rfl, by rw [hb]; rfl⟩, fun F n hF => ?_⟩
      obtain ⟨h1, h⟩ := iff_bad h
      have h1 : ws.length ≤ fn.ntmps := Nat.le_of_ble_eq_true h1
      have hfr : FR c (frOf ws) { tmps := args ++ Array.replicate (fn.ntmps - args.size) undef, defers := [] } fn.ntmps c.w.heap.size := by
        refine ⟨by simp; omega, fun t => ?_, ⟨.nil, fun d hd => by cases hd⟩, Nat.le_refl _⟩
        by_cases ht : t < ws.length
        · rw [frOf_in t ht]
          have : (args ++ Array.replicate (fn.ntmps - args.size) undef).getD t undef = args[t]'(by omega) := by
            simp [Array.getElem?_append_left (show t < args.size by omega), show t < args.size by omega]
          show WR c.f c.I c.ni ws[t] ((args ++ Array.replicate (fn.ntmps - args.size) undef).getD t undef)
          rw [this]
          exact hargs t ht (by omega)
        · rw [frOf_out (by omega)]
          have : (args ++ Array.replicate (fn.ntmps - args.size) undef).getD t undef = undef := by
            rw [Array.getD_eq_getD_getElem?, Array.getElem?_append_right (by omega)]
            by_cases h2 : t - args.size < fn.ntmps - args.size
            · simp [h2]
            · simp [h2]
          show WR c.f c.I c.ni 0 ((args ++ Array.replicate (fn.ntmps - args.size) undef).getD t undef)
          rw [this]; exact .undef
      have hFp : FOK F.plain := hF
      have key : CallsIn F.plain n P f args c.w (CallPost c kf) := by
        refine callsIn_of_wp_marks hfn hb (hFp.1 f) (wpIn_mono (hev fn.ntmps code c.w.heap.size (frOf ws) c _ _ _ h hr hI hfr F.plain n hFp (.inl rfl)) fun e a' w' hp => ?_) rfl
        obtain ⟨E', c', h2, h3, h4, h5, rfl, h6⟩ := hp
        rcases h6 with ⟨rfl, h7⟩ | ⟨rfl, h7⟩ | ⟨id, rfl, h7⟩
        · exact leaves_ok (Nat.le_refl _) _ c' a' hr h2 h3 h4 h5.wr h5.marks h7
        · obtain ⟨-, h7⟩ := iff_bad h7
          exact leaves_ok (Nat.le_refl _) _ c' a' hr h2 h3 h4 h5.wr h5.marks h7
        · obtain ⟨h8, -⟩ := iff_bad h7
          have := Nat.eq_of_beq_eq_true h8
          omega
      exact key
theorem evF_ok {bw : Nat} (hop : ∀ call, CallSnd P call → OpSnd P call) (hl : ∀ fuel, CallLin (evF P bw fuel)) (hd : RegDSnd P) (hb : BackSnd P bw) (hm : P.follows .mixedOrders = true) : ∀ fuel, CallSnd P (evF P bw fuel)
  | 0 => fun f ws c kf args h => by cases h
  | fuel + 1 => callW_ok (codeK_ok (hop _ (evF_ok hop hl hd hb hm fuel)) (hl fuel) hd hb hm)
end
end Go.Proofs.YtpjhkpmmbeoghaaGreatDoor.Ev
namespace Go.Proofs.YtpjhkpmmbeoghaaGreatDoor.Ev
open Go Go.MapKept
def KV' : KK → Value → Prop
  | .word t, v => (∃ b, v = .bool b ∧ t = 1) ∨ ∃ k z, v = .int k z ∧ t = tagI k
  | .str, v => ∃ s, v = .string s
  | .row n t, v => ∃ cs k, v = .agg cs ∧ cs.size = n ∧ t = tagI k ∧ ∀ i (h : i < cs.size), ∃ z, cs[i] = .int k z
def KType (P : Program) (kt : TypeId) : KK → Prop
  | .word t => (P.underlying kt = some .bool ∧ t = 1) ∨ ∃ k, P.underlying kt = some (.int k) ∧ t = tagI k
  | .str => P.underlying kt = some .string
  | .row n t => ∃ e k ie, P.underlying kt = some (.array n e) ∧ P.underlying e = some (.int k) ∧ t = tagI k ∧ P.info? e = some ie ∧ ie.size = 1
section
variable {f : Nat → Option FB} {I ni : Nat} {E : Fr} {a : Act} {P : Program}
theorem tagsK_ok {t I : Nat} {k : Res} : ∀ {n b : Nat}, tagsK t I n b k = .ok → k = .ok ∧ ∀ i, i < n → cellAt I (b + i) % 32 = t
  | 0, b, h => ⟨h, fun i hi => absurd hi (by omega)⟩
  | n + 1, b, h => by
    obtain ⟨h1, h⟩ := iff_bad h
    obtain ⟨h2, h3⟩ := tagsK_ok (n := n) (b := b + 1) h
    refine ⟨h2, fun i hi => ?_⟩
    cases i with
    | zero => exact tg_ok h1
    | succ i => have := h3 i (by omega); rwa [show b + (i + 1) = b + 1 + i by omega]
theorem keyTag_ok {kt : TypeId} {q : KK} (hq : KType P kt q) {w : Nat} {v : Value} {k : Res} (hv : WR f I ni w v) (h : keyTag q I w k = .ok) : k = .ok ∧ KV' q v := by
  cases q with
  | word t =>
    obtain ⟨h1, h⟩ := iff_bad h
    refine ⟨h, ?_⟩
    rcases hq with ⟨-, rfl⟩ | ⟨k, -, rfl⟩
    · obtain ⟨b, e1, -⟩ := hv.inv_bool (tg_ok h1)
      exact .inl ⟨b, e1, rfl⟩
    · obtain ⟨m, p, e1, -, -⟩ := hv.inv_int k (tg_ok h1)
      exact .inr ⟨k, m, e1, rfl⟩
  | str =>
    obtain ⟨h1, h⟩ := iff_bad h
    obtain ⟨q, n, s, e1, -⟩ := hv.inv_str (tg_ok h1)
    exact ⟨h, s, e1⟩
  | row n t =>
    obtain ⟨h1, h⟩ := iff_bad h
    obtain ⟨h2, h⟩ := iff_bad h
    obtain ⟨h0, h3⟩ := tagsK_ok h
    obtain ⟨b, m, cs, e1, hn, hone, hn2, hb, hi, hr, hw⟩ := hv.inv_agg (tg_ok h1)
    obtain ⟨g1, g2⟩ := gW hw (by omega) hb
    obtain ⟨e, kk, ie, -, -, rfl, -⟩ := hq
    have h2 := Nat.eq_of_beq_eq_true h2
    rw [g2] at h2
    rw [g1] at h3
    refine ⟨h0, cs, kk, e1, by omega, rfl, fun i hi => ?_⟩
    obtain ⟨z, p, e2, -, -⟩ := (hr i hi).inv_int kk (h3 i (by omega))
    exact ⟨z, e2⟩
theorem str_eq {q n q' n' : Nat} {s s' : ByteArray} (hn : s.data.toList.length = n) (hn' : s'.data.toList.length = n') (hv : strAt I q n = beVal s.data.toList) (hv' : strAt I q' n' = beVal s'.data.toList) : (n = n' ∧ strAt I q n = strAt I q' n') ↔ s = s' := by
  constructor
  · rintro ⟨e1, e2⟩
    rw [hv, hv'] at e2
    have := beVal_inj _ _ (by omega) e2
    obtain ⟨⟨l⟩⟩ := s
    obtain ⟨⟨l'⟩⟩ := s'
    simp only at this
    rw [this]
  · rintro rfl
    have : n = n' := by omega
    subst this
    exact ⟨rfl, hv.trans hv'.symm⟩
theorem keyEq_ok {kt : TypeId} {q : KK} (_hq : KType P kt q) {w w' : Nat} {v v' : Value} (hv : WR f I ni w v) (hv' : WR f I ni w' v') (k : KV' q v) (k' : KV' q v') : keyEq q I w w' = true ↔ v = v' := by
  cases q with
  | word t =>
    refine Iff.trans (show Nat.beq w w' = true ↔ _ from beq_iff') ?_
    rcases k with ⟨b, rfl, rfl⟩ | ⟨k, z, rfl, rfl⟩
    · rcases k' with ⟨b', rfl, -⟩ | ⟨k', z', rfl, h⟩
      · cases hv
        cases hv'
        cases b <;> cases b' <;> simp
      · have := tagI_lt k'; omega
    · rcases k' with ⟨b', rfl, h⟩ | ⟨k', z', rfl, h⟩
      · have := tagI_lt k; omega
      · have := tagI_inj h
        subst this
        rw [(int_cmp hv hv').1]
        simp
  | str =>
    obtain ⟨s, rfl⟩ := k
    obtain ⟨s', rfl⟩ := k'
    cases hv with
    | str q n _ hn hn2 hq hs hi =>
      cases hv' with
      | str q' n' _ hn' hn2' hq' hs' hi' =>
        obtain ⟨t1, t2⟩ := tW rfl hq (n := n)
        obtain ⟨t3, t4⟩ := tW rfl hq' (n := n')
        have := str_eq hn hn' hs hs'
        show and (Nat.beq (tN _) (tN _)) (Nat.beq (strAt I (tQ _) (tN _)) (strAt I (tQ _) (tN _))) = true ↔ _
        rw [t1, t2, t3, t4, nbeq, nbeq]
        simp only [Bool.and_eq_true, decide_eq_true_eq]
        rw [this]
        simp
  | row n t =>
    obtain ⟨cs, k, rfl, hs, ht, hc⟩ := k
    obtain ⟨cs', k2, rfl, hs', ht', hc'⟩ := k'
    have := tagI_inj (ht.symm.trans ht')
    subst this
    cases hv with
    | agg b m _ hn hone hn2 hb hi hr =>
      cases hv' with
      | agg b' m' _ hn' hone' hn2' hb' hi' hr' =>
        obtain ⟨g1, g2⟩ := gW (w := 18 + 32 * (b + 16777216 * m)) rfl (by omega) hb
        obtain ⟨g3, g4⟩ := gW (w := 18 + 32 * (b' + 16777216 * m')) rfl (by omega) hb'
        show Nat.beq (rowAt I (gB _) n) (rowAt I (gB _) n) = true ↔ _
        rw [g1, g3, nbeq, decide_eq_true_eq]
        constructor
        · intro e
          have : cs = cs' := by
            apply Array.ext (by omega)
            intro i h1 h2
            have e2 := congrArg (cellAt · i) e
            simp only [cell_row (show i < n by omega)] at e2
            obtain ⟨z, e3⟩ := hc i h1
            obtain ⟨z', e4⟩ := hc' i h2
            have r1 := hr i h1
            have r2 := hr' i h2
            rw [e3] at r1
            rw [e4] at r2
            rw [e3, e4, (int_cmp r1 r2).1.1 e2]
          rw [this]
        · intro e
          cases e
          refine row_ext (row_lt _ _ _) (row_lt _ _ _) fun i hi => ?_
          rw [cell_row hi, cell_row hi]
          obtain ⟨z, e3⟩ := hc i (by omega)
          have r1 := hr i (by omega)
          have r2 := hr' i (by omega)
          rw [e3] at r1 r2
          exact (int_cmp r1 r2).1.2 rfl
theorem findK_ok {kt : TypeId} {q : KK} (hq : KType P kt q) {wk : Nat} {v : Value} (hv : WR f I ni wk v) (hk : KV' q v) {yes : Nat → Res} {no : Res} : ∀ (es : List MapEntry) (b : Nat), findK q I wk es.length b yes no = .ok →
    (∀ i (h : i < es.length), WR f I ni (cellAt I (b + 2 * i)) es[i].key) →
    (∃ j, ∃ h : j < es.length, yes (b + 2 * j) = .ok ∧ KV' q es[j].key ∧ es[j].key = v ∧ ∀ i (h : i < es.length), i < j → KV' q es[i].key ∧ es[i].key ≠ v) ∨ (no = .ok ∧ ∀ e ∈ es, KV' q e.key ∧ e.key ≠ v)
  | [], b, h, _ => .inr ⟨h, fun e he => by cases he⟩
  | e :: es, b, h, hw => by
    have h0 : WR f I ni (cellAt I b) e.key := hw 0 (by simp)
    obtain ⟨h, hke⟩ := keyTag_ok hq (k := iff (keyEq q I (cellAt I b) wk) (yes b) (findK q I wk es.length (b + 2) yes no)) h0 h
    rcases iff_ok h with ⟨h1, h⟩ | ⟨h1, h⟩
    · exact .inl ⟨0, by simp, h, hke, (keyEq_ok hq h0 hv hke hk).1 h1, fun i _ hi => absurd hi (by omega)⟩
    · have hne : e.key ≠ v := fun e2 => by
        have := (keyEq_ok hq h0 hv hke hk).2 e2
        rw [this] at h1; cases h1
      rcases findK_ok hq hv hk es (b + 2) h (fun i hi => by
        have := hw (i + 1) (by simp; omega)
        rw [show b + 2 * (i + 1) = b + 2 + 2 * i by omega] at this
        simpa using this) with ⟨j, hj, h2, h3, h4, h5⟩ | ⟨h2, h3⟩
      · refine .inl ⟨j + 1, by simp; omega, by rw [show b + 2 * (j + 1) = b + 2 + 2 * j by omega]; exact h2, by simpa using h3, by simpa using h4, fun i hi hij => ?_⟩
        cases i with
        | zero => exact ⟨hke, hne⟩
        | succ i => exact h5 i (by simpa using hi) (by omega)
      · refine .inr ⟨h2, fun e' he' => ?_⟩
        cases he' with
        | head => exact ⟨hke, hne⟩
        | tail _ he' => exact h3 e' he'
theorem run_eqInt (d : Nat) {e : TypeId} {k : IntKind} (he : P.underlying e = some (.int k)) (x y : Int) (W : World) : (Op.equalIn (d + 1) e (.int k x) (.int k y)).run P W = .ok (x == y) W := by
  simp [Op.equalIn, run_underlying he]
theorem run_eqItems_int (d : Nat) {e : TypeId} {k : IntKind} {ie : TypeInfo} (he : P.underlying e = some (.int k)) (hi : P.info? e = some ie) (hs : ie.size = 1) {xs ys : Array Value} {n : Nat} (hx : xs.size = n) (hy : ys.size = n)
    (cx : ∀ i (h : i < xs.size), ∃ z, xs[i] = .int k z) (cy : ∀ i (h : i < ys.size), ∃ z, ys[i] = .int k z) (W : World) : ∀ (is : List Nat), (∀ i ∈ is, i < n) →
    ∃ r : Bool, (Op.eqItems (d + 1) e (P.cellsOf e) xs ys is).run P W = .ok r W ∧ (r = true ↔ ∀ i ∈ is, xs[i]? = ys[i]?)
  | [], _ => ⟨true, rfl, by simp⟩
  | i :: is, hl => by
    have hc : P.cellsOf e = 1 := by simp [Program.cellsOf, hi, hs]
    have h1 : i < n := hl i (by simp)
    obtain ⟨z, e1⟩ := cx i (by omega)
    obtain ⟨z', e2⟩ := cy i (by omega)
    have p1 : (part e xs (i * P.cellsOf e)).run P W = .ok (.int k z) W := by
      rw [hc, Nat.mul_one]
      simp [part, run_isAgg_no he rfl, Array.getElem?_eq_getElem (show i < xs.size by omega), e1]
    have p2 : (part e ys (i * P.cellsOf e)).run P W = .ok (.int k z') W := by
      rw [hc, Nat.mul_one]
      simp [part, run_isAgg_no he rfl, Array.getElem?_eq_getElem (show i < ys.size by omega), e2]
    obtain ⟨r, h2, h3⟩ := run_eqItems_int d he hi hs hx hy cx cy W is fun j hj => hl j (by simp [hj])
    have hxy : xs[i]? = ys[i]? ↔ z = z' := by
      rw [Array.getElem?_eq_getElem (show i < xs.size by omega), Array.getElem?_eq_getElem (show i < ys.size by omega), e1, e2]
      simp
    by_cases hz : z = z'
    · refine ⟨r, ?_, ?_⟩
      · simp only [Op.eqItems, Sem.run_bind, p1, p2, Result.andThen_ok, run_eqInt d he]
        simp [hz, h2]
      · simp only [List.forall_mem_cons, hxy, h3, hz, true_and]
    · refine ⟨false, ?_, ?_⟩
      · simp only [Op.eqItems, Sem.run_bind, p1, p2, Result.andThen_ok, run_eqInt d he]
        simp [hz]
      · simp only [List.forall_mem_cons, hxy, hz, false_and, Bool.false_eq_true]
theorem run_equalAt {kt : TypeId} {n t d : Nat} (hq : KType P kt (.row n t)) {v v' : Value} (k : KV' (.row n t) v) (k' : KV' (.row n t) v') (W : World) : ∃ r : Bool, (Op.equalIn (d + 2) kt v v').run P W = .ok r W ∧ (r = true ↔ v = v') := by
  obtain ⟨e, kk, ie, hu, he, rfl, hi, hs⟩ := hq
  obtain ⟨cs, k1, rfl, h1, h2, h3⟩ := k
  obtain ⟨cs', k2, rfl, h1', h2', h3'⟩ := k'
  have := tagI_inj h2
  subst this
  have := tagI_inj h2'
  subst this
  obtain ⟨r, h4, h5⟩ := run_eqItems_int (d := d) (P := P) he hi hs h1 h1' h3 h3' W (List.range n) (by simp)
  refine ⟨r, ?_, ?_⟩
  · rw [run_equalIn_array W (d + 1) cs cs' hu hi]; exact h4
  · rw [h5]
    constructor
    · intro h
      have : cs = cs' := by
        apply Array.ext (by omega)
        intro i q1 q2
        have := h i (by simp; omega)
        rw [Array.getElem?_eq_getElem q1, Array.getElem?_eq_getElem q2] at this
        exact Option.some.inj this
      rw [this]
    · intro h
      cases h
      exact fun _ _ => rfl
theorem run_equalRow {kt : TypeId} {n t : Nat} (hq : KType P kt (.row n t)) {v v' : Value} (k : KV' (.row n t) v) (k' : KV' (.row n t) v') (W : World) : ∃ r : Bool, (Op.equal kt v v').run P W = .ok r W ∧ (r = true ↔ v = v') := run_equalAt (d := 9998) hq k k' W
theorem findNow_yes {d : TypeDesc} {v : Value} (hk : IsKey d v) : ∀ (es : List MapEntry) (k j : Nat) (h : j < es.length), es[j].key = v → (∀ i (h : i < es.length), i < j → IsKey d es[i].key ∧ es[i].key ≠ v) → Instr.findNow d v es k = some (some (k + j, es[j].val))
  | e :: es, k, 0, _, he, _ => by
    obtain ⟨r, h1, h2⟩ := sameNow_of_keys hk (b := e.key) (by simp at he; rw [he]; exact hk)
    have : r = true := h2.2 (by simpa using he.symm)
    subst this
    simp [Instr.findNow, h1]
  | e :: es, k, j + 1, h, he, hp => by
    have h0 := hp 0 (by simp) (by omega)
    obtain ⟨r, h1, h2⟩ := sameNow_of_keys hk (b := e.key) h0.1
    have : r = false := by
      cases r
      · rfl
      · exact absurd (h2.1 rfl).symm h0.2
    subst this
    have := findNow_yes hk es (k + 1) j (by simpa using h) (by simpa using he) fun i hi hij => hp (i + 1) (by simp; omega) (by omega)
    simp only [Instr.findNow, h1, this, List.getElem_cons_succ, Option.some.injEq, Prod.mk.injEq, and_true]
    omega
theorem findNow_no {d : TypeDesc} {v : Value} (hk : IsKey d v) : ∀ (es : List MapEntry) (k : Nat), (∀ e ∈ es, IsKey d e.key ∧ e.key ≠ v) → Instr.findNow d v es k = some none
  | [], _, _ => rfl
  | e :: es, k, hp => by
    have h0 := hp e (by simp)
    obtain ⟨r, h1, h2⟩ := sameNow_of_keys hk (b := e.key) h0.1
    have : r = false := by
      cases r
      · rfl
      · exact absurd (h2.1 rfl).symm h0.2
    subst this
    simp only [Instr.findNow, h1]
    exact findNow_no hk es (k + 1) fun e' he' => hp e' (by simp [he'])
theorem findAsk_yes {kt : TypeId} {n t : Nat} (hq : KType P kt (.row n t)) {v : Value} (hk : KV' (.row n t) v) (W : World) : ∀ (es : List MapEntry) (k j : Nat) (h : j < es.length), es[j].key = v → (∀ i (h : i < es.length), i < j → KV' (.row n t) es[i].key ∧ es[i].key ≠ v) → (Instr.findAsking kt v es k).run P W = .ok (some (k + j, es[j].val)) W
  | e :: es, k, 0, _, he, _ => by
    obtain ⟨r, h1, h2⟩ := run_equalRow hq hk (v' := e.key) (by simp at he; rw [he]; exact hk) W
    have : r = true := h2.2 (by simpa using he.symm)
    subst this
    simp [Instr.findAsking, h1]
  | e :: es, k, j + 1, h, he, hp => by
    have h0 := hp 0 (by simp) (by omega)
    obtain ⟨r, h1, h2⟩ := run_equalRow hq hk (v' := e.key) h0.1 W
    have : r = false := by
      cases r
      · rfl
      · exact absurd (h2.1 rfl).symm h0.2
    subst this
    have := findAsk_yes hq hk W es (k + 1) j (by simpa using h) (by simpa using he) fun i hi hij => hp (i + 1) (by simp; omega) (by omega)
    simp only [Instr.findAsking, Sem.run_bind, h1, Result.andThen_ok, Bool.false_eq_true, if_false, this, List.getElem_cons_succ]
    rw [show k + 1 + j = k + (j + 1) by omega]
theorem findAsk_no {kt : TypeId} {n t : Nat} (hq : KType P kt (.row n t)) {v : Value} (hk : KV' (.row n t) v) (W : World) : ∀ (es : List MapEntry) (k : Nat), (∀ e ∈ es, KV' (.row n t) e.key ∧ e.key ≠ v) → (Instr.findAsking kt v es k).run P W = .ok none W
  | [], _, _ => rfl
  | e :: es, k, hp => by
    have h0 := hp e (by simp)
    obtain ⟨r, h1, h2⟩ := run_equalRow hq hk (v' := e.key) h0.1 W
    have : r = false := by
      cases r
      · rfl
      · exact absurd (h2.1 rfl).symm h0.2
    subst this
    simp only [Instr.findAsking, Sem.run_bind, h1, Result.andThen_ok, Bool.false_eq_true, if_false]
    exact findAsk_no hq hk W es (k + 1) fun e' he' => hp e' (by simp [he'])
theorem isKey_of {kt : TypeId} {q : KK} (hq : KType P kt q) : (∃ n t, q = .row n t) ∨ ∃ d, P.underlying kt = some d ∧ ∀ v, KV' q v → IsKey d v := by
  cases q with
  | word t =>
    right
    rcases hq with ⟨h, rfl⟩ | ⟨k, h, rfl⟩
    · refine ⟨_, h, fun v hv => ?_⟩
      rcases hv with ⟨b, rfl, -⟩ | ⟨k, z, rfl, h2⟩
      · trivial
      · have := tagI_lt k; omega
    · refine ⟨_, h, fun v hv => ?_⟩
      rcases hv with ⟨b, rfl, h2⟩ | ⟨k', z, rfl, h2⟩
      · have := tagI_lt k; omega
      · have := tagI_inj h2
        subst this
        simp [IsKey]
  | str =>
    right
    exact ⟨_, hq, fun v hv => by obtain ⟨s, rfl⟩ := hv; trivial⟩
  | row n t => exact .inl ⟨n, t, rfl⟩
theorem run_find_yes {kt : TypeId} {q : KK} (hq : KType P kt q) {v : Value} (hk : KV' q v) {es : List MapEntry} {j : Nat} (h : j < es.length) (he : es[j].key = v) (hp : ∀ i (h : i < es.length), i < j → KV' q es[i].key ∧ es[i].key ≠ v) (W : World) :
    (Instr.findKey kt v es).run P W = .ok (some (j, es[j].val)) W := by
  rcases isKey_of hq with ⟨n, t, rfl⟩ | ⟨d, hd, hkey⟩
  · obtain ⟨e, kk, ie, hu, -⟩ := id hq
    rw [run_findKey_eq W (by rw [hu])]
    have := findAsk_yes hq hk W es 0 j h he hp
    simpa using this
  · have := findNow_yes (hkey v hk) es 0 j h he fun i hi hij => ⟨hkey _ (hp i hi hij).1, (hp i hi hij).2⟩
    rw [run_findKey hd this]
    simp
theorem run_find_no {kt : TypeId} {q : KK} (hq : KType P kt q) {v : Value} (hk : KV' q v) {es : List MapEntry} (hp : ∀ e ∈ es, KV' q e.key ∧ e.key ≠ v) (W : World) : (Instr.findKey kt v es).run P W = .ok none W := by
  rcases isKey_of hq with ⟨n, t, rfl⟩ | ⟨d, hd, hkey⟩
  · obtain ⟨e, kk, ie, hu, -⟩ := id hq
    rw [run_findKey_eq W (by rw [hu])]
    exact findAsk_no hq hk W es 0 hp
  · rw [run_findKey hd (findNow_no (hkey v hk) es 0 fun e he => ⟨hkey _ (hp e he).1, (hp e he).2⟩)]
theorem run_checkInt (em : Bool) (n : Nat) {e : TypeId} {k : IntKind} (he : P.underlying e = some (.int k)) (z : Int) (W : World) : (Instr.checkKey em (n + 1) e (.int k z)).run P W = .ok () W := by
  simp [Instr.checkKey, run_underlying he]
theorem run_check {kt : TypeId} {q : KK} (hq : KType P kt q) {v : Value} (hk : KV' q v) (em : Bool) (m : Nat) (W : World) : (Instr.checkKey em (m + 2) kt v).run P W = .ok () W := by
  rcases isKey_of hq with ⟨n, t, rfl⟩ | ⟨d, hd, hkey⟩
  · obtain ⟨e, kk, ie, hu, he, hkk, hi, hs⟩ := hq
    obtain ⟨cs, k1, rfl, h1, h2, h3⟩ := hk
    have hz : ∀ i, i < n → ∃ z, (part e cs (i * 1)).run P W = .ok (.int k1 z) W := fun i hi' => by
      obtain ⟨z, e1⟩ := h3 i (by omega)
      refine ⟨z, ?_⟩
      simp [part, run_isAgg_no he rfl, Array.getElem?_eq_getElem (show i < cs.size by omega), e1]
    have hk1 : kk = k1 := tagI_inj (hkk.symm.trans h2)
    subst hk1
    rw [show m + 2 = (m + 1) + 1 from rfl, Instr.checkKey]
    simp only [Sem.run_bind, run_underlying hu, Result.andThen_ok]
    simp only [Std.Legacy.Range.forIn_eq_forIn_range', Std.Legacy.Range.size, Nat.sub_zero, Nat.add_one_sub_one, Nat.div_one]
    have hloop : ∀ (is : List Nat), (∀ i ∈ is, i < n) → (forIn is PUnit.unit fun i _ => (do Instr.checkKey em (m + 1) e (← part e cs (i * (← Go.sizeOf e))); pure (ForInStep.yield PUnit.unit) : Sem (ForInStep PUnit))).run P W = .ok PUnit.unit W := fun is => by
      induction is with
      | nil => intro _; rfl
      | cons i is ih =>
        intro hl
        obtain ⟨z, e1⟩ := hz i (hl i (by simp))
        simp only [List.forIn_cons, Sem.run_bind, run_sizeOf W hi, Result.andThen_ok, Program.cellsOf, hi, hs, Option.map_some, Option.getD_some, e1, run_checkInt em m he, Sem.run_pure]
        exact ih fun j hj => hl j (by simp [hj])
    have := hloop (List.range' 0 n) (by intro i hi'; simp [List.mem_range'_1] at hi'; omega)
    rw [this]
    rfl
  · exact run_checkKey hd (hkey v hk) em (m + 1)
theorem run_checkE {kt : TypeId} {q : KK} (hq : KType P kt q) {v : Value} (hk : KV' q v) (em : Bool) (W : World) : (Instr.checkKey em 10000 kt v).run P W = .ok () W := run_check hq hk em 9998 W
theorem sameBits_self {q : KK} {v : Value} (hk : KV' q v) (n : Nat) : Instr.sameBits (n + 1) v v = true := by
  cases q with
  | word t => rcases hk with ⟨b, rfl, -⟩ | ⟨k, z, rfl, -⟩ <;> simp [Instr.sameBits]
  | str => obtain ⟨s, rfl⟩ := hk; simp [Instr.sameBits, bytes_beq]
  | row n' t =>
    obtain ⟨cs, k, rfl, h1, h2, h3⟩ := hk
    simp only [Instr.sameBits, beq_self_eq_true, Bool.true_and, List.all_eq_true]
    intro x hx
    obtain ⟨i, hi, rfl⟩ := List.getElem_of_mem hx
    simp only [List.length_zip, Array.length_toList, Nat.min_self] at hi
    obtain ⟨z, e⟩ := h3 i hi
    simp only [List.getElem_zip, Array.getElem_toList, e, Instr.sameBits]
    simp
theorem run_stays {q : KK} {v : Value} (hk : KV' q v) (W : World) : (Instr.keyThatStays v v).run P W = .ok v W := by
  have := sameBits_self hk 9999
  simp [Instr.keyThatStays, this]
end
end Go.Proofs.YtpjhkpmmbeoghaaGreatDoor.Ev
namespace Go.Proofs.YtpjhkpmmbeoghaaGreatDoor.Ev
open Go Go.MapKept
section
variable {E : Fr} {a : Act} {P : Program}
theorem run_getObj_mapE {P : Program} {w : World} {r : Nat} {es : Array MapEntry} {clock : Nat} (hb : w.heap[r]? = some (.map es clock)) : (getObj r).run P w = .ok (.map es clock) w := by simp [getObj, Sem.run, hb]
theorem mapIn_ok {c : Cf} (hr : HR c) {w : Nat} {v : Value} {k : Nat → Nat → Res} (hv : WR c.f c.I c.ni w v) (ht : tg w 13 = true) (hw : w ≠ 13) (h : mapIn c.M w k = .ok) :
    ∃ b F es clock b', Nat.div w 32 = b ∧ c.f b = some F ∧ hd c.M b % 4 = 3 ∧ v = .map (some F.blk) ∧ c.w.heap[F.blk]? = some (.map es clock) ∧ b' < 16777216 ∧ b' + 2 * es.size ≤ c.ni ∧ k b' es.size = .ok ∧
      ∀ i (h : i < es.size), WR c.f c.I c.ni (cellAt c.I (b' + 2 * i)) es[i].key ∧ WR c.f c.I c.ni (cellAt c.I (b' + 2 * i + 1)) es[i].val := by
  obtain ⟨h1, h⟩ := iff_bad h
  have h1 := Nat.eq_of_beq_eq_true h1
  rcases hv.inv_map (tg_ok ht) with ⟨e, -⟩ | ⟨b, F, hb, hb2, hf, e, e1⟩
  · exact absurd e hw
  · have hb0 : Nat.div w 32 = b := by show w / 32 = b; omega
    rw [hb0] at h1 h
    have hk : hd c.M b % 4 = 3 := by
      have : hd c.M b = 1027 := h1
      omega
    obtain ⟨h0, es, clock, b', n, h2, h3, h4, h5, h6, h7⟩ := hr.maps b F hf hk
    subst h3
    refine ⟨b, F, es, clock, b', hb0, hf, hk, e1, h2, h5, h6, ?_, h7⟩
    have g1 : gB (cellAt c.M b) = b' := by rw [h4]; show (_ / 32) % 16777216 = _; omega
    have g2 : gN (cellAt c.M b) = 2 * es.size := by rw [h4]; show _ / 536870912 = _; omega
    rw [g1, g2] at h
    have : Nat.div (2 * es.size) 2 = es.size := by show (2 * es.size) / 2 = _; omega
    rw [this] at h
    exact h
theorem zerK_ok {f : Nat → Option FB} {agg : Bool} {n r I ni : Nat} {k : KV} {t : TypeId} (hz : zeroW P t = some (agg, n, r)) (h : zerK agg n r I ni k = .ok) (hI : IB I ni) :
    ∃ w I' ni' z, k w I' ni' = .ok ∧ IOk I ni I' ni' ∧ WR f I' ni' w z ∧ ∀ W, (zeroValue t).run P W = .ok z W := by
  unfold zeroW at hz
  cases hi : P.info? t with
  | none => simp [hi] at hz
  | some i =>
    simp only [hi] at hz
    cases hzz : i.zero with
    | none => simp [hzz] at hz
    | some z =>
      have hrun : ∀ W, (zeroValue t).run P W = .ok z W := fun W => by simp [zeroValue, typeInfo, hi, hzz]
      simp only [hzz] at hz
      by_cases hagg : ∃ cs, z = .agg cs
      · obtain ⟨cs, rfl⟩ := hagg
        simp only [Option.map_eq_some_iff, Prod.mk.injEq] at hz
        obtain ⟨r', hr, rfl, rfl, rfl⟩ := hz
        obtain ⟨h1, h⟩ := growK_ok (k := fun I' ni' => k _ I' ni') h
        obtain ⟨h2, h3⟩ := immRow_ok (f := f) (I := I) (ni := ni) hr
        have hlen : r' < 2 ^ (96 * cs.size) := by simpa using h2
        refine ⟨_, _, _, .agg cs, h, .grow hI hlen h1, agg_ok hI.1 hlen rfl h1 fun i hi => ?_, hrun⟩
        have := h3 i (by simpa using hi)
        rwa [Array.getElem_toList] at this
      · have hz' : (immW z).map (fun w => (false, 1, w)) = some (agg, n, r) := by
          cases z <;> first | exact hz | exact absurd ⟨_, rfl⟩ hagg
        simp only [Option.map_eq_some_iff, Prod.mk.injEq] at hz'
        obtain ⟨w, hw, rfl, rfl, rfl⟩ := hz'
        exact ⟨w, I, ni, z, h, .refl hI, immW_ok hw, hrun⟩
theorem tup_ok {f : Nat → Option FB} {I ni n r : Nat} {cs : Array Value} (hI : I < 2 ^ (96 * ni)) (hn : cs.size = n) (hb : ni + n < 16777216)
    (hv : ∀ i (h : i < cs.size), WR f I ni (cellAt r i) cs[i]) : WR f (addRow I ni r) (ni + n) (tupW ni n) (.tuple cs) :=
  .tuple ni n cs hn (by omega) (by omega) (Nat.le_refl _) fun i hi => by
    rw [cell_add hI, if_neg (by omega), Nat.add_sub_cancel_left]
    exact (hv i hi).mono (.refl _) (iext_add hI)
theorem okK_ok {f : Nat → Option FB} {com : Bool} {w I ni : Nat} {v : Value} {b : Bool} {kv : KV} (h : okK com w (if b then 33 else 1) I ni kv = .ok) (hv : WR f I ni w v) (hI : IB I ni) :
    ∃ w' I' ni', kv w' I' ni' = .ok ∧ IOk I ni I' ni' ∧ WR f I' ni' w' (if com then .tuple #[v, .bool b] else v) := by
  cases com with
  | false => exact ⟨w, I, ni, h, .refl hI, hv⟩
  | true =>
    obtain ⟨h1, h⟩ := growK_ok (k := fun I' ni' => kv _ I' ni') h
    have hb : (if b then 33 else 1) < 79228162514264337593543950336 := by cases b <;> decide
    obtain ⟨h2, h3⟩ := rowOf_ok (l := [w, if b then 33 else 1]) (by
      intro x hx
      simp only [List.mem_cons, List.not_mem_nil, or_false] at hx
      rcases hx with rfl | rfl
      · exact hv.lt96
      · exact hb)
    refine ⟨_, _, _, h, .grow hI h2 h1, tup_ok hI.1 rfl h1 fun i hi => ?_⟩
    have hi' : i < 2 := hi
    rw [h3 i (by simpa using hi')]
    match i, hi' with
    | 0, _ => exact hv
    | 1, _ => cases b
              · exact .bool false
              · exact .bool true
theorem run_look_nil {t kt et : TypeId} {q : KK} (ht : P.underlying t = some (.map kt et)) (hq : KType P kt q) {v z : Value} (hk : KV' q v) (hz : ∀ W, (zeroValue et).run P W = .ok z W) {com : Bool} {W : World} : (Instr.lookup t (.map none) v com).run P W = .ok (if com then .tuple #[z, .bool false] else z) W := by
  have hf : (Instr.findKey kt v #[].toList).run P W = .ok none W := run_find_no hq hk (es := []) (fun e he => by cases he) W
  simp only [Instr.lookup, Sem.run_bind, run_underlying ht, Result.andThen_ok, Sem.run_pure, run_checkE hq hk, hf, hz]
theorem run_look_at {t kt et : TypeId} {q : KK} (ht : P.underlying t = some (.map kt et)) (hq : KType P kt q) {v z : Value} (hk : KV' q v) {com b : Bool} {W : World} {r clock : Nat} {es : Array MapEntry} (hh : W.heap[r]? = some (.map es clock))
    (ho : ((Instr.findKey kt v es.toList).run P W = .ok none W ∧ b = false ∧ (zeroValue et).run P W = .ok z W) ∨ ∃ i, (Instr.findKey kt v es.toList).run P W = .ok (some (i, z)) W ∧ b = true) : (Instr.lookup t (.map (some r)) v com).run P W = .ok (if com then .tuple #[z, .bool b] else z) W := by
  rcases ho with ⟨hf, rfl, hz⟩ | ⟨i, hf, rfl⟩
  · simp only [Instr.lookup, Sem.run_bind, run_underlying ht, Result.andThen_ok, Sem.run_pure, run_checkE hq hk, hf, hz, run_getObj_mapE hh]
  · simp only [Instr.lookup, Sem.run_bind, run_underlying ht, Result.andThen_ok, Sem.run_pure, run_checkE hq hk, hf, run_getObj_mapE hh]
theorem lookK_ok {c : Cf} {kv : KV} {q : KK} {com agg : Bool} {n r : Nat} {x y : Operand} {t kt et : TypeId} (hr : HR c) (ht : P.underlying t = some (.map kt et)) (hq : KType P kt q) (hz : zeroW P et = some (agg, n, r))
    (h : lookK q com agg n r (lowOpd x) (lowOpd y) E c.M c.I c.ni kv = .ok) (hx : OpR c.f c.I c.ni E a x) (hy : OpR c.f c.I c.ni E a y) (hI : IB c.I c.ni) : ReadOk P c kv (do let v ← Instr.lookup t (a.eval x) (a.eval y) com; pure (.value v)) := by
  obtain ⟨w, wk, I', n', h1, h2, h3, h4⟩ := op2_ok h hx hy hI
  obtain ⟨h5, h1⟩ := iff_bad h1
  obtain ⟨h1, hk⟩ := keyTag_ok hq h4 h1
  have hr1 := hr.growI h2.ext h2.lt.1
  rcases iff_ok h1 with ⟨h6, h1⟩ | ⟨h6, h1⟩
  · have hw : w = 13 := Nat.eq_of_beq_eq_true h6
    have e1 : a.eval x = .map none := by
      rcases h3.inv_map (tg_ok h5) with ⟨-, e1⟩ | ⟨b, F, hb, hb2, hf, e, e1⟩
      · exact e1
      · omega
    obtain ⟨wz, I2, n2, z, h7, h8, h9, h10⟩ := zerK_ok (f := c.f) hz h1 h2.lt
    obtain ⟨w', I3, n3, h11, h12, h13⟩ := okK_ok (b := false) h7 h9 h8.lt
    refine ⟨w', I3, n3, _, h11, (h2.trans h8).trans h12, h13, ?_⟩
    rw [Sem.run_bind, e1, run_look_nil ht hq hk h10]
    rfl
  · have hw : w ≠ 13 := fun e => by rw [e, Nat.beq_refl] at h6; cases h6
    obtain ⟨b, F, es, clock, b', -, hf, hk3, e1, hheap, hb1, hb2, h1, hwr⟩ := mapIn_ok (c := { c with I := I', ni := n' }) hr1 h3 h5 hw h1
    have hes : es.toList.length = es.size := rfl
    rcases findK_ok hq h4 hk es.toList b' h1 (fun i hi => by simpa using (hwr i (by simpa using hi)).1) with ⟨j, hj, h7, h8, h9, h10⟩ | ⟨h7, h8⟩
    · have hj' : j < es.size := by simpa using hj
      have hval := (hwr j hj').2
      obtain ⟨w', I3, n3, h11, h12, h13⟩ := okK_ok (f := c.f) (b := true) (v := es[j].val) h7 hval h2.lt
      refine ⟨w', I3, n3, _, h11, h2.trans h12, h13, ?_⟩
      have hfind := run_find_yes hq hk hj h9 h10 c.w
      rw [Sem.run_bind, e1, run_look_at ht hq hk hheap (.inr ⟨_, hfind, rfl⟩)]
      rfl
    · obtain ⟨wz, I2, n2, z, h9, h10, h11, h12⟩ := zerK_ok (f := c.f) hz h7 h2.lt
      obtain ⟨w', I3, n3, h13, h14, h15⟩ := okK_ok (b := false) h9 h11 h10.lt
      refine ⟨w', I3, n3, _, h13, (h2.trans h10).trans h14, h15, ?_⟩
      rw [Sem.run_bind, e1, run_look_at ht hq hk hheap (.inl ⟨run_find_no hq hk h8 c.w, rfl, h12 _⟩)]
      rfl
end
end Go.Proofs.YtpjhkpmmbeoghaaGreatDoor.Ev
namespace Go.Proofs.YtpjhkpmmbeoghaaGreatDoor.Ev
open Go Go.MapKept
section
variable {E : Fr} {a : Act} {P : Program}
theorem HR.putMap {c : Cf} (h : HR c) {b : Nat} {F : FB} (hf : c.f b = some F) (hk : hd c.M b % 4 = 3) {b' k clock : Nat} {es : Array MapEntry} (hs : es.size = k) (hb : b' < 16777216) (hn : b' + 2 * k ≤ c.ni) (hni : c.ni < 16777216)
    (hwr : ∀ i (h : i < es.size), WR c.f c.I c.ni (cellAt c.I (b' + 2 * i)) es[i].key ∧ WR c.f c.I c.ni (cellAt c.I (b' + 2 * i + 1)) es[i].val) {w' : World} (hw : w'.heap = c.w.heap.setIfInBounds F.blk (.map es clock)) :
    HR { c with M := setRow c.M b 1 (aggW b' (2 * k)), w := w' } := by
  obtain ⟨n0, hl⟩ := h.dom b F hf
  have hh1 : hd c.M b = 1027 := (h.maps b F hf hk).1
  have hh0 := (h.hdr b n0 hl).resolve_left (by omega)
  have hl0 := h.lay0 b n0 hl
  have hr : aggW b' (2 * k) < 2 ^ (96 * 1) := by show 18 + 32 * (b' + 16777216 * (2 * k)) < _; omega
  have cellM : ∀ i, cellAt (setRow c.M b 1 (aggW b' (2 * k))) i = if b ≤ i ∧ i < b + 1 then cellAt (aggW b' (2 * k)) (i - b) else cellAt c.M i := fun i => cell_set hr
  have hdM : ∀ b2 n2, c.lay b2 = some n2 → hd (setRow c.M b 1 (aggW b' (2 * k))) b2 = hd c.M b2 := by
    intro b2 n2 hl2
    show cellAt _ _ = cellAt _ _
    rw [cellM, if_neg]
    intro hcon
    by_cases hbb : b = b2
    · subst hbb; omega
    · have := h.lay0 b2 n2 hl2
      exact h.disj hl hl2 hbb (i := b2 - 1) (by omega) (by omega) ⟨by omega, by omega⟩
  have cellO : ∀ b2 n2, c.lay b2 = some n2 → b2 ≠ b → ∀ i, i < n2 → cellAt (setRow c.M b 1 (aggW b' (2 * k))) (b2 + i) = cellAt c.M (b2 + i) := by
    intro b2 n2 hl2 hne i hi
    rw [cellM, if_neg]
    intro hcon
    exact h.disj hl hl2 (Ne.symm hne) (i := b2 + i) (by omega) (by omega) ⟨by omega, by omega⟩
  have hlt : F.blk < c.w.heap.size := h.lt b F hf
  refine ⟨set_lt h.mlt (by show b + 1 ≤ c.nm; omega) hr, h.ilt, h.lay0, h.apart, h.dom, fun b2 n2 hl2 => ?_, fun b2 F2 hf2 hk2 => ?_, fun b2 F2 hf2 hk2 => ?_, fun b2 F2 hf2 => ?_, fun b1 b2 F1 F2 e1 e2 e3 e4 e5 => ?_⟩
  · show hd (setRow c.M b 1 (aggW b' (2 * k))) b2 = 0 ∨ hd (setRow c.M b 1 (aggW b' (2 * k))) b2 / 1024 = n2
    rw [hdM b2 n2 hl2]; exact h.hdr b2 n2 hl2
  · obtain ⟨n2, hl2⟩ := h.dom b2 F2 hf2
    have e0 : hd (setRow c.M b 1 (aggW b' (2 * k))) b2 = hd c.M b2 := hdM b2 n2 hl2
    have hk3 : hd c.M b2 % 4 = 1 := by rw [← e0]; exact hk2
    obtain ⟨cs2, elem2, fr2, h1, h2, h3, h4, h5, h6⟩ := h.cells b2 F2 hf2 hk3
    have hbb : b2 ≠ b := fun e => by subst e; omega
    have hne : F2.blk ≠ F.blk := fun e => hbb (h.inj b2 b F2 F hf2 hf (by omega) (by omega) e)
    refine ⟨cs2, elem2, fr2, ?_, h2, h3, ?_, ?_, fun i hi hh => ?_⟩
    · show w'.heap[_]? = _; rw [hw, Array.getElem?_setIfInBounds_ne (Ne.symm hne)]; exact h1
    · show _ + hd (setRow c.M b 1 (aggW b' (2 * k))) b2 / 1024 ≤ _; rw [e0]; omega
    · show (hd (setRow c.M b 1 (aggW b' (2 * k))) b2 / 4) % 256 = _; rw [e0]; exact h5
    · have hi' : i < hd c.M b2 / 1024 := by rw [← e0]; exact hi
      have hn' := (h.hdr b2 n2 hl2).resolve_left (by omega)
      show WR c.f c.I c.ni (cellAt (setRow c.M b 1 (aggW b' (2 * k))) (b2 + i)) _ ∧ _
      rw [cellO b2 n2 hl2 hbb i (by omega)]
      exact h6 i hi' hh
  · obtain ⟨n2, hl2⟩ := h.dom b2 F2 hf2
    have e0 : hd (setRow c.M b 1 (aggW b' (2 * k))) b2 = hd c.M b2 := hdM b2 n2 hl2
    have hk3 : hd c.M b2 % 4 = 3 := by rw [← e0]; exact hk2
    by_cases hbb : b2 = b
    · subst hbb
      rw [hf] at hf2; cases hf2
      refine ⟨e0.trans hh1, es, clock, b', k, ?_, hs, ?_, hb, hn, hwr⟩
      · show w'.heap[_]? = _; rw [hw]; simp [hlt]
      · show cellAt (setRow c.M b2 1 (aggW b' (2 * k))) b2 = _
        rw [cellM, if_pos (by omega), Nat.sub_self, cell_self hr]
        rfl
    · obtain ⟨h0, es2, clock2, b3, k2, h1, h2, h3, h4, h5, h6⟩ := h.maps b2 F2 hf2 hk3
      have hne : F2.blk ≠ F.blk := fun e => hbb (h.inj b2 b F2 F hf2 hf (by omega) (by omega) e)
      have hn2 := (h.hdr b2 n2 hl2).resolve_left (by omega)
      refine ⟨e0.trans h0, es2, clock2, b3, k2, ?_, h2, ?_, h4, h5, h6⟩
      · show w'.heap[_]? = _; rw [hw, Array.getElem?_setIfInBounds_ne (Ne.symm hne)]; exact h1
      · show cellAt (setRow c.M b 1 (aggW b' (2 * k))) b2 = _
        have := cellO b2 n2 hl2 hbb 0 (by omega)
        rw [Nat.add_zero] at this
        rw [this]; exact h3
  · show _ < w'.heap.size; rw [hw]; simpa using h.lt b2 F2 hf2
  · obtain ⟨n1, hl1⟩ := h.dom b1 F1 e1
    obtain ⟨n2, hl2⟩ := h.dom b2 F2 e2
    refine h.inj b1 b2 F1 F2 e1 e2 ?_ ?_ e5
    · rw [← hdM b1 n1 hl1]; exact e3
    · rw [← hdM b2 n2 hl2]; exact e4
theorem run_upd_old {t kt et : TypeId} {q : KK} (ht : P.underlying t = some (.map kt et)) (hq : KType P kt q) {v u z : Value} (hk : KV' q v) {W : World} {r clock i : Nat} {es : Array MapEntry} (hh : W.heap[r]? = some (.map es clock)) (hi : i < es.size) (hkey : es[i].key = v)
    (hf : (Instr.findKey kt v es.toList).run P W = .ok (some (i, z)) W) : (Instr.mapUpdate t (.map (some r)) v u).run P W = .ok () { W with heap := W.heap.setIfInBounds r (.map (es.modify i fun e => { e with key := v, val := u }) clock) } := by
  have e1 : ((es[i]?).map (·.key)).getD v = v := by simp [hi, hkey]
  simp only [Instr.mapUpdate, Sem.run_bind, run_underlying ht, Result.andThen_ok, run_checkE hq hk, hf, run_getObj_mapE hh, e1, run_stays hk, run_setObj_map _ hh]
theorem run_upd_new {t kt et : TypeId} {q : KK} (ht : P.underlying t = some (.map kt et)) (hq : KType P kt q) {v u : Value} (hk : KV' q v) {W : World} {r clock : Nat} {es : Array MapEntry} (hh : W.heap[r]? = some (.map es clock))
    (hf : (Instr.findKey kt v es.toList).run P W = .ok none W) : (Instr.mapUpdate t (.map (some r)) v u).run P W = .ok () { W with heap := W.heap.setIfInBounds r (.map (es.push { key := v, val := u, born := clock }) (clock + 1)) } := by
  simp only [Instr.mapUpdate, Sem.run_bind, run_underlying ht, Result.andThen_ok, run_checkE hq hk, hf, run_getObj_mapE hh, run_setObj_map _ hh]
theorem updK_ok {c : Cf} {kf : KF} {q : KK} {x y z : Operand} {t kt et : TypeId} (hr : HR c) (ht : P.underlying t = some (.map kt et)) (hq : KType P kt q)
    (h : updK q (lowOpd x) (lowOpd y) (lowOpd z) E c.M c.nm c.I c.ni kf = .ok) (hx : OpR c.f c.I c.ni E a x) (hy : OpR c.f c.I c.ni E a y) (hz : OpR c.f c.I c.ni E a z) (hI : IB c.I c.ni) :
    StepOk P c kf (do Instr.mapUpdate t (a.eval x) (a.eval y) (a.eval z); pure .skip) := by
  obtain ⟨w, wk, I1, n1, h1, h2, h3, h4⟩ := op2_ok h hx hy hI
  obtain ⟨wv, I2, n2, h1, i2, hv⟩ := opdK_ok h1 (hz.mono (.refl _) h2.ext) h2.lt
  have h3 := h3.mono (.refl _) i2.ext
  have h4 := h4.mono (.refl _) i2.ext
  have h2 := h2.trans i2
  clear i2
  obtain ⟨h5, h1⟩ := iff_bad h1
  obtain ⟨h6, h1⟩ := iff_bad h1
  have h6 := blt_iff.1 h6
  obtain ⟨h1, hk⟩ := keyTag_ok hq h4 h1
  have hr1 := hr.growI h2.ext h2.lt.1
  obtain ⟨b, F, es, clock, b', hb0, hf, hk3, e1, hheap, hb1, hb2, h1, hwr⟩ := mapIn_ok (c := { c with I := I2, ni := n2 }) hr1 h3 h5 (by omega) h1
  have hrow0 : rowAt I2 b' (2 * es.size) < 2 ^ (96 * (2 * es.size)) := row_lt _ _ _
  have hhd : hd c.M b = 1027 := (hr1.maps b F hf hk3).1
  have fin : ∀ (k' clock' r : Nat) (es' : Array MapEntry), es'.size = k' → r < 2 ^ (96 * (2 * k')) → n2 + 2 * k' < 16777216 → (∀ i (h : i < es'.size), WR c.f I2 n2 (cellAt r (2 * i)) es'[i].key ∧ WR c.f I2 n2 (cellAt r (2 * i + 1)) es'[i].val) →
      kf 0 (setRow c.M b 1 (aggW n2 (2 * k'))) c.nm (addRow I2 n2 r) (n2 + 2 * k') = .ok →
      (Instr.mapUpdate t (.map (some F.blk)) (a.eval y) (a.eval z)).run P c.w = .ok () { c.w with heap := c.w.heap.setIfInBounds F.blk (.map es' clock') } →
      StepOk P c kf (do Instr.mapUpdate t (a.eval x) (a.eval y) (a.eval z); pure .skip) := by
    intro k' clock' r es' hs hrl hni hcell hgo hrun
    have hI3 : IOk I2 n2 (addRow I2 n2 r) (n2 + 2 * k') := .grow h2.lt hrl hni
    have hr2 := hr1.growI hI3.ext hI3.lt.1
    have hr3 := hr2.putMap (w' := { c.w with heap := c.w.heap.setIfInBounds F.blk (.map es' clock') }) (b' := n2) (k := k') (es := es') (clock := clock') hf hk3 hs (by omega) (Nat.le_refl _) hni (fun i hi => by
      show WR c.f (addRow I2 n2 r) (n2 + 2 * k') (cellAt (addRow I2 n2 r) _) _ ∧ WR c.f (addRow I2 n2 r) (n2 + 2 * k') (cellAt (addRow I2 n2 r) _) _
      obtain ⟨q1, q2⟩ := hcell i hi
      rw [cell_add h2.lt.1, if_neg (by omega), cell_add h2.lt.1, if_neg (by omega), Nat.add_sub_cancel_left, Nat.add_assoc, Nat.add_sub_cancel_left]
      exact ⟨q1.mono (.refl _) hI3.ext, q2.mono (.refl _) hI3.ext⟩) rfl
    have hag : aggW n2 (2 * k') < 2 ^ (96 * 1) := by show 18 + 32 * (n2 + 16777216 * (2 * k')) < _; omega
    have hx1 : Ext c { c with I := addRow I2 n2 r, ni := n2 + 2 * k' } := .growI (h2.trans hI3).ext
    have hx2 := Ext.store hr2 (b := b) (F := F) (off := 0) (n := 1) (r := aggW n2 (2 * k')) hf (by show hd c.M b ≠ 0; omega) (by show 0 + 1 ≤ hd c.M b / 1024; omega) hag (ob := .map es' clock') (w' := { c.w with heap := c.w.heap.setIfInBounds F.blk (.map es' clock') }) rfl ⟨rfl, rfl, rfl⟩
    refine ⟨0, undef, { c with M := setRow c.M b 1 (aggW n2 (2 * k')), I := addRow I2 n2 r, ni := n2 + 2 * k', w := { c.w with heap := c.w.heap.setIfInBounds F.blk (.map es' clock') } }, hgo, hr3, hI3.lt, hx1.trans hr hx2, .undef, .inr ⟨?_, rfl⟩⟩
    rw [Sem.run_bind, e1, hrun]
    rfl
  have hcell0 : ∀ i, i < 2 * es.size → cellAt (rowAt I2 b' (2 * es.size)) i = cellAt I2 (b' + i) := fun i hi => cell_row hi
  rcases findK_ok hq h4 hk es.toList b' h1 (fun i hi => by simpa using (hwr i (by simpa using hi)).1) with ⟨j, hj, h7, h8, h9, h10⟩ | ⟨h7, h8⟩
  · have hj' : j < es.size := by simpa using hj
    obtain ⟨h11, h7⟩ := growK_ok (k := fun I' ni' => kf 0 (setRow c.M (Nat.div w 32) 1 (aggW n2 (Nat.mul 2 es.size))) c.nm I' ni') h7
    rw [hb0] at h7
    have e2 : b' + 2 * j - b' + 1 = 2 * j + 1 := by omega
    have h7 : kf 0 (setRow c.M b 1 (aggW n2 (2 * es.size))) c.nm (addRow I2 n2 (setRow (rowAt I2 b' (2 * es.size)) (b' + 2 * j - b' + 1) 1 wv)) (n2 + 2 * es.size) = .ok := h7
    rw [e2] at h7
    have hwv : wv < 2 ^ (96 * 1) := hv.lt96
    refine fin es.size clock _ (es.modify j fun e => { e with key := a.eval y, val := a.eval z }) (by simp) (set_lt hrow0 (by omega) hwv) h11 (fun i hi => ?_) h7 (run_upd_old ht hq hk hheap hj' h9 (run_find_yes hq hk hj h9 h10 c.w))
    have hi' : i < es.size := by simpa using hi
    obtain ⟨q1, q2⟩ := hwr i hi'
    rw [cell_set hwv, cell_set hwv, if_neg (by omega), hcell0 _ (by omega)]
    rw [Array.getElem_modify]
    by_cases hij : j = i
    · subst hij
      rw [if_pos rfl, if_pos (by omega), Nat.sub_self, cell_self hwv]
      have e3 : es[j].key = a.eval y := h9
      have q3 : WR c.f I2 n2 (cellAt I2 (b' + 2 * j)) (a.eval y) := e3 ▸ q1
      exact ⟨q3, hv⟩
    · rw [if_neg hij, if_neg (by omega), hcell0 _ (by omega)]
      exact ⟨q1, by rw [← Nat.add_assoc]; exact q2⟩
  · obtain ⟨h11, h7⟩ := growK_ok (k := fun I' ni' => kf 0 (setRow c.M (Nat.div w 32) 1 (aggW n2 (Nat.mul 2 (Nat.add es.size 1)))) c.nm I' ni') h7
    rw [hb0] at h7
    obtain ⟨hr2, hc2⟩ := rowOf_ok (l := [wk, wv]) (by
      intro x hx
      simp only [List.mem_cons, List.not_mem_nil, or_false] at hx
      rcases hx with rfl | rfl
      · exact h4.lt96
      · exact hv.lt96)
    have h11 : n2 + 2 * (es.size + 1) < 16777216 := h11
    refine fin (es.size + 1) (clock + 1) (addRow (rowAt I2 b' (2 * es.size)) (2 * es.size) (rowOf [wk, wv])) (es.push { key := a.eval y, val := a.eval z, born := clock }) (by simp) ?_ h11 (fun i hi => ?_) h7 (run_upd_new ht hq hk hheap (run_find_no hq hk h8 c.w))
    · have := add_lt hrow0 hr2
      rw [show 2 * (es.size + 1) = 2 * es.size + [wk, wv].length by simp; omega]
      exact this
    · rw [cell_add hrow0, cell_add hrow0, Array.getElem_push]
      have hi' : i < es.size + 1 := by simpa using hi
      by_cases hie : i < es.size
      · obtain ⟨q1, q2⟩ := hwr i hie
        rw [if_pos (by omega), if_pos (by omega), hcell0 _ (by omega), hcell0 _ (by omega), dif_pos hie]
        exact ⟨q1, by rw [← Nat.add_assoc]; exact q2⟩
      · have e3 : i = es.size := by omega
        subst e3
        rw [if_neg (by omega), if_neg (by omega), dif_neg hie, Nat.sub_self, hc2 0 (by simp), show 2 * es.size + 1 - 2 * es.size = 1 by omega, hc2 1 (by simp)]
        exact ⟨h4, hv⟩
theorem mkMapK_ok {c : Cf} {kf : KF} (hr : HR c) (hI : IB c.I c.ni) (h : mkMapK c.M c.nm c.I c.ni kf = .ok) {s : Sem Next} (hs : s.run P c.w = .ok (.value (.map (some c.w.heap.size))) (c.w.alloc (.map #[] 0))) : StepOk P c kf s := by
  obtain ⟨h1, h⟩ := iff_bad h
  have h1 : c.nm + 2 < 4194304 := blt_iff.1 h1
  obtain ⟨q1, q2⟩ := hr.allocMap (clock := 0) (c.w.alloc (.map #[] 0)) rfl ⟨rfl, rfl, rfl⟩
  refine ⟨13 + 32 * (c.nm + 1), .map (some c.w.heap.size), _, h, q1, hI, q2, ?_, .inl hs⟩
  exact .map (c.nm + 1) ⟨c.w.heap.size, 0, 0, 0⟩ (by omega) (by omega) (setN_same _ _ _)
theorem mkMap_ok {c : Cf} {kf : KF} {t : TypeId} (hr : HR c) (hI : IB c.I c.ni) (h : mkMapK c.M c.nm c.I c.ni kf = .ok) : StepOk P c kf (do let v ← Instr.makeMap t none; pure (.value v)) :=
  mkMapK_ok hr hI h (by simp [Instr.makeMap])
theorem mkMapH_ok {c : Cf} {kf : KF} {t k e : TypeId} {x : Operand} (hr : HR c) (ht : P.underlying t = some (.map k e)) (h : mkMapHK (lowOpd x) E c.M c.nm c.I c.ni kf = .ok) (hx : OpR c.f c.I c.ni E a x) (hI : IB c.I c.ni) :
    StepOk P c kf (do let v ← Instr.makeMap t (some (a.eval x)); pure (.value v)) := by
  obtain ⟨w, I', n', h1, h2, h3⟩ := opdK_ok h hx hI
  obtain ⟨h4, h1⟩ := iff_bad h1
  obtain ⟨h5, h1⟩ := iff_bad h1
  have h4 : 2 ≤ w % 32 := Nat.le_of_ble_eq_true h4
  have h5 : w % 32 ≤ 9 := Nat.le_of_ble_eq_true h5
  have hint : ∃ kd z, a.eval x = .int kd z := by
    generalize a.eval x = v at h3
    cases h3 with
    | int kd z p _ _ => exact ⟨kd, z, rfl⟩
    | _ => omega
  obtain ⟨kd, z, e⟩ := hint
  have hr1 := hr.growI h2.ext h2.lt.1
  obtain ⟨w', v, c', q1, q2, q3, q4, q5, q6⟩ := mkMapK_ok (P := P) (c := { c with I := I', ni := n' }) hr1 h2.lt h1 (s := do let v ← Instr.makeMap t (some (a.eval x)); pure (.value v)) (by
    rw [e]; simp [Instr.makeMap, run_underlying ht, asInt, asIntOf])
  exact ⟨w', v, c', q1, q2, q3, (Ext.growI h2.ext).trans hr q4, q5, q6⟩
end
end Go.Proofs.YtpjhkpmmbeoghaaGreatDoor.Ev
namespace Go.Proofs.YtpjhkpmmbeoghaaGreatDoor.Ev
open Go
section
variable {E : Fr} {a : Act} {P : Program}
theorem beVal_go2 (l : List UInt8) : ∀ a, l.foldl (fun a b => a * 256 + b.toNat) a = a * 256 ^ l.length + beVal l := by
  induction l with
  | nil => intro a; simp [beVal]
  | cons b l ih =>
    intro a
    have h1 := ih (a * 256 + b.toNat)
    have h2 := ih (0 * 256 + b.toNat)
    simp only [List.foldl_cons, List.length_cons, beVal] at h1 h2 ⊢
    rw [h1, h2, Nat.pow_succ, Nat.add_mul, Nat.zero_mul, Nat.zero_add, Nat.mul_assoc, Nat.mul_comm 256 (256 ^ l.length)]
    omega
theorem beVal_append (l m : List UInt8) : beVal (l ++ m) = beVal l * 256 ^ m.length + beVal m := by
  show (l ++ m).foldl _ 0 = _
  rw [List.foldl_append]
  exact beVal_go2 m _
theorem beVal_lt' (l : List UInt8) : beVal l < 256 ^ l.length := by
  have := beVal_lt l
  rwa [Nat.pow_mul] at this
theorem beVal_get (l : List UInt8) (i : Nat) (h : i < l.length) : beVal l / 256 ^ (l.length - 1 - i) % 256 = l[i].toNat := by
  have e : l = l.take i ++ ([l[i]] ++ l.drop (i + 1)) := by
    rw [List.singleton_append, ← List.drop_eq_getElem_cons h, List.take_append_drop]
  have e2 : beVal l = (beVal (l.take i) * 256 + l[i].toNat) * 256 ^ (l.length - 1 - i) + beVal (l.drop (i + 1)) := by
    conv => lhs; rw [e]
    rw [beVal_append, beVal_append]
    have : beVal [l[i]] = l[i].toNat := by simp [beVal]
    rw [this]
    have e3 : (l.drop (i + 1)).length = l.length - 1 - i := by simp; omega
    have e4 : ([l[i]] ++ l.drop (i + 1)).length = (l.length - 1 - i) + 1 := by simp; omega
    rw [e3, e4, Nat.pow_succ, Nat.add_mul, ← Nat.mul_assoc, Nat.mul_assoc (beVal _), Nat.mul_comm (256 ^ (l.length - 1 - i)) 256, ← Nat.mul_assoc, Nat.add_assoc]
  have hlt := beVal_lt' (l.drop (i + 1))
  have e3 : (l.drop (i + 1)).length = l.length - 1 - i := by simp; omega
  rw [e3] at hlt
  rw [e2, Nat.add_comm, Nat.add_mul_div_right _ _ (Nat.pow_pos (by decide)), Nat.div_eq_of_lt hlt, Nat.zero_add]
  have := l[i].toNat_lt
  omega
theorem idxTK_ok {f : Nat → Option FB} {I ni : Nat} {kv : KV} {x i : Operand} {t : TypeId} (ht : P.underlying t = some .string) (h : idxTK (lowOpd x) (lowOpd i) E I ni kv = .ok) (hx : OpR f I ni E a x) (hi : OpR f I ni E a i) (hI : IB I ni) :
    PureOk P f I ni kv (do let v ← Instr.index t (a.eval x) (a.eval i); pure (.value v)) := by
  obtain ⟨w, wi, I', n', h1, h2, h3, h4⟩ := op2_ok h hx hi hI
  obtain ⟨h5, h1⟩ := iff_bad h1
  obtain ⟨kd, n, e2, h1⟩ := natK_ok h1 h4
  obtain ⟨h6, h1⟩ := iff_bad h1
  have h6 := blt_iff.1 h6
  obtain ⟨q, m, s, e1, hn, hn2, hq, hs, -, hw⟩ := h3.inv_str (tg_ok h5)
  obtain ⟨t1, t2⟩ := tW hw hq
  rw [t1, t2] at h1
  rw [t2] at h6
  have hl : n < s.data.toList.length := by omega
  have hb : (strAt I' q m >>> (8 * (m - 1 - n))) % 256 = s.data.toList[n].toNat := by
    rw [hs, Nat.shiftRight_eq_div_pow, Nat.pow_mul]
    have := beVal_get s.data.toList n hl
    rwa [hn] at this
  have h1 : kv (6 + 32 * ((strAt I' q m >>> (8 * (m - 1 - n))) % 256)) I' n' = .ok := h1
  rw [hb] at h1
  have hlt := s.data.toList[n].toNat_lt
  refine ⟨_, I', n', .int .u8 (s.data.toList[n].toNat : Nat), h1, h2, .int .u8 _ _ (by simp [bias]) (by omega), fun W => ?_⟩
  have hget : s[n]? = some s.data.toList[n] := by
    have h7 : n < s.size := by simpa using hl
    rw [getElem?_pos s n h7]
    rfl
  rw [e1, e2]
  simp [Instr.index, asIntOf, run_underlying ht, hget]
theorem slpK_ok {f : Nat → Option FB} {I ni : Nat} {kv : KV} {x : Operand} {lo hi : Option Operand} {t e : TypeId} {n : Nat} {ie : TypeInfo} (ht : P.underlying t = some (.array n e)) (he : P.info? e = some ie) (hs : ie.size < 256)
    (h : slpK n ie.size (lowOpd x) (lo.map lowOpd) (hi.map lowOpd) E I ni kv = .ok) (hx : OpR f I ni E a x) (hlo : ∀ y, lo = some y → OpR f I ni E a y) (hhi : ∀ y, hi = some y → OpR f I ni E a y) (hI : IB I ni) :
    PureOk P f I ni kv (do let v ← Instr.sliceAt t (a.eval x) (lo.map a.eval) (hi.map a.eval) none; pure (.value v)) := by
  obtain ⟨w, I1, n1, h, i1, r1⟩ := opdK_ok h hx hI
  obtain ⟨h5, h⟩ := iff_bad h
  obtain ⟨h6, h⟩ := iff_bad h
  have h6 := blt_iff.1 h6
  obtain ⟨hh, I3, n3, h, i3, rh⟩ := bndK_ok (f := f) (a := a) h (fun y hy => (hhi y hy).mono (.refl _) i1.ext) i1.lt
  obtain ⟨l, I4, n4, h, i4, rl⟩ := bndK_ok (f := f) (a := a) h (fun y hy => (hlo y hy).mono (.refl _) (i1.trans i3).ext) i3.lt
  obtain ⟨b1, h⟩ := iff_bad h
  obtain ⟨b2, h⟩ := iff_bad h
  obtain ⟨b3, h⟩ := iff_bad h
  obtain ⟨b4, h⟩ := iff_bad h
  obtain ⟨b5, h⟩ := iff_bad h
  have b1 : l ≤ hh := Nat.le_of_ble_eq_true b1
  have b2 : hh ≤ n := Nat.le_of_ble_eq_true b2
  have b3 := blt_iff.1 b3
  have b4 := blt_iff.1 b4
  have b5 := blt_iff.1 b5
  rcases r1.inv_ptr (tg_ok h5) with ⟨hw, -⟩ | ⟨b, off, F, hb, hb2, hf, ho, hw, e1⟩
  · omega
  have p1 : pB w = b := by show w / 536870912 = _; omega
  have p2 : pOff w = off := by show (w / 32) % 16777216 = _; omega
  rw [p1] at b4
  rw [p2] at b5
  rw [p1, p2] at h
  have b5 : off + l * ie.size < 4194304 := b5
  have hbd : ∀ W, (Instr.sliceBounds false n n (lo.map a.eval) (hi.map a.eval) none).run P W = .ok (l, hh, n) W := fun W => by
    have x1 : l ≤ n := by omega
    rcases rh with ⟨rfl, rfl⟩ | ⟨y2, k2, rfl, eh⟩ <;> rcases rl with ⟨rfl, rfl⟩ | ⟨y3, k3, rfl, el⟩ <;> simp [Instr.sliceBounds, *, run_bound]
  refine ⟨_, I4, n4, .slice (some (if n = l then ⟨F.blk, F.base + off, none⟩ else (⟨F.blk, F.base + off, none⟩ : Addr).add (l * ie.size))) (hh - l) (n - l), h, (i1.trans i3).trans i4, ?_, fun W => ?_⟩
  · rw [slW_eq]
    refine .slice b (off + l * ie.size) (hh - l) ie.size (n - l) true F _ (n - l) hb b4 hf b5 (by omega) hs (by omega) (by omega) (fun _ => rfl) (fun hx => by cases hx) fun hz => ?_
    rw [if_neg (by omega), add_none, Nat.add_assoc]
  · rw [e1]
    simp only [Instr.sliceAt, Sem.run_bind, run_underlying ht, Result.andThen_ok, Instr.sureAddr, Sem.run_pure, hbd, Go.sizeOf, typeInfo, run_program, he]
theorem copyK_ok {c : Cf} {kf : KF} {x y : Operand} {t u ty e : TypeId} {ie : TypeInfo} (hr : HR c) (ht : P.underlying t = some (.slice e)) (he : P.info? e = some ie) (h : copyK ie.size (lowOpd x) (lowOpd y) E c.M c.nm c.I c.ni kf = .ok)
    (hx : OpR c.f c.I c.ni E a x) (hy : OpR c.f c.I c.ni E a y) (hI : IB c.I c.ni) : StepOk P c kf (do let v ← Builtin.copy_ #[t, u] ty #[a.eval x, a.eval y]; pure (.value v)) := by
  obtain ⟨w, wy, I', n', h1, h2, h3, h4⟩ := op2_ok h hx hy hI
  obtain ⟨t1, h1⟩ := iff_bad h1
  obtain ⟨t2, h1⟩ := iff_bad h1
  have hr1 := hr.growI h2.ext h2.lt.1
  have hx1 : Ext c { c with I := I', ni := n' } := Ext.growI h2.ext
  have vx := slice_view h3 t1
  have vy := slice_view h4 t2
  have hmin : (@Bool.rec (fun _ => Nat) (sLen wy) (sLen w) (Nat.blt (sLen w) (sLen wy))) = Nat.min (sLen wy) (sLen w) := by
    show _ = min (sLen wy) (sLen w)
    cases hb : Nat.blt (sLen w) (sLen wy) with
    | true => have := blt_iff.1 hb; show sLen w = _; omega
    | false =>
      have : ¬ sLen w < sLen wy := fun h => by rw [blt_iff.2 h] at hb; cases hb
      show sLen wy = _; omega
  simp only [hmin] at h1
  generalize hN : Nat.min (sLen wy) (sLen w) = N at h1
  have hN' : N = min (sLen wy) (sLen w) := hN.symm
  have hword : ∀ N, N < 524288 → WR c.f I' n' (295147905179352825861 + 32 * N) (goInt N) := fun N hlt => by
    have := WR.int (f := c.f) (I := I') (ni := n') .i64 (N : Int) (N + 9223372036854775808) (by simp [bias]) (by omega)
    have e : tagI .i64 + 32 * (N + 9223372036854775808) = 295147905179352825861 + 32 * N := by simp only [tagI]; omega
    rw [e] at this
    exact this
  rcases iff_ok h1 with ⟨t3, h1⟩ | ⟨t3, h1⟩
  · obtain rfl : N = 0 := Nat.eq_of_beq_eq_true t3
    refine ⟨_, goInt 0, { c with I := I', ni := n' }, h1, hr1, h2.lt, hx1, hword 0 (by omega), .inl ?_⟩
    have hye : ∃ B m cb, a.eval y = .slice B m cb ∧ m = sLen wy := by
      rcases vy with ⟨-, e1, e0⟩ | ⟨ex, F, A, cc, -, -, -, -, -, -, -, -, -, -, -, -, -, e1⟩
      · exact ⟨none, 0, 0, e1, e0.symm⟩
      · exact ⟨some A, _, cc, e1, rfl⟩
    have hxe : ∃ B m cb, a.eval x = .slice B m cb ∧ m = sLen w := by
      rcases vx with ⟨-, e1, e0⟩ | ⟨ex, F, A, cc, -, -, -, -, -, -, -, -, -, -, -, -, -, e1⟩
      · exact ⟨none, 0, 0, e1, e0.symm⟩
      · exact ⟨some A, _, cc, e1, rfl⟩
    obtain ⟨B, m, cb, ey, em⟩ := hye
    obtain ⟨B', m', cb', ex, em'⟩ := hxe
    rw [ex, ey]
    have hm : Nat.min m m' = 0 := by rw [em, em']; exact hN
    have hfc : (Builtin.firstCells ie.size 0 (.slice B m cb)).run P c.w = .ok #[] c.w := by
      cases B <;> simp [Builtin.firstCells, loadCells, loadCellsFrom]
    cases B' <;> simp [Builtin.copy_, run_underlying ht, Go.sizeOf, typeInfo, he, Builtin.lenOf, hm, hfc, storeCells]
  have hN0 : N ≠ 0 := fun h0 => by rw [h0] at t3; cases t3
  obtain ⟨k1, i1, h1⟩ := inK_ok h1
  obtain ⟨k2, i2, h1⟩ := inK_ok h1
  have i1 : sOff wy + N * ie.size ≤ hd c.M (sB wy) / 1024 := i1
  have i2 : sOff w + N * ie.size ≤ hd c.M (sB w) / 1024 := i2
  rcases vy with ⟨-, -, e0⟩ | ⟨exy, Fy, Ay, cy, -, hby0, hby1, hfy, hoy, hly, hsy, hcy, -, q1, q2, q3, -, ey⟩
  · omega
  rcases vx with ⟨-, -, e0⟩ | ⟨ex, F, A, cc, hw, hb0, hb1, hf, ho, hl, hsw, hc, hcap, p1, p2, p3, p4, e1⟩
  · omega
  have hcy0 : cy ≠ 0 := by
    cases exy
    · have := (q2 rfl).1; omega
    · have := q1 rfl; omega
  have hcc0 : cc ≠ 0 := by
    cases ex
    · have := (p2 rfl).1; omega
    · have := p1 rfl; omega
  obtain rfl := q3 hcy0
  obtain rfl := p3 hcc0
  obtain ⟨cs2, hs2c, hrow2, hth2, hcell2⟩ := hr1.row hfy k1 i1
  have hnews := cells_of (c := { c with I := I', ni := n' }) hs2c hcell2
  rw [← hs2c] at i2
  obtain ⟨g1, g2, g3⟩ := hr1.put (P := P) hf k2 i2 (hs2c ▸ hrow2)
  have h1 : kf (295147905179352825861 + 32 * N) (setRow c.M (sB w + sOff w) (N * ie.size) (rowAt c.M (sB wy + sOff wy) (N * ie.size))) c.nm I' n' = .ok := h1
  rw [hs2c] at g2 g3
  refine ⟨_, goInt N, _, h1, g2, h2.lt, hx1.trans hr g3, hword N (by omega), .inl ?_⟩
  have hfc := run_firstCells_some (P := P) c.w ie.size N ⟨Fy.blk, Fy.base + sOff wy, none⟩ (sLen wy) cy cs2.toList (by simpa using hs2c) hnews
  have hst : (storeCells ⟨F.blk, F.base + sOff w, none⟩ cs2.toList).run P c.w = .ok () (c.w.setCells F.blk (F.base + sOff w) cs2.toList) := g1
  rw [e1, ey]
  simp [Builtin.copy_, run_underlying ht, Go.sizeOf, typeInfo, he, Builtin.lenOf, hN, hfc, hst]
theorem clearK_ok {c : Cf} {kf : KF} {x : Operand} {t ty e : TypeId} {s r : Nat} (hr : HR c) (ht : P.underlying t = some (.slice e)) (hz : zeroRow P e = some (s, r)) (hs : 0 < s) (h : clearK s r (lowOpd x) E c.M c.nm c.I c.ni kf = .ok)
    (hx : OpR c.f c.I c.ni E a x) (hI : IB c.I c.ni) : StepOk P c kf (do let v ← Builtin.clear_ #[t] ty #[a.eval x]; pure (.value v)) := by
  obtain ⟨w, I', n', h1, h2, h3⟩ := opdK_ok h hx hI
  obtain ⟨t1, h1⟩ := iff_bad h1
  have hr1 := hr.growI h2.ext h2.lt.1
  have hx1 : Ext c { c with I := I', ni := n' } := Ext.growI h2.ext
  have vx := slice_view h3 t1
  rcases iff_ok h1 with ⟨t3, h1⟩ | ⟨t3, h1⟩
  · have t3 : sLen w = 0 := Nat.eq_of_beq_eq_true t3
    refine ⟨0, undef, { c with I := I', ni := n' }, h1, hr1, h2.lt, hx1, .undef, .inl ?_⟩
    rcases vx with ⟨-, e1, e0⟩ | ⟨ex, F, A, cc, -, -, -, -, -, -, -, -, -, -, -, -, -, e1⟩
    · rw [e1]; simp [Builtin.clear_, run_underlying ht, undef]
    · rw [e1, t3]; simp [Builtin.clear_, run_underlying ht, undef]
  have t3 : sLen w ≠ 0 := fun h0 => by rw [h0] at t3; cases t3
  obtain ⟨k2, i2, h1⟩ := inK_ok h1
  rcases vx with ⟨-, -, e0⟩ | ⟨ex, F, A, cc, hw, hb0, hb1, hf, ho, hl, hsw, hc, hcap, p1, p2, p3, p4, e1⟩
  · omega
  have hcc0 : cc ≠ 0 := by
    cases ex
    · have := (p2 rfl).1; omega
    · have := p1 rfl; omega
  obtain rfl := p3 hcc0
  obtain ⟨i, z, hi, hz', hzs, hrow⟩ := zeroRow_ok hz
  have hmade := rep_ok (f := c.f) (I := I') (ni := n') hs hzs hrow (sLen w)
  have hsz : (madeCells z.cells (sLen w * s)).size = sLen w * s := size_madeCells _ _
  have i2 : sOff w + sLen w * s ≤ hd c.M (sB w) / 1024 := i2
  rw [← hsz] at i2
  obtain ⟨g1, g2, g3⟩ := hr1.put (P := P) hf k2 i2 hmade
  rw [hsz] at g2 g3
  refine ⟨0, undef, _, h1, g2, h2.lt, hx1.trans hr g3, .undef, .inl ?_⟩
  have hzc : (Builtin.zeroCells z.cells (sLen w)) = madeCells z.cells (sLen w * s) := by
    simp only [Builtin.zeroCells, madeCells, hzs]
  rw [e1]
  obtain ⟨m, hm⟩ : ∃ m, sLen w = m + 1 := ⟨sLen w - 1, by omega⟩
  have hst : (storeCells ⟨F.blk, F.base + sOff w, none⟩ (madeCells z.cells (sLen w * s)).toList).run P c.w = .ok () (c.w.setCells F.blk (F.base + sOff w) (madeCells z.cells (sLen w * s)).toList) := g1
  rw [hm] at hzc hst ⊢
  simp [Builtin.clear_, run_underlying ht, zeroValue, typeInfo, hi, hz', hzc, hst, undef]
end
end Go.Proofs.YtpjhkpmmbeoghaaGreatDoor.Ev
namespace Go.Proofs.YtpjhkpmmbeoghaaGreatDoor.Ev
open Go
section
variable {E : Fr} {a : Act} {P : Program}
def bytesL (M : Nat) : Nat → Nat → List UInt8
  | 0, _ => []
  | n + 1, b => UInt8.ofNat (cellAt M b / 32) :: bytesL M n (b + 1)
theorem bytesL_len (M : Nat) : ∀ n b, (bytesL M n b).length = n
  | 0, _ => rfl
  | n + 1, b => by simp [bytesL, bytesL_len M n]
theorem bytesL_get (M : Nat) : ∀ (n b i : Nat) (h : i < (bytesL M n b).length), (bytesL M n b)[i] = UInt8.ofNat (cellAt M (b + i) / 32)
  | 0, _, i, h => absurd h (by simp [bytesL])
  | n + 1, b, 0, _ => rfl
  | n + 1, b, i + 1, h => by
    have := bytesL_get M n (b + 1) i (by simpa [bytesL] using h)
    simp only [bytesL, List.getElem_cons_succ, this]
    rw [show b + 1 + i = b + (i + 1) by omega]
theorem bytesK_ok {M : Nat} {k : Nat → Res} : ∀ {n b acc : Nat}, bytesK M n b acc k = .ok → k ((bytesL M n b).foldl (fun a b => a * 256 + b.toNat) acc) = .ok ∧ ∀ i, i < n → cellAt M (b + i) % 32 = 6
  | 0, b, acc, h => ⟨h, fun i hi => absurd hi (by omega)⟩
  | n + 1, b, acc, h => by
    obtain ⟨h1, h⟩ := iff_bad h
    obtain ⟨h2, h3⟩ := bytesK_ok (n := n) (b := b + 1) h
    refine ⟨?_, fun i hi => ?_⟩
    · simp only [bytesL, List.foldl_cons]
      have e : (UInt8.ofNat (cellAt M b / 32)).toNat = cellAt M b / 32 % 256 := by simp
      rw [e]
      exact h2
    · cases i with
      | zero => exact tg_ok h1
      | succ i => have := h3 i (by omega); rwa [show b + (i + 1) = b + 1 + i by omega]
theorem push_toList (ns : List Int) : ∀ s : ByteArray, (ns.foldl (fun r n => r.push (UInt8.ofNat n.toNat)) s).data.toList = s.data.toList ++ ns.map fun n => UInt8.ofNat n.toNat := by
  induction ns with
  | nil => intro s; simp
  | cons n ns ih =>
    intro s
    rw [List.foldl_cons, ih]
    simp [ByteArray.push]
theorem newStr_ok {f : Nat → Option FB} {I ni : Nat} {kv : KV} {n y : Nat} (h : growK I ni (Nat.div (Nat.add n 11) 12) y (fun I' ni' => kv (strW (Nat.mul 12 ni) n) I' ni') = .ok) {s : ByteArray} (hn : s.data.toList.length = n) (hy : y = beVal s.data.toList) (hn2 : n < 1048576) (hI : IB I ni) :
    ∃ w I' ni', kv w I' ni' = .ok ∧ IOk I ni I' ni' ∧ WR f I' ni' w (.string s) := by
  obtain ⟨h1, h⟩ := growK_ok h
  have h1 : ni + (n + 11) / 12 < 16777216 := h1
  have hlt : y < 2 ^ (8 * n) := by rw [hy, ← hn]; exact beVal_lt _
  refine ⟨_, _, _, h, .grow hI (Nat.lt_of_lt_of_le hlt (Nat.pow_le_pow_right (by decide) ?_)) h1, ?_⟩
  · show 8 * n ≤ 96 * ((n + 11) / 12); omega
  · refine WR.str (12 * ni) n s hn hn2 (by omega) ?_ (.inr ?_)
    · rw [strAt_add hI.1 hlt, hy]
    · show 12 * ni + n ≤ 12 * (ni + (n + 11) / 12); omega
theorem strOfK_ok {c : Cf} {kv : KV} {x : Operand} {src dst e : TypeId} (hr : HR c) (hs : P.underlying src = some (.slice e)) (he : P.underlying e = some (.int .u8)) (hd : P.underlying dst = some .string) (h : strOfK (lowOpd x) E c.M c.I c.ni kv = .ok)
    (hx : OpR c.f c.I c.ni E a x) (hI : IB c.I c.ni) : ReadOk P c kv (do let v ← convert src dst (a.eval x); pure (.value v)) := by
  obtain ⟨w, I', n', h1, h2, h3⟩ := opdK_ok h hx hI
  obtain ⟨t1, h1⟩ := iff_bad h1
  have hr1 := hr.growI h2.ext h2.lt.1
  have vx := slice_view h3 t1
  rcases iff_ok h1 with ⟨t3, h1⟩ | ⟨t3, h1⟩
  · have t3 : sLen w = 0 := Nat.eq_of_beq_eq_true t3
    refine ⟨12, I', n', .string .empty, h1, h2, immW_ok rfl, ?_⟩
    rcases vx with ⟨-, e1, e0⟩ | ⟨ex, F, A, cc, -, -, -, -, -, -, -, -, -, -, -, -, -, e1⟩
    · rw [e1, Sem.run_bind, run_convert_bytes_string c.w src dst e none 0 0 hs he hd]; rfl
    · rw [e1, t3, Sem.run_bind, run_convert_bytes_string c.w src dst e (some A) 0 cc hs he hd]
      have := run_bytesToString (P := P) c.w A 0 cc [] (by simp [loadCells, loadCellsFrom])
      rw [this]; rfl
  have t3 : sLen w ≠ 0 := fun h0 => by rw [h0] at t3; cases t3
  obtain ⟨k2, i2, h1⟩ := inK_ok h1
  rcases vx with ⟨-, -, e0⟩ | ⟨ex, F, A, cc, hw, hb0, hb1, hf, ho, hl, hsw, hc, hcap, p1, p2, p3, p4, e1⟩
  · omega
  have hcc0 : cc ≠ 0 := by
    cases ex
    · have := (p2 rfl).1; omega
    · have := p1 rfl; omega
  obtain rfl := p3 hcc0
  obtain ⟨h1, htag⟩ := bytesK_ok h1
  obtain ⟨cs, hsz, hrow, -, hcell⟩ := hr1.row hf k2 i2
  have hnews := cells_of (c := { c with I := I', ni := n' }) hsz hcell
  have hint : ∀ j (hj : j < cs.size), ∃ z : Int, cs[j] = .int .u8 z ∧ UInt8.ofNat z.toNat = UInt8.ofNat (cellAt c.M (sB w + sOff w + j) / 32) := fun j hj => by
    have h4 := hrow.wr j hj
    rw [cell_row (by omega)] at h4
    obtain ⟨z, p, e2, e3, e4, -⟩ := h4.inv_int .u8 (htag j (by omega))
    have e4 : (p : Int) = z + 0 := e4
    have e3 : cellAt c.M (sB w + sOff w + j) = 6 + 32 * p := e3
    refine ⟨z, e2, ?_⟩
    rw [e3]
    congr 1
    omega
  obtain ⟨ns, hns, hbs⟩ : ∃ ns : List Int, cs.toList = ns.map (Value.int .u8) ∧ ns.map (fun n => UInt8.ofNat n.toNat) = bytesL c.M (sLen w) (sB w + sOff w) := by
    refine ⟨cs.toList.map fun | .int _ z => z | _ => 0, ?_, ?_⟩
    · apply List.ext_getElem (by simp)
      intro i q1 q2
      obtain ⟨z, e2, -⟩ := hint i (by simpa using q1)
      simp only [List.getElem_map, Array.getElem_toList, e2]
    · apply List.ext_getElem
      · simp [bytesL_len, hsz]
      · intro i q1 q2
        obtain ⟨z, e2, e3⟩ := hint i (by simpa using q1)
        rw [bytesL_get]
        simp only [List.getElem_map, Array.getElem_toList, e2]
        exact e3
  have hload : (loadCells ⟨F.blk, F.base + sOff w, none⟩ (sLen w)).run P c.w = .ok (ns.map (Value.int .u8)).toArray c.w := by
    have := run_loadCells_list (P := P) c.w ⟨F.blk, F.base + sOff w, none⟩ cs.toList hnews
    rw [← hns]
    have hl' : cs.toList.length = sLen w := by simpa using hsz
    rw [hl'] at this
    exact this
  have hrun := run_bytesToString (P := P) c.w ⟨F.blk, F.base + sOff w, none⟩ (sLen w) cc ns hload
  generalize hS : ns.foldl (fun r n => r.push (UInt8.ofNat n.toNat)) ByteArray.empty = S at hrun
  have hSl : S.data.toList = bytesL c.M (sLen w) (sB w + sOff w) := by
    rw [← hS, push_toList, ← hbs]
    rfl
  obtain ⟨w', I2, n2, h5, h6, h7⟩ := newStr_ok (f := c.f) (s := S) h1 (by rw [hSl, bytesL_len]) (by rw [hSl]; rfl) (by omega) h2.lt
  refine ⟨w', I2, n2, .string S, h5, h2.trans h6, h7, ?_⟩
  rw [e1, Sem.run_bind, run_convert_bytes_string c.w src dst e _ _ cc hs he hd, hrun]
  rfl
end
end Go.Proofs.YtpjhkpmmbeoghaaGreatDoor.Ev
namespace Go.Proofs.YtpjhkpmmbeoghaaGreatDoor.Ev
open Go Go.Lib
section
variable {E : Fr} {a : Act} {P : Program}
theorem byteRow_go : ∀ (n : Nat) (l : List UInt8), l.length = n → ∀ (acc i : Nat), cellAt (byteRow n (beVal l) acc) i = if h : i < l.length then 6 + 32 * l[i].toNat else cellAt acc (i - n) := by
  intro n
  induction n with
  | zero =>
    intro l hn acc i
    rw [dif_neg (by omega)]
    rfl
  | succ n ih =>
    intro l hn acc i
    obtain ⟨l', b, rfl⟩ : ∃ l' b, l = l' ++ [b] := ⟨l.dropLast, l.getLast (by intro h; subst h; simp at hn), (List.dropLast_concat_getLast _).symm⟩
    have hl' : l'.length = n := by simpa using hn
    have hb := b.toNat_lt
    have hv : beVal (l' ++ [b]) = beVal l' * 256 + b.toNat := by rw [beVal_append]; simp [beVal]
    have e1 : beVal (l' ++ [b]) / 256 = beVal l' := by rw [hv]; omega
    have e2 : beVal (l' ++ [b]) % 256 = b.toNat := by rw [hv]; omega
    have hw : 6 + 32 * b.toNat < 2 ^ (96 * 1) := by omega
    have e3 : byteRow (n + 1) (beVal (l' ++ [b])) acc = byteRow n (beVal l') (addRow (6 + 32 * b.toNat) 1 acc) := by
      show byteRow n (beVal (l' ++ [b]) / 256) (Nat.shiftLeft acc 96 + (6 + 32 * (beVal (l' ++ [b]) % 256))) = _
      rw [e1, e2]
      congr 1
      show _ = (6 + 32 * b.toNat) ||| (acc <<< (96 * 1))
      rw [Nat.or_comm, Nat.shiftLeft_eq, Nat.mul_comm acc, ← Nat.two_pow_add_eq_or_of_lt (i := 96 * 1) hw]
      show acc <<< 96 + _ = _
      rw [Nat.shiftLeft_eq, Nat.mul_comm acc]
    rw [e3, ih l' hl']
    by_cases h1 : i < n
    · rw [dif_pos (by omega), dif_pos (by omega)]
      rw [List.getElem_append_left (by omega)]
    · rw [dif_neg (by omega), cell_add hw]
      by_cases h2 : i = n
      · subst h2
        rw [dif_pos (by omega), if_pos (by omega), Nat.sub_self, cell_self (by omega)]
        rw [List.getElem_append_right (by omega)]
        simp
      · rw [dif_neg (by omega), if_neg (by omega)]
        congr 1
theorem byteRow_ok (l : List UInt8) (acc i : Nat) : cellAt (byteRow l.length (beVal l) acc) i = if h : i < l.length then 6 + 32 * l[i].toNat else cellAt acc (i - l.length) := byteRow_go _ l rfl acc i
theorem byteRow_lt : ∀ (l : List UInt8) (acc m : Nat), acc < 2 ^ (96 * m) → byteRow l.length (beVal l) acc < 2 ^ (96 * (l.length + m)) := by
  intro l
  generalize hn : l.length = n
  induction n generalizing l with
  | zero =>
    intro acc m h
    rw [Nat.zero_add]
    exact h
  | succ n ih =>
    intro acc m h
    obtain ⟨l', b, rfl⟩ : ∃ l' b, l = l' ++ [b] := ⟨l.dropLast, l.getLast (by intro h; subst h; simp at hn), (List.dropLast_concat_getLast _).symm⟩
    have hl' : l'.length = n := by simpa using hn
    have hb := b.toNat_lt
    have hv : beVal (l' ++ [b]) = beVal l' * 256 + b.toNat := by rw [beVal_append]; simp [beVal]
    have e1 : beVal (l' ++ [b]) / 256 = beVal l' := by rw [hv]; omega
    have e2 : beVal (l' ++ [b]) % 256 = b.toNat := by rw [hv]; omega
    have hw : 6 + 32 * b.toNat < 2 ^ (96 * 1) := by omega
    have e3 : byteRow (n + 1) (beVal (l' ++ [b])) acc = byteRow n (beVal l') (addRow (6 + 32 * b.toNat) 1 acc) := by
      show byteRow n (beVal (l' ++ [b]) / 256) (Nat.shiftLeft acc 96 + (6 + 32 * (beVal (l' ++ [b]) % 256))) = _
      rw [e1, e2]
      congr 1
      show _ = (6 + 32 * b.toNat) ||| (acc <<< (96 * 1))
      rw [Nat.or_comm, Nat.shiftLeft_eq, Nat.mul_comm acc, ← Nat.two_pow_add_eq_or_of_lt (i := 96 * 1) hw]
      show acc <<< 96 + _ = _
      rw [Nat.shiftLeft_eq, Nat.mul_comm acc]
    rw [e3]
    have := ih l' hl' (addRow (6 + 32 * b.toNat) 1 acc) (1 + m) (add_lt hw h)
    rw [show n + 1 + m = n + (1 + m) by omega]
    exact this
theorem bytes_row {f : Nat → Option FB} {I ni : Nat} (s : ByteArray) : RowR f I ni (byteRow s.data.toList.length (beVal s.data.toList) 0) (strCells s).toArray := by
  have hs : (strCells s).toArray.size = s.data.toList.length := by simp [strCells]
  refine ⟨?_, fun i hi => ?_, fun i hi => ?_⟩
  · rw [hs]
    have := byteRow_lt s.data.toList 0 0 (by simp)
    simpa using this
  · have hi' : i < s.data.toList.length := by rw [← hs]; exact hi
    rw [byteRow_ok, dif_pos hi']
    have e : (strCells s).toArray[i] = .int .u8 (s.data.toList[i].toNat : Nat) := by simp [strCells]
    rw [e]
    have := s.data.toList[i].toNat_lt
    exact .int .u8 _ _ (by simp [bias]) (by omega)
  · have e : (strCells s).toArray[i] = .int .u8 (s.data.toList[i]'(by rw [← hs]; exact hi)).toNat := by simp [strCells]
    rw [e]; rfl
variable (w : World)
theorem run_room_str (t u ty e : TypeId) (i : TypeInfo) (ht : P.underlying t = some (.slice e)) (hu : P.underlying u = some .string) (hi : P.info? e = some i) (hs1 : i.size = 1) (b off sLen sCap : Nat) (s : ByteArray) (hroom : sLen + s.size ≤ sCap)
    (hc : ∀ j, j < (strCells s).length → (w.cell? ⟨b, off + sLen + j, none⟩).isSome = true) (hf : ∀ j, j < (strCells s).length → w.frozen? ⟨b, off + sLen + j, none⟩ = false) :
    (Builtin.append_ #[t, u] ty #[.slice (some ⟨b, off, none⟩) sLen sCap, .string s]).run P w = .ok (.slice (some ⟨b, off, none⟩) (sLen + s.size) sCap) (w.setCells b (off + sLen) (strCells s)) := by
  have hfc := run_firstCells_string (P := P) w 1 s
  have hst := run_storeCells_cells (P := P) b (off + sLen) (strCells s) 0 w (by simpa using hc) (by simpa using hf) (strCells_oneCell s)
  simp only [Nat.add_zero] at hst
  simp [Builtin.append_, run_underlying ht, run_underlying hu, Go.sizeOf, typeInfo, hi, hs1, Builtin.lenOf, hroom, hfc, Addr.add_lit, hst]
theorem run_grows_str (t u ty e : TypeId) (i : TypeInfo) (ht : P.underlying t = some (.slice e)) (hu : P.underlying u = some .string) (hi : P.info? e = some i) (hz : i.zero = some (.int .u8 0)) (hsize : i.size = 1) (hby : i.bytes = 1)
    (b : Addr) (n cap : Nat) (olds : List Value) (hlo : olds.length = n) (holds : ∀ j u, olds[j]? = some u → w.cell? (b.add j) = some u) (s : ByteArray) (hg : cap < n + s.size) (h63 : n + s.size ≤ maxLen) (hbytes : n + s.size ≤ 140737488355328) :
    ∃ v' w', (Builtin.append_ #[t, u] ty #[.slice (some b) n cap, .string s]).run P w = .ok v' w' ∧ w'.ownsRow w.heap.size e 1 v' (n + s.size) (olds ++ strCells s) ∧ w.grownBy w' none := by
  have hlen : (olds ++ strCells s).length = (n + s.size) * 1 := by rw [List.length_append, hlo, strCells_length, Nat.mul_one]
  have hge := grownCap_ge w (n + s.size) cap e
  have hcm : grownCap w (n + s.size) cap e ≤ maxLen := grownCap_le_maxLen w (n + s.size) cap e h63
  have hr := run_append_grow_string (P := P) w t u ty e i (.int .u8 0) ht hu hi hz b n cap olds (by rw [hsize, hlo, Nat.mul_one]) holds s hg (by simp only [maxLen] at h63; omega) (by rw [hby]; exact growslice_fits hg (by omega))
  refine ⟨_, _, hr, ⟨hlen, .inr ⟨w.heap.size, _, _, rfl, Nat.le_refl _, heap_alloc_new w.drew _, hge, hcm, ?_, ?_⟩⟩, ⟨rfl, rfl, rfl, by simp, fun k hk _ => heap_alloc_oldE w.drew _ k hk⟩⟩
  · have hz1 : (Value.int IntKind.u8 0).cells.size = 1 := rfl
    simp only [Array.size_append, List.size_toArray, size_zeroCells, hz1, hlo, strCells_length]
    omega
  · simp only [Array.toList_append, List.append_assoc]
    rw [← List.append_assoc, ← hlen]
    exact List.take_left
end
end Go.Proofs.YtpjhkpmmbeoghaaGreatDoor.Ev
namespace Go.Proofs.YtpjhkpmmbeoghaaGreatDoor.Ev
open Go Go.Lib
section
variable {E : Fr} {a : Act} {P : Program}
theorem appTK_ok {c : Cf} {kf : KF} {t u ty e : TypeId} {ie : TypeInfo} {x y : Operand} (hr : HR c) (ht : P.underlying t = some (.slice e)) (hu : P.underlying u = some .string) (he : P.info? e = some ie) (hz' : ie.zero = some (.int .u8 0)) (hsz : ie.size = 1) (hby : ie.bytes = 1)
    (h : appTK (lowOpd x) (lowOpd y) E c.M c.nm c.I c.ni kf = .ok) (hx : OpR c.f c.I c.ni E a x) (hy : OpR c.f c.I c.ni E a y) (hI : IB c.I c.ni) : StepOk P c kf (do let v ← Builtin.append_ #[t, u] ty #[a.eval x, a.eval y]; pure (.value v)) := by
  obtain ⟨w, wy, I', n', h1, h2, h3, h4⟩ := op2_ok h hx hy hI
  obtain ⟨t1, h1⟩ := iff_bad h1
  obtain ⟨t2, h1⟩ := iff_bad h1
  have hr1 := hr.growI h2.ext h2.lt.1
  have hx1 : Ext c { c with I := I', ni := n' } := Ext.growI h2.ext
  have vx := slice_view h3 t1
  obtain ⟨qy, m, sy, ey, hny, hny2, hqy, hsy, -, hwy⟩ := h4.inv_str (tg_ok t2)
  obtain ⟨ty1, ty2⟩ := tW hwy hqy
  rw [ty1, ty2] at h1
  have hm0 : sy.size = m := by rw [← hny]; rfl
  rcases iff_ok h1 with ⟨t3, h1⟩ | ⟨t3, h1⟩
  · 
    have hm : m = 0 := Nat.eq_of_beq_eq_true t3
    refine ⟨w, a.eval x, { c with I := I', ni := n' }, h1, hr1, h2.lt, hx1, h3, .inl ?_⟩
    have hfc := run_firstCells_string (P := P) c.w 1 sy
    have hsc : strCells sy = [] := List.eq_nil_of_length_eq_zero (by rw [strCells_length]; omega)
    rw [hsc] at hfc
    have hm1 : sy.size = 0 := by omega
    rw [hm1] at hfc
    rcases vx with ⟨-, e1, -⟩ | ⟨ex, F, A, cc, -, -, -, -, -, -, -, hc, -, q1, q2, -, -, e1⟩
    · rw [ey, e1]; simp [Builtin.append_, run_underlying ht, run_underlying hu, Go.sizeOf, typeInfo, he, hsz, Builtin.lenOf, hm1, hfc]
    · have hcc : sLen w ≤ cc := by
        cases ex
        · have := (q2 rfl).1; omega
        · have := q1 rfl; omega
      rw [ey, e1]; simp [Builtin.append_, run_underlying ht, run_underlying hu, Go.sizeOf, typeInfo, he, hsz, Builtin.lenOf, hm1, hfc, hcc, storeCells]
  have hm : m ≠ 0 := fun h0 => by rw [h0] at t3; cases t3
  obtain ⟨t5, h1⟩ := iff_bad h1
  have t5 : sLen w + m < 524288 := blt_iff.1 t5
  obtain ⟨cs2, hcs2⟩ : ∃ cs2 : Array Value, cs2 = (strCells sy).toArray := ⟨_, rfl⟩
  have hs2c : cs2.size = m * 1 := by rw [hcs2, Nat.mul_one, ← hm0, List.size_toArray, strCells_length]
  have hrow2 : RowR c.f I' n' (byteRow m (strAt I' qy m) 0) cs2 := by
    rw [hsy, hcs2, ← hny]; exact bytes_row sy
  have hcsl : cs2.toList = strCells sy := by rw [hcs2]
  have hmax : sLen w + m ≤ maxLen := by simp only [maxLen]; omega
  have hs : (0 : Nat) < 1 := by decide
  have hs2 : (1 : Nat) < 256 := by decide
  have e1m : ∀ k : Nat, k * 1 = k := Nat.mul_one
  rcases vx with ⟨hw, e1, e0⟩ | ⟨ex, F, A, cc, hw, hb0, hb1, hf, ho, hl, hsw, hc, hcap, p1, p2, p3, p4, e1⟩
  · 
    subst hw
    obtain ⟨-, h1⟩ := (iff_ok h1).resolve_right fun hh => by cases hh.1
    obtain ⟨h7, h1⟩ := allocK_ok h1
    obtain ⟨v', w', hrun, hown, hg, -⟩ := run_append_own_string (P := P) c.w c.w.heap.size t u ty e ie ht hu he hz' hsz hby (.slice none 0 0) 0 [] (World.ownsRow_nil c.w _ e 1) sy (by rw [hm0]; simp only [maxLen]; omega) (by omega) (Nat.le_refl _)
    rw [Nat.zero_add, List.nil_append, hm0, ← hcsl] at hown
    have hgr := hr1.grownRow (N := m) (s := 1) (by rw [Nat.mul_one]; exact h7) hs hs2 (by omega) hrow2 hs2c (by omega) hown hg
    simp only [Nat.mul_one] at hgr
    obtain ⟨g, size, r1, r2, r3⟩ := hgr
    refine ⟨_, v', _, h1, r1, h2.lt, hx1.trans hr r2, r3, .inl ?_⟩
    rw [ey, e1]; simp only [Sem.run_bind, hrun, Result.andThen_ok, Sem.run_pure]
    rfl
  obtain ⟨-, h1⟩ := (iff_ok h1).resolve_left fun hh => hw (Nat.eq_of_beq_eq_true hh.1)
  obtain ⟨t6, h1⟩ := iff_bad h1
  have t6 : sSz w = 1 := Nat.eq_of_beq_eq_true t6
  have hcap' : sCap w ≤ cc := by
    cases ex
    · exact (p2 rfl).1
    · exact Nat.le_of_eq (p1 rfl).symm
  have hs2c' : cs2.size = m := by rw [hs2c, Nat.mul_one]
  have hl2 : (strCells sy).length = m := by rw [strCells_length, hm0]
  rcases iff_ok h1 with ⟨t7, h1⟩ | ⟨t7, h1⟩
  · 
    have t7 : sLen w + m ≤ sCap w := Nat.le_of_ble_eq_true t7
    obtain ⟨hk, hin, h1⟩ := inK_ok h1
    have hin : sOff w + sLen w + m ≤ hd c.M (sB w) / 1024 := hin
    obtain rfl := p3 (by omega)
    obtain ⟨-, g2, g3⟩ := hr1.put (P := P) (off := sOff w + sLen w) hf hk (by rw [hs2c']; exact hin) hrow2
    obtain ⟨-, -, -, hth, -⟩ := hr1.row hf hk hin
    rw [hs2c', hcsl] at g2 g3
    have hrun := run_room_str (P := P) c.w t u ty e ie ht hu he hsz F.blk (F.base + sOff w) (sLen w) cc sy (by omega)
      (fun j hj => by have := (hth j (by omega)).1; simpa only [Nat.add_assoc] using this) (fun j hj => by have := (hth j (by omega)).2; simpa only [Nat.add_assoc] using this)
    refine ⟨_, .slice (some ⟨F.blk, F.base + sOff w, none⟩) (sLen w + m) cc, _, h1, g2, h2.lt, hx1.trans hr g3, ?_, .inl ?_⟩
    · have hwr := WR.slice (f := c.f) (I := I') (ni := n') (sB w) (sOff w) (sLen w + m) 1 (sCap w) ex F ⟨F.blk, F.base + sOff w, none⟩ cc hb0 hb1 hf ho t5 hs2 t7 hcap p1 (fun hx => by have := p2 hx; rw [t6] at this; exact this) fun _ => rfl
      rw [← slW_eq, ← p4] at hwr
      exact hwr
    · rw [ey, e1]; simp only [Sem.run_bind, hrun, Result.andThen_ok, Sem.run_pure]
      simp only [hm0, Nat.add_assoc]
  · 
    have t7 : ¬ sLen w + m ≤ sCap w := fun h0 => by rw [show Nat.ble (Nat.add (sLen w) m) (sCap w) = true from Nat.ble_eq_true_of_le h0] at t7; cases t7
    obtain ⟨hk, hin, h1⟩ := inK_ok h1
    have hin : sOff w + sLen w ≤ hd c.M (sB w) / 1024 := hin
    obtain ⟨cs1, hs1c, hrow1, hth1, hcell1⟩ := hr1.row hf hk hin
    obtain ⟨h7, h1⟩ := allocK_ok h1
    have h7 : c.nm + (1 + (sLen w + m)) < 4194304 := h7
    have hrow := hrow1.append hrow2
    rw [hs1c] at hrow
    have hszs : (cs1 ++ cs2).size = (sLen w + m) * 1 := by rw [Array.size_append]; omega
    have hl1 : cs1.toList.length = sLen w := by simpa using hs1c
    obtain ⟨nn, hlay⟩ := hr1.dom _ _ hf
    by_cases hroom : sLen w + m ≤ cc
    · 
      have hex : ex = false := by
        cases ex
        · rfl
        · have := p1 rfl; omega
      subst hex
      obtain rfl := p3 (by omega)
      obtain ⟨q4, q5⟩ := p2 rfl
      rw [t6] at q5
      have hM : (@Nat.rec (fun _ => Nat) (setRow c.M (Nat.sub (sB w) 1) 1 0) (fun _ _ => c.M) (sEx w)) = setRow c.M (sB w - 1) 1 0 := by rw [p4]; rfl
      rw [hM] at h1
      obtain ⟨g1, g2⟩ := hr1.moved (N := sLen w + m) hf hk h7 hin hs1c hrow1 hcell1 hrow2 (by omega) (by omega)
      rw [hcsl] at g1 g2
      have hend : ∀ j, j < m → ∃ u, c.w.cell? ⟨F.blk, F.base + sOff w + sLen w + j, none⟩ = some u ∧ c.w.frozen? ⟨F.blk, F.base + sOff w + sLen w + j, none⟩ = false := by
        intro j hj
        obtain ⟨bs, elem, fr, u1, u2, u3, u4, u5, u6⟩ := hr.cells _ _ hf hk
        have hlt : F.base + sOff w + sLen w + j < bs.size := by omega
        refine ⟨bs[F.base + sOff w + sLen w + j], by simp [World.cell?, u1, hlt], ?_⟩
        have h8 := u2 _ hlt
        simp only [World.frozen?, u1]
        rw [Bool.and_eq_false_iff]
        simp only [decide_eq_false_iff_not]
        omega
      have hrun := run_room_str (P := P) c.w t u ty e ie ht hu he hsz F.blk (F.base + sOff w) (sLen w) cc sy (by omega)
        (fun j hj => by obtain ⟨u, h5, -⟩ := hend j (by omega); rw [h5]; rfl) (fun j hj => by obtain ⟨u, -, h5⟩ := hend j (by omega); rw [h5])
      refine ⟨_, .slice (some ⟨F.blk, F.base + sOff w, none⟩) (sLen w + m) cc, _, h1, g1, h2.lt, hx1.trans hr g2, ?_, .inl ?_⟩
      · have hwr := WR.slice (f := setN c.f (c.nm + 1) ⟨F.blk, F.base + sOff w, F.size, 0⟩) (I := I') (ni := n') (c.nm + 1) 0 (sLen w + m) 1 (sLen w + m) false ⟨F.blk, F.base + sOff w, F.size, 0⟩ ⟨F.blk, F.base + sOff w, none⟩ cc (by omega) (by omega) (setN_same _ _ _) (by omega) t5 hs2 (Nat.le_refl _) t5 (fun h => by cases h) (fun _ => ⟨hroom, q5⟩) fun _ => rfl
        rw [← slW_eq] at hwr
        exact hwr
      · rw [ey, e1]; simp only [Sem.run_bind, hrun, Result.andThen_ok, Sem.run_pure]
        rw [hm0]
        rfl
    · have holds : ∀ j u, cs1.toList[j]? = some u → c.w.cell? (A.add j) = some u := by
        by_cases hc0 : cc = 0
        · intro j u hu
          have : cs1.toList.length = 0 := by rw [hl1]; omega
          rw [List.eq_nil_of_length_eq_zero this] at hu
          cases hu
        · obtain rfl := p3 hc0
          exact cells_of (c := { c with I := I', ni := n' }) hs1c hcell1
      obtain ⟨v', w', hrun, hown, hg⟩ := run_grows_str (P := P) c.w t u ty e ie ht hu he hz' hsz hby A (sLen w) cc cs1.toList hl1 holds sy (by omega) (by rw [hm0]; exact hmax) (by omega)
      rw [hm0, ← hcsl, ← Array.toList_append] at hown
      have hrun' : (do let v ← Builtin.append_ #[t, u] ty #[a.eval x, a.eval y]; pure (Next.value v) : Sem Next).run P c.w = .ok (.value v') w' := by
        rw [ey, e1]; simp only [Sem.run_bind, hrun, Result.andThen_ok, Sem.run_pure]
      cases ex
      · have hM : (@Nat.rec (fun _ => Nat) (setRow c.M (Nat.sub (sB w) 1) 1 0) (fun _ _ => c.M) (sEx w)) = setRow c.M (sB w - 1) 1 0 := by rw [p4]; rfl
        rw [hM] at h1
        have hstr := hr1.strike hlay
        have hgr := hstr.grownRow (N := sLen w + m) (s := 1) (by rw [Nat.mul_one]; exact h7) hs hs2 t5 hrow hszs (by omega) hown hg
        simp only [Nat.mul_one] at hgr
        obtain ⟨g, size, r1, r2, r3⟩ := hgr
        exact ⟨_, v', _, h1, r1, h2.lt, hx1.trans hr ((Ext.strike hr1 hf).trans hr1 r2), r3, .inl hrun'⟩
      · have hM : (@Nat.rec (fun _ => Nat) (setRow c.M (Nat.sub (sB w) 1) 1 0) (fun _ _ => c.M) (sEx w)) = c.M := by rw [p4]; rfl
        rw [hM] at h1
        have hgr := hr1.grownRow (N := sLen w + m) (s := 1) (by rw [Nat.mul_one]; exact h7) hs hs2 t5 hrow hszs (by omega) hown hg
        simp only [Nat.mul_one] at hgr
        obtain ⟨g, size, r1, r2, r3⟩ := hgr
        exact ⟨_, v', _, h1, r1, h2.lt, hx1.trans hr r2, r3, .inl hrun'⟩
end
end Go.Proofs.YtpjhkpmmbeoghaaGreatDoor.Ev
namespace Go.Proofs.YtpjhkpmmbeoghaaGreatDoor.Ev
open Go Go.Lib
section
variable {E : Fr} {a : Act} {P : Program}
theorem HR.newRowF {c : Cf} (h : HR c) {n r : Nat} (hn : c.nm + (1 + n) < 4194304) {cs vs : Array Value} {elem : TypeId} {fr : Nat × Nat} (hfz : ∀ i, i < cs.size → ¬ (fr.1 ≤ i ∧ i < fr.2)) (hrow : RowR c.f c.I c.ni r vs) (hvs : vs.size = n) (hcs : n ≤ cs.size) (hpre : ∀ i, i < n → cs[i]? = vs[i]?)
    (w' : World) {g : Nat} (hg : c.w.heap.size ≤ g) (hw : w'.heap[g]? = some (.cells cs elem fr)) (hsz : c.w.heap.size ≤ w'.heap.size) (hfr : ∀ k, k < c.w.heap.size → w'.heap[k]? = c.w.heap[k]?) (ht : w'.tape = c.w.tape ∧ w'.os = c.w.os ∧ w'.output = c.w.output) :
    HR (c.grown (1 + 1024 * n) n r ⟨g, 0, cs.size, 0⟩ w') ∧ Ext c (c.grown (1 + 1024 * n) n r ⟨g, 0, cs.size, 0⟩ w') := by
  have hh : 1 + 1024 * n < 2 ^ 96 := by omega
  subst hvs
  have hfx : FExt c.f (setN c.f (c.nm + 1) ⟨g, 0, cs.size, 0⟩) := by
    intro b F' e
    rw [setN_ne]
    · exact e
    · obtain ⟨n', hl'⟩ := h.dom b F' e
      have := h.lay0 b n' hl'
      omega
  refine ⟨h.grown hh (by omega) hrow.lt (fun b F' e _ => hfr _ (h.lt b F' e)) hsz (Array.getElem?_eq_some_iff.1 hw).1 (fun b F' e _ => by have := h.lt b F' e; show _ ≠ g; omega) (fun _ => ?_) (fun hx => by omega), .grown h hh ht hsz hfr hg⟩
  have e0 : hd (c.grown (1 + 1024 * vs.size) vs.size r ⟨g, 0, cs.size, 0⟩ w').M (c.nm + 1) = 1 + 1024 * vs.size := grown_hd' h hh
  refine ⟨cs, elem, fr, hw, hfz, rfl, ?_, ?_, fun i hi hx => ?_⟩
  · rw [e0]; show 0 + _ ≤ _; omega
  · rw [e0]; show _ = 0; omega
  · rw [e0] at hi
    have hi' : i < vs.size := by omega
    show WR (setN c.f (c.nm + 1) _) c.I c.ni (cellAt (addRow c.M c.nm (addRow _ 1 r)) (c.nm + 1 + i)) (cs[0 + i]'hx) ∧ (cs[0 + i]'hx).oneCell' = true
    rw [grown_cell h hh, if_neg (by omega), if_neg (by omega), show c.nm + 1 + i - (c.nm + 1) = i by omega]
    have e1 : cs[0 + i]'hx = vs[i] := by
      have := hpre i hi'
      rw [Array.getElem?_eq_getElem (by omega), Array.getElem?_eq_getElem hi'] at this
      simpa only [Nat.zero_add] using Option.some.inj this
    rw [e1]
    exact ⟨(hrow.wr i hi').mono hfx (.refl _ _), hrow.one i hi'⟩
theorem toBytesK_ok {c : Cf} {kf : KF} {x : Operand} {src dst e : TypeId} (hr : HR c) (hs : P.underlying src = some .string) (hd : P.underlying dst = some (.slice e)) (he : P.underlying e = some (.int .u8)) (h : toBytesK (lowOpd x) E c.M c.nm c.I c.ni kf = .ok)
    (hx : OpR c.f c.I c.ni E a x) (hI : IB c.I c.ni) : StepOk P c kf (do let v ← convert src dst (a.eval x); pure (.value v)) := by
  obtain ⟨w, I', n', h1, h2, h3⟩ := opdK_ok h hx hI
  obtain ⟨t1, h1⟩ := iff_bad h1
  obtain ⟨t2, h1⟩ := iff_bad h1
  have t2 := blt_iff.1 t2
  obtain ⟨q, m, s, e1, hn, hn2, hq, hsv, -, hw⟩ := h3.inv_str (tg_ok t1)
  obtain ⟨ty1, ty2⟩ := tW hw hq
  rw [ty1, ty2] at h1
  rw [ty2] at t2
  obtain ⟨h7, h1⟩ := allocK_ok h1
  have hm : s.size = m := by rw [← hn]; rfl
  have hr1 := hr.growI h2.ext h2.lt.1
  have hge : m ≤ grownCap c.w s.size 0 e := by rw [← hm]; exact grownCap_ge _ _ _ _
  have hrow : RowR c.f I' n' (byteRow m (strAt I' q m) 0) (strCells s).toArray := by
    rw [hsv, ← hn]; exact bytes_row s
  have hvs : (strCells s).toArray.size = m := by rw [List.size_toArray, strCells_length, hm]
  have hcell : ∀ j, j < m → (bytesCells c.w e s)[j]? = (strCells s).toArray[j]? := fun j hj => by
    have h8 := bytesWorld_cell c.w e s j (by omega)
    have h9 : (bytesWorld c.w e s).heap[c.w.heap.size]? = _ := bytesWorld_at_new c.w e s
    simp only [World.cell?, h9] at h8
    have h10 : (bytesCells c.w e s)[j]? = some (.int .u8 (s.data.toList.getD j 0).toNat) := by simpa using h8
    rw [h10]
    have hj' : j < s.data.toList.length := by omega
    simp [strCells, List.getD, List.getElem?_eq_getElem hj']
  have hsz : m ≤ (bytesCells c.w e s).size := by
    refine Classical.byContradiction fun hlt => ?_
    have h8 := hcell (bytesCells c.w e s).size (by omega)
    rw [Array.getElem?_eq_none (Nat.le_refl _), Array.getElem?_eq_getElem (by omega)] at h8
    cases h8
  have hcap : (bytesCells c.w e s).size = m + (grownCap c.w s.size 0 e - m) := by
    simp [bytesCells, ← hm]
  obtain ⟨q1, q2⟩ := hr1.newRowF (n := m) (r := byteRow m (strAt I' q m) 0) (cs := bytesCells c.w e s) (vs := (strCells s).toArray) (elem := e) (fr := ((bytesCells c.w e s).size, (bytesCells c.w e s).size + 1)) h7 (fun i hi h => by have := h.1; simp only at this; omega) hrow hvs hsz hcell (bytesWorld c.w e s) (Nat.le_refl _) (bytesWorld_at_new c.w e s) (by rw [bytesWorld_size]; show c.w.heap.size ≤ _; omega) (fun k hk => bytesWorld_at_old c.w e s k hk) ⟨rfl, rfl, rfl⟩
  refine ⟨_, .slice (some ⟨c.w.heap.size, 0, none⟩) m (grownCap c.w s.size 0 e), _, h1, q1, h2.lt, (Ext.growI h2.ext).trans hr q2, ?_, .inl ?_⟩
  · exact slWR (c := { c with I := I', ni := n' }) (g := c.w.heap.size) (r := byteRow m (strAt I' q m) 0) (w' := bytesWorld c.w e s) (ex := false) (bytesCells c.w e s) h7 rfl t2 (by decide) (Nat.le_refl _) t2 (grownCap c.w s.size 0 e) (fun h => by cases h) fun _ => ⟨hge, by omega⟩
  · rw [e1, Sem.run_bind, run_convert_string_bytes c.w src dst e s hs hd he, hm]
    rfl
end
end Go.Proofs.YtpjhkpmmbeoghaaGreatDoor.Ev
namespace Go.Proofs.YtpjhkpmmbeoghaaGreatDoor.Ev
open Go
section
variable {f : Nat → Option FB} {I ni : Nat} {E : Fr} {a : Act} {P : Program} {kv : KV}
theorem guard_word {w : Nat} {u v : Value} (h : WR f I ni w u) (h1 : w % 32 ≠ 17) (h2 : w % 32 ≠ 18) (op : BinOp) (t : TypeId) (x y : Operand) (W : World) : (eqGuard op t x y u v).run P W = .ok () W := by
  unfold eqGuard
  cases h with
  | nilIface => exact absurd rfl h1
  | agg b n cs => exact absurd (by omega) h2
  | _ => cases op <;> rfl
theorem guard_op {op : BinOp} (h1 : op ≠ .eql) (h2 : op ≠ .neq) (t : TypeId) (x y : Operand) (u v : Value) (W : World) : (eqGuard op t x y u v).run P W = .ok () W := by
  unfold eqGuard
  cases op <;> first | rfl | exact absurd rfl h1 | exact absurd rfl h2
theorem binGuard {op : BinOp} {t : TypeId} {x y : Operand} {u v : Value} (hg : ∀ W, (eqGuard op t x y u v).run P W = .ok () W) (h : PureOk P f I ni kv (do let v ← binOp op t u v; pure (.value v))) :
    PureOk P f I ni kv (do let v ← (do eqGuard op t x y u v; binOp op t u v); pure (.value v)) := by
  obtain ⟨w, I', n', r, h1, h2, h3, h4⟩ := h
  refine ⟨w, I', n', r, h1, h2, h3, fun W => ?_⟩
  have := h4 W
  rw [Sem.run_bind] at this
  rw [Sem.run_bind, Sem.run_bind, hg, Result.andThen_ok]
  exact this
theorem ieqK_guard {t : Nat} {neg : Bool} {x y : Operand} {op : BinOp} {ty : TypeId} (ht : t ≠ 17 ∧ t ≠ 18) (h : ieqK t neg (lowOpd x) (lowOpd y) E I ni kv = .ok) (hx : OpR f I ni E a x) (hy : OpR f I ni E a y) (hI : IB I ni) (W : World) : (eqGuard op ty x y (a.eval x) (a.eval y)).run P W = .ok () W := by
  obtain ⟨wx, wy, I', n', h1, h2, h3, h4⟩ := op2_ok h hx hy hI
  obtain ⟨h5, h1⟩ := iff_bad h1
  have := tg_ok h5
  exact guard_word h3 (by omega) (by omega) op ty x y W
theorem seqK_guard {neg : Bool} {x y : Operand} {op : BinOp} {ty : TypeId} (h : seqK neg (lowOpd x) (lowOpd y) E I ni kv = .ok) (hx : OpR f I ni E a x) (hy : OpR f I ni E a y) (hI : IB I ni) (W : World) : (eqGuard op ty x y (a.eval x) (a.eval y)).run P W = .ok () W := by
  obtain ⟨wx, wy, I', n', h1, h2, h3, h4⟩ := op2_ok h hx hy hI
  obtain ⟨h5, h1⟩ := iff_bad h1
  have := tg_ok h5
  exact guard_word h3 (by omega) (by omega) op ty x y W
theorem addS_ok {x y : Operand} {t : TypeId} (h : op2 (lowOpd x) (lowOpd y) E I ni (fun wx wy I ni => add64 wx wy I ni kv) = .ok) (hx : OpR f I ni E a x) (hy : OpR f I ni E a y) (hI : IB I ni) :
    PureOk P f I ni kv (do let v ← binOp .add t (a.eval x) (a.eval y); pure (.value v)) := by
  obtain ⟨wx, wy, I', n', h1, h2, h3, h4⟩ := op2_ok h hx hy hI
  obtain ⟨w, m, n, e1, e2, h5, h6⟩ := add64_ok h1 h3 h4
  refine ⟨w, I', n', _, h5, h2, h6, fun W => ?_⟩
  rw [e1, e2]; simp [binOp, Op.intArith]
theorem subS_ok {x y : Operand} {t : TypeId} (h : op2 (lowOpd x) (lowOpd y) E I ni (fun wx wy I ni => sub64 wx wy I ni kv) = .ok) (hx : OpR f I ni E a x) (hy : OpR f I ni E a y) (hI : IB I ni) :
    PureOk P f I ni kv (do let v ← binOp .sub t (a.eval x) (a.eval y); pure (.value v)) := by
  obtain ⟨wx, wy, I', n', h1, h2, h3, h4⟩ := op2_ok h hx hy hI
  obtain ⟨w, m, n, e1, e2, h5, h6⟩ := sub64_ok h1 h3 h4
  refine ⟨w, I', n', _, h5, h2, h6, fun W => ?_⟩
  rw [e1, e2]; simp [binOp, Op.intArith]
theorem iopK_ok {op : BinOp} {k : IntKind} {x y : Operand} {t : TypeId} (h : iopK op k (lowOpd x) (lowOpd y) E I ni kv = .ok) (hx : OpR f I ni E a x) (hy : OpR f I ni E a y) (hI : IB I ni) :
    PureOk P f I ni kv (do let v ← binOp op t (a.eval x) (a.eval y); pure (.value v)) := by
  obtain ⟨wx, wy, I', n', h1, h2, h3, h4⟩ := op2_ok h hx hy hI
  obtain ⟨h5, h1⟩ := iff_bad h1
  obtain ⟨h6, h1⟩ := iff_bad h1
  obtain ⟨m, p, e1, w1, p1, -⟩ := h3.inv_int k (tg_ok h5)
  obtain ⟨n, q, e2, w2, p2, -⟩ := h4.inv_int k (tg_ok h6)
  obtain ⟨w, z, h7, h8, h9⟩ := optK_ok (f := f) h1
  rw [decI_eq w1 p1, decI_eq w2 p2] at h7
  refine ⟨w, I', n', _, h8, h2, h9, fun W => ?_⟩
  rw [e1, e2, Sem.run_bind, iopV_run h7]; rfl
theorem shfK_ok {op : BinOp} {k yk : IntKind} {x y : Operand} {t : TypeId} (h : shfK op k yk (lowOpd x) (lowOpd y) E I ni kv = .ok) (hx : OpR f I ni E a x) (hy : OpR f I ni E a y) (hI : IB I ni) :
    PureOk P f I ni kv (do let v ← binOp op t (a.eval x) (a.eval y); pure (.value v)) := by
  obtain ⟨wx, wy, I', n', h1, h2, h3, h4⟩ := op2_ok h hx hy hI
  obtain ⟨h5, h1⟩ := iff_bad h1
  obtain ⟨h6, h1⟩ := iff_bad h1
  obtain ⟨m, p, e1, w1, p1, -⟩ := h3.inv_int k (tg_ok h5)
  obtain ⟨n, q, e2, w2, p2, -⟩ := h4.inv_int yk (tg_ok h6)
  obtain ⟨w, z, h7, h8, h9⟩ := optK_ok (f := f) h1
  rw [decI_eq w1 p1, decI_eq w2 p2] at h7
  refine ⟨w, I', n', _, h8, h2, h9, fun W => ?_⟩
  rw [e1, e2, Sem.run_bind, shfV_run h7]; rfl
theorem nil_run {d : TypeDesc} {ty : TypeId} {y : Operand} {z t : Nat} (hd : P.underlying ty = some d) (hn : nilWord d y = some (z, t)) {neg : Bool} {x : Operand} : (∀ {I' ni' w v}, WR f I' ni' w v → w = z → ∀ W, (do eqGuard (if neg then .neq else .eql) ty x y v (a.eval y); binOp (if neg then .neq else .eql) ty v (a.eval y) : Sem Value).run P W = .ok (.bool (!neg)) W) ∧
    (∀ {I' ni' w v}, WR f I' ni' w v → w % 32 = t → w ≠ z → ∀ W, (do eqGuard (if neg then .neq else .eql) ty x y v (a.eval y); binOp (if neg then .neq else .eql) ty v (a.eval y) : Sem Value).run P W = .ok (.bool neg) W) := by
  unfold nilWord at hn
  split at hn <;> first | (cases hn; done) | skip
  all_goals (simp only [Option.some.injEq, Prod.mk.injEq] at hn; obtain ⟨rfl, rfl⟩ := hn)
  case h_1 e =>
    have ht := pointee_of hd
    have key : ∀ (p : Option Addr) (W : World), (do eqGuard (if neg then .neq else .eql) ty x (.const (.pointer none)) (.pointer p) (.pointer none); binOp (if neg then .neq else .eql) ty (.pointer p) (.pointer none) : Sem Value).run P W = .ok (.bool (if neg then !p.isNone else p.isNone)) W := fun p W =>
      eq_run W (by cases neg <;> rfl) (by cases neg <;> rfl) (run_equal_pointer_nil W ty p ht)
    refine ⟨fun {I' ni' w v} h hw W => ?_, fun {I' ni' w v} h hw hne W => ?_⟩
    · rcases h.inv_ptr (by omega) with ⟨-, rfl⟩ | ⟨b, off, F, hb, -, -, -, hw', -⟩
      · refine (key none W).trans ?_; cases neg <;> rfl
      · omega
    · rcases h.inv_ptr hw with ⟨hw', -⟩ | ⟨b, off, F, hb, -, -, -, -, rfl⟩
      · exact absurd hw' hne
      · refine (key _ W).trans ?_; cases neg <;> rfl
  case h_2 e =>
    have key : ∀ (p : Option Addr) (l c : Nat) (W : World), (do eqGuard (if neg then .neq else .eql) ty x (.const (.slice none 0 0)) (.slice p l c) (.slice none 0 0); binOp (if neg then .neq else .eql) ty (.slice p l c) (.slice none 0 0) : Sem Value).run P W = .ok (.bool (if neg then !p.isNone else p.isNone)) W := fun p l c W =>
      eq_run W (by cases neg <;> rfl) (by cases neg <;> rfl) (run_equal_slice_nil W ty e p l c hd)
    refine ⟨fun {I' ni' w v} h hw W => ?_, fun {I' ni' w v} h hw hne W => ?_⟩
    · rcases h.inv_slice (by omega) with ⟨-, rfl⟩ | ⟨b, off, len, sz, cap, ex, F, A, c, hb, hb2, hf, ho, hlen, hsz, hc, hcap, q1, q2, q3, hw', e1⟩
      · refine (key none 0 0 W).trans ?_; cases neg <;> rfl
      · omega
    · rcases h.inv_slice hw with ⟨hw', -⟩ | ⟨b, off, len, sz, cap, ex, F, A, c, hb, hb2, hf, ho, hlen, hsz, hc, hcap, q1, q2, q3, hw', rfl⟩
      · exact absurd hw' hne
      · refine (key _ _ _ W).trans ?_; cases neg <;> rfl
  case h_3 k e =>
    have key : ∀ (p : Option Nat) (W : World), (do eqGuard (if neg then .neq else .eql) ty x (.const (.map none)) (.map p) (.map none); binOp (if neg then .neq else .eql) ty (.map p) (.map none) : Sem Value).run P W = .ok (.bool (if neg then !p.isNone else p.isNone)) W := fun p W =>
      eq_run W (by cases neg <;> rfl) (by cases neg <;> rfl) (run_equal_map_nil W ty k e p hd)
    refine ⟨fun {I' ni' w v} h hw W => ?_, fun {I' ni' w v} h hw hne W => ?_⟩
    · rcases h.inv_map (by omega) with ⟨-, rfl⟩ | ⟨b, F, hb, -, -, hw', -⟩
      · refine (key none W).trans ?_; cases neg <;> rfl
      · omega
    · rcases h.inv_map hw with ⟨hw', -⟩ | ⟨b, F, hb, -, -, hw', rfl⟩
      · exact absurd hw' hne
      · refine (key _ W).trans ?_; cases neg <;> rfl
  case h_4 ps rs vr =>
    refine ⟨fun {I' ni' w v} h hw W => ?_, fun {I' ni' w v} h hw hne W => ?_⟩
    · have e1 := h.inv_nilFunc (by omega)
      subst e1
      refine (eq_run W (by cases neg <;> rfl) (by cases neg <;> rfl) (equal_fn ty hd .nilFunc (.inl rfl) W)).trans ?_
      cases neg <;> rfl
    · obtain ⟨fn, b, n, cs, rfl, -⟩ := h.inv_func hw
      refine (eq_run W (by cases neg <;> rfl) (by cases neg <;> rfl) (equal_fn ty hd _ (.inr ⟨_, _, _, rfl⟩) W)).trans ?_
      cases neg <;> rfl
  case h_5 ms =>
    refine ⟨fun {I' ni' w v} h hw W => ?_, fun {I' ni' w v} h hw hne W => ?_⟩
    · have e1 := h.inv_nilIface (by omega)
      subst e1
      refine (eq_run W (by cases neg <;> cases x <;> rfl) (by cases neg <;> rfl) (equal_iface ty hd .nilIface (.inl rfl) W)).trans ?_
      cases neg <;> rfl
    · obtain ⟨t, b, v, rfl, -⟩ := h.inv_iface hw
      refine (eq_run W (by cases neg <;> rfl) (by cases neg <;> rfl) (equal_iface ty hd _ (.inr ⟨_, _, rfl⟩) W)).trans ?_
      cases neg <;> rfl
end
end Go.Proofs.YtpjhkpmmbeoghaaGreatDoor.Ev
namespace Go.Proofs.YtpjhkpmmbeoghaaGreatDoor.Ev
open Go
section
variable {P : Program} {call : CallT}
theorem bad_step {n : Nat} {E : Fr} {M nm I ni : Nat} {kf : KF} (h : stepK P call (.bad n) E M nm I ni kf = .ok) : False := by cases (show Res.bad 51 n = Res.ok from h)
theorem go_step {o : Oper} {a : Act} {c : Cf} {kf : KF} (hnd : ∀ c, o.op ≠ .defer c) (hs : StepOk P c kf (execOp a.eval o)) : OpGo P o a c kf := by
  intro F n hF
  obtain ⟨word, v, c', h1, h2, h3, h4, h5, h6⟩ := hs
  refine ⟨fun f _ => hF.1 f, ?_⟩
  rw [Oper.semAt_eq _ _ _ hnd]
  rcases h6 with h6 | ⟨h6, rfl⟩
  · rw [h6]; exact ⟨word, v, c', rfl, rfl, h1, h2, h3, h4, h5⟩
  · rw [h6]; exact ⟨word, undef, c', rfl, rfl, h1, h2, h3, h4, h5⟩
theorem go_call {o : Oper} {a : Act} {c c1 : Cf} {kf : KF} (hnd : ∀ c, o.op ≠ .defer c) {f : Nat} {ws : List Nat} {args : Array Value} (hr : HR c) (hx : Ext c c1) (hw : c1.w = c.w) (hr1 : HR c1) (hI1 : IB c1.I c1.ni) (hsz : args.size = ws.length)
    (hargs : ∀ i (h : i < ws.length) (h' : i < args.size), WR c1.f c1.I c1.ni ws[i] args[i]) (hc : CallSnd P call) (h : call f ws c1.M c1.nm c1.I c1.ni kf = .ok)
    (hrun : (∃ fn : Func, P.funcs[f]? = some fn ∧ fn.body.isSome = true) → (execOp a.eval o).run P c.w = .ok (.enter f args) c.w) : OpGo P o a c kf := by
  intro F n hF
  obtain ⟨hb, hcall⟩ := hc f ws c1 kf args h hr1 hI1 hsz hargs
  refine ⟨fun f _ => hF.1 f, ?_⟩
  rw [Oper.semAt_eq _ _ _ hnd, hrun hb]
  refine ⟨hF.one, CallsIn.mono (hw ▸ hcall F (n - 1) hF) fun e w' hp => ?_⟩
  obtain ⟨word, v, c', rfl, rfl, h1, h2, h3, h4, h5⟩ := hp
  exact ⟨word, v, c', rfl, rfl, h1, h2, h3, hx.trans hr h4, h5⟩
def NoNG (P : Program) : Prop := ∀ (f : Nat) (fn : Func), P.funcs[f]? = some fn → fn.body.isSome = true → (fn.name == "runtime.NumGoroutine") = false
theorem run_callFunc_at {f : Nat} {fn : Func} (h1 : P.funcs[f]? = some fn) (h2 : fn.body.isSome = true) (h3 : (fn.name == "runtime.NumGoroutine") = false) (args : Array Value) (W : World) : (callFunc f args).run P W = .ok (.enter f args) W := by
  have h4 : ¬ fn.body = none := by intro h; rw [h] at h2; cases h2
  have h5 : ¬ fn.name = "runtime.NumGoroutine" := by simpa using h3
  simp [callFunc, h1, h5, h4]
theorem run_callFunc' (hng : NoNG P) {f : Nat} (h : ∃ fn : Func, P.funcs[f]? = some fn ∧ fn.body.isSome = true) (args : Array Value) (W : World) : (callFunc f args).run P W = .ok (.enter f args) W := by
  obtain ⟨fn, h1, h2⟩ := h
  exact run_callFunc_at h1 h2 (hng f fn h1 h2) args W
theorem args_ok {f : Nat → Option FB} {I ni : Nat} {a : Act} {ws : List Nat} {xs : Array Operand} (hl : ws.length = xs.toList.length) (h : ∀ i (h : i < ws.length) (h' : i < xs.toList.length), WR f I ni ws[i] (a.eval xs.toList[i])) :
    (xs.map a.eval).size = ws.length ∧ ∀ i (h : i < ws.length) (h' : i < (xs.map a.eval).size), WR f I ni ws[i] (xs.map a.eval)[i] := by
  refine ⟨by simp [hl], fun i h1 h2 => ?_⟩
  have := h i h1 (by omega)
  simpa using this
theorem wordsOf_ok (I : Nat) : ∀ n b, (wordsOf I b n).length = n ∧ ∀ i (h : i < (wordsOf I b n).length), (wordsOf I b n)[i] = cellAt I (b + i)
  | 0, b => ⟨rfl, fun i h => absurd h (Nat.not_lt_zero i)⟩
  | n + 1, b => by
    obtain ⟨h1, h2⟩ := wordsOf_ok I n (b + 1)
    have e : wordsOf I b (n + 1) = cellAt I b :: wordsOf I (b + 1) n := rfl
    rw [e]
    refine ⟨by simp [h1], fun i h => ?_⟩
    cases i with
    | zero => rfl
    | succ i =>
      simp only [List.getElem_cons_succ]
      rw [h2 i (by simpa using h), show b + 1 + i = b + (i + 1) by omega]
theorem methOf_ok {name : String} {t : TypeId} {f : Nat} (h : methOf P name t = some f) : (∃ fn : Func, P.funcs[f]? = some fn ∧ fn.body.isSome = true ∧ (fn.name == "runtime.NumGoroutine") = false) ∧ ∀ (n : Nat) (v : Value) (W : World), (method (n + 1) t v name).run P W = .ok (f, v) W := by
  unfold methOf at h
  split at h
  case h_2 => cases h
  rename_i e i hu hi
  split at h
  case h_2 => cases h
  rename_i m hm
  split at h
  case h_2 => cases h
  rename_i g hp hf
  split at h
  case h_2 => cases h
  rename_i fn hfn
  split at h
  case isFalse => cases h
  rename_i hc
  cases h
  simp only [Bool.and_eq_true, bne_iff_ne, ne_eq] at hc
  refine ⟨⟨fn, hfn, hc.1, by simpa using hc.2⟩, fun n v W => ?_⟩
  have hm' : i.methods.find? (fun x => x.name == name) = some m := hm
  simp [method, typeInfo, hi, hm', hp, hf, follow, receiverAt, run_underlying hu, Place.get]
theorem callS_ok (hc : CallSnd P call) {o : Oper} {a : Act} {c : Cf} {E : Fr} {kf : KF} {cl : Call} {f : Nat} {fn : Func} (ho : o.op = .call cl) (hcl : cl.callee = .value (.func f)) (hf : P.funcs[f]? = some fn) (hb : fn.body.isSome = true) (hn : (fn.name == "runtime.NumGoroutine") = false)
    (h : callS call f (cl.args.toList.map lowOpd) E c.M c.nm c.I c.ni kf = .ok) (hx : ∀ x ∈ cl.args.toList, OpR c.f c.I c.ni E a x) (hr : HR c) (hI : IB c.I c.ni) : OpGo P o a c kf := by
  obtain ⟨ws, I', n', h1, h2, hl, h3⟩ := opdsK_ok h hx hI
  obtain ⟨q1, q2⟩ := args_ok hl h3
  refine go_call (c1 := { c with I := I', ni := n' }) (fun c hc => by rw [ho] at hc; cases hc) hr (Ext.growI h2.ext) rfl (hr.growI h2.ext h2.lt.1) h2.lt q1 q2 hc h1 fun _ => ?_
  simp [execOp, ho, resolve, hcl, Deferred.ofValue, Act.eval, invoke, run_callFunc_at hf hb hn]
theorem callvS_ok (hng : NoNG P) (hc : CallSnd P call) {o : Oper} {a : Act} {c : Cf} {E : Fr} {kf : KF} {cl : Call} {x : Operand} (ho : o.op = .call cl) (hcl : cl.callee = .value x)
    (h : callvS call (lowOpd x) (cl.args.toList.map lowOpd) E c.M c.nm c.I c.ni kf = .ok) (hx0 : OpR c.f c.I c.ni E a x) (hx : ∀ x ∈ cl.args.toList, OpR c.f c.I c.ni E a x) (hr : HR c) (hI : IB c.I c.ni) : OpGo P o a c kf := by
  obtain ⟨w, I1, n1, h, i1, r1⟩ := opdK_ok h hx0 hI
  obtain ⟨t1, h⟩ := iff_bad h
  obtain ⟨ws, I', n', h1, h2, hl, h3⟩ := opdsK_ok h (fun y hy => (hx y hy).mono (.refl _) i1.ext) i1.lt
  have r1 := r1.mono (.refl _) h2.ext
  obtain ⟨q1, q2⟩ := args_ok hl h3
  obtain ⟨fn, b, n, cs, e1, hn, hn2, hfn, hb, hbi, hv, hw⟩ := r1.inv_func (tg_ok t1)
  have f1 : Nat.mod (Nat.div w 32) 1048576 = fn := by show (w / 32) % 1048576 = _; omega
  have f2 : Nat.mod (Nat.div w 33554432) 16777216 = b := by show (w / 33554432) % 16777216 = _; omega
  have f3 : Nat.div w 562949953421312 = n := by show w / 562949953421312 = _; omega
  rw [f1, f2, f3] at h1
  obtain ⟨g1, g2⟩ := wordsOf_ok I' n b
  have h1 : call fn (ws ++ wordsOf I' b n) c.M c.nm I' n' kf = .ok := h1
  refine go_call (c1 := { c with I := I', ni := n' }) (args := cl.args.map a.eval ++ cs) (fun c hc => by rw [ho] at hc; cases hc) hr (Ext.growI (i1.trans h2).ext) rfl (hr.growI (i1.trans h2).ext h2.lt.1) h2.lt (by simp only [Array.size_append, List.length_append]; omega) (fun i k1 k2 => ?_) hc h1 fun hbody => ?_
  · by_cases hi : i < ws.length
    · rw [List.getElem_append_left hi, Array.getElem_append_left (by omega)]
      exact q2 i hi (by omega)
    · have hi' : i - ws.length < n := by simp only [List.length_append, g1] at k1; omega
      rw [List.getElem_append_right (by omega), g2, Array.getElem_append_right (by omega)]
      have := hv (i - ws.length) (by omega)
      simpa only [q1] using this
  · simp [execOp, ho, resolve, hcl, Deferred.ofValue, e1, invoke, run_callFunc' hng hbody]
theorem invS_ok (hc : CallSnd P call) {o : Oper} {a : Act} {c : Cf} {E : Fr} {kf : KF} {cl : Call} {x : Operand} {name : String} (ho : o.op = .call cl) (hcl : cl.callee = .invoke x name)
    (h : invS P call name (lowOpd x) (cl.args.toList.map lowOpd) E c.M c.nm c.I c.ni kf = .ok) (hx0 : OpR c.f c.I c.ni E a x) (hx : ∀ x ∈ cl.args.toList, OpR c.f c.I c.ni E a x) (hr : HR c) (hI : IB c.I c.ni) : OpGo P o a c kf := by
  obtain ⟨w, I1, n1, h, i1, r1⟩ := opdK_ok h hx0 hI
  obtain ⟨t1, h⟩ := iff_bad h
  obtain ⟨ws, I', n', h1, h2, hl, h3⟩ := opdsK_ok h (fun y hy => (hx y hy).mono (.refl _) i1.ext) i1.lt
  have r1 := r1.mono (.refl _) h2.ext
  obtain ⟨q1, q2⟩ := args_ok hl h3
  obtain ⟨t, b, v, e1, ht, hb, hbi, hv, hw⟩ := r1.inv_iface (tg_ok t1)
  have f1 : Nat.mod (Nat.div w 32) 1048576 = t := by show (w / 32) % 1048576 = _; omega
  have f2 : Nat.div w 33554432 = b := by show w / 33554432 = _; omega
  rw [f1, f2] at h1
  cases hm : methOf P name t with
  | none => rw [hm] at h1; cases h1
  | some f =>
    rw [hm] at h1
    have h1 : call f (cellAt I' b :: ws) c.M c.nm I' n' kf = .ok := h1
    obtain ⟨⟨fn, hfn, hbody, hn⟩, hmeth⟩ := methOf_ok hm
    refine go_call (c1 := { c with I := I', ni := n' }) (args := #[v] ++ cl.args.map a.eval) (fun c hc => by rw [ho] at hc; cases hc) hr (Ext.growI (i1.trans h2).ext) rfl (hr.growI (i1.trans h2).ext h2.lt.1) h2.lt (by simp only [Array.size_append, List.length_cons, List.size_toArray, List.length_nil]; omega) (fun i k1 k2 => ?_) hc h1 fun _ => ?_
    · cases i with
      | zero => simpa using hv
      | succ i =>
        have := q2 i (by simpa using k1) (by simp only [List.length_cons] at k1; omega)
        rw [Array.getElem_append_right (by simp)]
        simpa using this
    · have h5 : ∀ W, (method (P.types.size + Made.depth) t v name).run P W = .ok (f, v) W := fun W => hmeth (P.types.size + 99) v W
      have h7 : (#[Value.iface t v] ++ cl.args.map a.eval)[0]? = some (.iface t v) := by rw [Array.getElem?_append_left (by simp)]; rfl
      have h8 : (Array.map a.eval cl.args).extract 0 cl.args.size = cl.args.map a.eval := by
        apply Array.ext
        · simp
        · intro i q3 q4; simp
      simp [execOp, ho, resolve, hcl, invoke, e1, h7, callMethod, h5, h8, run_callFunc_at hfn hbody hn]
end
end Go.Proofs.YtpjhkpmmbeoghaaGreatDoor.Ev
namespace Go.Proofs.YtpjhkpmmbeoghaaGreatDoor.Ev
open Go
section
variable {P : Program} {f : Nat → Option FB} {I ni : Nat} {E : Fr} {a : Act} {kv : KV}
theorem isI64_ok {t : TypeId} (h : isI64 P t = true) : P.underlying t = some (.int .i64) := by
  unfold isI64 at h
  split at h
  · assumption
  · cases h
theorem i64At_ok {i : Nat} {fd : Field} (h : i64At P i fd = true) : fd.name ≠ "_" ∧ fd.offset = i ∧ P.underlying fd.type = some (.int .i64) := by
  simp only [i64At, Bool.and_eq_true, bne_iff_ne, ne_eq, beq_iff_eq] at h
  exact ⟨h.1.1, h.1.2, isI64_ok h.2⟩
theorem run_eqField1 {fd : Field} {i : Nat} (h : fd.name ≠ "_" ∧ fd.offset = i ∧ P.underlying fd.type = some (.int .i64)) {xs ys : Array Value} {x y : Int} (hx : xs[i]? = some (.int .i64 x)) (hy : ys[i]? = some (.int .i64 y)) (d : Nat) (fs : List Field) (W : World) :
    (Op.eqFields (d + 1) xs ys (fd :: fs)).run P W = if x = y then (Op.eqFields (d + 1) xs ys fs).run P W else .ok false W := by
  obtain ⟨h1, rfl, h3⟩ := h
  have p1 : (part fd.type xs fd.offset).run P W = .ok (.int .i64 x) W := by simp [part, run_isAgg_no h3 rfl, hx]
  have p2 : (part fd.type ys fd.offset).run P W = .ok (.int .i64 y) W := by simp [part, run_isAgg_no h3 rfl, hy]
  simp only [Op.eqFields, h1, ne_eq, not_false_eq_true, if_true, Sem.run_bind, p1, p2, Result.andThen_ok, run_eqInt d h3]
  by_cases hz : x = y <;> simp [hz]
theorem run_equalStruct {t : TypeId} {fields : Array Field} {a b c : Field} (hu : P.underlying t = some (.struct fields)) (hp : P.stoodInHeld t = false) (hl : fields.toList = [a, b, c]) (ha : i64At P 0 a = true) (hb : i64At P 1 b = true) (hc : i64At P 2 c = true)
    {v v' : Value} (k : KV' (.row 3 5) v) (k' : KV' (.row 3 5) v') (W : World) : ∃ r : Bool, (Op.equal t v v').run P W = .ok r W ∧ (r = true ↔ v = v') := by
  obtain ⟨cs, k1, rfl, h1, h2, h3⟩ := k
  obtain ⟨cs', k2, rfl, h1', h2', h3'⟩ := k'
  have e1 : k1 = .i64 := by cases k1 <;> simp [tagI] at h2 <;> rfl
  have e2 : k2 = .i64 := by cases k2 <;> simp [tagI] at h2' <;> rfl
  subst e1; subst e2
  obtain ⟨x0, y0⟩ := h3 0 (by omega)
  obtain ⟨x1, y1⟩ := h3 1 (by omega)
  obtain ⟨x2, y2⟩ := h3 2 (by omega)
  obtain ⟨x0', y0'⟩ := h3' 0 (by omega)
  obtain ⟨x1', y1'⟩ := h3' 1 (by omega)
  obtain ⟨x2', y2'⟩ := h3' 2 (by omega)
  have hfo : P.fieldsOf t = fields := by simp [Program.fieldsOf, hu]
  have hr : (Op.equal t (.agg cs) (.agg cs')).run P W = (Op.eqFields 9999 cs cs' [a, b, c]).run P W := by
    have := run_equalIn_struct W 9999 t cs cs' (by rw [hfo]; exact hu) hp
    rw [hfo, hl] at this
    exact this
  rw [hr, run_eqField1 (i64At_ok ha) (by rw [Array.getElem?_eq_getElem (by omega), y0]) (by rw [Array.getElem?_eq_getElem (by omega), y0']) 9998,
    run_eqField1 (i64At_ok hb) (by rw [Array.getElem?_eq_getElem (by omega), y1]) (by rw [Array.getElem?_eq_getElem (by omega), y1']) 9998,
    run_eqField1 (i64At_ok hc) (by rw [Array.getElem?_eq_getElem (by omega), y2]) (by rw [Array.getElem?_eq_getElem (by omega), y2']) 9998]
  have hv : (Value.agg cs = Value.agg cs') ↔ x0 = x0' ∧ x1 = x1' ∧ x2 = x2' := by
    constructor
    · intro h
      cases h
      rw [y0] at y0'; rw [y1] at y1'; rw [y2] at y2'
      cases y0'; cases y1'; cases y2'
      exact ⟨rfl, rfl, rfl⟩
    · rintro ⟨rfl, rfl, rfl⟩
      have : cs = cs' := by
        apply Array.ext (by omega)
        intro i q1 q2
        have hi : i = 0 ∨ i = 1 ∨ i = 2 := by omega
        rcases hi with rfl | rfl | rfl
        · rw [y0, y0']
        · rw [y1, y1']
        · rw [y2, y2']
      rw [this]
  rw [hv]
  by_cases q0 : x0 = x0' <;> by_cases q1 : x1 = x1' <;> by_cases q2 : x2 = x2' <;> simp [q0, q1, q2, Op.eqFields]
theorem flatK_ok {t : TypeId} {q : KK} (h : flatK P t = some q) : P.eqGuardType P.depth t = false ∧ (∃ n tt k, q = .row n tt ∧ tt = tagI k) ∧ ∀ {v v' : Value}, KV' q v → KV' q v' → ∀ W, ∃ r : Bool, (Op.equal t v v').run P W = .ok r W ∧ (r = true ↔ v = v') := by
  unfold flatK at h
  split at h
  · cases h
  rename_i hg
  refine ⟨by simpa using hg, ?_⟩
  split at h
  · rename_i n e hu
    split at h
    · rename_i k he hs
      cases h
      unfold szOf at hs
      simp only [Option.map_eq_some_iff] at hs
      obtain ⟨ie, hie, hsz⟩ := hs
      exact ⟨⟨n, _, k, rfl, rfl⟩, fun k1 k2 W => run_equalRow ⟨e, k, ie, hu, he, rfl, hie, hsz⟩ k1 k2 W⟩
    · cases h
  · rename_i fields hu
    split at h
    · cases h
    rename_i hp
    split at h
    · rename_i a b c hl
      split at h
      · rename_i hh
        cases h
        simp only [Bool.and_eq_true] at hh
        exact ⟨⟨3, 5, .i64, rfl, rfl⟩, fun k1 k2 W => run_equalStruct hu (by simpa using hp) hl hh.1.1 hh.1.2 hh.2 k1 k2 W⟩
      · cases h
    · cases h
  · cases h
theorem keyTag_row {n t : Nat} {k0 : IntKind} (ht : t = tagI k0) {w : Nat} {v : Value} {k : Res} (hv : WR f I ni w v) (h : keyTag (.row n t) I w k = .ok) : k = .ok ∧ KV' (.row n t) v := by
  obtain ⟨h1, h⟩ := iff_bad h
  obtain ⟨h2, h⟩ := iff_bad h
  obtain ⟨h0, h3⟩ := tagsK_ok h
  obtain ⟨b, m, cs, e1, hn, hone, hn2, hb, hi, hr, hw⟩ := hv.inv_agg (tg_ok h1)
  obtain ⟨g1, g2⟩ := gW hw (by omega) hb
  subst ht
  have h2 := Nat.eq_of_beq_eq_true h2
  rw [g2] at h2
  rw [g1] at h3
  refine ⟨h0, cs, k0, e1, by omega, rfl, fun i hi => ?_⟩
  obtain ⟨z, p, e2, -, -⟩ := (hr i hi).inv_int k0 (h3 i (by omega))
  exact ⟨z, e2⟩
theorem keyEq_row {n t : Nat} {w w' : Nat} {v v' : Value} (hv : WR f I ni w v) (hv' : WR f I ni w' v') (k : KV' (.row n t) v) (k' : KV' (.row n t) v') : keyEq (.row n t) I w w' = true ↔ v = v' := by
  obtain ⟨cs, k, rfl, hs, ht, hc⟩ := k
  obtain ⟨cs', k2, rfl, hs', ht', hc'⟩ := k'
  have := tagI_inj (ht.symm.trans ht')
  subst this
  cases hv with
  | agg b m _ hn hone hn2 hb hi hr =>
    cases hv' with
    | agg b' m' _ hn' hone' hn2' hb' hi' hr' =>
      obtain ⟨g1, g2⟩ := gW (w := 18 + 32 * (b + 16777216 * m)) rfl (by omega) hb
      obtain ⟨g3, g4⟩ := gW (w := 18 + 32 * (b' + 16777216 * m')) rfl (by omega) hb'
      show Nat.beq (rowAt I (gB _) n) (rowAt I (gB _) n) = true ↔ _
      rw [g1, g3, nbeq, decide_eq_true_eq]
      constructor
      · intro e
        have : cs = cs' := by
          apply Array.ext (by omega)
          intro i h1 h2
          have e2 := congrArg (cellAt · i) e
          simp only [cell_row (show i < n by omega)] at e2
          obtain ⟨z, e3⟩ := hc i h1
          obtain ⟨z', e4⟩ := hc' i h2
          have r1 := hr i h1
          have r2 := hr' i h2
          rw [e3] at r1
          rw [e4] at r2
          rw [e3, e4, (int_cmp r1 r2).1.1 e2]
        rw [this]
      · intro e
        cases e
        refine row_ext (row_lt _ _ _) (row_lt _ _ _) fun i hi => ?_
        rw [cell_row hi, cell_row hi]
        obtain ⟨z, e3⟩ := hc i (by omega)
        have r1 := hr i (by omega)
        have r2 := hr' i (by omega)
        rw [e3] at r1 r2
        exact (int_cmp r1 r2).1.2 rfl
theorem aeqK_ok {neg : Bool} {x y : Operand} {ty : TypeId} {q : KK} (hq : flatK P ty = some q) (h : aeqK q neg (lowOpd x) (lowOpd y) E I ni kv = .ok) (hx : OpR f I ni E a x) (hy : OpR f I ni E a y) (hI : IB I ni) :
    PureOk P f I ni kv (do let v ← (do eqGuard (if neg then .neq else .eql) ty x y (a.eval x) (a.eval y); binOp (if neg then .neq else .eql) ty (a.eval x) (a.eval y)); pure (.value v)) := by
  obtain ⟨hg, ⟨n, tt, kk, rfl, ht⟩, heq⟩ := flatK_ok hq
  obtain ⟨wx, wy, I', n', h1, h2, h3, h4⟩ := op2_ok h hx hy hI
  obtain ⟨h1, k1⟩ := keyTag_row ht h3 h1
  obtain ⟨h1, k2⟩ := keyTag_row ht h4 h1
  have hke := keyEq_row h3 h4 k1 k2
  have e0 : (@Bool.rec (fun _ => Bool) (keyEq (.row n tt) I' wx wy) (not (keyEq (.row n tt) I' wx wy)) neg) = (if neg then !(keyEq (.row n tt) I' wx wy) else keyEq (.row n tt) I' wx wy) := by cases neg <;> rfl
  rw [e0] at h1
  obtain ⟨w', h8, h9⟩ := boolK_ok (f := f) h1
  refine ⟨w', I', n', _, h8, h2, h9, fun W => ?_⟩
  obtain ⟨r, hr, hiff⟩ := heq k1 k2 W
  have hrk : r = keyEq (.row n tt) I' wx wy := by
    cases hb : keyEq (.row n tt) I' wx wy with
    | true => exact hiff.2 (hke.1 hb)
    | false =>
      cases r with
      | false => rfl
      | true => rw [hke.2 (hiff.1 rfl)] at hb; cases hb
  obtain ⟨cs, -, e1, -⟩ := k1
  obtain ⟨cs', -, e2, -⟩ := k2
  rw [e1, e2] at hr ⊢
  have := eq_run (P := P) (neg := neg) (x := x) (y := y) W (run_eqGuard_agg W _ ty x y cs cs' hg) (by cases neg <;> rfl) hr
  rw [Sem.run_bind, this, hrk]
  rfl
theorem beVal_cut (l m r : List UInt8) : beVal (l ++ m ++ r) / 256 ^ r.length % 256 ^ m.length = beVal m := by
  rw [beVal_append, beVal_append, Nat.mul_comm, Nat.mul_add_div (Nat.pow_pos (by decide)), Nat.div_eq_of_lt (beVal_lt' r), Nat.add_zero, Nat.mul_comm, Nat.mul_add_mod, Nat.mod_eq_of_lt (beVal_lt' m)]
theorem beVal_sub (s : List UInt8) {l h : Nat} (h1 : l ≤ h) (h2 : h ≤ s.length) : beVal s / 256 ^ (s.length - h) % 256 ^ (h - l) = beVal ((s.drop l).take (h - l)) := by
  have e : s = s.take l ++ (s.drop l).take (h - l) ++ s.drop h := by
    have e1 : s.drop h = (s.drop l).drop (h - l) := by rw [List.drop_drop]; congr 1; omega
    rw [e1, List.append_assoc, List.take_append_drop, List.take_append_drop]
  have l1 : (s.drop h).length = s.length - h := by simp
  have l2 : ((s.drop l).take (h - l)).length = h - l := by simp; omega
  have := beVal_cut (s.take l) ((s.drop l).take (h - l)) (s.drop h)
  rw [l1, l2, ← e] at this
  exact this
theorem bnds_ok {n hh l : Nat} {lo hi : Option Operand} (rh : (hi = none ∧ hh = n) ∨ ∃ y k, hi = some y ∧ a.eval y = .int k (hh : Int)) (rl : (lo = none ∧ l = 0) ∨ ∃ y k, lo = some y ∧ a.eval y = .int k (l : Int)) (b1 : l ≤ hh) (b2 : hh ≤ n) (W : World) :
    (Instr.sliceBounds false n n (lo.map a.eval) (hi.map a.eval) none).run P W = .ok (l, hh, n) W := by
  have x1 : l ≤ n := by omega
  rcases rh with ⟨rfl, rfl⟩ | ⟨y2, k2, rfl, eh⟩ <;> rcases rl with ⟨rfl, rfl⟩ | ⟨y3, k3, rfl, el⟩ <;> simp [Instr.sliceBounds, *, run_bound]
theorem slcTK_ok {x : Operand} {lo hi : Option Operand} {t : TypeId} (ht : P.underlying t = some .string) (h : slcTK (lowOpd x) (lo.map lowOpd) (hi.map lowOpd) E I ni kv = .ok) (hx : OpR f I ni E a x) (hlo : ∀ y, lo = some y → OpR f I ni E a y) (hhi : ∀ y, hi = some y → OpR f I ni E a y) (hI : IB I ni) :
    PureOk P f I ni kv (do let v ← Instr.sliceAt t (a.eval x) (lo.map a.eval) (hi.map a.eval) none; pure (.value v)) := by
  obtain ⟨w, I1, n1, h, i1, r1⟩ := opdK_ok h hx hI
  obtain ⟨h5, h⟩ := iff_bad h
  obtain ⟨hh, I3, n3, h, i3, rh⟩ := bndK_ok (f := f) (a := a) h (fun y hy => (hhi y hy).mono (.refl _) i1.ext) i1.lt
  obtain ⟨l, I4, n4, h, i4, rl⟩ := bndK_ok (f := f) (a := a) h (fun y hy => (hlo y hy).mono (.refl _) (i1.trans i3).ext) i3.lt
  obtain ⟨b1, h⟩ := iff_bad h
  obtain ⟨b2, h⟩ := iff_bad h
  obtain ⟨b3, h⟩ := iff_bad h
  have b1 : l ≤ hh := Nat.le_of_ble_eq_true b1
  have b2 : hh ≤ tN w := Nat.le_of_ble_eq_true b2
  have b3 := blt_iff.1 b3
  obtain ⟨q, m, s, e1, hn, hn2, hq, hs, hi', hw⟩ := (r1.mono (.refl _) (i3.trans i4).ext).inv_str (tg_ok h5)
  obtain ⟨t1, t2⟩ := tW hw hq
  rw [t2] at b2
  rw [t1, t2] at h b3
  have b3 : q + (m - hh) < 268435456 := b3
  rw [t2] at rh
  have hsz : s.size = m := by rw [← hn]; simp
  have hbd : ∀ W, (Instr.sliceBounds false s.size s.size (lo.map a.eval) (hi.map a.eval) none).run P W = .ok (l, hh, s.size) W := fun W => by
    rw [← hsz] at rh
    exact bnds_ok rh rl b1 (by omega) W
  have hext : (s.extract l hh).data.toList = (s.data.toList.drop l).take (hh - l) := by
    simp [ByteArray.data_extract, Array.toList_extract, List.extract_eq_take_drop]
  have hlen : ((s.data.toList.drop l).take (hh - l)).length = hh - l := by simp; omega
  refine ⟨_, I4, n4, .string (s.extract l hh), h, (i1.trans i3).trans i4, ?_, fun W => ?_⟩
  · show WR f I4 n4 (12 + 32 * (q + (m - hh) + 268435456 * (hh - l))) _
    refine .str (q + (m - hh)) (hh - l) _ (by rw [hext, hlen]) (by omega) b3 ?_ (by rcases hi' with h0 | h0 <;> omega)
    rw [hext, ← beVal_sub s.data.toList b1 (by omega), hn, ← hs, strAt_def, strAt_def]
    apply Nat.eq_of_testBit_eq
    intro j
    rw [Nat.testBit_mod_two_pow, Nat.testBit_shiftRight, show (256 : Nat) = 2 ^ 8 from rfl, ← Nat.pow_mul, ← Nat.pow_mul, ← Nat.shiftRight_eq_div_pow, Nat.testBit_mod_two_pow, Nat.testBit_shiftRight, Nat.testBit_mod_two_pow, Nat.testBit_shiftRight]
    by_cases hj : j < 8 * (hh - l)
    · have h2 : 8 * (m - hh) + j < 8 * m := by omega
      have h3 : 8 * (q + (m - hh)) + j = 8 * q + (8 * (m - hh) + j) := by omega
      simp [hj, h2, h3]
    · simp [hj]
  · rw [e1]
    simp only [Instr.sliceAt, Instr.slice, Sem.run_bind, run_underlying ht, Result.andThen_ok, Option.isSome_none, Bool.false_eq_true, if_false, hbd, Sem.run_pure]
end
end Go.Proofs.YtpjhkpmmbeoghaaGreatDoor.Ev
namespace Go.Proofs.YtpjhkpmmbeoghaaGreatDoor.Ev
open Go
section
variable {f : Nat → Option FB} {I ni : Nat} {E : Fr} {a : Act} {P : Program} {kv : KV}
theorem catTK_ok {x y : Operand} (t : TypeId) (h : catTK (lowOpd x) (lowOpd y) E I ni kv = .ok) (hx : OpR f I ni E a x) (hy : OpR f I ni E a y) (hI : IB I ni) :
    PureOk P f I ni kv (do let v ← binOp .add t (a.eval x) (a.eval y); pure (.value v)) := by
  obtain ⟨wx, wy, I', n', h1, h2, h3, h4⟩ := op2_ok h hx hy hI
  obtain ⟨h5, h1⟩ := iff_bad h1
  obtain ⟨h6, h1⟩ := iff_bad h1
  obtain ⟨q, n, s, e1, l1, l2, l3, v1, l4, hw1⟩ := h3.inv_str (tg_ok h5)
  obtain ⟨q', m, s', e2, l1', l2', l3', v2, l4', hw2⟩ := h4.inv_str (tg_ok h6)
  obtain ⟨a1, a2⟩ := tW hw1 l3
  obtain ⟨a3, a4⟩ := tW hw2 l3'
  obtain ⟨h7, h1⟩ := iff_bad h1
  rw [a2, a4] at h7
  have h7 : n + m < 1048576 := blt_iff.1 h7
  rw [a1, a2, a3, a4, v1, v2] at h1
  have hd : (s ++ s').data.toList = s.data.toList ++ s'.data.toList := by simp [ByteArray.data_append]
  obtain ⟨w', I2, n2, h8, h9, h10⟩ := newStr_ok (f := f) (s := s ++ s') h1 (by rw [hd, List.length_append, l1, l1']; rfl) (by
    rw [hd, beVal_append, l1']
    show _ * 2 ^ (8 * m) + _ = _
    rw [Nat.pow_mul]) h7 h2.lt
  have z1 : s.size = n := by rw [← l1]; simp
  have z2 : s'.size = m := by rw [← l1']; simp
  refine ⟨w', I2, n2, .string (s ++ s'), h8, h2.trans h9, h10, fun W => ?_⟩
  have hrun := run_string_add_sum (P := P) (w := W) s s' (by omega)
  rw [e1, e2]
  simp only [binOp, Sem.run_bind, hrun, Result.andThen_ok, Sem.run_pure]
end
end Go.Proofs.YtpjhkpmmbeoghaaGreatDoor.Ev
namespace Go.Proofs.YtpjhkpmmbeoghaaGreatDoor.Ev
open Go
section
variable {P : Program} {call : CallT}
theorem bin_eql {f : Nat → Option FB} {I ni : Nat} {E : Fr} {a : Act} {kv : KV} {t : Nat} {neg : Bool} {ty : TypeId} {x y : Operand} {k : IntKind} (ht : t = tagI k) (h : ieqK t neg (lowOpd x) (lowOpd y) E I ni kv = .ok) (hx : OpR f I ni E a x) (hy : OpR f I ni E a y) (hI : IB I ni) :
    PureOk P f I ni kv (do let v ← (do eqGuard (if neg then .neq else .eql) ty x y (a.eval x) (a.eval y); binOp (if neg then .neq else .eql) ty (a.eval x) (a.eval y)); pure (.value v)) := by
  subst ht
  have := tagI_lt k
  exact binGuard (ieqK_guard (by omega) h hx hy hI) (ieqK_int ty h hx hy hI)
theorem lowBin_pure {op : BinOp} {t yt : TypeId} {x y : Operand} {c : Cf} {E : Fr} {a : Act} {kf : KF} (h : stepK P call (lowBin P op t x y yt) E c.M c.nm c.I c.ni kf = .ok) (hx : OpR c.f c.I c.ni E a x) (hy : OpR c.f c.I c.ni E a y) (hI : IB c.I c.ni) :
    PureOk P c.f c.I c.ni (fun w I ni => kf w c.M c.nm I ni) (do let v ← (do eqGuard op t x y (a.eval x) (a.eval y); binOp op t (a.eval x) (a.eval y)); pure (.value v)) := by
  unfold lowBin at h
  have opg : ∀ {k : Fr → Nat → Nat → KV → Res}, op ≠ .eql → op ≠ .neq → (k E c.I c.ni (fun w I ni => kf w c.M c.nm I ni) = .ok → PureOk P c.f c.I c.ni (fun w I ni => kf w c.M c.nm I ni) (do let v ← binOp op t (a.eval x) (a.eval y); pure (.value v))) → k E c.I c.ni (fun w I ni => kf w c.M c.nm I ni) = .ok →
      PureOk P c.f c.I c.ni (fun w I ni => kf w c.M c.nm I ni) (do let v ← (do eqGuard op t x y (a.eval x) (a.eval y); binOp op t (a.eval x) (a.eval y)); pure (.value v)) := fun h1 h2 h3 h4 =>
    binGuard (guard_op h1 h2 t x y _ _) (h3 h4)
  cases hu : P.underlying t with
  | none => simp only [hu] at h; exact (bad_step h).elim
  | some d =>
    simp only [hu] at h
    cases d
    case int k =>
      cases op
      case add => cases k <;> first | exact opg (k := iopK .add _ _ _) (by decide) (by decide) (fun h => iopK_ok h hx hy hI) h | exact opg (k := fun E I ni kv => op2 (lowOpd x) (lowOpd y) E I ni fun wx wy I ni => add64 wx wy I ni kv) (by decide) (by decide) (fun h => addS_ok h hx hy hI) h
      case sub => cases k <;> first | exact opg (k := iopK .sub _ _ _) (by decide) (by decide) (fun h => iopK_ok h hx hy hI) h | exact opg (k := fun E I ni kv => op2 (lowOpd x) (lowOpd y) E I ni fun wx wy I ni => sub64 wx wy I ni kv) (by decide) (by decide) (fun h => subS_ok h hx hy hI) h
      case eql => exact bin_eql (neg := false) rfl h hx hy hI
      case neq => exact bin_eql (neg := true) rfl h hx hy hI
      case lss => exact opg (k := iltK (tagI k) false (lowOpd x) (lowOpd y)) (by decide) (by decide) (fun h => iltK_int (sw := false) rfl t h hx hy hI) h
      case gtr => exact opg (k := iltK (tagI k) false (lowOpd y) (lowOpd x)) (by decide) (by decide) (fun h => iltK_int (sw := true) rfl t h hx hy hI) h
      case leq => exact opg (k := iltK (tagI k) true (lowOpd y) (lowOpd x)) (by decide) (by decide) (fun h => iltK_int (sw := true) rfl t h hx hy hI) h
      case geq => exact opg (k := iltK (tagI k) true (lowOpd x) (lowOpd y)) (by decide) (by decide) (fun h => iltK_int (sw := false) rfl t h hx hy hI) h
      case shl =>
        simp only at h
        split at h
        · exact opg (k := shfK .shl _ _ _ _) (by decide) (by decide) (fun h => shfK_ok h hx hy hI) h
        · exact (bad_step h).elim
      case shr =>
        simp only at h
        split at h
        · exact opg (k := shfK .shr _ _ _ _) (by decide) (by decide) (fun h => shfK_ok h hx hy hI) h
        · exact (bad_step h).elim
      all_goals exact opg (k := iopK _ k _ _) (by decide) (by decide) (fun h => iopK_ok h hx hy hI) h
    case bool =>
      cases op
      case eql => exact binGuard (ieqK_guard (neg := false) (by decide) h hx hy hI) (ieqK_bool (neg := false) hu h hx hy hI)
      case neq => exact binGuard (ieqK_guard (neg := true) (by decide) h hx hy hI) (ieqK_bool (neg := true) hu h hx hy hI)
      all_goals exact (bad_step h).elim
    case string =>
      cases op
      case eql => exact binGuard (seqK_guard (neg := false) h hx hy hI) (seqK_ok (neg := false) t h hx hy hI)
      case neq => exact binGuard (seqK_guard (neg := true) h hx hy hI) (seqK_ok (neg := true) t h hx hy hI)
      case add => exact opg (k := catTK (lowOpd x) (lowOpd y)) (by decide) (by decide) (fun h => catTK_ok t h hx hy hI) h
      all_goals exact (bad_step h).elim
    all_goals
      simp only at h
      split at h
      · rename_i z tt hn
        obtain ⟨n1, n2⟩ := nil_run (a := a) (x := x) (neg := false) hu hn
        exact nilqK_ok (neg := false) h hx hI n1 n2
      · rename_i z tt hn
        obtain ⟨n1, n2⟩ := nil_run (a := a) (x := x) (neg := true) hu hn
        exact nilqK_ok (neg := true) h hx hI n1 n2
      · first
        | exact (bad_step h).elim
        | (split at h
           · rename_i hs
             unfold szOf at hs
             simp only [Option.map_eq_some_iff] at hs
             obtain ⟨ie, hie, hsz⟩ := hs
             exact peqK_ok (neg := false) hu hie (by omega) h hx hy hI
           · exact (bad_step h).elim)
        | (split at h
           · rename_i q hq
             exact aeqK_ok (neg := false) hq h hx hy hI
           · exact (bad_step h).elim)
      · first
        | exact (bad_step h).elim
        | (split at h
           · rename_i hs
             unfold szOf at hs
             simp only [Option.map_eq_some_iff] at hs
             obtain ⟨ie, hie, hsz⟩ := hs
             exact peqK_ok (neg := true) hu hie (by omega) h hx hy hI
           · exact (bad_step h).elim)
        | (split at h
           · rename_i q hq
             exact aeqK_ok (neg := true) hq h hx hy hI
           · exact (bad_step h).elim)
      · exact (bad_step h).elim
theorem lowBin_ok {op : BinOp} {t yt : TypeId} {x y : Operand} {c : Cf} {E : Fr} {a : Act} {kf : KF} (h : stepK P call (lowBin P op t x y yt) E c.M c.nm c.I c.ni kf = .ok) (hx : OpR c.f c.I c.ni E a x) (hy : OpR c.f c.I c.ni E a y) (hr : HR c) (hI : IB c.I c.ni) :
    StepOk P c kf (do let v ← (do eqGuard op t x y (a.eval x) (a.eval y); binOp op t (a.eval x) (a.eval y)); pure (.value v)) := PureOk.step hr (lowBin_pure h hx hy hI)
end
end Go.Proofs.YtpjhkpmmbeoghaaGreatDoor.Ev
namespace Go.Proofs.YtpjhkpmmbeoghaaGreatDoor.Ev
open Go Go.MapKept
section
variable {E : Fr} {a : Act} {P : Program}
theorem lenMK_ok {c : Cf} {kv : KV} {x : Operand} {t ty kt et : TypeId} (hr : HR c) (ht : P.underlying t = some (.map kt et)) (h : lenMK (lowOpd x) E c.M c.I c.ni kv = .ok) (hx : OpR c.f c.I c.ni E a x) (hI : IB c.I c.ni) :
    ReadOk P c kv (do let v ← Builtin.len_ #[t] ty #[a.eval x]; pure (.value v)) := by
  obtain ⟨w, I', n', h1, h2, h3⟩ := opdK_ok h hx hI
  obtain ⟨h5, h1⟩ := iff_bad h1
  have hr1 := hr.growI h2.ext h2.lt.1
  have key : ∀ n : Nat, n < 16777216 → WR c.f I' n' (Nat.add 295147905179352825861 (Nat.mul 32 n)) (.int .i64 (n : Nat)) := fun n hn => by
    have := WR.int (f := c.f) (I := I') (ni := n') .i64 (n : Nat) (9223372036854775808 + n) (by simp [bias]; omega) (by omega)
    have e3 : tagI .i64 + 32 * (9223372036854775808 + n) = Nat.add 295147905179352825861 (Nat.mul 32 n) := by
      show _ = 295147905179352825861 + 32 * n
      simp only [tagI]; omega
    rw [e3] at this
    exact this
  rcases iff_ok h1 with ⟨h6, h1⟩ | ⟨h6, h1⟩
  · have hw : w = 13 := Nat.eq_of_beq_eq_true h6
    have e1 : a.eval x = .map none := by
      rcases h3.inv_map (tg_ok h5) with ⟨-, e1⟩ | ⟨b, F, hb, hb2, hf, e, e1⟩
      · exact e1
      · omega
    refine ⟨_, I', n', _, h1, h2, key 0 (by omega), ?_⟩
    rw [e1]
    simp [Builtin.len_, run_underlying ht, goInt]
  · have hw : w ≠ 13 := fun e => by rw [e, Nat.beq_refl] at h6; cases h6
    obtain ⟨b, F, es, clock, b', -, hf, hk3, e1, hheap, hb1, hb2, h1, hwr⟩ := mapIn_ok (c := { c with I := I', ni := n' }) hr1 h3 h5 hw h1
    refine ⟨_, I', n', _, h1, h2, key es.size (by have := h2.lt.2; simp only at hb2; omega), ?_⟩
    rw [e1]
    simp [Builtin.len_, run_underlying ht, goInt, run_getObj_mapE hheap]
end
end Go.Proofs.YtpjhkpmmbeoghaaGreatDoor.Ev
namespace Go.Proofs.YtpjhkpmmbeoghaaGreatDoor.Ev
open Go
section
variable {P : Program} {call : CallT}
theorem szOf_ok {t : TypeId} {n : Nat} (h : szOf P t = some n) : ∃ ie, P.info? t = some ie ∧ ie.size = n := by
  unfold szOf at h
  simpa only [Option.map_eq_some_iff] using h
theorem keyKind_ok {t : TypeId} {q : KK} (h : keyKind P t = some q) : KType P t q := by
  unfold keyKind at h
  split at h
  · rename_i k hk; cases h; exact .inr ⟨k, hk, rfl⟩
  · rename_i hk; cases h; exact .inl ⟨hk, rfl⟩
  · rename_i hk; cases h; exact hk
  · rename_i n e hk
    split at h
    · rename_i k hk2 hs
      cases h
      obtain ⟨ie, h1, h2⟩ := szOf_ok hs
      exact ⟨e, k, ie, hk, hk2, rfl, h1, h2⟩
    · cases h
  · cases h
theorem opr2 {Q : Operand → Prop} {x y : Operand} (h : ∀ z ∈ (#[x, y] : Array Operand), Q z) : Q x ∧ Q y := ⟨h x (by simp), h y (by simp)⟩
theorem opr3 {Q : Operand → Prop} {x y u : Operand} (h : ∀ z ∈ (#[x, y, u] : Array Operand), Q z) : Q x ∧ Q y ∧ Q u := ⟨h x (by simp), h y (by simp), h u (by simp)⟩
theorem opr1 {Q : Operand → Prop} {x : Operand} (h : ∀ z ∈ (#[x] : Array Operand), Q z) : Q x := h x (by simp)
theorem builtin_ok {o : Oper} {cl : Call} {b : Builtin} {c : Cf} {E : Fr} {a : Act} {kf : KF} (ho : o.op = .call cl) (hcl : cl.callee = .builtin b) (h : stepK P call (lowCall P o cl) E c.M c.nm c.I c.ni kf = .ok) (hx : ∀ x ∈ cl.args.toList, OpR c.f c.I c.ni E a x) (hr : HR c) (hI : IB c.I c.ni) :
    StepOk P c kf (execOp a.eval o) := by
  obtain ⟨callee, args, ats⟩ := cl
  simp only at hcl hx
  subst hcl
  obtain ⟨args⟩ := args
  obtain ⟨ats⟩ := ats
  have hm : Array.map a.eval (Array.mk args) = Array.mk (args.map a.eval) := List.map_toArray ..
  obtain ⟨cn, hex⟩ : ∃ cn, execOp a.eval o = builtin b ⟨ats⟩ o.type cn ⟨args.map a.eval⟩ := by
    rw [← hm]
    simp only [execOp, ho, resolve, invoke]
    exact ⟨_, rfl⟩
  rw [hex]
  unfold lowCall at h
  simp only at h hx
  split at h
  · rename_i x t
    have hx0 := hx x (by simp)
    split at h
    · rename_i e ht; exact PureOk.step hr (lenSK_ok (P := P) ht h hx0 hI)
    · rename_i ht; exact PureOk.step hr (lenTK_ok (P := P) ht h hx0 hI)
    · rename_i ht; exact ReadOk.step hr (lenMK_ok (P := P) hr ht h hx0 hI)
    · exact (bad_step h).elim
  · rename_i x y t u
    have hx0 := hx x (by simp)
    have hy0 := hx y (by simp)
    split at h
    · rename_i htu
      subst htu
      split at h
      · rename_i e ht
        split at h
        · rename_i ie s r hie hz
          split at h
          · rename_i hcond
            obtain ⟨k1, k2, k3, k4⟩ := hcond
            exact appK_ok (P := P) hr ht hie hz k1 k2 k3 k4 h hx0 hy0 hI
          · exact (bad_step h).elim
        · exact (bad_step h).elim
      · exact (bad_step h).elim
    · split at h
      · rename_i e ht hu
        split at h
        · rename_i ie hie
          split at h
          · rename_i hz
            split at h
            · rename_i hcond
              exact appTK_ok (P := P) hr ht hu hie hz hcond.1 hcond.2 h hx0 hy0 hI
            · exact (bad_step h).elim
          · exact (bad_step h).elim
        · exact (bad_step h).elim
      · exact (bad_step h).elim
  · rename_i x y t u
    have hx0 := hx x (by simp)
    have hy0 := hx y (by simp)
    split at h
    · rename_i e e' ht hu
      split at h
      · rename_i n hs
        obtain ⟨ie, hie, rfl⟩ := szOf_ok hs
        split at h
        · exact (bad_step h).elim
        · exact copyK_ok (P := P) hr ht hie h hx0 hy0 hI
      · exact (bad_step h).elim
    · exact (bad_step h).elim
  · rename_i x t
    have hx0 := hx x (by simp)
    split at h
    · rename_i e ht
      split at h
      · rename_i s r hz
        split at h
        · exact (bad_step h).elim
        · exact clearK_ok (P := P) hr ht hz (by omega) h hx0 hI
      · exact (bad_step h).elim
    · exact (bad_step h).elim
  · rename_i ts x y
    have hx0 := hx x (by simp)
    have hy0 := hx y (by simp)
    split at h
    · rename_i k ht
      exact PureOk.step hr (minK_ok (P := P) (mx := false) (ts := ⟨ats⟩) (t := o.type) h hx0 hy0 hI)
    · exact (bad_step h).elim
  · rename_i ts x y
    have hx0 := hx x (by simp)
    have hy0 := hx y (by simp)
    split at h
    · rename_i k ht
      exact PureOk.step hr (minK_ok (P := P) (mx := true) (ts := ⟨ats⟩) (t := o.type) h hx0 hy0 hI)
    · exact (bad_step h).elim
  · exact (bad_step h).elim
end
end Go.Proofs.YtpjhkpmmbeoghaaGreatDoor.Ev
namespace Go.Proofs.YtpjhkpmmbeoghaaGreatDoor.Ev
open Go
section
variable {P : Program} {call : CallT}
theorem parts_map (ps : Array (Nat × Operand)) (ρ : Operand → Value) : ps.map (fun (i, x) => (i, ρ x)) = (ps.toList.map fun p => (p.1, ρ p.2)).toArray := by
  apply Array.ext'
  simp
theorem op_ok (hng : NoNG P) (hc : CallSnd P call) : OpSnd P call := by
  intro o a c E kf h hx hr hI
  obtain ⟨dst, op, ty, pos, after, guard⟩ := o
  unfold lowOp at h
  cases op
  case move x => exact go_step (by simp) (PureOk.step hr (movK_ok (P := P) h (opr1 hx) hI))
  case assign x => exact go_step (by simp) (PureOk.step hr (movK_ok (P := P) h (opr1 hx) hI))
  case pick x y z => exact go_step (by simp) (PureOk.step hr (pickK_ok (P := P) h (opr3 hx).1 (opr3 hx).2.1 (opr3 hx).2.2 hI))
  case alloc t =>
    simp only at h
    split at h
    · rename_i n r hz; exact go_step (by simp) (allocVar_ok (P := P) hr hz h hI)
    · exact (bad_step h).elim
  case box t x =>
    simp only at h
    split at h
    · exact go_step (by simp) (boxK_ok (P := P) hr h (opr1 hx) hI)
    · exact (bad_step h).elim
  case build t ps =>
    simp only at h
    split at h
    · rename_i n r pl hz hp
      split at h
      · rename_i l hl
        refine go_step (by simp) ?_
        have := PureOk.step hr (buildK_ok (P := P) (a := a) (f := c.f) hz hp hl h (fun p hp => hx p.2 (by simp [Op.operands]; exact ⟨p.1, by simpa using hp⟩)) hI)
        rw [← parts_map] at this
        exact this
      · exact (bad_step h).elim
    · exact (bad_step h).elim
  case buildSlice t len ps =>
    simp only at h
    split at h
    · rename_i e ht
      split at h
      · rename_i ie s r hie hz
        split at h
        · rename_i hcond
          obtain ⟨k1, k2, k3, k4⟩ := hcond
          split at h
          · rename_i l hl
            refine go_step (by simp) ?_
            have := bldSK_ok (P := P) (a := a) hr ht hie hz k1 k2 k3 k4 hl h (fun p hp => hx p.2 (by simp [Op.operands]; exact ⟨p.1, by simpa using hp⟩)) hI
            rw [← parts_map] at this
            exact this
          · exact (bad_step h).elim
        · exact (bad_step h).elim
      · exact (bad_step h).elim
    · exact (bad_step h).elim
  case load t x =>
    simp only at h
    split at h
    · rename_i d hd
      split at h
      · rename_i hagg
        split at h
        · rename_i n hs
          obtain ⟨ie, hie, rfl⟩ := szOf_ok hs
          exact go_step (by simp) (ReadOk.step hr (loadNK_ok (P := P) hr hd hagg hie h (opr1 hx) hI))
        · exact (bad_step h).elim
      · rename_i hagg
        exact go_step (by simp) (ReadOk.step hr (load1K_ok (P := P) hr hd (by simpa using hagg) h (opr1 hx) hI))
    · exact (bad_step h).elim
  case store t x v =>
    simp only at h
    split at h
    · rename_i n hs
      obtain ⟨ie, hie, rfl⟩ := szOf_ok hs
      exact go_step (by simp) (storeK_ok (P := P) hr hie h (opr2 hx).1 (opr2 hx).2 hI)
    · exact (bad_step h).elim
  case nilCheck x => exact go_step (by simp) (PureOk.step hr (nilcK_ok (P := P) h (opr1 hx) hI _ rfl))
  case binOp op t x y yt => exact go_step (by simp) (lowBin_ok h (opr2 hx).1 (opr2 hx).2 hr hI)
  case unOp op t x =>
    simp only at h
    split at h
    · exact go_step (by simp) (PureOk.step hr (notK_ok (P := P) h (opr1 hx) hI))
    · split at h
      · exact go_step (by simp) (PureOk.step hr (negK_ok (P := P) h (opr1 hx) hI))
      · exact (bad_step h).elim
    · exact (bad_step h).elim
  case convert s d x =>
    simp only at h
    split at h
    · rename_i ks k hs hd
      exact go_step (by simp) (PureOk.step hr (convK_ok (P := P) hs hd h (opr1 hx) hI))
    · rename_i e hs hd
      split at h
      · rename_i he
        exact go_step (by simp) (ReadOk.step hr (strOfK_ok (P := P) hr hs he hd h (opr1 hx) hI))
      · exact (bad_step h).elim
    · rename_i e hs hd
      split at h
      · rename_i he
        exact go_step (by simp) (toBytesK_ok (P := P) hr hs hd he h (opr1 hx) hI)
      · exact (bad_step h).elim
    · exact (bad_step h).elim
  case makeInterface t x =>
    simp only at h
    split at h
    · exact (bad_step h).elim
    · rename_i d hne hd
      exact go_step (by simp) (PureOk.step hr (mkiK_ok (P := P) hd (fun ms e => hne ms e) h (opr1 hx) hI))
    · exact (bad_step h).elim
  case makeFunc fn first captured =>
    cases fn
    case func f =>
      simp only at h
      split at h
      · rename_i hf
        refine go_step (by simp) ?_
        have hf' : first = #[] := by
          obtain ⟨first⟩ := first
          cases first with
          | nil => rfl
          | cons x l => simp at hf
        subst hf'
        have := PureOk.step hr (mkfK_ok (P := P) (a := a) (f := c.f) h (fun y hy => hx y (by simp [Op.operands]; exact Array.mem_toList_iff.1 hy)) hI)
        have e : (captured.toList.map a.eval).toArray = captured.map a.eval := by apply Array.ext'; simp
        rw [e] at this
        have e0 : Array.map a.eval (#[] : Array Operand) = #[] := by simp
        show StepOk P c kf (do let v ← Instr.makeFunc (.func f) (Array.map a.eval #[]) (captured.map a.eval); pure (.value v))
        rw [e0]
        exact this
      · exact (bad_step h).elim
    all_goals exact (bad_step h).elim
  case makeSlice t l cc =>
    simp only at h
    split at h
    · rename_i e ht
      split at h
      · rename_i ie s r hie hz
        split at h
        · rename_i hcond
          obtain ⟨k1, k2, k3, k4⟩ := hcond
          exact go_step (by simp) (mkSlK_ok (P := P) hr ht hie hz k1 k2 k3 k4 h (opr2 hx).1 (opr2 hx).2 hI)
        · exact (bad_step h).elim
      · exact (bad_step h).elim
    · exact (bad_step h).elim
  case slice t x lo hi mx =>
    have hx0 : OpR c.f c.I c.ni E a x := hx x (by simp [Op.operands])
    have hlo : ∀ y, lo = some y → OpR c.f c.I c.ni E a y := fun y hy => hx y (by subst hy; simp [Op.operands])
    have hhi : ∀ y, hi = some y → OpR c.f c.I c.ni E a y := fun y hy => hx y (by subst hy; simp [Op.operands])
    have hmx : ∀ y, mx = some y → OpR c.f c.I c.ni E a y := fun y hy => hx y (by subst hy; simp [Op.operands])
    simp only at h
    split at h
    · rename_i e ht
      split at h
      · rename_i ie hie
        split at h
        · exact (bad_step h).elim
        · rename_i hno
          exact go_step (by simp) (PureOk.step hr (slcK_ok (P := P) ht hie (by intro h1; cases hi <;> simp_all) h hx0 hlo hhi hmx hI))
      · exact (bad_step h).elim
    · rename_i n e ht
      split at h
      · rename_i sz hs
        obtain ⟨ie, hie, rfl⟩ := szOf_ok hs
        split at h
        · exact (bad_step h).elim
        · rename_i hno
          split at h
          · rename_i hlt
            have hmn : mx = none := by cases mx <;> simp_all
            subst hmn
            exact go_step (by simp) (PureOk.step hr (slpK_ok (P := P) ht hie hlt h hx0 hlo hhi hI))
          · exact (bad_step h).elim
      · exact (bad_step h).elim
    · rename_i ht
      split at h
      · exact (bad_step h).elim
      · rename_i hno
        have hmn : mx = none := by cases mx <;> simp_all
        subst hmn
        exact go_step (by simp) (PureOk.step hr (slcTK_ok (P := P) ht h hx0 hlo hhi hI))
    · exact (bad_step h).elim
  case fieldAddr s x j =>
    simp only at h
    split at h
    · rename_i fields ht
      split at h
      · rename_i fi hj
        split at h
        · rename_i n hs
          obtain ⟨ie, hie, rfl⟩ := szOf_ok hs
          split at h
          · exact (bad_step h).elim
          · rename_i hz
            exact go_step (by simp) (PureOk.step hr (fadrK_ok (P := P) ht hj hie hz h (opr1 hx) hI))
        · exact (bad_step h).elim
      · exact (bad_step h).elim
    · exact (bad_step h).elim
  case field s x j =>
    simp only at h
    split at h
    · rename_i fields ht
      split at h
      · rename_i fi hj
        split at h
        · rename_i d hd
          split at h
          · rename_i hagg
            split at h
            · rename_i n hs
              obtain ⟨ie, hie, rfl⟩ := szOf_ok hs
              exact go_step (by simp) (PureOk.step hr (fldNK_ok (P := P) ht hj hd hagg hie h (opr1 hx) hI))
            · exact (bad_step h).elim
          · rename_i hagg
            exact go_step (by simp) (PureOk.step hr (fld1K_ok (P := P) ht hj hd (by simpa using hagg) h (opr1 hx) hI))
        · exact (bad_step h).elim
      · exact (bad_step h).elim
    · exact (bad_step h).elim
  case indexAddr t x i =>
    simp only at h
    split at h
    · rename_i e ht
      split at h
      · rename_i n hs
        obtain ⟨ie, hie, rfl⟩ := szOf_ok hs
        exact go_step (by simp) (PureOk.step hr (iadrSK_ok (P := P) ht hie h (opr2 hx).1 (opr2 hx).2 hI))
      · exact (bad_step h).elim
    · rename_i len e ht
      split at h
      · rename_i n hs
        obtain ⟨ie, hie, rfl⟩ := szOf_ok hs
        exact go_step (by simp) (PureOk.step hr (iadrAK_ok (P := P) ht hie h (opr2 hx).1 (opr2 hx).2 hI))
      · exact (bad_step h).elim
    · exact (bad_step h).elim
  case index t x i =>
    simp only at h
    split at h
    · rename_i len e ht
      split at h
      · rename_i d hs hd
        obtain ⟨ie, hie, hsz⟩ := szOf_ok hs
        split at h
        · exact (bad_step h).elim
        · rename_i hagg
          exact go_step (by simp) (PureOk.step hr (idx1K_ok (P := P) ht hie hsz hd (by simpa using hagg) h (opr2 hx).1 (opr2 hx).2 hI))
      · exact (bad_step h).elim
    · rename_i ht
      exact go_step (by simp) (PureOk.step hr (idxTK_ok (P := P) ht h (opr2 hx).1 (opr2 hx).2 hI))
    · exact (bad_step h).elim
  case makeMap t r =>
    simp only at h
    split at h
    · exact go_step (by simp) (mkMap_ok (P := P) hr hI h)
    · rename_i x k e ht
      exact go_step (by simp) (mkMapH_ok (P := P) hr ht h (hx x (by simp [Op.operands])) hI)
    · exact (bad_step h).elim
  case lookup t x i com =>
    simp only at h
    split at h
    · rename_i k e ht
      split at h
      · rename_i q agg n r hq hz
        exact go_step (by simp) (ReadOk.step hr (lookK_ok (P := P) hr ht (keyKind_ok hq) hz h (opr2 hx).1 (opr2 hx).2 hI))
      · exact (bad_step h).elim
    · exact (bad_step h).elim
  case mapUpdate t m k x =>
    simp only at h
    split at h
    · rename_i kt e ht
      split at h
      · rename_i q hq
        exact go_step (by simp) (updK_ok (P := P) hr ht (keyKind_ok hq) h (opr3 hx).1 (opr3 hx).2.1 (opr3 hx).2.2 hI)
      · exact (bad_step h).elim
    · exact (bad_step h).elim
  case insert t m k x =>
    simp only at h
    split at h
    · rename_i kt e ht
      split at h
      · rename_i q hq
        exact go_step (by simp) (updK_ok (P := P) hr ht (keyKind_ok hq) h (opr3 hx).1 (opr3 hx).2.1 (opr3 hx).2.2 hI)
      · exact (bad_step h).elim
    · exact (bad_step h).elim
  case extract x j => exact go_step (by simp) (PureOk.step hr (extK_ok (P := P) h (opr1 hx) hI))
  case call cl =>
    have hargs : ∀ x ∈ cl.args.toList, OpR c.f c.I c.ni E a x := fun x hm => hx x (by simp [Op.operands, Call.operands]; exact .inr (by simpa using hm))
    cases hcl : cl.callee with
    | builtin b => exact go_step (by simp) (builtin_ok (o := ⟨dst, .call cl, ty, pos, after, guard⟩) rfl hcl h hargs hr hI)
    | invoke x name =>
      have hx0 : OpR c.f c.I c.ni E a x := hx x (by simp [Op.operands, Call.operands, hcl])
      simp only [lowCall, hcl] at h
      exact invS_ok hc rfl hcl h hx0 hargs hr hI
    | value x =>
      have hx0 : OpR c.f c.I c.ni E a x := hx x (by simp [Op.operands, Call.operands, hcl])
      simp only [lowCall, hcl] at h
      split at h
      · rename_i f heq
        cases heq
        split at h
        · rename_i fn hfn
          split at h
          · rename_i hcond
            simp only [Bool.and_eq_true, bne_iff_ne, ne_eq] at hcond
            exact callS_ok hc rfl hcl hfn hcond.1 (by simpa using hcond.2) h hargs hr hI
          · exact (bad_step h).elim
        · exact (bad_step h).elim
      · rename_i x' hne heq
        cases heq
        exact callvS_ok hng hc rfl hcl h hx0 hargs hr hI
      · rename_i heq; cases heq
      · rename_i heq; cases heq
  all_goals exact (bad_step h).elim
end
end Go.Proofs.YtpjhkpmmbeoghaaGreatDoor.Ev
namespace Go.Proofs.YtpjhkpmmbeoghaaGreatDoor.Ev
open Go
section
variable {κ : Type} {L : (κ → Res) → Prop} {E : Fr} {M nm I ni : Nat}
theorem good_leaf {G : κ → Res} (h : L G) : Good L G := .inl h
theorem good_bad {m n : Nat} : Good L (fun _ => .bad m n) := .inr fun _ h => by cases h
theorem good_iff {b : Bool} {G H : κ → Res} (hG : Good L G) (hH : Good L H) : Good L (fun k => iff b (G k) (H k)) := by
  cases b
  · exact hH
  · exact hG
theorem good_grow {n r : Nat} {G : Nat → Nat → κ → Res} (h : ∀ I ni, Good L (G I ni)) : Good L (fun k => growK I ni n r fun I ni => G I ni k) := good_iff (h _ _) good_bad
theorem good_opd {x : Opd} {G : Nat → Nat → Nat → κ → Res} (h : ∀ w I ni, Good L (G w I ni)) : Good L (fun k => opdK x E I ni fun w I ni => G w I ni k) := by
  cases x with
  | s off => exact h _ _ _
  | k w => exact h _ _ _
  | str n x => exact good_grow fun _ _ => h _ _ _
  | agg n r => exact good_grow fun _ _ => h _ _ _
  | bad => exact good_bad
theorem good_op2 {x y : Opd} {G : Nat → Nat → Nat → Nat → κ → Res} (h : ∀ w w' I ni, Good L (G w w' I ni)) : Good L (fun k => op2 x y E I ni fun w w' I ni => G w w' I ni k) := good_opd fun _ _ _ => good_opd fun _ _ _ => h _ _ _ _
theorem good_opds {xs : List Opd} : ∀ {I ni : Nat} {G : List Nat → Nat → Nat → κ → Res}, (∀ w I ni, Good L (G w I ni)) → Good L (fun k => opdsK xs E I ni fun w I ni => G w I ni k) := by
  induction xs with
  | nil => exact fun h => h _ _ _
  | cons x xs ih => exact fun h => good_opd fun _ _ _ => ih fun _ _ _ => h _ _ _
theorem good_bool {b : Bool} {G : Nat → Nat → Nat → κ → Res} (h : ∀ w I ni, Good L (G w I ni)) : Good L (fun k => boolK b I ni fun w I ni => G w I ni k) := h _ _ _
theorem good_enc {kd : IntKind} {z : Int} {G : Nat → Nat → Nat → κ → Res} (h : ∀ w I ni, Good L (G w I ni)) : Good L (fun k => encK kd z I ni fun w I ni => G w I ni k) := good_iff (good_iff (h _ _ _) good_bad) good_bad
theorem good_optz {z : Option Int} {kd : IntKind} {G : Nat → Nat → Nat → κ → Res} (h : ∀ w I ni, Good L (G w I ni)) : Good L (fun k => optK z kd I ni fun w I ni => G w I ni k) := by
  cases z
  · exact good_bad
  · exact good_enc h
theorem good_nat {w : Nat} {G : Nat → κ → Res} (h : ∀ n, Good L (G n)) : Good L (fun k => natK w fun n => G n k) := by
  unfold natK
  repeat' first | exact h _ | exact good_bad | refine good_iff ?_ ?_
theorem good_bnd {x : Option Opd} {d : Nat} {G : Nat → Nat → Nat → κ → Res} (h : ∀ w I ni, Good L (G w I ni)) : Good L (fun k => bndK x d E I ni fun w I ni => G w I ni k) := by
  cases x
  · exact h _ _ _
  · exact good_opd fun _ _ _ => good_nat fun _ => h _ _ _
theorem good_part {sz w : Nat} {G : Nat → κ → Res} (h : ∀ n, Good L (G n)) : Good L (fun k => partK sz w I fun n => G n k) :=
  good_iff (good_iff (h _) good_bad) (good_iff (good_iff (good_iff (h _) good_bad) good_bad) good_bad)
theorem good_fill {n : Nat} {l : List (Nat × Nat × Opd)} : ∀ {I ni r : Nat} {G : Nat → Nat → Nat → κ → Res}, (∀ w I ni, Good L (G w I ni)) → Good L (fun k => fillK n l E I ni r fun w I ni => G w I ni k) := by
  induction l with
  | nil => exact fun h => h _ _ _
  | cons p l ih =>
    obtain ⟨off, sz, x⟩ := p
    exact fun h => good_opd fun _ _ _ => good_part fun _ => good_iff (ih h) good_bad
theorem good_in {b off n : Nat} {G : κ → Res} (h : Good L G) : Good L (fun k => inK M b off n (G k)) := good_iff (good_iff h good_bad) good_bad
theorem good_ptr {w : Nat} {G : κ → Res} (h : Good L G) : Good L (fun k => ptrIn w (G k)) := good_iff (good_iff h good_bad) good_bad
theorem good_ptrK {b off : Nat} {G : Nat → Nat → Nat → κ → Res} (h : ∀ w I ni, Good L (G w I ni)) : Good L (fun k => ptrK b off I ni fun w I ni => G w I ni k) := good_iff (h _ _ _) good_bad
theorem good_tags {t n : Nat} {G : κ → Res} (h : Good L G) : ∀ {b : Nat}, Good L (fun k => tagsK t I n b (G k)) := by
  induction n with
  | zero => exact h
  | succ n ih => exact good_iff ih good_bad
theorem good_keyTag {q : KK} {w : Nat} {G : κ → Res} (h : Good L G) : Good L (fun k => keyTag q I w (G k)) := by
  cases q with
  | word t => exact good_iff h good_bad
  | str => exact good_iff h good_bad
  | row n t => exact good_iff (good_iff (good_tags h) good_bad) good_bad
theorem good_find {q : KK} {key n : Nat} {G : Nat → κ → Res} {H : κ → Res} (hG : ∀ b, Good L (G b)) (hH : Good L H) : ∀ {b : Nat}, Good L (fun k => findK q I key n b (fun b => G b k) (H k)) := by
  induction n with
  | zero => exact hH
  | succ n ih => exact good_keyTag (good_iff (hG _) ih)
theorem good_mapIn {w : Nat} {G : Nat → Nat → κ → Res} (h : ∀ b n, Good L (G b n)) : Good L (fun k => mapIn M w fun b n => G b n k) := good_iff (h _ _) good_bad
theorem good_okK {com : Bool} {v yes : Nat} {G : Nat → Nat → Nat → κ → Res} (h : ∀ w I ni, Good L (G w I ni)) : Good L (fun k => okK com v yes I ni fun w I ni => G w I ni k) := by
  cases com
  · exact h _ _ _
  · exact good_grow fun _ _ => h _ _ _
theorem good_zer {agg : Bool} {n r : Nat} {G : Nat → Nat → Nat → κ → Res} (h : ∀ w I ni, Good L (G w I ni)) : Good L (fun k => zerK agg n r I ni fun w I ni => G w I ni k) := by
  cases agg
  · exact h _ _ _
  · exact good_grow fun _ _ => h _ _ _
theorem good_bytes {n : Nat} {G : Nat → κ → Res} (h : ∀ y, Good L (G y)) : ∀ {b acc : Nat}, Good L (fun k => bytesK M n b acc fun y => G y k) := by
  induction n with
  | zero => exact h _
  | succ n ih => exact good_iff ih good_bad
theorem good_alloc {n r : Nat} {G : Nat → Nat → Nat → κ → Res} (h : Good L (G (nm + 1) (addRow M nm (addRow (1 + 1024 * n) 1 r)) (nm + (1 + n)))) : Good L (fun k => allocK n r M nm fun b M nm => G b M nm k) := good_iff h good_bad
theorem good_orec {α : Type} {o : Option α} {G : κ → Res} {H : α → κ → Res} (hG : Good L G) (hH : ∀ a, Good L (H a)) : Good L (fun k => @Option.rec α (fun _ => Res) (G k) (fun a => H a k) o) := by
  cases o
  · exact hG
  · exact hH _
end
end Go.Proofs.YtpjhkpmmbeoghaaGreatDoor.Ev
