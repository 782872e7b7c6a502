/- Facts that the claim rests on, part 5. -/
import Derived.Test.YtagcbnpahgfgmaaGreatKC03
namespace Go.Proofs.YtagcbnpahgfgmaaGreat
open Go Go.RowKit Go.Maps
def RV : Value → Option (DataW Value × List MemPlace) := fun v => some (.held v, [])
open Classical in
noncomputable def updL (F : Lit → Option Value) (k : Lit) (v : Value) : Lit → Option Value := fun j => if j = k then some v else F j
theorem updL_same (F : Lit → Option Value) (k : Lit) (v : Value) : updL F k v k = some v := by simp [updL]
theorem updL_ne (F : Lit → Option Value) {k j : Lit} (v : Value) (h : j ≠ k) : updL F k v j = F j := by simp [updL, h]
def MGs (D : DataW Value) (F : Lit → Option Value) (c : Nat) : Prop :=
 Tidy D ∧ Maps.size D = c ∧ (∀ l, Maps.has D l = (F l).isSome) ∧ ∀ l x, F l = some x → ∀ z, D.atKey l z = .held x
def MG (w : World) (k : TypeId) (B c : Nat) (F : Lit → Option Value) : Prop :=
 ∃ D : DataW Value, w.ownsMap Tryz.prog k RV B c D ∧ MGs D F c
theorem MGs.none : MGs (.map []) (fun _ => none) 0 := ⟨tidy_empty, rfl, fun v => rfl, fun v x h => by cases h⟩
theorem MGs.put {D : DataW Value} {F : Lit → Option Value} {c : Nat} (h : MGs D F c) {k : Lit} (hk : WideAt.IsKeyLit k) (v : Value) : MGs (D.put k (.held v)) (updL F k v) (if (F k).isSome then c else c + 1) := by
 obtain ⟨h1, h2, h3, h4⟩ := h
 refine ⟨h1.put hk _, ?_, fun j => ?_, fun j x hj z => ?_⟩
 · rw [size_put h1, h3 k, h2]
 ·
  by_cases e : j = k
  · subst e; rw [has_put_same h1.isMap hk, updL_same]; rfl
  · rw [has_put_other e, h3 j, updL_ne _ _ e]
 ·
  by_cases e : j = k
  · subst e; rw [updL_same] at hj; cases hj; rw [atKey_put_same h1.isMap hk]
  ·
   rw [updL_ne _ _ e] at hj; rw [atKey_put_other e]; exact h4 j x hj z
namespace MG
variable {w w' : World} {k : TypeId} {B c : Nat} {F : Lit → Option Value}
theorem exact_ {n : Nat} {D : DataW Value} (h : w.ownsMap Tryz.prog k RV B n D) : w.ownsMap Tryz.prog k RV B (Maps.size D) D := by
 obtain ⟨es, clock, hb, G, hs, rfl⟩ := h
 exact ⟨es, clock, hb, G, by rw [size_eq, length_read]; exact Nat.le_refl _, rfl⟩
theorem lt (h : MG w k B c F) : B < w.heap.size := by obtain ⟨D, h1, _⟩ := h; exact h1.lt
theorem made (w : World) (k : TypeId) : MG (w.alloc (.map #[] 0)) k w.heap.size 0 (fun _ => none) := ⟨_, World.ownsMap_made _ _ _ _, MGs.none⟩
theorem block (h : MG w k B c F) (e : w'.heap[B]? = w.heap[B]?) : MG w' k B c F := by
 obtain ⟨D, ⟨es, clock, hb, r⟩, h2⟩ := h
 exact ⟨D, ⟨es, clock, e.trans hb, r⟩, h2⟩
theorem below (h : MG w k B c F) (hb : Below w.heap.size w w') : MG w' k B c F := h.block (hb.block B h.lt)
theorem grown {r : Option Nat} (h : MG w k B c F) (hg : w.grownBy w' r) (hne : r ≠ some B) : MG w' k B c F := h.block (hg.block B h.lt (fun e => hne e.symm))
theorem alloc (h : MG w k B c F) (o : Obj) : MG (w.alloc o) k B c F := h.block (Below.heap_alloc w o B h.lt)
theorem look (h : MG w k B c F) (K : Keyed Tryz.prog k) {t e : TypeId} (ht : Tryz.prog.underlying t = some (.map k e)) {z : Value} (hz : (zeroValue e).run Tryz.prog w = .ok z w) {v : Value} {l : Lit} (hv : keyOf Tryz.prog k v = some l) :
  (Instr.lookup t (.map (some B)) v false).run Tryz.prog w = .ok ((F l).getD z) w := by
 obtain ⟨D, hown, _, _, h3, h4⟩ := h
 obtain ⟨u, ps, hrun, hu⟩ := hown.lookup K ht hz (zd := .held z) (zp := []) rfl hv
 rw [hrun]
 unfold RV at hu
 simp only [Option.some.injEq, Prod.mk.injEq] at hu
 cases hF : F l with
 | none =>
  have hh := h3 l; rw [hF] at hh
  rw [atKey_of_not_has hh] at hu
  have := hu.1; cases this; rfl
 | some x =>
  rw [h4 l x hF] at hu
  have := hu.1; cases this; rfl
theorem len (h : MG w k B c F) {t e : TypeId} (ht : Tryz.prog.underlying t = some (.map k e)) (ty : TypeId) :
  (Builtin.len_ #[t] ty #[.map (some B)]).run Tryz.prog w = .ok (.int .i64 c) w := by
 obtain ⟨D, hown, _, h2, _⟩ := h
 rw [hown.len ht ty, h2]
theorem store (h : MG w k B c F) (K : Keyed Tryz.prog k) {t e : TypeId} (ht : Tryz.prog.underlying t = some (.map k e)) {v : Value} {l : Lit} (hv : keyOf Tryz.prog k v = some l) (x : Value) (hc : c ≤ 100000000) :
  ∃ w', (Instr.mapUpdate t (.map (some B)) v x).run Tryz.prog w = .ok () w' ∧ MG w' k B (if (F l).isSome then c else c + 1) (updL F l x) ∧ w.grownBy w' (some B) := by
 obtain ⟨D, hown, h2⟩ := h
 obtain ⟨w', hrun, r1, r2⟩ := hown.update K ht (by unfold maxLen; omega) hv (d := .held x) (ps := []) rfl
 have h3 := h2.put (K.key hv) x
 have h4 := exact_ r1
 rw [h3.2.1] at h4
 exact ⟨w', hrun, ⟨_, h4, h3⟩, r2⟩
end MG
theorem wpList_put_MG {w : World} {ops : Array Oper} {rest : List Oper} {o : Oper} {a : Act} {Q : Exit → Act → World → Prop} (hg : o.guard = none) (m x y : Operand) (t : TypeId) (hop : o.op = Op.mapUpdate t m x y) {k e : TypeId} {B c : Nat} {F : Lit → Option Value} (h : MG w k B c F) (K : Keyed Tryz.prog k) (ht : Tryz.prog.underlying t = some (.map k e))
  {kv v : Value} {l : Lit} (hm : a.eval m = .map (some B)) (hx : a.eval x = kv) (hy : a.eval y = v) (hv : keyOf Tryz.prog k kv = some l) (hc : c ≤ 100000000)
  (hK : ∀ w', MG w' k B (if (F l).isSome then c else c + 1) (updL F l v) → w.grownBy w' (some B) → wpList Tryz.prog ops Q rest (a.put o.dst undef) w') : wpList Tryz.prog ops Q (o :: rest) a w := by
 refine wpList_plain hg fun K' hK' => ?_
 obtain ⟨w', hrun, r1, r2⟩ := h.store K ht hv v hc
 unfold Oper.wp
 simp [execOp, hop, hm, hx, hy, hrun, Result.andThen]
 exact hK' _ _ (hK w' r1 r2)
theorem run_makeMapN (t k e : TypeId) (ht : Tryz.prog.underlying t = some (.map k e)) (w : World) : (Instr.makeMap t none).run Tryz.prog w = .ok (.map (some w.heap.size)) (w.alloc (.map #[] 0)) := by
 simp [Instr.makeMap, run_underlying ht, Result.andThen]
theorem MG.entry {w : World} {k : TypeId} {B c : Nat} {F : Lit → Option Value} (h : MG w k B c F) (Kl : Go.WideMaps.KeyLaw Tryz.prog k) {t e : TypeId} (ht : Tryz.prog.underlying t = some (.map k e)) {z : Value} (hz : ∀ u : World, (zeroValue e).run Tryz.prog u = .ok z u) {v : Value} {l : Lit} (hv : keyOf Tryz.prog k v = some l) (hc : c ≤ 100000000) :
  ∃ (st : Nat) (w1 : World), (Instr.mapEntry t (.map (some B)) v).run Tryz.prog w = .ok (.tuple #[(F l).getD z, goInt st]) w1 ∧ w.grownBy w1 (some B) ∧ (∃ c1 F1, MG w1 k B c1 F1 ∧ (F1 l).getD z = (F l).getD z) ∧
   ∀ (w2 : World) (x : Value), w2.heap[B]? = w1.heap[B]? → ∃ w3, (Instr.entryStore t (.map (some B)) (goInt st) x).run Tryz.prog w2 = .ok () w3 ∧ w2.grownBy w3 (some B) ∧ MG w3 k B (if (F l).isSome then c else c + 1) (updL F l x) := by
 have K : Keyed Tryz.prog k := Keyed.of_law Kl
 have hlook := h.look K ht (hz w) hv
 have hMG := h
 obtain ⟨D, ⟨es, clock, hb, G, hs, hD⟩, h2⟩ := h
 obtain ⟨v0, st, es1, clock1, hrun, _, hst⟩ := Go.WideElems.entry_then_store Kl ht hz hb G hv
 have hw1 : v0 = (F l).getD z ∧ ∃ c1 F1, MG (Go.ChangeMaps.setBlock w B (.map es1 clock1)) k B c1 F1 ∧ (F1 l).getD z = (F l).getD z := by
  rcases K.find w hv es.toList G.keys with ⟨h1, hno⟩ | ⟨j, e0, h1, hj, hk0⟩
  ·
   have hrun2 : (Instr.mapEntry t (.map (some B)) v).run Tryz.prog w = .ok (.tuple #[z, goInt clock]) (Go.ChangeMaps.setBlock w B (.map (es.push ⟨v, z, clock⟩) (clock + 1))) := by
    simp [Instr.mapEntry, run_underlying ht, MapKept.run_getObj_map hb, K.check w false hv, h1, hz, MapKept.run_setObj_map _ hb, Result.andThen, Go.ChangeMaps.setBlock]
   have hup : (Instr.mapUpdate t (.map (some B)) v z).run Tryz.prog w = .ok () (Go.ChangeMaps.setBlock w B (.map (es.push ⟨v, z, clock⟩) (clock + 1))) := by
    simp [Instr.mapUpdate, run_underlying ht, MapKept.run_getObj_map hb, K.check w false hv, h1, MapKept.run_setObj_map _ hb, Result.andThen, Go.ChangeMaps.setBlock]
   have hlk : (Instr.lookup t (.map (some B)) v false).run Tryz.prog w = .ok z w := by
    rcases Maps.fit_look false K ht (hz w) hb G hv with ⟨hr, _, _⟩ | ⟨e1, y, he1, hk1, hr, _⟩
    · exact hr
    · exact absurd hk1 (hno e1 he1)
   rw [hrun2] at hrun; rw [hlk] at hlook; simp only [Result.ok.injEq, Value.tuple.injEq, and_true] at hrun hlook; obtain ⟨hr1, hr2⟩ := hrun; have hz1 : z = v0 := by
    have := congrArg (fun a : Array Value => a[0]?) hr1; simpa using this
   obtain ⟨w', hr', hm', _⟩ := hMG.store K ht hv z hc; rw [hup] at hr'; cases hr'; refine ⟨by rw [← hz1]; exact hlook, _, _, by rw [← hr2]; exact hm', by rw [updL_same, ← hlook]; rfl⟩
  ·
   have hj' : es[j]? = some e0 := by simpa using hj
   have hlk : (Instr.lookup t (.map (some B)) v false).run Tryz.prog w = .ok e0.val w := by
    simp [Instr.lookup, run_underlying ht, MapKept.run_getObj_map hb, K.check w _ hv, h1, hz, Result.andThen]
   have hsame : es.modify j (fun e => { e with key := v }) = es := by
    apply Array.ext'; rw [Array.toList_modify, Go.ChangeMaps.modify_eq_set _ _ _ _ hj]; have : ({ e0 with key := v } : MapEntry) = e0 := by rw [← hk0]
    rw [this]; exact Go.WideElems.set_self _ _ _ hj
   have hrun2 : (Instr.mapEntry t (.map (some B)) v).run Tryz.prog w = .ok (.tuple #[e0.val, goInt e0.born]) (Go.ChangeMaps.setBlock w B (.map es clock)) := by
    simp [Instr.mapEntry, run_underlying ht, MapKept.run_getObj_map hb, K.check w false hv, h1, hj', hk0, K.stays w hv, hsame, MapKept.run_setObj_map _ hb, Result.andThen, Go.ChangeMaps.setBlock]
   rw [hrun2] at hrun; rw [hlk] at hlook; simp only [Result.ok.injEq, Value.tuple.injEq, and_true] at hrun hlook; obtain ⟨hr1, hr2⟩ := hrun; have hz1 : e0.val = v0 := by
    have := congrArg (fun a : Array Value => a[0]?) hr1; simpa using this
   refine ⟨by rw [← hz1]; exact hlook, c, F, ?_, rfl⟩; rw [← hr2]; exact hMG.block (by rw [Go.ChangeMaps.heap_setBlock_same hb _, hb])
 obtain ⟨hv0, c1, F1, hm1, hF1⟩ := hw1
 subst hv0
 refine ⟨st, _, hrun, ⟨rfl, rfl, rfl, by simp [Go.ChangeMaps.setBlock], fun i _ hi => Go.ChangeMaps.heap_setBlock_other hb _ (fun e => hi (by rw [e]))⟩, ⟨c1, F1, hm1, hF1⟩, fun w2 x hw2 => ?_⟩
 rw [Go.ChangeMaps.heap_setBlock_same hb] at hw2
 obtain ⟨es', clock', hr3, hup⟩ := hst w2 x hw2
 obtain ⟨w', hr', hm', _⟩ := hMG.store K ht hv x hc
 rw [hup] at hr'
 cases hr'
 refine ⟨_, hr3, ⟨rfl, rfl, rfl, by simp [Go.ChangeMaps.setBlock], fun i _ hi => Go.ChangeMaps.heap_setBlock_other hw2 _ (fun e => hi (by rw [e]))⟩, hm'.block ?_⟩
 rw [Go.ChangeMaps.heap_setBlock_same hw2, Go.ChangeMaps.heap_setBlock_same hb]
def WfL (e : Lk) : Prop := WfZ e.1 ∧ WfZ e.2.1 ∧ WfZ e.2.2
theorem OkL.wf {e : Lk} (h : OkL e) : WfL e := by unfold OkL at h; exact ⟨wfZ_of (by omega), wfZ_of (by omega), wfZ_of (by omega)⟩
theorem lawL : Go.WideMaps.KeyLaw Tryz.prog 38 := deep_law_laid (by kernel_rfl) (m := 2) (by omega) (of_decide_eq_true (by kernel_rfl)) (by kernel_rfl) (by kernel_rfl)
theorem keyedL : Keyed Tryz.prog 38 := Keyed.of_law lawL
theorem keyLits_i {a : Int} (h : (Lit.int .i64 a).wf = true) (d : Nat) : Tryz.prog.keyLits (d + 1) 3 [.int .i64 a] = some [.int .i64 a] := by
 rw [Program.keyLits.eq_def]
 simp only [Tryz.underlying3]
 simp [h]
theorem keyLits_L {a b c : Int} (h1 : (Lit.int .i64 a).wf = true) (h2 : (Lit.int .i64 b).wf = true) (h3 : (Lit.int .i64 c).wf = true) (d : Nat) :
  Tryz.prog.keyLits (d + 1 + 1) 38 [.int .i64 a, .int .i64 b, .int .i64 c] = some [.int .i64 a, .int .i64 b, .int .i64 c] := by
 have c3 : Tryz.prog.cellsOf 3 = 1 := by kernel_rfl
 have c38 : Tryz.prog.cellsOf 38 = 3 := by kernel_rfl
 have k1 := keyLits_i h1 d
 have k2 := keyLits_i h2 d
 have k3 := keyLits_i h3 d
 rw [Program.keyLits.eq_def]
 simp only [Tryz.underlying38]
 simp [c3, c38, k1, k2, k3]
theorem keyOf_L {e : Lk} (h : WfL e) : ∃ l, keyOf Tryz.prog 38 (lkV e) = some l := by
 obtain ⟨a, b, c⟩ := e
 obtain ⟨h1, h2, h3⟩ := h
 unfold WfZ at h1 h2 h3
 simp only at h1 h2 h3
 have hkt : Tryz.prog.keyType 38 = true := by kernel_rfl
 have hfm : (lkV (a, b, c)).formed Tryz.prog 38 = true := by kernel_rfl
 have hsz : ∃ m, Tryz.prog.types.size + 1 = m + 1 + 1 := ⟨Tryz.prog.types.size - 1, by
  have : 0 < Tryz.prog.types.size := of_decide_eq_true (by kernel_rfl)
  omega⟩
 obtain ⟨m, hm⟩ := hsz
 unfold keyOf
 rw [Tryz.underlying38, hm]
 simp only [hkt, hfm, Bool.true_and, if_true]
 refine ⟨Lit.string (keyBytes [.int .i64 a, .int .i64 b, .int .i64 c]), ?_⟩
 show Option.map (fun ls => Lit.string (keyBytes ls)) (Tryz.prog.keyLits (m + 1 + 1) 38 [.int .i64 a, .int .i64 b, .int .i64 c]) = _
 rw [keyLits_L h1 h2 h3]
 rfl
noncomputable def litL (e : Lk) : Lit := (keyOf Tryz.prog 38 (lkV e)).getD (.bool false)
theorem litL_ok {e : Lk} (h : WfL e) : keyOf Tryz.prog 38 (lkV e) = some (litL e) := by
 obtain ⟨l, hl⟩ := keyOf_L h
 unfold litL
 rw [hl]; rfl
theorem litL_inj {e f : Lk} (he : WfL e) (hf : WfL f) (h : litL e = litL f) : e = f := by
 have h1 := litL_ok he
 rw [h] at h1
 have := keyedL.inj h1 (litL_ok hf)
 unfold lkV at this
 obtain ⟨a, b, c⟩ := e
 obtain ⟨a', b', c'⟩ := f
 simp at this
 simp [this]
end Go.Proofs.YtagcbnpahgfgmaaGreat
namespace Go.Proofs.YtagcbnpahgfgmaaGreat
open Go
section
variable {P : Program} {md : Region.Mode} {ops : Array Oper} {Q : Exit → Act → World → Prop} {S : World → Prop} {N : Nat}
def anyT (P : Program) (md : Region.Mode) (ops : Array Oper) (Q : Exit → Act → World → Prop) (S : World → Prop) (N : Nat) : Nat → Array Bool → Act → World → Prop
 | 0, listed, a, w => Region.ready md ops listed = [] ∧ Q .normal a w
 | fuel + 1, listed, a, w => (Region.ready md ops listed = [] → Q .normal a w) ∧
   ∀ i ∈ Region.ready md ops listed, wpOp P ops Q i (fun a' w' => (i < N → S w') ∧ anyT P md ops Q S N fuel (listed.setIfInBounds i true) a' w') a w
theorem any_of_anyT : ∀ (fuel : Nat) (listed : Array Bool) (a : Act) (w : World), anyT P md ops Q S N fuel listed a w → wpAny P md ops Q fuel listed a w
 | 0, _, _, _, h => h
 | fuel + 1, _, _, _, h => ⟨h.1, fun i hi => wpOp_mono (fun _ _ h' => any_of_anyT fuel _ _ _ h'.2) (h.2 i hi)⟩
def closedT (md : Region.Mode) (ops : Array Oper) (listed : Array Bool) : Prop :=
 ∀ (j : Nat) (o : Oper), ops[j]? = some o → listed.getD j false = true → ∀ e ∈ o.after, Region.binds md e = true → listed.getD e.on false = true
def waitsB (md : Region.Mode) (ops : Array Oper) (i : Nat) : Nat → Nat → Bool
 | 0, _ => false
 | f + 1, j => match ops[j]? with
  | some o => o.after.any fun e => Region.binds md e && (e.on == i || waitsB md ops i f e.on)
  | none => false
theorem waits_spec {listed : Array Bool} (hc : closedT md ops listed) {i : Nat} : ∀ (f j : Nat), waitsB md ops i f j = true →
  (∀ (o : Oper), ops[j]? = some o → ∀ e ∈ o.after, Region.binds md e = true → listed.getD e.on false = true) → listed.getD i false = true := by
 intro f
 induction f with
 | zero => intro j h; simp [waitsB] at h
 | succ f ih =>
  intro j h hall
  unfold waitsB at h
  split at h
  ·
   rename_i o ho; obtain ⟨e, he, h2⟩ := Array.any_eq_true'.1 h; simp only [Bool.and_eq_true, Bool.or_eq_true, beq_iff_eq] at h2; obtain ⟨hb, h3⟩ := h2; have hl := hall o ho e he hb; rcases h3 with h3 | h3
   · rw [← h3]; exact hl
   · exact ih e.on h3 fun o' ho' e' he' hb' => hc e.on o' ho' hl e' he' hb'
  · cases h
def tailB (md : Region.Mode) (ops : Array Oper) (N : Nat) : Bool :=
 (List.range ops.size).all fun j => decide (j < N) || (List.range N).all fun i => waitsB md ops i ops.size j
theorem tail_late {listed : Array Bool} (ht : tailB md ops N = true) (hc : closedT md ops listed) {j : Nat} (hj : j ∈ Region.ready md ops listed) (hN : N ≤ j) {i : Nat} (hi : i < N) :
  listed.getD i false = true := by
 obtain ⟨h0, o, ho, hall⟩ := mem_ready.1 hj
 have hjs : j < ops.size := (Array.getElem?_eq_some_iff.1 ho).1
 have h1 := List.all_eq_true.1 ht j (List.mem_range.2 hjs)
 simp only [Bool.or_eq_true, decide_eq_true_eq] at h1
 have h2 := List.all_eq_true.1 (h1.resolve_left (by omega)) i (List.mem_range.2 hi)
 refine waits_spec hc _ _ h2 fun o' ho' => ?_
 rw [ho] at ho'
 cases ho'
 exact hall
theorem closed_set {listed : Array Bool} (hc : closedT md ops listed) {j : Nat} (hj : j ∈ Region.ready md ops listed) : closedT md ops (listed.setIfInBounds j true) := by
 intro k o ho hk e he hb
 obtain ⟨h0, oj, hoj, hall⟩ := mem_ready.1 hj
 by_cases hjk : j = k
 ·
  subst hjk
  rw [hoj] at ho; cases ho
  exact getD_set_true (hall e he hb)
 ·
  rw [getD_set_ne false hjk] at hk
  exact getD_set_true (hc k o ho hk e he hb)
theorem getD_clash {listed : Array Bool} {i : Nat} (h1 : listed.getD i true = false) (h2 : listed.getD i false = true) : False := by
 rcases Nat.lt_or_ge i listed.size with h' | h'
 · simp [h'] at h1 h2; rw [h1] at h2; cases h2
 · simp [Array.getElem?_eq_none h'] at h2
theorem anyT_first {i : Nat} {oi : Oper} {v : Value} (hi : ops[i]? = some oi) (hsel : ∀ (j : Nat) (o : Oper) cs b, ops[j]? = some o → o.op ≠ .select cs b)
  (hQ : ∀ c a w, Q (.panic c) (a.put oi.dst v) w → Q (.panic c) a w) (hiN : i < N) (ht : tailB md ops N = true) :
  ∀ (fuel : Nat) (listed : Array Bool) (a : Act) (w : World), closedT md ops listed →
   (∀ j oj, ops[j]? = some oj → j ≠ i → listed.getD j true = false → (∀ e ∈ oj.after, Region.binds md e = true → e.on ≠ i) → oi.apart ops oj = true) →
   i ∈ Region.ready md ops listed → YieldsIf P ops S oi v a → S w →
   anyT P md ops Q S N fuel (listed.setIfInBounds i true) (a.put oi.dst v) w → anyT P md ops Q S N (fuel + 1) listed a w := by
 intro fuel
 induction fuel with
 | zero =>
  intro listed a w hc _ hr hy hS H
  refine ⟨fun h => (by rw [h] at hr; cases hr), fun j hj => ?_⟩
  by_cases hji : j = i
  · subst hji; exact hy.wpOp hi hS ⟨fun _ => hS, H⟩
  ·
   have := ready_mono hj hji; rw [H.1] at this; cases this
 | succ fuel ih =>
  intro listed a w hc hfree hr hy hS H
  refine ⟨fun h => (by rw [h] at hr; cases hr), fun j hj => ?_⟩
  by_cases hji : j = i
  · subst hji; exact hy.wpOp hi hS ⟨fun _ => hS, H⟩
  ·
   have h1 := H.2 j (ready_mono hj hji); obtain ⟨hjun, oj, hoj, hall⟩ := mem_ready.1 hj; have hnot : ∀ e ∈ oj.after, Region.binds md e = true → e.on ≠ i := fun e he hb heq =>
    getD_clash (mem_ready.1 hr).1 (heq ▸ hall e he hb)
   have hjN : j < N := by
    rcases Nat.lt_or_ge j N with h | h
    · exact h
    · exact (getD_clash (mem_ready.1 hr).1 (tail_late ht hc hj h hiN)).elim
   have h2 := wpOp_putIf hoj (hfree j oj hoj hji hjun hnot) (fun cs b => hsel i oi cs b hi) (fun cs b => hsel j oj cs b hoj) hQ hy h1; have hfree' : ∀ k ok, ops[k]? = some ok → k ≠ i → (listed.setIfInBounds j true).getD k true = false →
     (∀ e ∈ ok.after, Region.binds md e = true → e.on ≠ i) → oi.apart ops ok = true := fun k ok hk hki hun hno => by
    refine hfree k ok hk hki ?_ hno; by_cases hjk : j = k
    · subst hjk; exact hjun
    · rw [getD_set_ne true hjk] at hun; exact hun
   refine wpOp_mono (fun a' w' h3 => ⟨h3.2.1, ih (listed.setIfInBounds j true) a' w' (closed_set hc hj) hfree' (ready_mono hr (Ne.symm hji)) h3.1 (h3.2.1 hjN) ?_⟩) h2; rw [Array.setIfInBounds_comm _ _ hji]; exact h3.2.2
def closedB (md : Region.Mode) (ops : Array Oper) (listed : Array Bool) : Bool :=
 (List.range ops.size).all fun j => !listed.getD j false || ((ops[j]?).map fun o => o.after.all fun e => !Region.binds md e || listed.getD e.on false).getD true
theorem closed_spec {listed : Array Bool} (h : closedB md ops listed = true) : closedT md ops listed := by
 intro j o ho hj e he hb
 have hjs : j < ops.size := (Array.getElem?_eq_some_iff.1 ho).1
 have h1 := List.all_eq_true.1 h j (List.mem_range.2 hjs)
 simp only [hj, ho, Option.map_some, Option.getD_some, Bool.not_true, Bool.false_or] at h1
 have h2 := (Array.all_eq_true_iff_forall_mem.1 h1) e he
 simp only [hb, Bool.not_true, Bool.false_or] at h2
 exact h2
end
section
variable {P : Program} {md : Region.Mode} {l : List Oper} {Q : Exit → Act → World → Prop} {S : World → Prop} {N : Nat}
theorem takeT {i : Nat} {oi : Oper} {v : Value} {fuel : Nat} {listed : Array Bool} {a : Act} {w : World} (hi : l[i]? = some oi)
  (hB : (Region.noSelect l.toArray && Region.free md l.toArray listed i && (Region.ready md l.toArray listed).contains i && tailB md l.toArray N && closedB md l.toArray listed && decide (i < N)) = true)
  (hQ : ∀ c a w, Q (.panic c) (a.put oi.dst v) w → Q (.panic c) a w) (hy : YieldsIf P l.toArray S oi v a) (hS : S w)
  (h : anyT P md l.toArray Q S N fuel (listed.setIfInBounds i true) (a.put oi.dst v) w) : anyT P md l.toArray Q S N (fuel + 1) listed a w := by
 simp only [Bool.and_eq_true, decide_eq_true_eq] at hB
 obtain ⟨⟨⟨⟨⟨hs, hf⟩, hr⟩, ht⟩, hc⟩, hN⟩ := hB
 have hi' : l.toArray[i]? = some oi := by simpa using hi
 exact anyT_first hi' (Region.noSelect_spec hs) hQ hN ht fuel listed a w (closed_spec hc) (Region.free_spec hi' hf) (by simpa using hr) hy hS h
theorem oneT {i : Nat} {oi : Oper} {fuel : Nat} {listed : Array Bool} {a : Act} {w : World} (hi : l[i]? = some oi) (hr : (Region.ready md l.toArray listed == [i]) = true)
  (h : ∀ K : Act → World → Prop, (∀ a w, (i < N → S w) → anyT P md l.toArray Q S N fuel (listed.setIfInBounds i true) a w → K a w) →
   if Region.wanted oi (yielded l.toArray a.tmps) = true then Oper.wp P oi a w K Q else K (a.put oi.dst undef) w) : anyT P md l.toArray Q S N (fuel + 1) listed a w := by
 have hr' := beq_iff_eq.1 hr
 refine ⟨fun h0 => absurd (hr' ▸ h0) (by simp), fun j hj => ?_⟩
 rw [hr'] at hj
 obtain rfl : j = i := by simpa using hj
 exact wpOp_step (by simpa using hi) fun K hK => h K fun a w hS hW => hK a w ⟨hS, hW⟩
theorem doneT {listed : Array Bool} {a : Act} {w : World} (hr : (Region.ready md l.toArray listed == []) = true) (h : Q .normal a w) : ∀ fuel, anyT P md l.toArray Q S N fuel listed a w
 | 0 => ⟨beq_iff_eq.1 hr, h⟩
 | _ + 1 => ⟨fun _ => h, by rw [beq_iff_eq.1 hr]; simp⟩
theorem restart_any {S' : World → Prop} {N' : Nat} : ∀ (fuel : Nat) (listed : Array Bool) (a : Act) (w : World), (∀ i, i < N → listed.getD i false = true) → anyT P md l.toArray Q S' N' fuel listed a w → anyT P md l.toArray Q S N fuel listed a w
 | 0, _, _, _, _, h => h
 | fuel + 1, listed, a, w, hall, h => ⟨h.1, fun i hi => wpOp_mono (fun a' w' h' => ⟨fun hlt => (getD_clash (mem_ready.1 hi).1 (hall i hlt)).elim,
   restart_any fuel _ _ _ (fun j hj => getD_set_true (hall j hj)) h'.2⟩) (h.2 i hi)⟩
theorem restartT {fuel : Nat} {listed : Array Bool} {a : Act} {w : World} (S' : World → Prop) (N' : Nat) (hB : ((List.range N).all fun i => listed.getD i false) = true)
  (h : anyT P md l.toArray Q S' N' fuel listed a w) : anyT P md l.toArray Q S N fuel listed a w :=
 restart_any fuel listed a w (fun i hi => List.all_eq_true.1 hB i (List.mem_range.2 hi)) h
theorem regionT {id : Nat} {a : Act} {w : World} (S : World → Prop) (N : Nat) (hm : P.follows .mixedOrders = true)
  (h : anyT P .any l.toArray Q S N l.length (Array.replicate l.length false) a w.drew) : (Code.region id l.toArray true).wp P Q a w :=
 wp_region_any hm (any_of_anyT _ _ _ _ (by simpa using h))
end
theorem zA {α : Type} {l : List α} {i : Nat} {a : α} : l.toArray.setIfInBounds i a = (l.set i a).toArray := List.setIfInBounds_toArray ..
theorem z0 {α : Type} {x : α} {xs : List α} {b : α} : (x :: xs).set 0 b = b :: xs := rfl
theorem z1 {α : Type} {x : α} {xs : List α} {b : α} {n : Nat} : (x :: xs).set (n + 1) b = x :: xs.set n b := rfl
theorem tkT {P : Program} {md : Region.Mode} {l : List Oper} {Q : Exit → Act → World → Prop} {S : World → Prop} {N : Nat} {oi : Oper} {fuel : Nat} {listed : Array Bool} {a : Act} {w : World} (i : Nat) (v : Value) (hi : l[i]? = some oi) (hS : S w)
 (h2 : ∀ w, S w → (execOp a.eval oi).run P w = .ok (.value v) w)
 (h : anyT P md l.toArray Q S N fuel (listed.setIfInBounds i true) (a.put oi.dst v) w)
 (hB : (Region.noSelect l.toArray && Region.free md l.toArray listed i && (Region.ready md l.toArray listed).contains i && tailB md l.toArray N && closedB md l.toArray listed && decide (i < N)) = true)
 (hQ : ∀ c a w, Q (.panic c) (a.put oi.dst v) w → Q (.panic c) a w) (h1 : Region.wanted oi (yielded l.toArray a.tmps) = true) : anyT P md l.toArray Q S N (fuel + 1) listed a w := takeT hi hB hQ (Or.inl ⟨h1, h2⟩) hS h
theorem tkU {P : Program} {md : Region.Mode} {l : List Oper} {Q : Exit → Act → World → Prop} {S : World → Prop} {N : Nat} {oi : Oper} {fuel : Nat} {listed : Array Bool} {a : Act} {w : World} (i : Nat) (hi : l[i]? = some oi) (hS : S w)
 (h1 : Region.wanted oi (yielded l.toArray a.tmps) = false)
 (h : anyT P md l.toArray Q S N fuel (listed.setIfInBounds i true) (a.put oi.dst undef) w)
 (hB : (Region.noSelect l.toArray && Region.free md l.toArray listed i && (Region.ready md l.toArray listed).contains i && tailB md l.toArray N && closedB md l.toArray listed && decide (i < N)) = true)
 (hQ : ∀ c a w, Q (.panic c) (a.put oi.dst undef) w → Q (.panic c) a w) : anyT P md l.toArray Q S N (fuel + 1) listed a w := takeT hi hB hQ (Or.inr ⟨h1, rfl⟩) hS h
end Go.Proofs.YtagcbnpahgfgmaaGreat
namespace Go.Proofs
open Go.Shelf
def Tryz.lays189_ren : Go.Shelf.Ren := ⟨fun | 189 => 44 | 125 => 76 | 257 => 82 | 128 => 105 | 129 => 106 | 294 => 116 | 295 => 117 | 296 => 118 | 297 => 119 | 298 => 120 | 299 => 121 | 216 => 122 | 300 => 123 | 301 => 124 | 328 => 138 | 329 => 131 | 330 => 132 | 331 => 139 | 332 => 140 | 215 => 107 | 343 => 145 | n => n, fun | 28 => 33 | 3 => 3 | 46 => 90 | 0 => 0 | 51 => 117 | 53 => 119 | 4 => 4 | 183 => 111 | 182 => 110 | 131 => 52 | 5 => 5 | 9 => 9 | 218 => 138 | 222 => 142 | 228 => 149 | 229 => 150 | n => n, fun | n => n⟩
theorem Tryz.lays189 : Go.Proofs.Lays.n189 Tryz.prog Tryz.lays189_ren := {
 mixed := by kernel_rfl
 f125 := Tryz.func76.trans (congrArg some (by kernel_rfl))
 f128 := Tryz.func105.trans (congrArg some (by kernel_rfl))
 f129 := Tryz.func106.trans (congrArg some (by kernel_rfl))
 f189 := Tryz.func44.trans (congrArg some (by kernel_rfl))
 f215 := Tryz.func107.trans (congrArg some (by kernel_rfl))
 f216 := Tryz.func122.trans (congrArg some (by kernel_rfl))
 f257 := Tryz.func82.trans (congrArg some (by kernel_rfl))
 f294 := Tryz.func116.trans (congrArg some (by kernel_rfl))
 f295 := Tryz.func117.trans (congrArg some (by kernel_rfl))
 f296 := Tryz.func118.trans (congrArg some (by kernel_rfl))
 f297 := Tryz.func119.trans (congrArg some (by kernel_rfl))
 f298 := Tryz.func120.trans (congrArg some (by kernel_rfl))
 f299 := Tryz.func121.trans (congrArg some (by kernel_rfl))
 f300 := Tryz.func123.trans (congrArg some (by kernel_rfl))
 f301 := Tryz.func124.trans (congrArg some (by kernel_rfl))
 f328 := Tryz.func138.trans (congrArg some (by kernel_rfl))
 f329 := Tryz.func131.trans (congrArg some (by kernel_rfl))
 f330 := Tryz.func132.trans (congrArg some (by kernel_rfl))
 f331 := Tryz.func139.trans (congrArg some (by kernel_rfl))
 f332 := Tryz.func140.trans (congrArg some (by kernel_rfl))
 f343 := Tryz.func145.trans (congrArg some (by kernel_rfl))
 t0 := Tryz.underlying0
 a0 := Tryz.isAgg0
 z0 := Tryz.sizeOf0
 v0 := Tryz.zeroValue0
 t3 := Tryz.underlying3
 a3 := Tryz.isAgg3
 z3 := Tryz.sizeOf3
 v3 := Tryz.zeroValue3
 t4 := Tryz.underlying4
 a4 := Tryz.isAgg4
 z4 := Tryz.sizeOf4
 v4 := Tryz.zeroValue4
 t5 := Tryz.underlying5
 a5 := Tryz.isAgg5
 z5 := Tryz.sizeOf5
 v5 := Tryz.zeroValue5
 t9 := Tryz.underlying9
 a9 := Tryz.isAgg9
 z9 := Tryz.sizeOf9
 v9 := Tryz.zeroValue9
 t28 := Tryz.underlying33
 a28 := Tryz.isAgg33
 z28 := Tryz.sizeOf33
 v28 := Tryz.zeroValue33
 t46 := Tryz.underlying90
 a46 := Tryz.isAgg90
 z46 := Tryz.sizeOf90
 v46 := Tryz.zeroValue90
 t51 := Tryz.underlying117
 a51 := Tryz.isAgg117
 z51 := Tryz.sizeOf117
 v51 := Tryz.zeroValue117
 t53 := Tryz.underlying119
 a53 := Tryz.isAgg119
 z53 := Tryz.sizeOf119
 v53 := Tryz.zeroValue119
 t131 := Tryz.underlying52
 a131 := Tryz.isAgg52
 z131 := Tryz.sizeOf52
 v131 := Tryz.zeroValue52
 t182 := Tryz.underlying110
 a182 := Tryz.isAgg110
 z182 := Tryz.sizeOf110
 v182 := Tryz.zeroValue110
 t183 := Tryz.underlying111
 a183 := Tryz.isAgg111
 z183 := Tryz.sizeOf111
 v183 := Tryz.zeroValue111
 t218 := Tryz.underlying138
 a218 := Tryz.isAgg138
 z218 := Tryz.sizeOf138
 v218 := Tryz.zeroValue138
 t222 := Tryz.underlying142
 a222 := Tryz.isAgg142
 z222 := Tryz.sizeOf142
 v222 := Tryz.zeroValue142
 t228 := Tryz.underlying149
 a228 := Tryz.isAgg149
 z228 := Tryz.sizeOf149
 v228 := Tryz.zeroValue149
 t229 := Tryz.underlying150
 a229 := Tryz.isAgg150
 z229 := Tryz.sizeOf150
 v229 := Tryz.zeroValue150 }
open Go.Sort Go.RowKit in
theorem Tryz.slices_Sort_int (blk off cap : Nat) (zs : List Int) (w : World) (hH : Holds (Value.int .i64) w blk off zs.toArray) (hblk : blk < w.heap.size) (hsz : zs.length < 4611686018427387904) :
  Calls Tryz.prog 44 #[.slice (some ⟨blk, off, none⟩) zs.length cap] w fun e w' =>
   e = .returned (.tuple #[]) ∧ ∃ n os, w' = grow (putRow (Value.int .i64) (Sort.ahead w n) blk off (zs.mergeSort fun x y => decide (x ≤ y)).toArray) os := Any.slices_Sort_int Tryz.lays189 blk off cap zs w hH hblk hsz
def Tryz.laysNm215_ren : Go.Shelf.Ren := ⟨fun | 15 => 65 | n => n, fun | 22 => 33 | 3 => 3 | 4 => 4 | n => n, fun | n => n⟩
theorem Tryz.laysNm215 : Go.Proofs.Lays2.n15 Tryz.prog Tryz.laysNm215_ren := {
 mixed := by kernel_rfl
 f15 := Tryz.func65.trans (congrArg some (by kernel_rfl))
 t3 := Tryz.underlying3
 a3 := Tryz.isAgg3
 z3 := Tryz.sizeOf3
 v3 := Tryz.zeroValue3
 t4 := Tryz.underlying4
 a4 := Tryz.isAgg4
 z4 := Tryz.sizeOf4
 v4 := Tryz.zeroValue4
 t22 := Tryz.underlying33
 a22 := Tryz.isAgg33
 z22 := Tryz.sizeOf33
 v22 := Tryz.zeroValue33
 i3 := by kernel_rfl }
open Go.RowKit Go.Lib in
theorem Tryz.slices_Clone_int (b off n c : Nat) (zs : List Int) (w : World) (hz : n ≤ zs.length) (hbig : n * 8 ≤ 140737488355328) (hc : ∀ j, j < zs.length → w.cell? ⟨b, off + j, none⟩ = some (.int .i64 (zs.getD j 0))) :
  Calls Tryz.prog 65 #[.slice (some ⟨b, off, none⟩) n c] w fun e w' => ∃ v', e = .returned v' ∧ w'.ownsRow w.heap.size 3 1 v' n ((zs.take n).map (Value.int .i64)) ∧ v' ≠ .slice none 0 0 ∧ Below w.heap.size w w' := Any.slices_Clone_int Tryz.laysNm215 b off n c zs w hz hbig hc
open Go.RowKit Go.Lib in
theorem Tryz.slices_Clone_int_nil (n c : Nat) (w : World) :
  Calls Tryz.prog 65 #[.slice none n c] w fun e w' => e = .returned (.slice none 0 0) ∧ w' = w := Any.slices_Clone_int_nil Tryz.laysNm215 n c w
open Go.RowKit Go.Lib in
theorem Tryz.slices_Clone_int_zero (a : Addr) (c : Nat) (w : World) :
  Calls Tryz.prog 65 #[.slice (some a) 0 c] w fun e w' => ∃ v', e = .returned v' ∧ w'.ownsRow w.heap.size 3 1 v' 0 [] ∧ v' ≠ .slice none 0 0 ∧ Below w.heap.size w w' := Any.slices_Clone_int_zero Tryz.laysNm215 a c w
def Tryz.laysNm220_ren : Go.Shelf.Ren := ⟨fun | 20 => 46 | n => n, fun | 22 => 33 | 3 => 3 | 4 => 4 | 0 => 0 | n => n, fun | n => n⟩
theorem Tryz.laysNm220 : Go.Proofs.Lays2.n20 Tryz.prog Tryz.laysNm220_ren := {
 mixed := by kernel_rfl
 f20 := Tryz.func46.trans (congrArg some (by kernel_rfl))
 t0 := Tryz.underlying0
 a0 := Tryz.isAgg0
 z0 := Tryz.sizeOf0
 v0 := Tryz.zeroValue0
 t3 := Tryz.underlying3
 a3 := Tryz.isAgg3
 z3 := Tryz.sizeOf3
 v3 := Tryz.zeroValue3
 t4 := Tryz.underlying4
 a4 := Tryz.isAgg4
 z4 := Tryz.sizeOf4
 v4 := Tryz.zeroValue4
 t22 := Tryz.underlying33
 a22 := Tryz.isAgg33
 z22 := Tryz.sizeOf33
 v22 := Tryz.zeroValue33
 i3 := by kernel_rfl }
open Go.RowKit Go.Lib Go.Sort in
theorem Tryz.slices_Compact_int (blk off cap : Nat) (zs : List Int) (w : World) (hH : Holds (Value.int .i64) w blk off zs.toArray) (hsz : zs.length ≤ 9223372036854775807) (hcap : zs.length ≤ cap) :
  Calls Tryz.prog 46 #[.slice (some ⟨blk, off, none⟩) zs.length cap] w fun e w' => e = .returned (.slice (some ⟨blk, off, none⟩) (Lib.compact zs).length cap) ∧ ∃ q, w' = putRow (Value.int .i64) (Sort.ahead w q) blk off (Lib.compact zs ++ List.replicate (zs.length - (Lib.compact zs).length) 0).toArray := Any.slices_Compact_int Tryz.laysNm220 blk off cap zs w hH hsz hcap
open Go.RowKit Go.Lib Go.Sort in
theorem Tryz.slices_Compact_int_empty (a : Option Addr) (cap : Nat) (w : World) :
  Calls Tryz.prog 46 #[.slice a 0 cap] w fun e w' => e = .returned (.slice a 0 cap) ∧ w' = w := Any.slices_Compact_int_empty Tryz.laysNm220 a cap w
def Tryz.laysNm225_ren : Go.Shelf.Ren := ⟨fun | 25 => 128 | 31 => 122 | 32 => 142 | 37 => 107 | n => n, fun | 22 => 33 | 3 => 3 | 4 => 4 | 40 => 90 | 0 => 0 | n => n, fun | n => n⟩
theorem Tryz.laysNm225 : Go.Proofs.Lays2.n25 Tryz.prog Tryz.laysNm225_ren := {
 mixed := by kernel_rfl
 f25 := Tryz.func128.trans (congrArg some (by kernel_rfl))
 f31 := Tryz.func122.trans (congrArg some (by kernel_rfl))
 f32 := Tryz.func142.trans (congrArg some (by kernel_rfl))
 f37 := Tryz.func107.trans (congrArg some (by kernel_rfl))
 t0 := Tryz.underlying0
 a0 := Tryz.isAgg0
 z0 := Tryz.sizeOf0
 v0 := Tryz.zeroValue0
 t3 := Tryz.underlying3
 a3 := Tryz.isAgg3
 z3 := Tryz.sizeOf3
 v3 := Tryz.zeroValue3
 t4 := Tryz.underlying4
 a4 := Tryz.isAgg4
 z4 := Tryz.sizeOf4
 v4 := Tryz.zeroValue4
 t22 := Tryz.underlying33
 a22 := Tryz.isAgg33
 z22 := Tryz.sizeOf33
 v22 := Tryz.zeroValue33
 t40 := Tryz.underlying90
 a40 := Tryz.isAgg90
 z40 := Tryz.sizeOf90
 v40 := Tryz.zeroValue90 }
open Go.RowKit Go.Lib in
theorem Tryz.slices_BinarySearch_int (b off n c : Nat) (zs : List Int) (x : Int) (w : World) (hz : n ≤ zs.length) (hbig : n < 4611686018427387904) (hc : ∀ j, j < zs.length → w.cell? ⟨b, off + j, none⟩ = some (.int .i64 (zs.getD j 0))) (hs : (zs.take n).Pairwise (· ≤ ·)) :
  Calls Tryz.prog 128 #[.slice (some ⟨b, off, none⟩) n c, .int .i64 x] w fun e w' => e = .returned (.tuple #[.int .i64 ((zs.take n).countP (· < x) : Nat), .bool ((zs.take n).contains x)]) ∧ ∃ q, w' = w.drewN q := Any.slices_BinarySearch_int Tryz.laysNm225 b off n c zs x w hz hbig hc hs
open Go.RowKit Go.Sort in
theorem Tryz.slices_Sort_int_none (p : Option Addr) (cap : Nat) (w : World) :
  Calls Tryz.prog 44 #[.slice p 0 cap] w fun e w' => e = .returned (.tuple #[]) ∧ w' = w := Any.slices_Sort_int_none Tryz.lays189 p cap w
def Tryz.laysSlE31_f69_ren : Go.Shelf.Ren := ⟨fun | 31 => 69 | 29 => 91 | n => n, fun | 22 => 78 | 23 => 4 | 4 => 4 | 3 => 3 | 0 => 0 | n => n, fun | n => n⟩
theorem Tryz.laysSlE31_f69 : Go.Proofs.SlLaysE.n31 Tryz.prog Tryz.laysSlE31_f69_ren := {
 mixed := by kernel_rfl
 f29 := ⟨Tryz.f91.name, by decide, Tryz.func91.trans (congrArg some (by kernel_rfl))⟩
 f31 := ⟨Tryz.f69.name, by decide, Tryz.func69.trans (congrArg some (by kernel_rfl))⟩
 t0 := Tryz.underlying0
 a0 := Tryz.isAgg0
 z0 := Tryz.sizeOf0
 v0 := Tryz.zeroValue0
 t3 := Tryz.underlying3
 a3 := Tryz.isAgg3
 z3 := Tryz.sizeOf3
 v3 := Tryz.zeroValue3
 t4 := Tryz.underlying4
 a4 := Tryz.isAgg4
 z4 := Tryz.sizeOf4
 v4 := Tryz.zeroValue4
 t22 := Tryz.underlying78
 a22 := Tryz.isAgg78
 z22 := Tryz.sizeOf78
 v22 := Tryz.zeroValue78
 a23 := Tryz.isAgg4
 z23 := Tryz.sizeOf4 }
open Go.Lib in
theorem Tryz.slices_Contains {α : Type} [Inhabited α] (enc : α → Value) (eq : α → α → Bool) (heq : EqlAt Tryz.prog 4 enc eq) (b off n c : Nat) (zs : List α) (x : α) (w : World) (hz : n ≤ zs.length) (hbig : n ≤ 9223372036854775807) (hc : ∀ j, j < zs.length → w.cell? ⟨b, off + j, none⟩ = some (enc zs[j]!)) :
  Calls Tryz.prog 69 #[.slice (some ⟨b, off, none⟩) n c, enc x] w fun e w' => e = .returned (.bool ((zs.take n).any fun y => eq x y)) ∧ w' = w := AnyE.slices_Contains Tryz.laysSlE31_f69 enc eq heq b off n c zs x w hz hbig hc
def Tryz.laySortL_ren : Go.Shelf.Ren := ⟨fun | 6 => 42 | 15 => 76 | 14 => 81 | 28 => 105 | 29 => 106 | 20 => 108 | 21 => 109 | 22 => 110 | 23 => 111 | 24 => 112 | 25 => 113 | 26 => 114 | 27 => 115 | 46 => 135 | 47 => 131 | 48 => 132 | 49 => 136 | 50 => 137 | 57 => 144 | n => n, fun | 22 => 22 | 24 => 38 | 25 => 67 | 3 => 3 | 39 => 90 | 0 => 0 | 53 => 117 | 55 => 119 | 4 => 4 | 46 => 111 | 45 => 110 | 50 => 52 | 5 => 5 | 9 => 9 | 66 => 138 | 70 => 142 | 76 => 149 | 77 => 150 | n => n, fun | n => n⟩
theorem Tryz.laySortL : Go.Proofs.SlLaysF0.n6 Tryz.prog Tryz.laySortL_ren := {
 mixed := by kernel_rfl
 f6 := ⟨Tryz.f42.name, by decide, Tryz.func42.trans (congrArg some (by kernel_rfl))⟩
 f14 := ⟨Tryz.f81.name, by decide, Tryz.func81.trans (congrArg some (by kernel_rfl))⟩
 f15 := Tryz.func76.trans (congrArg some (by kernel_rfl))
 f20 := ⟨Tryz.f108.name, by decide, Tryz.func108.trans (congrArg some (by kernel_rfl))⟩
 f21 := ⟨Tryz.f109.name, by decide, Tryz.func109.trans (congrArg some (by kernel_rfl))⟩
 f22 := ⟨Tryz.f110.name, by decide, Tryz.func110.trans (congrArg some (by kernel_rfl))⟩
 f23 := ⟨Tryz.f111.name, by decide, Tryz.func111.trans (congrArg some (by kernel_rfl))⟩
 f24 := ⟨Tryz.f112.name, by decide, Tryz.func112.trans (congrArg some (by kernel_rfl))⟩
 f25 := ⟨Tryz.f113.name, by decide, Tryz.func113.trans (congrArg some (by kernel_rfl))⟩
 f26 := ⟨Tryz.f114.name, by decide, Tryz.func114.trans (congrArg some (by kernel_rfl))⟩
 f27 := ⟨Tryz.f115.name, by decide, Tryz.func115.trans (congrArg some (by kernel_rfl))⟩
 f28 := Tryz.func105.trans (congrArg some (by kernel_rfl))
 f29 := Tryz.func106.trans (congrArg some (by kernel_rfl))
 f46 := ⟨Tryz.f135.name, by decide, Tryz.func135.trans (congrArg some (by kernel_rfl))⟩
 f47 := Tryz.func131.trans (congrArg some (by kernel_rfl))
 f48 := Tryz.func132.trans (congrArg some (by kernel_rfl))
 f49 := ⟨Tryz.f136.name, by decide, Tryz.func136.trans (congrArg some (by kernel_rfl))⟩
 f50 := ⟨Tryz.f137.name, by decide, Tryz.func137.trans (congrArg some (by kernel_rfl))⟩
 f57 := ⟨Tryz.f144.name, by decide, Tryz.func144.trans (congrArg some (by kernel_rfl))⟩
 t0 := Tryz.underlying0
 a0 := Tryz.isAgg0
 z0 := Tryz.sizeOf0
 v0 := Tryz.zeroValue0
 t3 := Tryz.underlying3
 a3 := Tryz.isAgg3
 z3 := Tryz.sizeOf3
 v3 := Tryz.zeroValue3
 t4 := Tryz.underlying4
 a4 := Tryz.isAgg4
 z4 := Tryz.sizeOf4
 v4 := Tryz.zeroValue4
 t5 := Tryz.underlying5
 a5 := Tryz.isAgg5
 z5 := Tryz.sizeOf5
 v5 := Tryz.zeroValue5
 t9 := Tryz.underlying9
 a9 := Tryz.isAgg9
 z9 := Tryz.sizeOf9
 v9 := Tryz.zeroValue9
 t22 := Tryz.underlying22
 a22 := Tryz.isAgg22
 z22 := Tryz.sizeOf22
 v22 := Tryz.zeroValue22
 t25 := Tryz.underlying67
 a25 := Tryz.isAgg67
 z25 := Tryz.sizeOf67
 v25 := Tryz.zeroValue67
 t39 := Tryz.underlying90
 a39 := Tryz.isAgg90
 z39 := Tryz.sizeOf90
 v39 := Tryz.zeroValue90
 t45 := Tryz.underlying110
 a45 := Tryz.isAgg110
 z45 := Tryz.sizeOf110
 v45 := Tryz.zeroValue110
 t46 := Tryz.underlying111
 a46 := Tryz.isAgg111
 z46 := Tryz.sizeOf111
 v46 := Tryz.zeroValue111
 t50 := Tryz.underlying52
 a50 := Tryz.isAgg52
 z50 := Tryz.sizeOf52
 v50 := Tryz.zeroValue52
 t53 := Tryz.underlying117
 a53 := Tryz.isAgg117
 z53 := Tryz.sizeOf117
 v53 := Tryz.zeroValue117
 t55 := Tryz.underlying119
 a55 := Tryz.isAgg119
 z55 := Tryz.sizeOf119
 v55 := Tryz.zeroValue119
 t66 := Tryz.underlying138
 a66 := Tryz.isAgg138
 z66 := Tryz.sizeOf138
 v66 := Tryz.zeroValue138
 t70 := Tryz.underlying142
 a70 := Tryz.isAgg142
 z70 := Tryz.sizeOf142
 v70 := Tryz.zeroValue142
 t76 := Tryz.underlying149
 a76 := Tryz.isAgg149
 z76 := Tryz.sizeOf149
 v76 := Tryz.zeroValue149
 t77 := Tryz.underlying150
 a77 := Tryz.isAgg150
 z77 := Tryz.sizeOf150
 v77 := Tryz.zeroValue150 }
def Tryz.laySortP_ren : Go.Shelf.Ren := ⟨fun | 6 => 37 | 15 => 76 | 14 => 75 | 28 => 105 | 29 => 106 | 20 => 97 | 21 => 98 | 22 => 99 | 23 => 100 | 24 => 101 | 25 => 102 | 26 => 103 | 27 => 104 | 46 => 130 | 47 => 131 | 48 => 132 | 49 => 133 | 50 => 134 | 57 => 143 | n => n, fun | 22 => 24 | 24 => 49 | 25 => 60 | 3 => 3 | 39 => 90 | 0 => 0 | 53 => 117 | 55 => 119 | 4 => 4 | 46 => 111 | 45 => 110 | 50 => 52 | 5 => 5 | 9 => 9 | 66 => 138 | 70 => 142 | 76 => 149 | 77 => 150 | n => n, fun | n => n⟩
theorem Tryz.laySortP : Go.Proofs.SlLaysF0.n6 Tryz.prog Tryz.laySortP_ren := {
 mixed := by kernel_rfl
 f6 := ⟨Tryz.f37.name, by decide, Tryz.func37.trans (congrArg some (by kernel_rfl))⟩
 f14 := ⟨Tryz.f75.name, by decide, Tryz.func75.trans (congrArg some (by kernel_rfl))⟩
 f15 := Tryz.func76.trans (congrArg some (by kernel_rfl))
 f20 := ⟨Tryz.f97.name, by decide, Tryz.func97.trans (congrArg some (by kernel_rfl))⟩
 f21 := ⟨Tryz.f98.name, by decide, Tryz.func98.trans (congrArg some (by kernel_rfl))⟩
 f22 := ⟨Tryz.f99.name, by decide, Tryz.func99.trans (congrArg some (by kernel_rfl))⟩
 f23 := ⟨Tryz.f100.name, by decide, Tryz.func100.trans (congrArg some (by kernel_rfl))⟩
 f24 := ⟨Tryz.f101.name, by decide, Tryz.func101.trans (congrArg some (by kernel_rfl))⟩
 f25 := ⟨Tryz.f102.name, by decide, Tryz.func102.trans (congrArg some (by kernel_rfl))⟩
 f26 := ⟨Tryz.f103.name, by decide, Tryz.func103.trans (congrArg some (by kernel_rfl))⟩
 f27 := ⟨Tryz.f104.name, by decide, Tryz.func104.trans (congrArg some (by kernel_rfl))⟩
 f28 := Tryz.func105.trans (congrArg some (by kernel_rfl))
 f29 := Tryz.func106.trans (congrArg some (by kernel_rfl))
 f46 := ⟨Tryz.f130.name, by decide, Tryz.func130.trans (congrArg some (by kernel_rfl))⟩
 f47 := Tryz.func131.trans (congrArg some (by kernel_rfl))
 f48 := Tryz.func132.trans (congrArg some (by kernel_rfl))
 f49 := ⟨Tryz.f133.name, by decide, Tryz.func133.trans (congrArg some (by kernel_rfl))⟩
 f50 := ⟨Tryz.f134.name, by decide, Tryz.func134.trans (congrArg some (by kernel_rfl))⟩
 f57 := ⟨Tryz.f143.name, by decide, Tryz.func143.trans (congrArg some (by kernel_rfl))⟩
 t0 := Tryz.underlying0
 a0 := Tryz.isAgg0
 z0 := Tryz.sizeOf0
 v0 := Tryz.zeroValue0
 t3 := Tryz.underlying3
 a3 := Tryz.isAgg3
 z3 := Tryz.sizeOf3
 v3 := Tryz.zeroValue3
 t4 := Tryz.underlying4
 a4 := Tryz.isAgg4
 z4 := Tryz.sizeOf4
 v4 := Tryz.zeroValue4
 t5 := Tryz.underlying5
 a5 := Tryz.isAgg5
 z5 := Tryz.sizeOf5
 v5 := Tryz.zeroValue5
 t9 := Tryz.underlying9
 a9 := Tryz.isAgg9
 z9 := Tryz.sizeOf9
 v9 := Tryz.zeroValue9
 t22 := Tryz.underlying24
 a22 := Tryz.isAgg24
 z22 := Tryz.sizeOf24
 v22 := Tryz.zeroValue24
 t25 := Tryz.underlying60
 a25 := Tryz.isAgg60
 z25 := Tryz.sizeOf60
 v25 := Tryz.zeroValue60
 t39 := Tryz.underlying90
 a39 := Tryz.isAgg90
 z39 := Tryz.sizeOf90
 v39 := Tryz.zeroValue90
 t45 := Tryz.underlying110
 a45 := Tryz.isAgg110
 z45 := Tryz.sizeOf110
 v45 := Tryz.zeroValue110
 t46 := Tryz.underlying111
 a46 := Tryz.isAgg111
 z46 := Tryz.sizeOf111
 v46 := Tryz.zeroValue111
 t50 := Tryz.underlying52
 a50 := Tryz.isAgg52
 z50 := Tryz.sizeOf52
 v50 := Tryz.zeroValue52
 t53 := Tryz.underlying117
 a53 := Tryz.isAgg117
 z53 := Tryz.sizeOf117
 v53 := Tryz.zeroValue117
 t55 := Tryz.underlying119
 a55 := Tryz.isAgg119
 z55 := Tryz.sizeOf119
 v55 := Tryz.zeroValue119
 t66 := Tryz.underlying138
 a66 := Tryz.isAgg138
 z66 := Tryz.sizeOf138
 v66 := Tryz.zeroValue138
 t70 := Tryz.underlying142
 a70 := Tryz.isAgg142
 z70 := Tryz.sizeOf142
 v70 := Tryz.zeroValue142
 t76 := Tryz.underlying149
 a76 := Tryz.isAgg149
 z76 := Tryz.sizeOf149
 v76 := Tryz.zeroValue149
 t77 := Tryz.underlying150
 a77 := Tryz.isAgg150
 z77 := Tryz.sizeOf150
 v77 := Tryz.zeroValue150 }
end Go.Proofs
namespace Go.Proofs.YtagcbnpahgfgmaaGreat
open Go Go.RowKit Go.Sort
theorem link_info : (Tryz.prog.info? 38).map (fun i => (i.zero, i.size, i.bytes)) = some (some (.agg #[.int .i64 0, .int .i64 0, .int .i64 0]), 3, 24) := by kernel_rfl
theorem lkCells_one (ls : List Lk) : ∀ u ∈ lkCells ls, u.oneCell' = true := by
 intro u hu
 unfold lkCells at hu
 obtain ⟨e, _, he⟩ := List.mem_flatMap.1 hu
 simp at he
 rcases he with rfl | rfl | rfl <;> rfl
theorem lkCells_set (ls : List Lk) (i : Nat) (h : i < ls.length) (a b : Int) : ((lkCells ls).set (i * 3) (.int .i64 a)).set (i * 3 + 1) (.int .i64 b) = lkCells (ls.set i (a, b, ls[i].2.2)) := by
 induction ls generalizing i with
 | nil => simp at h
 | cons e ls ih =>
  cases i with
  | zero => simp [lkCells]
  | succ i =>
   have := ih i (by simpa using h); have e1 : (i + 1) * 3 = i * 3 + 1 + 1 + 1 := by omega
   simp only [lkCells, List.flatMap_cons, List.cons_append, List.nil_append, List.getElem_cons_succ, List.set_cons_succ] at this ⊢; rw [e1]; simp only [List.set_cons_succ]; rw [this]
def OwnL (w : World) (v : Value) (ls : List Lk) : Prop := Own w v 38 3 ls.length (lkCells ls)
def RetLk (w : World) (ls : List Lk) (e : Ending) (w' : World) : Prop :=
 ∃ v, e = .returned v ∧ OwnL w' v ls ∧ (∀ g, v.ownBlock = some g → w.heap.size ≤ g) ∧ Below w.heap.size w w'
theorem OwnL.read {w : World} {v : Value} {ls : List Lk} (h : OwnL w v ls) : ∃ a c, v = .slice a ls.length c ∧ RdL w a ls ∧ (∀ g, a = some g → v.ownBlock = some g.block) ∧ c ≤ maxLen ∧ ls.length ≤ c := by
 rcases h.2 with ⟨rfl, h0⟩ | ⟨g, cap, rfl, hc, hr⟩
 ·
  obtain rfl := List.eq_nil_of_length_eq_zero h0
  exact ⟨none, 0, rfl, rdL_nil _ _, (fun g hg => by cases hg), by unfold maxLen; omega, by simp⟩
 · exact ⟨_, cap, rfl, hr.at_, fun g hg => by cases hg; rfl, hr.cap_le, hc⟩
theorem wpList_append_idle {w : World} {ops : Array Oper} {rest : List Oper} {o : Oper} {a : Act} {Q : Exit → Act → World → Prop} (hgd : o.guard = none) (sl x : Operand)
  (ho : o.op = .call { callee := .builtin .append, args := #[sl, x], argTypes := #[22, 22] }) (a0 ad : Option Addr) (n c0 c : Nat)
  (hs : a.eval sl = .slice a0 n c0) (hx : a.eval x = .slice ad 0 c) (hn : n ≤ c0) (h : wpList Tryz.prog ops Q rest (a.put o.dst (.slice a0 n c0)) w) : wpList Tryz.prog ops Q (o :: rest) a w := by
 refine wpList_plain hgd fun K hK => ?_
 have hrun : (Builtin.append_ #[22, 22] o.type #[.slice a0 n c0, .slice ad 0 c]).run Tryz.prog w = .ok (.slice a0 n c0) w := by
  obtain ⟨i, hi, _⟩ := info_parts link_info
  cases ad <;> cases a0 <;> simp [Builtin.append_, run_underlying Tryz.underlying22, sizeOf, typeInfo, hi, Builtin.lenOf, Builtin.firstCells, storeCells, loadCells, loadCellsFrom, hn]
 unfold Oper.wp
 simp [execOp, ho, resolve, invoke, builtin, hs, hx, hrun, Result.andThen]
 exact hK _ _ h
theorem clone_walk (a : Option Addr) (cap : Nat) (ls : List Lk) (w : World) (hr : RdL w a ls) (hle : ls.length ≤ 1000000) :
  Calls Tryz.prog 47 #[.slice a ls.length cap] w (RetLk w ls) := by
 have q22 : ∀ (w : World) (a : Option Addr) (n c n' c' : Nat), (binOp .eql 22 (.slice a n c) (.slice none n' c')).run Tryz.prog w = .ok (.bool a.isNone) w := fun w a n c n' c' => Lib.run_eql_slice_nil w _ _ a n c n' c' Tryz.underlying22
 have hrow : Row (w.alloc (.cells #[] 38)) w.heap.size 38 3 0 [] := by
  have := row_new w #[] 38 3 0 rfl (by unfold maxLen; omega)
  simpa using this
 by_cases h0 : ls.length = 0
 ·
  obtain rfl := List.eq_nil_of_length_eq_zero h0
  cases a with
  | none =>
   go_enter Tryz.func47, Tryz.ntmps47; go_wp2_with fail; go_ret; exact ⟨_, rfl, own_nil _ _ _, fun g hg => by simp [Value.ownBlock] at hg, bl_refl _⟩
  | some ad =>
   go_enter Tryz.func47, Tryz.ntmps47; go_wp2_with (at_builtin; refine wpList_append_idle rfl _ _ rfl (some ⟨w.heap.size, 0, none⟩) (some ad) 0 0 cap rfl rfl (Nat.le_refl _) ?_); go_ret; exact ⟨_, rfl, Row.own hrow rfl (Nat.le_refl _), fun g hg => by simp [Value.ownBlock] at hg; omega, bl_alloc _ _⟩
 ·
  obtain ⟨b, o, rfl, _⟩ := hr.at 0 (by omega)
  have hcells : ∀ j u, (lkCells ls)[j]? = some u → (w.alloc (.cells #[] 38)).cell? ((⟨b, o, none⟩ : Addr).add j) = some u := by
   intro j u hu; obtain ⟨b', o', e, hc⟩ := hr j u hu; simp at e; obtain ⟨rfl, rfl⟩ := e; have hc' := keep_cell (bl_alloc w (.cells #[] 38)) hc; unfold Addr.add; split <;> simp_all
  have hown : Own (w.alloc (.cells #[] 38)) (.slice (some ⟨w.heap.size, 0, none⟩) 0 0) 38 3 0 [] := Row.own hrow rfl (Nat.le_refl _)
  have HC := Lib.hid hcells; clear hcells hr
  go_enter Tryz.func47, Tryz.ntmps47
  go_wp2_with (at_builtin; refine wpList_append_row _ rfl (.tmp 5) (.tmp 6) 22 rfl 38 (.agg #[.int .i64 0, .int .i64 0, .int .i64 0]) 3 24 Tryz.underlying22 link_info rfl _ 0 [] rfl hown ⟨b, o, none⟩ ls.length cap (lkCells ls) rfl (lkCells_length ls) HC.out (lkCells_one ls) (by omega) (by unfold maxLen; omega) (by omega) ?_)
  intro g c w1 hr1 hc1 hgr1 hor1
  have hb1 : Below w.heap.size w w1 := (bl_alloc _ _).grown hgr1 (by simp) (fun k hk => by simp [Value.ownBlock] at hk; omega)
  have hor2 : w.heap.size ≤ g := by
   rcases hor1 with h | h
   · simp [Value.ownBlock] at h; omega
   · omega
  go_wp2_with fail
  go_ret
  refine ⟨_, rfl, ?_, fun k hk => by simp [Value.ownBlock] at hk; omega, hb1⟩
  have := hr1.own (n := ls.length) (lkCells_length ls) (by simpa using hc1)
  simpa [OwnL] using this
def lkEnc (k : Lk) : List Value := [.int .i64 k.1, .int .i64 k.2.1, .int .i64 k.2.2]
theorem flatK_lk (ls : List Lk) : (flatK lkEnc 3 ls.toArray).toList = lkCells ls := by
 apply List.ext_getElem?
 intro i
 by_cases hi : i < ls.length * 3
 ·
  have hk : i / 3 < ls.length := by omega
  have h1 : (flatK lkEnc 3 ls.toArray).toList[i]? = some ((lkEnc ls[i / 3])[i % 3]!) := by
   rw [Array.getElem?_toList, Array.getElem?_eq_getElem (by simpa using hi)]; simp [flatK, hk]
  rw [h1]
  obtain ⟨g1, g2, g3⟩ := lkCells_get ls (i / 3) hk
  have h3 : i % 3 = 0 ∨ i % 3 = 1 ∨ i % 3 = 2 := by omega
  rcases h3 with h | h | h
  · rw [show i / 3 * 3 = i by omega] at g1; rw [g1, h]; rfl
  · rw [show i / 3 * 3 + 1 = i by omega] at g2; rw [g2, h]; rfl
  · rw [show i / 3 * 3 + 2 = i by omega] at g3; rw [g3, h]; rfl
 · rw [List.getElem?_eq_none (by simp; omega), List.getElem?_eq_none (by rw [lkCells_length]; omega)]
theorem Row.holdsK {w : World} {g cap : Nat} {e : TypeId} {ls : List Lk} (h : Row w g e 3 cap (lkCells ls)) : HoldsK lkEnc 3 w g 0 ls.toArray := by
 intro j hj
 have hj' : j < (lkCells ls).length := by rw [lkCells_length]; simpa using hj
 refine ⟨?_, h.frozen _⟩
 rw [Nat.zero_add, h.cell j hj']
 have := flatK_lk ls
 congr 1
 have h2 : (flatK lkEnc 3 ls.toArray).toList[j]? = some ((lkCells ls)[j]) := by rw [this]; simp [hj']
 rw [Array.getElem?_toList] at h2
 simp [getElem!_def, h2]
theorem Row.sortedK {w : World} {g cap n : Nat} {e : TypeId} {os : Array Obj} {ls ts : List Lk} (h : Row w g e 3 cap (lkCells ls)) (hl : ts.length = ls.length) :
  Row (sortWorldK lkEnc 3 w g 0 n ts.toArray os) g e 3 cap (lkCells ts) ∧ w.grownBy (sortWorldK lkEnc 3 w g 0 n ts.toArray os) (some g) := by
 obtain ⟨cur, hg, hs, hle, hm, ht⟩ := h
 have hlt : g < w.heap.size := (Array.getElem?_eq_some_iff.1 hg).1
 have hcur : (sortWorldK lkEnc 3 w g 0 n ts.toArray os).heap[g]? = some (.cells (putCells id 0 (flatK lkEnc 3 ts.toArray) cur) e (0, 0)) := by
  unfold sortWorldK
  rw [heap_grow_old _ _ (by simpa [putRowK, putRow, mapBlock, Sort.ahead] using hlt)]
  simp [putRowK, putRow, mapBlock, Sort.ahead, Array.getElem?_modify, hg, onCells]
 have hlen : (lkCells ts).length = (lkCells ls).length := by rw [lkCells_length, lkCells_length, hl]
 refine ⟨⟨_, hcur, by simpa [putCells] using hs, by rw [hlen]; exact hle, hm, ?_⟩, ⟨rfl, rfl, rfl, by simp [sortWorldK, grow, putRowK, putRow, mapBlock, Sort.ahead], fun k hk hne => ?_⟩⟩
 ·
  apply List.ext_getElem?
  intro j
  by_cases hj : j < (lkCells ts).length
  ·
   rw [List.getElem?_take_of_lt hj, Array.getElem?_toList]; have hjc : j < cur.size := by rw [hlen] at hj; omega
   have hf : j < (flatK lkEnc 3 ts.toArray).size := by rw [lkCells_length] at hj; simpa using hj
   have h2 : (flatK lkEnc 3 ts.toArray)[j]? = (lkCells ts)[j]? := by rw [← Array.getElem?_toList, flatK_lk]
   rw [← h2]; have hf' : j < ts.length * 3 := by simpa using hf
   simp [putCells, hf', hjc]
  · rw [List.getElem?_take_eq_none (by omega), List.getElem?_eq_none (by omega)]
 ·
  unfold sortWorldK
  rw [heap_grow_old _ _ (by simpa [putRowK, putRow, mapBlock, Sort.ahead] using hk)]
  have : g ≠ k := fun e => hne (by rw [e])
  simp [putRowK, putRow, mapBlock, Sort.ahead, Array.getElem?_modify, this]
theorem drewN_grow' (w : World) (os : Array Obj) (q : Nat) : (grow w os).drewN q = grow (w.drewN q) os := by
 rfl
theorem closure_grow (x y : Lk) (w : World) :
  Calls Tryz.prog 48 #[lkV x, lkV y] w
   fun e w' => e = .returned (.int .i64 (cmpL x y)) ∧ ∃ q os, w' = grow (w.drewN q) os := by
 have hcon := fun w' => lcompare_grow x y w'
 unfold lkV at hcon ⊢
 generalize cmpL x y = r at hcon ⊢
 go_enter Tryz.func48, Tryz.ntmps48
 go_wp2_with fail
 refine (hcon _).mono ?_
 rintro e w' ⟨rfl, q, os, rfl⟩
 go_wp2_with fail
 go_ret
 exact ⟨rfl, q, _, by rw [alloc_eq_grow, alloc_eq_grow, grow_grow, drewN_grow', grow_grow]⟩
theorem ltOf_cmpL (x y : Lk) : ltOf cmpL x y = decide (LtL x y) := by unfold ltOf; simp [cmpL_neg]
theorem swo_cmpL : SWO (ltOf cmpL) where
 irrefl x := by rw [ltOf_cmpL]; simpa using LtL.irrefl x
 trans x y z h1 h2 := by rw [ltOf_cmpL] at *; simp only [decide_eq_true_eq] at *; exact h1.trans h2
 ntrans x y z h1 h2 := by
  rw [ltOf_cmpL] at *; simp only [decide_eq_false_iff_not] at *
  unfold LtL at *; omega
theorem sortF_walk (g cap : Nat) (ls : List Lk) (w : World) (h : Row w g 38 3 cap (lkCells ls)) (hsz : ls.length ≤ 1000000) :
  Calls Tryz.prog 42 #[.slice (some ⟨g, 0, none⟩) ls.length cap, .func (.func 48) #[] #[]] w
   fun e w' => e = .returned (.tuple #[]) ∧ Row w' g 38 3 cap (lkCells (ls.mergeSort fun x y => !decide (cmpL y x < 0))) ∧ w.grownBy w' (some g) := by
 have eg : ∀ args w, (callFunc 48 args).run Tryz.prog w = .ok (.enter 48 args) w := enters_of Tryz.func48 (by kernel_rfl) rfl
 have hcon := AnyQ.slices_SortFunc_total Tryz.laySortL 3 Tryz.isAgg38 Tryz.sizeOf38 lkEnc (fun _ => rfl) (fun x v hv => by simp [lkEnc] at hv; rcases hv with rfl | rfl | rfl <;> rfl) cmpL swo_cmpL 48 #[] g 0 cap ls.toArray w eg
  (fun _ _ _ _ x y => closure_grow x y _) h.holdsK h.lt (by simp; omega) (fun x y h1 h2 => by rw [ltOf_cmpL] at h1 h2; simp only [decide_eq_false_iff_not] at h1 h2; exact LtL.total x y h1 h2)
 change Calls Tryz.prog 42 _ _ _ at hcon
 simp only [List.size_toArray] at hcon
 refine hcon.mono ?_
 rintro e w' ⟨rfl, n, os, rfl⟩
 have := h.sortedK (n := n) (os := os) (ts := ls.mergeSort fun x y => !ltOf cmpL y x) (by simp)
 exact ⟨rfl, this⟩
theorem addr_add (b o j : Nat) : (⟨b, o, none⟩ : Addr).add j = ⟨b, o + j, none⟩ := by
 unfold Addr.add
 split <;> simp_all
theorem one3 (x y z : Int) : ∀ u ∈ [Value.int .i64 x, Value.int .i64 y, Value.int .i64 z], u.oneCell' = true := by
 intro u hu; simp only [List.mem_cons, List.not_mem_nil, or_false] at hu; rcases hu with rfl | rfl | rfl <;> rfl
theorem news3 (W : World) (t : TypeId) (x y z : Int) : ∀ (j : Nat) v, [Value.int .i64 x, Value.int .i64 y, Value.int .i64 z][j]? = some v → (W.alloc (.cells #[.int .i64 x, .int .i64 y, .int .i64 z] t)).cell? ((⟨W.heap.size, 0, none⟩ : Addr).add j) = some v := by
 intro j v hj
 match j with
 | 0 => simp at hj; subst hj; simp [Addr.add]
 | 1 => simp at hj; subst hj; simp [Addr.add]
 | 2 => simp at hj; subst hj; simp [Addr.add]
 | j + 3 => simp at hj
end Go.Proofs.YtagcbnpahgfgmaaGreat
namespace Go.Proofs.YtagcbnpahgfgmaaGreat
open Go Go.RowKit Go.Sort
def RetZs (w : World) (zs : List Int) (e : Ending) (w' : World) : Prop :=
 ∃ a c, e = .returned (.slice a zs.length c) ∧ RdI w' a zs ∧ (∀ ad, a = some ad → w.heap.size ≤ ad.block) ∧ zs.length ≤ c ∧ c ≤ maxLen ∧ Below w.heap.size w w'
theorem sort_row (g cap : Nat) (zs : List Int) (w : World) (h : Row w g 3 1 cap (zs.map (Value.int .i64))) (hsz : zs.length < 1000000) :
  Calls Tryz.prog 44 #[.slice (some ⟨g, 0, none⟩) zs.length cap] w fun e w' => e = .returned (.tuple #[]) ∧
   Row w' g 3 1 cap ((zs.mergeSort fun x y => decide (x ≤ y)).map (Value.int .i64)) ∧ w.grownBy w' (some g) := by
 obtain ⟨cur, hg, hs, hl, hm, ht⟩ := h
 have ht' : cur.toList.take zs.length = zs.map (Value.int .i64) := by simpa using ht
 have hH := holds_of_blockI (ss := zs) hg ht'
 refine (Tryz.slices_Sort_int g 0 cap zs w hH (Array.getElem?_eq_some_iff.1 hg).1 (by omega)).mono ?_
 rintro e w' ⟨rfl, n, os, rfl⟩
 refine ⟨rfl, ?_, grownBy_sortedI _⟩
 have hlen : (zs.mergeSort fun x y => decide (x ≤ y)).length = zs.length := by simp
 refine ⟨_, heap_sortedI _ hg, by simpa [Sort.putCells] using hs, by simpa [hlen] using hl, hm, ?_⟩
 rw [List.length_map]
 exact take_putCellsI cur _ (by simp at hl; omega)
theorem grow_none (w : World) : grow w #[] = w := by cases w; simp [grow]
theorem compact_len_le (zs : List Int) : (Lib.compact zs).length ≤ zs.length := by
 unfold Lib.compact Lib.compactUpTo
 rw [List.length_map]
 have := List.length_filter_le (Lib.keeps zs.toArray) (List.range zs.length)
 simpa using this
theorem compact_row (g cap : Nat) (zs : List Int) (w : World) (h : Row w g 3 1 cap (zs.map (Value.int .i64))) (hsz : zs.length < 1000000) :
  Calls Tryz.prog 46 #[.slice (some ⟨g, 0, none⟩) zs.length cap] w fun e w' => e = .returned (.slice (some ⟨g, 0, none⟩) (Lib.compact zs).length cap) ∧
   Row w' g 3 1 cap ((Lib.compact zs).map (Value.int .i64)) ∧ w.grownBy w' (some g) := by
 obtain ⟨cur, hg, hs, hl, hm, ht⟩ := h
 have ht' : cur.toList.take zs.length = zs.map (Value.int .i64) := by simpa using ht
 have hH := holds_of_blockI (ss := zs) hg ht'
 have hlc : zs.length ≤ cap := by simpa using hl
 refine (Tryz.slices_Compact_int g 0 cap zs w hH (by omega) hlc).mono ?_
 rintro e w' ⟨rfl, q, rfl⟩
 obtain ⟨ts, hts⟩ : ∃ ts, ts = Lib.compact zs ++ List.replicate (zs.length - (Lib.compact zs).length) 0 := ⟨_, rfl⟩
 have hcl := compact_len_le zs
 have htl : ts.length = zs.length := by rw [hts]; simp; omega
 refine ⟨rfl, ?_, ?_⟩
 ·
  rw [← hts]
  have h1 := heap_sortedI (n := q) (os := #[]) ts.toArray hg
  rw [grow_none] at h1
  have h2 : Row (putRow (Value.int .i64) (Sort.ahead w q) g 0 ts.toArray) g 3 1 cap (ts.map (Value.int .i64)) := by
   refine ⟨_, h1, by simpa [Sort.putCells] using hs, by simpa [htl] using hl, hm, ?_⟩; rw [List.length_map]; exact take_putCellsI cur _ (by simp at hl; omega)
  have h3 := h2.take (Lib.compact zs).length
  have e3 : (ts.map (Value.int .i64)).take (Lib.compact zs).length = (Lib.compact zs).map (Value.int .i64) := by
   rw [hts, List.map_append, List.take_append_of_le_length (by simp), List.take_of_length_le (by simp)]
  rw [e3] at h3
  exact h3
 ·
  have h1 := grownBy_sortedI (w := w) (g := g) (n := q) (os := #[]) (Lib.compact zs ++ List.replicate (zs.length - (Lib.compact zs).length) 0).toArray
  rw [grow_none] at h1; exact h1
theorem clip_walk (a : Option Addr) (n c : Nat) (w : World) (h : n ≤ c) (hn : n ≤ 1000000) (hc : c ≤ maxLen) :
  Calls Tryz.prog 45 #[.slice a n c] w fun e w' => e = .returned (.slice a n n) ∧ w = w' := by
 have h1 : (n : Int) ≤ (c : Int) := by omega
 unfold maxLen at hc
 cases a with
 | none =>
  go_enter Tryz.func45, Tryz.ntmps45
  go_wp2_with fail
  go_ret
  exact ⟨rfl, rfl⟩
 | some ad =>
  go_enter Tryz.func45, Tryz.ntmps45
  go_wp2_with fail
  go_ret
  exact ⟨rfl, rfl⟩
theorem ends_take (ls : List Lk) (k : Nat) (h : k < ls.length) : endsL (ls.take (k + 1)) = endsL (ls.take k) ++ [ls[k].1, ls[k].2.1] := by
 unfold endsL
 rw [List.take_succ_eq_append_getElem h, List.flatMap_append]
 simp
set_option maxHeartbeats 2000000 in
theorem verts_walk (a : Option Addr) (cap : Nat) (ls : List Lk) (w : World) (hr : RdL w a ls) (hle : ls.length ≤ 100000) :
  Calls Tryz.prog 13 #[.slice a ls.length cap] w (RetZs w (vertsL ls)) := by
 have hc1 := vertsL_compact ls
 have Hc1 := Lib.hid hc1; clear hc1
 go_enter Tryz.func13, Tryz.ntmps13
 go_wp2_with fail
 go_loopg [3, 8] ls.length (fun r vo i wr => ∃ k : Nat, k + r = ls.length ∧ i = .int .i64 k ∧ Below w.heap.size w wr ∧ Own wr vo 3 1 (endsL (ls.take k)).length ((endsL (ls.take k)).map (Value.int .i64)) ∧ (∀ g, vo.ownBlock = some g → w.heap.size ≤ g))
 case atStart => exact ⟨0, by omega, rfl, bl_refl _, by simpa [endsL] using own_nil w 3 1, fun g hg => by simp [Value.ownBlock] at hg⟩
 case round =>
  obtain ⟨k, hk, rfl, hB, hown, hnew⟩ := hrel
  rename_i vo
  by_cases hlt : k < ls.length
  ·
   obtain ⟨b, o, rfl, c0, c1, c2⟩ := (hr.below hB).at k hlt; have het := ends_take ls k hlt; obtain ⟨⟨x, y, z⟩, hx⟩ : ∃ x : Lk, ls[k] = x := ⟨_, rfl⟩
   rw [hx] at c0 c1 c2 het; simp only at c0 c1 c2 het; have hel : (endsL (ls.take k)).length = k * 2 := by rw [endsL_length, List.length_take]; omega
   obtain ⟨E, hE⟩ : ∃ E, E = endsL (ls.take k) := ⟨_, rfl⟩
   rw [← hE] at hown het hel; have Hk := Lib.hid hk; have Het := Lib.hid het; have HE := Lib.hid hE; have Hnew := Lib.hid hnew; have hel2 : E.length ≤ 200000 := by omega
   clear hk het hx hE hel hnew; have hown2 := (hown.alloc (.cells #[.int .i64 x, .int .i64 y, .int .i64 z] 38)).alloc (.cells #[.int .i64 x, .int .i64 y] 3); obtain ⟨wa, hwa⟩ : ∃ wa, wa = wr.alloc (.cells #[.int .i64 x, .int .i64 y, .int .i64 z] 38) := ⟨_, rfl⟩
   go_wp2_with (at_builtin; refine wpList_append_row _ rfl (.tmp 12) (.tmp 17) 33 rfl 3 (.int .i64 0) 1 8 Tryz.underlying33 int_info rfl _ _ _ rfl hown2 ⟨wr.heap.size + 1, 0, none⟩ 2 2 [.int .i64 x, .int .i64 y] rfl rfl ?c1 ?c2 (by omega) (by unfold maxLen; omega) (by omega) ?_)
   case c1 =>
    intro j u hj; match j with
    | 0 => simp at hj; subst hj; simp [Addr.add]
    | 1 => simp at hj; subst hj; simp [Addr.add]
    | j + 2 => simp at hj
   case c2 => intro u hu; simp at hu; rcases hu with rfl | rfl <;> rfl
   intro g c w3 hr3 hc3 hgr3 hor3; have hb3 : Below w.heap.size w w3 := (bl_trans (bl_trans hB (bl_alloc _ _)) (bl_alloc _ _)).grown hgr3 (by simp; have := hB.size; omega) (fun j hj => Hnew.out j hj); have hg3 : w.heap.size ≤ g := by
    rcases hor3 with h | h
    · exact Hnew.out g h
    · have := hB.size; omega
   clear hown hown2 hwa hgr3 hor3; go_wp2_with fail; go_roundg (gk - 1)
   case measure => have := Hk.out; omega
   case rel =>
    refine ⟨k + 1, by have := Hk.out; omega, by go_num, hb3, ?_, fun j hj => by cases hj; exact hg3⟩; rw [Het.out]; have h1 := hr3.own1; simpa using h1
  ·
   have hkl : k = ls.length := by omega
   subst hkl; rw [List.take_length] at hown; obtain ⟨E, hE⟩ : ∃ E, E = endsL ls := ⟨_, rfl⟩
   rw [← hE] at hown; have hEl : E.length ≤ 200000 := by rw [hE, endsL_length]; omega
   have Hc2 := Hc1.out; rw [← hE] at Hc2; have HE := Lib.hid hE; have Hc := Lib.hid Hc2; clear hE Hc2; rcases hown.2 with ⟨rfl, h0⟩ | ⟨g, cg, rfl, hcg, hrow⟩
   ·
    obtain rfl := List.eq_nil_of_length_eq_zero h0; have hv : vertsL ls = [] := by rw [← Hc.out]; simp [Lib.compact, Lib.compactUpTo]
    clear hown; go_wp2_with fail; refine (Tryz.slices_Sort_int_none none 0 _).mono ?_; rintro e w' ⟨rfl, rfl⟩; go_wp2_with fail; refine (Tryz.slices_Compact_int_empty none 0 _).mono ?_; rintro e w' ⟨rfl, rfl⟩; go_wp2_with fail; refine (clip_walk none 0 0 _ (Nat.le_refl _) (by omega) (by unfold maxLen; omega)).mono ?_; rintro e w' ⟨rfl, rfl⟩; go_wp2_with fail; go_ret; rw [hv]; exact ⟨none, 0, rfl, by intro i u hu; simp at hu, (fun ad h => by cases h), Nat.le_refl _, by unfold maxLen; omega, hB⟩
   ·
    have hgl := hnew g rfl; clear hown hnew; go_wp2_with fail; refine (sort_row g cg E _ hrow (by omega)).mono ?_; rintro e w2 ⟨rfl, hr2, hg2⟩; have hb2 : Below w.heap.size w w2 := hB.grown hg2 (by have := hB.size; omega) (fun j hj => by cases hj; exact hgl); have hlen2 : (E.mergeSort fun x y => decide (x ≤ y)).length = E.length := by simp
    have hcc := compact_row g cg (E.mergeSort fun x y => decide (x ≤ y)) w2 hr2 (by omega); rw [Hc.out, hlen2] at hcc; clear hr2 hg2 hrow hlen2; go_wp2_with fail; refine hcc.mono ?_; rintro e w3 ⟨rfl, hr3, hg3⟩; have hb3 : Below w.heap.size w w3 := hb2.grown hg3 (by have := hb2.size; omega) (fun j hj => by cases hj; exact hgl); have hvl : (vertsL ls).length ≤ 200000 := by have := vertsL_length ls; omega
    have hvc : (vertsL ls).length ≤ cg := by have := hr3.len_le; simpa using this
    have hcm := hr3.cap_le; go_wp2_with fail; refine (clip_walk (some ⟨g, 0, none⟩) (vertsL ls).length cg _ hvc (by omega) hcm).mono ?_; rintro e w' ⟨rfl, rfl⟩; go_wp2_with fail; go_ret; refine ⟨some ⟨g, 0, none⟩, (vertsL ls).length, rfl, hr3.at_, fun ad h => by cases h; exact hgl, Nat.le_refl _, by omega, hb3⟩
end Go.Proofs.YtagcbnpahgfgmaaGreat
namespace Go.Proofs.YtagcbnpahgfgmaaGreat
open Go Go.RowKit
def rowN (n : Nat) (f : Nat → Nat) : List Value := (List.range n).map fun i => vN (f i)
def rowB (n : Nat) (f : Nat → Bool) : List Value := (List.range n).map fun i => .bool (f i)
theorem rowN_len (n : Nat) (f : Nat → Nat) : (rowN n f).length = n := by simp [rowN]
theorem rowB_len (n : Nat) (f : Nat → Bool) : (rowB n f).length = n := by simp [rowB]
theorem rowN_set (n : Nat) (f : Nat → Nat) (i y : Nat) : (rowN n f).set i (vN y) = rowN n (upd f i y) := by
 apply List.ext_getElem (by simp [rowN])
 intro j h1 h2
 simp only [rowN, List.length_set, List.length_map, List.length_range] at h1
 simp only [rowN, List.getElem_set, List.getElem_map, List.getElem_range, upd]
 by_cases e : i = j
 · simp [e]
 · rw [if_neg e, if_neg (fun e' => e e'.symm)]
theorem rowB_set (n : Nat) (f : Nat → Bool) (i : Nat) (y : Bool) : (rowB n f).set i (.bool y) = rowB n (upd f i y) := by
 apply List.ext_getElem (by simp [rowB])
 intro j h1 h2
 simp only [rowB, List.length_set, List.length_map, List.length_range] at h1
 simp only [rowB, List.getElem_set, List.getElem_map, List.getElem_range, upd]
 by_cases e : i = j
 · simp [e]
 · rw [if_neg e, if_neg (fun e' => e e'.symm)]
theorem rowN_zero (n : Nat) : List.replicate n (Value.int .i64 0) = rowN n (fun _ => 0) := by
 apply List.ext_getElem (by simp [rowN])
 intro j h1 h2
 simp [rowN, vN]
theorem rowB_zero (n : Nat) : List.replicate n (Value.bool false) = rowB n (fun _ => false) := by
 apply List.ext_getElem (by simp [rowB])
 intro j h1 h2
 simp [rowB]
theorem Row.atN {w : World} {g n cap : Nat} {e : TypeId} {f : Nat → Nat} (h : Row w g e 1 cap (rowN n f)) {i : Nat} (hi : i < n) : w.cell? ⟨g, i, none⟩ = some (.int .i64 (f i)) := by
 rw [h.cell? i (by rw [rowN_len]; exact hi)]; simp [rowN, hi, vN]
theorem Row.atB {w : World} {g n cap : Nat} {e : TypeId} {f : Nat → Bool} (h : Row w g e 1 cap (rowB n f)) {i : Nat} (hi : i < n) : w.cell? ⟨g, i, none⟩ = some (.bool (f i)) := by
 rw [h.cell? i (by rw [rowB_len]; exact hi)]; simp [rowB, hi]
def RdG (w : World) (G n : Nat) (bs : Nat → List Nat) : Prop := ∀ v, v < n → ∃ au cu, w.cell? ⟨G, v, none⟩ = some (.slice au (bs v).length cu) ∧ CellsAt w au ((bs v).map vN)
theorem RdG.below {w w' : World} {G n : Nat} {bs : Nat → List Nat} (h : RdG w G n bs) (hb : Below w.heap.size w w') : RdG w' G n bs := fun v hv => by
 obtain ⟨au, cu, h1, h2⟩ := h v hv
 exact ⟨au, cu, keep_cell hb h1, h2.below hb⟩
structure CM (w : World) (B gn gl gu ga gc gs cs n : Nat) (num low up at_ : Nat → Nat) (cut : Nat → Bool) (stack : List Nat) : Prop where
 rn : Row w gn 3 1 n (rowN n num)
 rl : Row w gl 3 1 n (rowN n low)
 ru : Row w gu 3 1 n (rowN n up)
 ra : Row w ga 3 1 n (rowN n at_)
 rc : Row w gc 4 1 n (rowB n cut)
 rs : Row w gs 3 1 cs (stack.reverse.map vN)
 nd : gn ≠ gl ∧ gn ≠ gu ∧ gn ≠ ga ∧ gn ≠ gc ∧ gl ≠ gu ∧ gl ≠ ga ∧ gl ≠ gc ∧ gu ≠ ga ∧ gu ≠ gc ∧ ga ≠ gc
 ns : gs ≠ gn ∧ gs ≠ gl ∧ gs ≠ gu ∧ gs ≠ ga ∧ gs ≠ gc
 lo : B ≤ gn ∧ B ≤ gl ∧ B ≤ gu ∧ B ≤ ga ∧ B ≤ gc ∧ B ≤ gs
namespace CM
variable {w w' : World} {B gn gl gu ga gc gs cs n : Nat} {num low up at_ : Nat → Nat} {cut : Nat → Bool} {stack : List Nat}
theorem ext (h : CM w B gn gl gu ga gc gs cs n num low up at_ cut stack) (hb : Below w.heap.size w w') : CM w' B gn gl gu ga gc gs cs n num low up at_ cut stack :=
 { h with rn := h.rn.below hb h.rn.lt, rl := h.rl.below hb h.rl.lt, ru := h.ru.below hb h.ru.lt, ra := h.ra.below hb h.ra.lt, rc := h.rc.below hb h.rc.lt, rs := h.rs.below hb h.rs.lt }
theorem set_num (h : CM w B gn gl gu ga gc gs cs n num low up at_ cut stack) (v t : Nat) : CM (w.setCell ⟨gn, v, none⟩ (vN t)) B gn gl gu ga gc gs cs n (upd num v t) low up at_ cut stack := by
 obtain ⟨rn, rl, ru, ra, rc, rs, nd, ns, lo⟩ := h
 exact ⟨by rw [← rowN_set]; exact rn.set v _, rl.other nd.1.symm _, ru.other nd.2.1.symm _, ra.other nd.2.2.1.symm _, rc.other nd.2.2.2.1.symm _, rs.other ns.1 _, nd, ns, lo⟩
theorem set_low (h : CM w B gn gl gu ga gc gs cs n num low up at_ cut stack) (v t : Nat) : CM (w.setCell ⟨gl, v, none⟩ (vN t)) B gn gl gu ga gc gs cs n num (upd low v t) up at_ cut stack := by
 obtain ⟨rn, rl, ru, ra, rc, rs, nd, ns, lo⟩ := h
 exact ⟨rn.other nd.1 _, by rw [← rowN_set]; exact rl.set v _, ru.other nd.2.2.2.2.1.symm _, ra.other nd.2.2.2.2.2.1.symm _, rc.other nd.2.2.2.2.2.2.1.symm _, rs.other ns.2.1 _, nd, ns, lo⟩
theorem set_up (h : CM w B gn gl gu ga gc gs cs n num low up at_ cut stack) (v t : Nat) : CM (w.setCell ⟨gu, v, none⟩ (vN t)) B gn gl gu ga gc gs cs n num low (upd up v t) at_ cut stack := by
 obtain ⟨rn, rl, ru, ra, rc, rs, nd, ns, lo⟩ := h
 exact ⟨rn.other nd.2.1 _, rl.other nd.2.2.2.2.1 _, by rw [← rowN_set]; exact ru.set v _, ra.other nd.2.2.2.2.2.2.2.1.symm _, rc.other nd.2.2.2.2.2.2.2.2.1.symm _, rs.other ns.2.2.1 _, nd, ns, lo⟩
theorem set_at (h : CM w B gn gl gu ga gc gs cs n num low up at_ cut stack) (v t : Nat) : CM (w.setCell ⟨ga, v, none⟩ (vN t)) B gn gl gu ga gc gs cs n num low up (upd at_ v t) cut stack := by
 obtain ⟨rn, rl, ru, ra, rc, rs, nd, ns, lo⟩ := h
 exact ⟨rn.other nd.2.2.1 _, rl.other nd.2.2.2.2.2.1 _, ru.other nd.2.2.2.2.2.2.2.1 _, by rw [← rowN_set]; exact ra.set v _, rc.other nd.2.2.2.2.2.2.2.2.2.symm _, rs.other ns.2.2.2.1 _, nd, ns, lo⟩
theorem set_cut (h : CM w B gn gl gu ga gc gs cs n num low up at_ cut stack) (v : Nat) (b : Bool) : CM (w.setCell ⟨gc, v, none⟩ (.bool b)) B gn gl gu ga gc gs cs n num low up at_ (upd cut v b) stack := by
 obtain ⟨rn, rl, ru, ra, rc, rs, nd, ns, lo⟩ := h
 exact ⟨rn.other nd.2.2.2.1 _, rl.other nd.2.2.2.2.2.2.1 _, ru.other nd.2.2.2.2.2.2.2.2.1 _, ra.other nd.2.2.2.2.2.2.2.2.2 _, by rw [← rowB_set]; exact rc.set v _, rs.other ns.2.2.2.2 _, nd, ns, lo⟩
theorem pop (h : CM w B gn gl gu ga gc gs cs n num low up at_ cut stack) : CM w B gn gl gu ga gc gs cs n num low up at_ cut stack.tail :=
 { h with rs := (by
   have := h.rs.take (stack.length - 1)
   cases stack with
   | nil => simpa using this
   | cons a r => simpa [List.take_append] using this) }
theorem push {x g' c' : Nat} (h : CM w B gn gl gu ga gc gs cs n num low up at_ cut stack) (hr : Row w' g' 3 1 c' (stack.reverse.map vN ++ [vN x])) (hg : w.grownBy w' (some gs)) (hor : some gs = some g' ∨ w.heap.size ≤ g') :
  CM w' B gn gl gu ga gc g' c' n num low up at_ cut (x :: stack) := by
 obtain ⟨rn, rl, ru, ra, rc, rs, nd, ns, lo⟩ := h
 have hne : ∀ k, k ≠ gs → k < w.heap.size → g' ≠ k := fun k hk hlt e => by
  rcases hor with h1 | h1
  · cases h1; exact hk e.symm
  · omega
 have hs : ∀ k, gs ≠ k → some gs ≠ some k := fun k hk e => hk (Option.some.inj e)
 refine ⟨rn.grown hg (hs _ ns.1), rl.grown hg (hs _ ns.2.1), ru.grown hg (hs _ ns.2.2.1), ra.grown hg (hs _ ns.2.2.2.1), rc.grown hg (hs _ ns.2.2.2.2), by simpa using hr, nd, ?_, ?_⟩
 · exact ⟨hne _ ns.1.symm rn.lt, hne _ ns.2.1.symm rl.lt, hne _ ns.2.2.1.symm ru.lt, hne _ ns.2.2.2.1.symm ra.lt, hne _ ns.2.2.2.2.symm rc.lt⟩
 ·
  obtain ⟨l1, l2, l3, l4, l5, l6⟩ := lo
  refine ⟨l1, l2, l3, l4, l5, ?_⟩
  rcases hor with h1 | h1
  · cases h1; exact l6
  · have := rn.lt; omega
end CM
theorem CT.met_le {n : Nat} {bs : Nat → List Nat} {gone : Int} {root : Nat} {s : CS} (h : CT n bs gone root s) : s.met ≤ n := by
 obtain ⟨o, h1, h2, h3⟩ := h.ord
 have := nodup_len_le (m := List.range n) h1 fun x hx => List.mem_range.2 (h.numP x ((h3 x).1 hx)).1
 rw [List.length_range] at this; omega
def sumR (f : Nat → Nat) : Nat → Nat
 | 0 => 0
 | n + 1 => sumR f n + f n
theorem sumR_congr {f g : Nat → Nat} {n : Nat} (h : ∀ x, x < n → f x = g x) : sumR f n = sumR g n := by
 induction n with
 | zero => rfl
 | succ n ih => rw [sumR, sumR, ih fun x hx => h x (by omega), h n (by omega)]
theorem sumR_one {f g : Nat → Nat} {n v : Nat} (hv : v < n) (h1 : g v + 1 = f v) (h : ∀ x, x ≠ v → f x = g x) : sumR g n + 1 = sumR f n := by
 induction n with
 | zero => omega
 | succ n ih =>
  rw [sumR, sumR]
  by_cases e : v = n
  ·
   subst e; have : sumR f v = sumR g v := sumR_congr fun x hx => h x (by omega); omega
  · have := ih (by omega); have := h n (fun e' => e e'.symm); omega
def restS (n : Nat) (bs : Nat → List Nat) (at_ : Nat → Nat) : Nat := sumR (fun v => (bs v).length - at_ v) n
theorem restS_inc {n : Nat} {bs : Nat → List Nat} {at_ : Nat → Nat} {v : Nat} (hv : v < n) (h : at_ v < (bs v).length) : restS n bs (upd at_ v (at_ v + 1)) + 1 = restS n bs at_ :=
 sumR_one hv (by simp only [upd_same]; omega) fun x hx => by simp only [upd_ne _ _ hx]
def RetCuts (w : World) (n : Nat) (bs : Nat → List Nat) (gone : Int) (e : Ending) (w' : World) : Prop :=
 ∃ (j : Bool) (cut : Nat → Bool) (gc : Nat), e = .returned (.tuple #[.bool j, .slice (some ⟨gc, 0, none⟩) n n]) ∧ Row w' gc 4 1 n (rowB n cut) ∧ w.heap.size ≤ gc ∧ Below w.heap.size w w' ∧ CutSpec n bs gone j cut
theorem left_len (n : Nat) (gone : Int) (h : -1 ≤ gone) (hn : gone < n) : (((List.range n).filter (presB gone)).length : Int) = if 0 ≤ gone then (n : Int) - 1 else n := by
 have key : ∀ m : Nat, (((List.range m).filter (presB gone)).length : Int) = if 0 ≤ gone ∧ gone < m then (m : Int) - 1 else m := by
  intro m
  induction m with
  | zero => simp
  | succ m ih =>
   rw [List.range_succ, List.filter_append, List.length_append]; by_cases e : (m : Int) = gone
   ·
    have hf : List.filter (presB gone) [m] = [] := by simp [presB, e]
    have : ¬ (0 ≤ gone ∧ gone < (m : Int)) := by omega
    rw [if_neg this] at ih; rw [hf, if_pos (by omega)]; simp only [List.length_nil]; omega
   ·
    have hf : List.filter (presB gone) [m] = [m] := by simp [presB, e]
    rw [hf]; by_cases h2 : 0 ≤ gone ∧ gone < (m : Int)
    · rw [if_pos h2] at ih; rw [if_pos (by omega)]; simp only [List.length_cons, List.length_nil]; omega
    · rw [if_neg h2] at ih; rw [if_neg (by omega)]; simp only [List.length_cons, List.length_nil]; omega
 rw [key n]
 by_cases h0 : 0 ≤ gone
 · rw [if_pos ⟨h0, hn⟩, if_pos h0]
 · rw [if_neg (by omega), if_neg h0]
theorem cut_none {n : Nat} {bs : Nat → List Nat} {gone : Int} (h : ∀ v, ¬ Pres n gone v) : CutSpec n bs gone true (fun _ => false) :=
 ⟨by simp; exact fun x y hx => absurd hx (h x), fun _ u hu => absurd hu (h u), fun _ _ => rfl⟩
end Go.Proofs.YtagcbnpahgfgmaaGreat
namespace Go.Proofs.YtagcbnpahgfgmaaGreat
open Go Go.RowKit Go.Maps
def hVal (r : Nat × Nat × Lk) : Value := .agg #[.int .i64 (r.1 : Nat), .int .i64 (r.2.1 : Nat), .int .i64 r.2.2.1, .int .i64 r.2.2.2.1, .int .i64 r.2.2.2.2]
theorem zeroH (w : World) : (zeroValue 123).run Tryz.prog w = .ok (hVal (0, 0, (0, 0, 0))) w := by kernel_rfl
theorem zeroI (w : World) : (zeroValue 3).run Tryz.prog w = .ok (.int .i64 0) w := by kernel_rfl
def heldL (l : List Oc) : Lit → Option Value
 | .int .i64 v => if v = 0 then none else (heldF l v).map hVal
 | _ => none
theorem heldL_zero {l : List Oc} {p : Oc} (h : p.2.2.2 = 0) : heldL (l ++ [p]) = heldL l := by
 funext x
 unfold heldL
 split
 ·
  rename_i v
  split
  · rfl
  · rw [heldF_snoc, if_neg (by omega)]
 · rfl
theorem heldL_at {l : List Oc} {v : Int} (h : v ≠ 0) : heldL l (.int .i64 v) = (heldF l v).map hVal := by
 show (if v = 0 then none else (heldF l v).map hVal) = _
 rw [if_neg h]
theorem heldL_put {l : List Oc} {p : Oc} (h : p.2.2.2 ≠ 0) : updL (heldL l) (.int .i64 p.2.2.2) (hVal (p.1, (atV p.2.2.2 l).length + 1, p.2)) = heldL (l ++ [p]) := by
 funext x
 by_cases hx : x = .int .i64 p.2.2.2
 ·
  subst hx
  rw [updL_same, heldL_at h, heldF_snoc, if_pos rfl]; rfl
 ·
  rw [updL_ne _ _ hx]
  unfold heldL
  split
  ·
   rename_i v; split
   · rfl
   · rw [heldF_snoc, if_neg (fun e => hx (by rw [e]))]
  · rfl
def HeldM (w : World) (B : Nat) (l : List Oc) : Prop := MG w 3 B (numsO l).length (heldL l)
theorem heldL_some {l : List Oc} {v : Int} (h : v ≠ 0) : (heldL l (.int .i64 v)).isSome = true ↔ v ∈ numsO l := by
 rw [heldL_at h, Option.isSome_map, heldF_some h]
theorem nums_put {l : List Oc} {p : Oc} (h : p.2.2.2 ≠ 0) : (if (heldL l (.int .i64 p.2.2.2)).isSome = true then (numsO l).length else (numsO l).length + 1) = (numsO (l ++ [p])).length := by
 rw [numsO_snoc]
 by_cases hm : p.2.2.2 ∈ numsO l
 · rw [if_pos ((heldL_some h).2 hm), if_pos (.inr hm)]
 ·
  rw [if_neg (fun hc => hm ((heldL_some h).1 hc)), if_neg (fun hc => hc.elim h hm)]
  simp
theorem nums_zero {l : List Oc} {p : Oc} (h : p.2.2.2 = 0) : numsO (l ++ [p]) = numsO l := by rw [numsO_snoc, if_pos (.inl h)]
theorem HeldM.real {w : World} {B : Nat} {l : List Oc} {p : Oc} (h : HeldM w B l) (hp : p.2.2.2 = 0) : HeldM w B (l ++ [p]) := by
 unfold HeldM at h ⊢
 rw [nums_zero hp, heldL_zero hp]; exact h
theorem nums_le (l : List Oc) : (numsO l).length ≤ l.length := by
 induction l using snoc_ind with
 | nil => simp [numsO]
 | snoc l p ih => rw [numsO_snoc]; split <;> simp <;> omega
def OwnM (w : World) (B : Nat) (l : List Oc) : Prop := ∃ c F, MG w 38 B c F ∧ c ≤ l.length ∧ ∀ e, WfL e → F (litL e) = if e ∈ realsO l then some (.int .i64 1) else none
theorem OwnM.virt {w : World} {B : Nat} {l : List Oc} {p : Oc} (h : OwnM w B l) (hp : p.2.2.2 ≠ 0) : OwnM w B (l ++ [p]) := by
 obtain ⟨c, F, h1, h2, h3⟩ := h
 refine ⟨c, F, h1, by simp; omega, fun e he => ?_⟩
 rw [h3 e he, realsO_append, show realsO [p] = [] by simp [realsO, hp], List.append_nil]
theorem OwnM.block {w w' : World} {B : Nat} {l : List Oc} (h : OwnM w B l) (e : w'.heap[B]? = w.heap[B]?) : OwnM w' B l := by
 obtain ⟨c, F, h1, h2⟩ := h
 exact ⟨c, F, h1.block e, h2⟩
theorem OwnM.lt {w : World} {B : Nat} {l : List Oc} (h : OwnM w B l) : B < w.heap.size := by obtain ⟨c, F, h1, _⟩ := h; exact h1.lt
def rowsO (n : Nat) (l : List Oc) : List (List Value) := (List.range n).map fun k => (outO (pairsO l) k).map vN
theorem rowsO_get {n : Nat} {l : List Oc} {k : Nat} (h : k < n) : (rowsO n l)[k]? = some ((outO (pairsO l) k).map vN) := by simp [rowsO, h]
theorem rowsO_nil (n : Nat) : rowsO n [] = List.replicate n [] := by
 apply List.ext_getElem (by simp [rowsO])
 intro i h1 h2
 simp [rowsO, pairsO_nil, outO_nil]
theorem rowsO_same {n : Nat} {l : List Oc} {p : Oc} (h : newP l p = []) : rowsO n (l ++ [p]) = rowsO n l := by
 unfold rowsO
 rw [pairsO_snoc, h, List.append_nil]
theorem rowsO_step {n : Nat} {l : List Oc} {p a : Oc} (h0 : p.2.2.2 ≠ 0) (h1 : atV p.2.2.2 l = [a]) (hne : a.1 ≠ p.1) (hp : p.1 < n) (ha : a.1 < n) :
  ((rowsO n l).set p.1 ((outO (pairsO l) p.1).map vN ++ [vN a.1])).set a.1 ((outO (pairsO l) a.1).map vN ++ [vN p.1]) = rowsO n (l ++ [p]) := by
 apply List.ext_getElem (by simp [rowsO])
 intro i h2 h3
 have hi : i < n := by simpa [rowsO] using h3
 have e : rowsO n (l ++ [p]) = (List.range n).map fun k => ((outO (pairsO l) k).map vN ++ (outO [(a.1, p.1)] k).map vN) := by
  unfold rowsO
  rw [pairsO_snoc, newP_second h0 h1]
  refine List.map_congr_left fun k _ => ?_
  rw [outO_append, List.map_append]
 simp only [e, List.getElem_set, List.getElem_map, List.getElem_range, outO_one]
 by_cases e1 : a.1 = i
 ·
  subst e1
  have : ¬ p.1 = a.1 := fun h => hne h.symm
  simp [this]
 ·
  by_cases e2 : p.1 = i
  · subst e2; simp [e1]
  · simp [e1, e2, rowsO]
structure BesI (w wj : World) (Q : List Pt) (l : List Oc) : Prop where
 fine : fineP Q l
 held : HeldM wj w.heap.size l
 own : OwnM wj (w.heap.size + 1) l
 rows : ∃ vals, OwnRows wj (w.heap.size + 1 + 1) 33 3 Q.length vals (rowsO Q.length l)
 bel : Below w.heap.size w wj
theorem BesI.sz {w wj : World} {Q : List Pt} {l : List Oc} (h : BesI w wj Q l) : w.heap.size + 3 ≤ wj.heap.size := by
 obtain ⟨vals, hO⟩ := h.rows
 have := hO.outer.lt
 omega
theorem BesI.grown {w wj w' : World} {Q : List Pt} {l : List Oc} (h : BesI w wj Q l) (hb : Below wj.heap.size wj w') : BesI w w' Q l := by
 obtain ⟨vals, hO⟩ := h.rows
 exact ⟨h.fine, MG.below h.held hb, h.own.block (hb.block _ h.own.lt), ⟨vals, hO.below hb⟩, bl_trans h.bel hb⟩
theorem ownRows_keep {w w' : World} {G : Nat} {tO e : TypeId} {cap : Nat} {vals : List Value} {rows : List (List Value)} (h : OwnRows w G tO e cap vals rows) (h0 : w'.heap[G]? = w.heap[G]?) (h1 : ∀ (v : Nat) u g, vals[v]? = some u → u.ownBlock = some g → w'.heap[g]? = w.heap[g]?) : OwnRows w' G tO e cap vals rows where
 len := h.len
 outer := h.outer.block h0
 own v u r hu hr := (h.own v u r hu hr).below fun g hg => h1 v u g hu hg
 young := h.young
 apart := h.apart
def RowsA (w wj : World) (Q : List Pt) (l : List Oc) (bs : List Nat) : Prop := ∃ vals, OwnRows wj (w.heap.size + 1 + 1) 33 3 Q.length vals (rowsO Q.length l) ∧ ∀ (v : Nat) u g, vals[v]? = some u → u.ownBlock = some g → g ∉ bs
theorem RowsA.start {w wr : World} {Q : List Pt} {l : List Oc} (h : BesI w wr Q l) : RowsA w wr Q l [] := by
 obtain ⟨vals, hO⟩ := h.rows
 exact ⟨vals, hO, fun _ _ _ _ _ => by simp⟩
theorem RowsA.more {w wj : World} {Q : List Pt} {l : List Oc} {bs : List Nat} (h : RowsA w wj Q l bs) (o : Obj) : RowsA w (wj.alloc o) Q l (wj.heap.size :: bs) := by
 obtain ⟨vals, hO, h2⟩ := h
 refine ⟨vals, hO.alloc o, fun v u g hu hg => ?_⟩
 have := hO.lt hu hg
 have h3 := h2 v u g hu hg
 rw [List.mem_cons]
 rintro (h | h)
 · omega
 · exact h3 h
theorem RowsA.less {w wj : World} {Q : List Pt} {l : List Oc} {b : Nat} {bs : List Nat} (h : RowsA w wj Q l (b :: bs)) : RowsA w wj Q l bs := by
 obtain ⟨vals, hO, h2⟩ := h
 exact ⟨vals, hO, fun v u g hu hg hm => h2 v u g hu hg (List.mem_cons_of_mem _ hm)⟩
theorem RowsA.sub {w wj : World} {Q : List Pt} {l : List Oc} {bs bs' : List Nat} (h : RowsA w wj Q l bs) (hs : ∀ x ∈ bs', x ∈ bs) : RowsA w wj Q l bs' := by
 obtain ⟨vals, hO, h2⟩ := h
 exact ⟨vals, hO, fun v u g hu hg hm => h2 v u g hu hg (hs _ hm)⟩
theorem RowsA.below {w wj w' : World} {Q : List Pt} {l : List Oc} {bs : List Nat} (h : RowsA w wj Q l bs) (hb : Below wj.heap.size wj w') : RowsA w w' Q l bs := by
 obtain ⟨vals, hO, h2⟩ := h
 exact ⟨vals, hO.below hb, h2⟩
theorem RowsA.turned {w wj w' : World} {Q : List Pt} {l : List Oc} {bs : List Nat} {B : Nat} (h : RowsA w wj Q l bs) (hg : wj.grownBy w' (some B)) (hB : B < w.heap.size + 1 + 1 ∨ (B ∈ bs ∧ w.heap.size + 1 + 1 < B)) : RowsA w w' Q l bs := by
 obtain ⟨vals, hO, h2⟩ := h
 refine ⟨vals, ownRows_keep hO (hg.block _ hO.outer.lt fun e => by have := Option.some.inj e; omega) fun v u g hu hg' => hg.block g (hO.lt hu hg') fun e => ?_, h2⟩
 have e := Option.some.inj e
 subst e
 rcases hB with h3 | h3
 ·
  have := hO.young v u g hu hg'
  omega
 · exact h2 v u g hu hg' h3.1
structure BesJ (w wj : World) (Q : List Pt) (l : List Oc) (b : Nat) (kd : Int) : Prop where
 fine : fineP Q l
 held : HeldM wj w.heap.size l
 own : OwnM wj (w.heap.size + 1) l
 rows : RowsA w wj Q l [b]
 bel : Below w.heap.size w wj
 kind : wj.cell? ⟨b, 0, none⟩ = some (.int .i64 kd)
 big : w.heap.size + 3 ≤ b
theorem BesJ.grown {w wj w' : World} {Q : List Pt} {l : List Oc} {b : Nat} {kd : Int} (h : BesJ w wj Q l b kd) (hb : Below wj.heap.size wj w') : BesJ w w' Q l b kd :=
 ⟨h.fine, MG.below h.held hb, h.own.block (hb.block _ h.own.lt), h.rows.below hb, bl_trans h.bel hb, keep_cell hb h.kind, h.big⟩
theorem BesJ.toI {w wj : World} {Q : List Pt} {l : List Oc} {b : Nat} {kd : Int} (h : BesJ w wj Q l b kd) : BesI w wj Q l :=
 ⟨h.fine, h.held, h.own, by obtain ⟨vals, hO, _⟩ := h.rows; exact ⟨vals, hO⟩, h.bel⟩
theorem BesJ.lt {w wj : World} {Q : List Pt} {l : List Oc} {b : Nat} {kd : Int} (h : BesJ w wj Q l b kd) : b < wj.heap.size := World.block_lt_of_cell? _ _ h.kind
theorem BesJ.real {w wj w' : World} {Q : List Pt} {l : List Oc} {b : Nat} {kd : Int} {p : Oc} (h : BesJ w wj Q l b kd) (hp : p.2.2.2 = 0) (hn : p.2 ∉ realsO l) (hg : wj.grownBy w' (some (w.heap.size + 1))) (ho : OwnM w' (w.heap.size + 1) (l ++ [p])) : BesJ w w' Q (l ++ [p]) b kd := by
 have hne : newP l p = [] := newP_zero hp
 refine ⟨(fineP_real hp).2 ⟨h.fine, hn⟩, HeldM.real (MG.grown h.held hg (by simp)) hp, ho, ?_, h.bel.grown hg (h.bel.size) (fun j hj => by cases hj; omega), grown_cell hg h.kind (fun e => by have := h.big; have := Option.some.inj e; omega), h.big⟩
 have := h.rows.turned hg (.inl (by omega))
 unfold RowsA at this ⊢
 rw [rowsO_same hne]; exact this
theorem grB_trans {a b c : World} {r : Option Nat} (h : a.grownBy b r) (k : b.grownBy c r) : a.grownBy c r :=
 ⟨k.os.trans h.os, k.tape.trans h.tape, k.output.trans h.output, Nat.le_trans h.size k.size, fun j h1 h2 => (k.block j (Nat.lt_of_lt_of_le h1 h.size) h2).trans (h.block j h1 h2)⟩
theorem grownBy_setCell (w : World) (a : Addr) (v : Value) : w.grownBy (w.setCell a v) (some a.block) :=
 ⟨rfl, rfl, rfl, by simp, fun j _ h2 => Below.heap_setCell w a v j (fun e => h2 (by rw [e]))⟩
theorem bes_tail {w W WT w9 : World} {Q : List Pt} {l : List Oc} {p : Oc} {b bh : Nat} {kd : Int} (hp : p.2.2.2 ≠ 0) (hwf : WfZ p.2.2.2) (hf : fineP Q (l ++ [p])) (hh : HeldM W w.heap.size l) (ho : OwnM W (w.heap.size + 1) l) (hrow : RowsA w W Q (l ++ [p]) [bh, b]) (hbel : Below w.heap.size w W)
  (hk : W.cell? ⟨b, 0, none⟩ = some (.int .i64 kd)) (hbig : w.heap.size + 3 ≤ b) (hbh : b < bh) (hT : W.grownBy WT (some bh)) (h9 : WT.grownBy w9 (some w.heap.size))
  (hm : MG w9 3 w.heap.size (if (heldL l (.int .i64 p.2.2.2)).isSome then (numsO l).length else (numsO l).length + 1) (updL (heldL l) (.int .i64 p.2.2.2) (hVal (p.1, (atV p.2.2.2 l).length + 1, p.2)))) : BesJ w w9 Q (l ++ [p]) b kd := by
 have hbT : Below w.heap.size w WT := hbel.grown hT hbel.size (fun j hj => by cases hj; omega)
 refine ⟨hf, ?_, ?_, ?_, hbT.grown h9 hbT.size (fun j hj => by cases hj; exact Nat.le_refl _), ?_, hbig⟩
 ·
  unfold HeldM
  rw [nums_put hp, heldL_put hp] at hm
  exact hm
 ·
  have h1 := ho.block (hT.block _ ho.lt (fun e => by have := Option.some.inj e; omega))
  exact (h1.block (h9.block _ h1.lt (fun e => by have := Option.some.inj e; omega))).virt hp
 · exact ((hrow.turned hT (.inr ⟨by simp, by omega⟩)).turned h9 (.inl (by omega))).less
 · exact grown_cell h9 (grown_cell hT hk (fun e => by have := Option.some.inj e; omega)) (fun e => by have := Option.some.inj e; omega)
structure BesR (w W : World) (n : Nat) (l : List Oc) (R : List (List Value)) (bs : List Nat) (b : Nat) (kd : Int) : Prop where
 held : HeldM W w.heap.size l
 own : OwnM W (w.heap.size + 1) l
 rows : ∃ vals, OwnRows W (w.heap.size + 1 + 1) 33 3 n vals R ∧ ∀ (v : Nat) u g, vals[v]? = some u → u.ownBlock = some g → g ∉ bs
 bel : Below w.heap.size w W
 kind : W.cell? ⟨b, 0, none⟩ = some (.int .i64 kd)
 lt : ∀ x ∈ bs, x < W.heap.size ∧ w.heap.size + 1 + 1 < x
 mem : b ∈ bs
theorem BesR.push {w W w5 : World} {n : Nat} {l : List Oc} {R : List (List Value)} {bs : List Nat} {b : Nat} {kd : Int} (h : BesR w W n l R bs b kd) {vals : List Value} (hO : OwnRows W (w.heap.size + 1 + 1) 33 3 n vals R) (hap : ∀ (v : Nat) u g, vals[v]? = some u → u.ownBlock = some g → g ∉ bs)
  {j : Nat} {u : Value} {r : List Nat} (hu : vals[j]? = some u) (hr : R[j]? = some (r.map vN)) {o : Obj} {g5 c5 x : Nat} (hr5 : Row w5 g5 3 1 c5 (r.map vN ++ [vN x])) (hg5 : (W.alloc o).drew.grownBy w5 u.ownBlock) (hor5 : u.ownBlock = some g5 ∨ W.heap.size + 1 ≤ g5) :
  BesR w (w5.setCell ⟨w.heap.size + 1 + 1, j, none⟩ (.slice (some ⟨g5, 0, none⟩) (r.length + 1) c5)) n l (R.set j (r.map vN ++ [vN x])) bs b kd ∧
  (∀ y ∈ bs, ∀ k, W.cell? ⟨y, k, none⟩ = (w5.setCell ⟨w.heap.size + 1 + 1, j, none⟩ (.slice (some ⟨g5, 0, none⟩) (r.length + 1) c5)).cell? ⟨y, k, none⟩) ∧ (∀ y ∈ bs, ∀ k, W.frozen? ⟨y, k, none⟩ = (w5.setCell ⟨w.heap.size + 1 + 1, j, none⟩ (.slice (some ⟨g5, 0, none⟩) (r.length + 1) c5)).frozen? ⟨y, k, none⟩) ∧
  (∀ y, y < W.heap.size → y ≠ w.heap.size + 1 + 1 → u.ownBlock ≠ some y → (w5.setCell ⟨w.heap.size + 1 + 1, j, none⟩ (.slice (some ⟨g5, 0, none⟩) (r.length + 1) c5)).heap[y]? = W.heap[y]?) := by
 have hGlt := hO.outer.lt
 have hblk : ∀ y, y < W.heap.size → y ≠ w.heap.size + 1 + 1 → u.ownBlock ≠ some y → (w5.setCell ⟨w.heap.size + 1 + 1, j, none⟩ (.slice (some ⟨g5, 0, none⟩) (r.length + 1) c5)).heap[y]? = W.heap[y]? := fun y h1 h2 h3 => by
  rw [Below.heap_setCell _ _ _ _ h2, hg5.block y (by simp; omega) (fun e => h3 e.symm)]
  exact Below.heap_alloc W o y h1
 have hyoung : ∀ g, u.ownBlock = some g → w.heap.size + 1 + 1 < g := fun g hg => hO.young j u g hu hg
 have hst := (hO.alloc o).drew.stored hu hr hr5 hg5 (hor5.imp id (fun h => by simpa using h))
 rw [show (r.map vN ++ [vN x]).length = r.length + 1 by simp] at hst
 have hbs : ∀ y ∈ bs, (w5.setCell ⟨w.heap.size + 1 + 1, j, none⟩ (.slice (some ⟨g5, 0, none⟩) (r.length + 1) c5)).heap[y]? = W.heap[y]? := fun y hy => hblk y (h.lt y hy).1 (by have := (h.lt y hy).2; omega) (fun e => hap j u y hu e hy)
 have hcell : ∀ y ∈ bs, ∀ k, W.cell? ⟨y, k, none⟩ = (w5.setCell ⟨w.heap.size + 1 + 1, j, none⟩ (.slice (some ⟨g5, 0, none⟩) (r.length + 1) c5)).cell? ⟨y, k, none⟩ := fun y hy k => by
  unfold World.cell?
  rw [hbs y hy]
 have hfro : ∀ y ∈ bs, ∀ k, W.frozen? ⟨y, k, none⟩ = (w5.setCell ⟨w.heap.size + 1 + 1, j, none⟩ (.slice (some ⟨g5, 0, none⟩) (r.length + 1) c5)).frozen? ⟨y, k, none⟩ := fun y hy k => by
  unfold World.frozen?
  rw [hbs y hy]
 have hsz : W.heap.size ≤ w5.heap.size := by have := hg5.size; simp at this; omega
 have hbel : Below w.heap.size w (w5.setCell ⟨w.heap.size + 1 + 1, j, none⟩ (.slice (some ⟨g5, 0, none⟩) (r.length + 1) c5)) :=
  ((bl_trans h.bel ((bl_alloc W o).drew)).grown hg5 (by have := h.bel.size; simp; omega) (fun k hk => by have := hyoung k hk; omega)).setCell (by simp; omega) _
 refine ⟨⟨h.held.block (hblk _ (MG.lt h.held) (by omega) (fun e => by have := hyoung _ e; omega)), h.own.block (hblk _ h.own.lt (by omega) (fun e => by have := hyoung _ e; omega)), ⟨_, hst, fun v u' g hu' hg => ?_⟩, hbel, by rw [← hcell b h.mem]; exact h.kind, fun y hy => ⟨by have := (h.lt y hy).1; simp; omega, (h.lt y hy).2⟩, h.mem⟩, hcell, hfro, hblk⟩
 rw [List.getElem?_set] at hu'
 by_cases hv : j = v
 ·
  subst hv
  rw [if_pos rfl, if_pos (List.getElem?_eq_some_iff.1 hu).1] at hu'
  cases hu'
  have e : g5 = g := Option.some.inj hg
  subst e
  rcases hor5 with h5 | h5
  · exact hap j u g5 hu h5
  · exact fun hm => by have := (h.lt _ hm).1; omega
 ·
  rw [if_neg hv] at hu'
  exact hap v u' g hu' hg
theorem ownRows_turn {w w' : World} {G : Nat} {tO e : TypeId} {cap : Nat} {vals : List Value} {rows : List (List Value)} (h : OwnRows w G tO e cap vals rows) {v g c : Nat} {r r' : List Value} (hu : vals[v]? = some (.slice (some ⟨g, 0, none⟩) r.length c)) (hr : rows[v]? = some r) (hr' : Row w' g e 1 c r') (hl : r'.length = r.length) (hg : w.grownBy w' (some g)) : OwnRows w' G tO e cap vals (rows.set v r') := by
 have hGg := h.young v _ g hu rfl
 refine ⟨by rw [List.length_set]; exact h.len, h.outer.grown hg (fun e => by have := Option.some.inj e; omega), fun v' u' r1 hu' hr1 => ?_, h.young, h.apart⟩
 rw [List.getElem?_set] at hr1
 by_cases hv : v = v'
 ·
  subst hv
  rw [if_pos rfl, if_pos (List.getElem?_eq_some_iff.1 hr).1] at hr1
  cases hr1
  rw [hu] at hu'
  cases hu'
  rw [← hl]
  exact hr'.own1
 ·
  rw [if_neg hv] at hr1
  exact (h.own v' u' r1 hu' hr1).below fun j hj => hg.block j (h.lt hu' hj) (fun e => h.apart v v' _ u' g hv hu hu' rfl (by rw [hj]; exact e))
def srtRows (n : Nat) (l : List Oc) (j : Nat) : List (List Value) := (List.range n).map fun k => (if k < j then srtN (outO (pairsO l) k) else outO (pairsO l) k).map vN
theorem srtRows_zero (n : Nat) (l : List Oc) : srtRows n l 0 = rowsO n l := by
 unfold srtRows rowsO
 refine List.map_congr_left fun k _ => ?_
 rw [if_neg (by omega)]
theorem srtRows_get {n : Nat} {l : List Oc} {j k : Nat} (h : k < n) : (srtRows n l j)[k]? = some ((if k < j then srtN (outO (pairsO l) k) else outO (pairsO l) k).map vN) := by simp [srtRows, h]
theorem srtRows_set {n : Nat} {l : List Oc} {j : Nat} (h : j < n) : (srtRows n l j).set j ((srtN (outO (pairsO l) j)).map vN) = srtRows n l (j + 1) := by
 apply List.ext_getElem (by simp [srtRows])
 intro i h1 h2
 simp only [srtRows, List.getElem_set, List.getElem_map, List.getElem_range]
 by_cases e : j = i
 · subst e; rw [if_pos rfl, if_pos (by omega)]
 ·
  rw [if_neg e]
  by_cases e2 : i < j
  · rw [if_pos e2, if_pos (by omega)]
  · rw [if_neg e2, if_neg (by omega)]
theorem srtRows_none {n : Nat} {l : List Oc} {j : Nat} (hj : outO (pairsO l) j = []) : srtRows n l (j + 1) = srtRows n l j := by
 unfold srtRows
 refine List.map_congr_left fun k _ => ?_
 by_cases e : k = j
 ·
  subst e
  rw [if_pos (by omega), if_neg (by omega), hj]
  simp [srtN]
 ·
  by_cases e2 : k < j
  · rw [if_pos e2, if_pos (by omega)]
  · rw [if_neg e2, if_neg (by omega)]
theorem srtRows_all {n : Nat} {Q : List Pt} : srtRows n (allQ Q) n = (List.range n).map fun k => (besQ Q k).map vN := by
 unfold srtRows besQ
 refine List.map_congr_left fun k hk => ?_
 rw [if_pos (List.mem_range.1 hk)]
theorem srtN_len (l : List Nat) : (srtN l).length = l.length := (srtN_perm l).length_eq
def RdQ (w : World) (a : Option Addr) (Q : List Pt) : Prop := ∀ (i : Nat) (q : Pt), Q[i]? = some q →
 ∃ b o au cu, a = some ⟨b, o, none⟩ ∧ w.cell? ⟨b, o + i * 2, none⟩ = some (.int .i64 q.1) ∧ w.cell? ⟨b, o + i * 2 + 1, none⟩ = some (.slice au q.2.length cu) ∧ RdL w au q.2 ∧ q.2.length ≤ cu ∧ cu ≤ maxLen
theorem RdQ.below {w w' : World} {a : Option Addr} {Q : List Pt} (h : RdQ w a Q) (hb : Below w.heap.size w w') : RdQ w' a Q := fun i q hq => by
 obtain ⟨b, o, au, cu, h1, h2, h3, h4, h5⟩ := h i q hq
 exact ⟨b, o, au, cu, h1, keep_cell hb h2, keep_cell hb h3, h4.below hb, h5⟩
def RetBes (w : World) (Q : List Pt) (e : Ending) (w' : World) : Prop :=
 Below w.heap.size w w' ∧ ((besideP Q ∧ ∃ G, e = .returned (.tuple #[.slice (some ⟨G, 0, none⟩) Q.length Q.length, .bool true]) ∧ RdG w' G Q.length (besQ Q)) ∨ (¬ besideP Q ∧ e = .returned (.tuple #[.slice none 0 0, .bool false])))
end Go.Proofs.YtagcbnpahgfgmaaGreat
