/- Facts that the claim rests on, part 7. -/
import Derived.Test.YtagjdkkfmfombaaGreatKB05
namespace Go.Proofs.YtagjdkkfmfombaaGreat
open Go Go.RowKit
def plainOp (o : Oper) : Bool :=
 match o.op with
 | .move _ | .assign _ | .load _ _ | .store _ _ _ | .indexAddr _ _ _ | .fieldAddr _ _ _ | .binOp _ _ _ _ _ => true
 | .call c => match c.callee with
  | .builtin .min | .builtin .max | .builtin .len => true
  | _ => false
 | _ => false
def plainRes : Result Next → Prop
 | .ok (.value _) _ => True
 | .ok .skip _ => True
 | .halt _ _ => True
 | _ => False
theorem plain_v {P : Program} (s : Sem Value) (w : World) : plainRes ((do pure (Next.value (← s)) : Sem Next).run P w) := by
 simp only [Sem.run_bind, Sem.run_pure]
 cases s.run P w <;> simp [Result.andThen, plainRes]
theorem plain_u {P : Program} (s : Sem Unit) (w : World) : plainRes ((do s; pure Next.skip : Sem Next).run P w) := by
 simp only [Sem.run_bind, Sem.run_pure]
 cases s.run P w <;> simp [Result.andThen, plainRes]
theorem plain_call {P : Program} {c : Call} {b : Builtin} (hc : c.callee = .builtin b) (hb : b = .min ∨ b = .max ∨ b = .len) (ρ : Operand → Value) (ty : TypeId) (w : World) : plainRes ((do let d ← resolve ρ c ty; invoke d.target d.args : Sem Next).run P w) := by
 simp only [resolve, hc, Sem.run_bind, Sem.run_pure, Result.andThen_ok, invoke]
 rcases hb with rfl | rfl | rfl <;> exact plain_v _ _
theorem plain_exec {P : Program} {o : Oper} (h : plainOp o = true) (ρ : Operand → Value) (w : World) : plainRes ((execOp ρ o).run P w) := by
 unfold plainOp at h
 unfold execOp
 cases ho : o.op with
 | call c =>
  rw [ho] at h
  simp only at h
  cases hc : c.callee with
  | builtin b =>
   rw [hc] at h; cases b <;> first | (exact plain_call hc (.inl rfl) _ _ _) | (exact plain_call hc (.inr (.inl rfl)) _ _ _) | (exact plain_call hc (.inr (.inr rfl)) _ _ _) | (cases h)
  | invoke r n => rw [hc] at h; cases h
  | value f => rw [hc] at h; cases h
 | _ => first | (rw [ho] at h; cases h; done) | exact trivial | exact plain_v _ _ | exact plain_u _ _
section
variable {F : Fence} {n : Nat} {P : Program} {ops : Array Oper} {Q : Exit → Act → World → Prop}
theorem upon_in {o : Oper} {a : Act} {next : Act → World → Prop} {r : Result Next} (hr : plainRes r) (h : o.upon P a next Q r) : o.uponIn F n P a next Q r := by
 cases r with
 | ok x w => cases x <;> first | exact h | exact hr.elim
 | halt x w => cases x <;> exact h
theorem plain_defer {o : Oper} (h : plainOp o = true) (c : Call) : o.op ≠ .defer c := fun e => by
 unfold plainOp at h
 rw [e] at h
 cases h
theorem wpOp_in (hF : ∀ f, F.fn f) (hp : ∀ o ∈ ops, plainOp o = true) (hl : ¬ LetsOut Q) {i : Nat} {K : Act → World → Prop} {a : Act} {w : World} (h : wpOp P ops Q i K a w) : wpOpIn F n P ops Q i K a w := by
 unfold wpOp at h
 unfold wpOpIn
 cases ho : ops[i]? with
 | none => rw [ho] at h; exact h
 | some o =>
  rw [ho] at h
  simp only at h ⊢
  have hpo := hp o (Array.mem_of_getElem? ho)
  split
  ·
   rename_i hw; rw [if_pos hw] at h; rcases h with h | ⟨_, h⟩
   ·
    refine ⟨fun f _ => hF f, ?_⟩; have e : o.semAt F.round a.eval = execOp a.eval o := by
     cases hr : F.round with
     | none => rfl
     | some l => exact Oper.semAt_some l _ _ (plain_defer hpo)
    rw [e]; exact upon_in (plain_exec hpo _ _) h
   · exact absurd h hl
  ·
   rename_i hw; rw [if_neg hw] at h; exact ⟨fun f _ => hF f, h⟩
theorem wpAny_in (hF : ∀ f, F.fn f) (hp : ∀ o ∈ ops, plainOp o = true) (hl : ¬ LetsOut Q) {md : Region.Mode} : ∀ (fuel : Nat) (listed : Array Bool) (a : Act) (w : World), wpAny P md ops Q fuel listed a w → wpAnyIn F n P md ops Q fuel listed a w
 | 0, _, _, _, h => h
 | fuel + 1, _, _, _, h => ⟨h.1, fun i hi => wpOpIn_mono (fun a w h' => wpAny_in hF hp hl fuel _ a w h') (wpOp_in hF hp hl (h.2 i hi))⟩
theorem regionTIn {l : List Oper} {id : Nat} {a : Act} {w : World} (S : World → Prop) (N : Nat) (hF : ∀ f, F.fn f) (hl : ¬ LetsOut Q) (hp : l.all plainOp = true) (hm : P.follows .mixedOrders = true)
  (h : anyT P .any l.toArray Q S N l.length (Array.replicate l.length false) a w.drew) : (Code.region id l.toArray true).wpIn F n P Q a w :=
 wpIn_region_any hm (wpAny_in hF (fun o ho => List.all_eq_true.1 hp o (by simpa using ho)) hl _ _ _ _ (any_of_anyT _ _ _ _ (by simpa using h)))
end
end Go.Proofs.YtagjdkkfmfombaaGreat
namespace Go.Proofs.YtagjdkkfmfombaaGreat
open Go Go.RowKit Go.Shelf
attribute [local go_sem] Oper.semAt_some
theorem run_make_rows {P : Program} (t e : TypeId) (z : Value) (s bytes : Nat) (ht : P.underlying t = some (.slice e)) (hinfo : (P.info? e).map (fun i => (i.zero, i.size, i.bytes)) = some (some z, s, bytes))
  (c : Nat) (hbytes : bytes * c ≤ 281474976710656) (h63 : c ≤ 9223372036854775807) (w : World) :
  (Instr.makeSlice t (.int .i64 (c : Int)) (.int .i64 (c : Int))).run P w = .ok (.slice (some ⟨w.heap.size, 0, none⟩) c c) (w.alloc (.cells (madeCells z.cells (c * s)) e)) := by
 obtain ⟨i, hi, hz, hs, hb⟩ := info_parts hinfo
 have hb' : (i.bytes : Int) * (c : Int) ≤ 281474976710656 := by
  have h : ((i.bytes * c : Nat) : Int) ≤ 281474976710656 := by rw [hb]; omega
  rwa [Int.natCast_mul] at h
 have hr := run_make (P := P) w t e i z ht hi hz .i64 .i64 c c (by omega) (by omega) hb' (by omega)
 simp only [Int.toNat_natCast, hs] at hr
 exact hr
theorem row_mades (w : World) (z : Value) (c s : Nat) (e : TypeId) (hm : c ≤ maxLen) : Row (w.alloc (.cells (madeCells z.cells (c * s)) e)) w.heap.size e s c (madeCells z.cells (c * s)).toList :=
 row_new w (madeCells z.cells (c * s)) e s c (by simp [size_madeCells]) hm
theorem low_info : (Tryz.prog.info? 161).map (fun i => (i.zero, i.size, i.bytes)) = some (some (.agg #[.int .i64 0, .int .i64 0, .int .i64 0]), 3, 24) := by kernel_rfl
def low1 (order : List Nat) (up : List Int) (m v : Nat) : List Value :=
 if v ∈ order.take m then [.int .i64 ((order.idxOf v : Nat) + 1 : Int), .int .i64 (up.getD v 0), .int .i64 ((order.idxOf v : Nat) + 1 : Int)] else [.int .i64 0, .int .i64 0, .int .i64 0]
theorem low1_len (order : List Nat) (up : List Int) (m v : Nat) : (low1 order up m v).length = 3 := by unfold low1; split <;> rfl
def lowC (order : List Nat) (up : List Int) (n m : Nat) : List Value := (List.range n).flatMap (low1 order up m)
theorem flat3_len {f : Nat → List Value} (h : ∀ v, (f v).length = 3) (n : Nat) : ((List.range n).flatMap f).length = n * 3 := by
 induction n with
 | zero => rfl
 | succ n ih => rw [List.range_succ, List.flatMap_append, List.length_append, ih]; simp [h]; omega
theorem flat3_get {f : Nat → List Value} (h : ∀ v, (f v).length = 3) {n v : Nat} (hv : v < n) {i : Nat} (hi : i < 3) : ((List.range n).flatMap f)[v * 3 + i]? = (f v)[i]? := by
 induction n with
 | zero => omega
 | succ n ih =>
  rw [List.range_succ, List.flatMap_append]
  by_cases e : v < n
  ·
   rw [List.getElem?_append_left (by rw [flat3_len h]; omega)]; exact ih e
  ·
   obtain rfl : v = n := by omega
   rw [List.getElem?_append_right (by rw [flat3_len h]; omega), flat3_len h]; simp
theorem lowC_len (order : List Nat) (up : List Int) (n m : Nat) : (lowC order up n m).length = n * 3 := flat3_len (low1_len order up m) n
theorem lowC_get {order : List Nat} {up : List Int} {n m v i : Nat} (hv : v < n) (hi : i < 3) : (lowC order up n m)[v * 3 + i]? = (low1 order up m v)[i]? := flat3_get (low1_len order up m) hv hi
theorem lowC_zero (order : List Nat) (up : List Int) (n : Nat) : (madeCells (Value.agg #[.int .i64 0, .int .i64 0, .int .i64 0]).cells (n * 3)).toList = lowC order up n 0 := by
 apply List.ext_getElem?
 intro i
 by_cases hi : i < n * 3
 ·
  have h1 := lowC_get (order := order) (up := up) (m := 0) (show i / 3 < n by omega) (show i % 3 < 3 by omega)
  rw [show i / 3 * 3 + i % 3 = i by omega] at h1
  rw [h1]
  unfold low1
  simp only [List.take_zero, List.not_mem_nil, if_false]
  have h3 : i % 3 = 0 ∨ i % 3 = 1 ∨ i % 3 = 2 := by omega
  rw [Array.getElem?_toList, Array.getElem?_eq_getElem (by rw [size_madeCells]; exact hi)]
  rcases h3 with h | h | h <;> simp [madeCells, h, Value.cells]
 · rw [List.getElem?_eq_none (l := lowC order up n 0) (by rw [lowC_len]; omega), List.getElem?_eq_none (by rw [Array.length_toList, size_madeCells]; omega)]
theorem lowC_set {order : List Nat} {up : List Int} {n m : Nat} (hnd : order.Nodup) (hm : m < order.length) (hv : order[m] < n) :
  (((lowC order up n m).set (order[m] * 3) (.int .i64 ((m : Int) + 1))).set (order[m] * 3 + 1) (.int .i64 (up.getD order[m] 0))).set (order[m] * 3 + 2) (.int .i64 ((m : Int) + 1)) = lowC order up n (m + 1) := by
 apply List.ext_getElem?
 intro i
 by_cases hi : i < n * 3
 ·
  have h1 := fun k => lowC_get (order := order) (up := up) (m := k) (show i / 3 < n by omega) (show i % 3 < 3 by omega)
  simp only [show i / 3 * 3 + i % 3 = i by omega] at h1
  rw [h1 (m + 1)]
  simp only [List.getElem?_set, List.length_set, lowC_len]
  have hmem : ∀ v, v ∈ order.take (m + 1) ↔ (v ∈ order.take m ∨ v = order[m]) := fun v => by rw [List.take_succ_eq_append_getElem hm, List.mem_append, List.mem_singleton]
  have hidx : order.idxOf order[m] = m := hnd.idxOf_getElem m hm
  by_cases e : i / 3 = order[m]
  ·
   have hl : low1 order up (m + 1) (i / 3) = [.int .i64 ((m : Int) + 1), .int .i64 (up.getD order[m] 0), .int .i64 ((m : Int) + 1)] := by
    unfold low1; rw [if_pos ((hmem _).2 (.inr e)), e, hidx]
   rw [hl]; have h3 : i % 3 = 0 ∨ i % 3 = 1 ∨ i % 3 = 2 := by omega
   rcases h3 with h | h | h
   · rw [if_neg (by omega), if_neg (by omega), if_pos (by omega), if_pos (by omega), h]; rfl
   · rw [if_neg (by omega), if_pos (by omega), if_pos (by omega), h]; rfl
   · rw [if_pos (by omega), if_pos (by omega), h]; rfl
  ·
   rw [if_neg (by omega), if_neg (by omega), if_neg (by omega), h1 m]; unfold low1; have : (i / 3 ∈ order.take (m + 1)) ↔ (i / 3 ∈ order.take m) := by rw [hmem]; simp [e]
   simp only [this]
 · rw [List.getElem?_eq_none (by simp [lowC_len]; omega), List.getElem?_eq_none (by rw [lowC_len]; omega)]
def RetSr (w : World) (n : Nat) (order : List Nat) (up : List Int) (e : Ending) (w' : World) : Prop :=
 ∃ gl go co, e = .returned (.tuple #[.slice (some ⟨gl, 0, none⟩) n n, .slice (some ⟨go, 0, none⟩) n co, .int .i64 0]) ∧ Row w' gl 161 3 n (lowC order up n n) ∧ Row w' go 3 1 co (order.map vN) ∧ w.heap.size ≤ gl ∧ w.heap.size ≤ go ∧ Below w.heap.size w w'
theorem set3_block (w : World) (G i j k : Nat) (u v t : Value) {b : Nat} (hb : b ≠ G) :
  ((((w.setCell ⟨G, i, none⟩ u).setCell ⟨G, j, none⟩ v).setCell ⟨G, k, none⟩ t).drew).heap[b]? = w.heap[b]? :=
 (Below.heap_setCell _ ⟨G, k, none⟩ t _ hb).trans ((Below.heap_setCell _ ⟨G, j, none⟩ v _ hb).trans (Below.heap_setCell _ ⟨G, i, none⟩ u _ hb))
theorem cell_block {w w' : World} {b o : Nat} {v : Value} (h : w.cell? ⟨b, o, none⟩ = some v) (e : w'.heap[b]? = w.heap[b]?) : w'.cell? ⟨b, o, none⟩ = some v := by
 unfold World.cell? at h ⊢
 simp only at h ⊢
 rw [e]; exact h
def postM (fn : Func) (R : Ending → World → Prop) : Exit → Act → World → Prop
 | .ret, a, w => bodyPostM Fence.wide 3 Tryz.prog fn R .ret a w
 | .normal, a, w => bodyPostM Fence.wide 3 Tryz.prog fn R .normal a w
 | _, _, _ => False
theorem postM_to {fn : Func} {R : Ending → World → Prop} : ∀ e a w, postM fn R e a w → bodyPostM Fence.wide 3 Tryz.prog fn R e a w := fun e a w h => by
 cases e with
 | ret => exact h
 | normal => exact h
 | panic c => exact h.elim
 | exit i => exact h.elim
 | goto i => exact h.elim
 | outgrown => exact h.elim
set_option maxRecDepth 100000 in
set_option maxHeartbeats 4000000 in
theorem search_walk (n : Nat) (a : Option Addr) (cap : Nat) (es : List (Int × Int)) (w : World) (hr : RdP w a es) (hcap : es.length ≤ 9223372036854775807) (ht : TreeV n es) :
  Calls Tryz.prog 83 #[.agg #[.int .i64 n, .slice a es.length cap]] w (RetSr w n (walkL (besideL n es) 0).1 (walkL (besideL n es) 0).2) := by
 have hi := ht.inv
 have hright := ht.right
 have hwl : (walkL (besideL n es) 0).1.length = n := hi.len
 obtain ⟨order, ho⟩ : ∃ o, o = (walkL (besideL n es) 0).1 := ⟨_, rfl⟩
 obtain ⟨up, hu⟩ : ∃ u, u = (walkL (besideL n es) 0).2 := ⟨_, rfl⟩
 rw [← ho, ← hu] at hi ⊢
 have hn200 : n ≤ 200 := by have := ((rightB_iff n es).1 hright).2.1; omega
 have hpos := ht.pos
 have Hi := Lib.hid hi; have Hright := Lib.hid hright; have Ho := Lib.hid ho; have Hu := Lib.hid hu
 clear hi hright ho hu hwl ht
 have hml := fun w => run_make_rows (P := Tryz.prog) 157 161 (.agg #[.int .i64 0, .int .i64 0, .int .i64 0]) 3 24 Tryz.underlying157 low_info n (by omega) (by omega) w
 have hmo := fun w => run_make_room (P := Tryz.prog) 25 3 (.int .i64 0) 1 8 Tryz.underlying25 int_info n (by omega) (by omega) w
 refine (callsIn_wide (n := 3)).1 (callsIn_of_wp_marks Tryz.func83 rfl trivial (wpIn_mono (wpIn_wide.2 ?_) postM_to))
 simp only [Tryz.ntmps83, List.size_toArray, List.length_cons, List.length_nil, Nat.reduceAdd, Nat.reduceSub, Array.replicate_succ, Array.replicate_zero, List.push_toArray, List.append_toArray, List.nil_append, List.cons_append]
 go_wp2_with fail
 refine (right_walk n a cap es _ (hr.below (bl_alloc _ _)) hcap).mono ?_
 rw [Hright.out]
 rintro e w1 ⟨rfl, hb1⟩
 have hB1 := bl_trans (bl_alloc w _) hb1
 have k0 : w1.cell? ⟨w.heap.size, 0, none⟩ = some (.int .i64 n) := keep_cell hb1 (by simp)
 have k1 : w1.cell? ⟨w.heap.size, 1, none⟩ = some (.slice a es.length cap) := keep_cell hb1 (by simp)
 obtain ⟨wa, hwa⟩ : ∃ wa, wa = w1.alloc (.cells (madeCells #[.int .i64 0, .int .i64 0, .int .i64 0] (n * 3)) 161) := ⟨_, rfl⟩
 have hrm : Row wa w1.heap.size 161 3 n (lowC order up n 0) := by
  rw [hwa, ← lowC_zero]
  exact row_mades w1 (.agg #[.int .i64 0, .int .i64 0, .int .i64 0]) n 3 161 (by unfold maxLen; omega)
 have hwas : wa.heap.size = w1.heap.size + 1 := by rw [hwa]; simp
 obtain ⟨wb, hwb⟩ : ∃ wb, wb = wa.alloc (.cells #[.slice (some ⟨w1.heap.size, 0, none⟩) n n] 157) := ⟨_, rfl⟩
 have hrm2 : Row wb w1.heap.size 161 3 n (lowC order up n 0) := by rw [hwb]; exact hrm.alloc _
 have hbx : wb.cell? ⟨w1.heap.size + 1, 0, none⟩ = some (.slice (some ⟨w1.heap.size, 0, none⟩) n n) := by rw [hwb, ← hwas]; simp
 have hbf : wb.heap.size = wa.heap.size + 1 := by rw [hwb]; simp
 have hB1b : Below w1.heap.size w1 wb := by rw [hwb, hwa]; exact bl_trans (bl_alloc _ _) (bl_alloc _ _)
 have hro : Row (wb.alloc (.cells (madeCells #[.int .i64 0] n) 3)) wb.heap.size 3 1 n [] := by
  have := row_room wb (.int .i64 0) n 1 3 (by unfold maxLen; omega)
  rw [Nat.mul_one] at this; exact this
 rw [Nat.mul_one] at hmo
 have hbc := bl_alloc wb (.cells (madeCells #[.int .i64 0] n) 3)
 have k0b := keep_cell hB1b k0
 have k0c := keep_cell (bl_trans hB1b hbc) k0
 have k1c := keep_cell (bl_trans hB1b hbc) k1
 have hbxc := keep_cell hbc hbx
 have hrmc := hrm2.alloc (.cells (madeCells #[.int .i64 0] n) 3)
 have hBc := bl_trans hB1b hbc
 have Hwa := Lib.hid hwa; have Hwb := Lib.hid hwb; have Hro := Lib.hid hro; have Hrmc := Lib.hid hrmc; have Hk := Lib.hid (And.intro k0c (And.intro k1c hbxc)); have HBc := Lib.hid hBc; have HB1 := Lib.hid hB1
 clear hwa hwb hrm hrm2 hbx hro hbc k0c k1c hbxc hrmc hBc hB1b hB1 hb1
 go_upto_region 4 with (fail)
 rw [← Hwa.out]
 try rw [← Hwb.out]
 have hsz1 : w.heap.size < w1.heap.size := by have := HB1.out.size; have := World.block_lt_of_cell? w1 _ k0; simpa using this
 have hszb : wb.heap.size = w1.heap.size + 2 := by omega
 obtain ⟨hk0, -, -⟩ := Hk.out
 have Hszb := Lib.hid hszb
 clear k0 k1 hbf hwas hszb
 go_wp2_with fail
 go_loopg [6, 31] n (fun r ov iv wj => ∃ (k m g c : Nat), k + r = n ∧ iv = .int .i64 k ∧ ov = .slice (some ⟨g, 0, none⟩) m c ∧ ((k = 0 ∧ m = 0) ∨ (0 < k ∧ m = n)) ∧ Row wj w1.heap.size 161 3 n (lowC order up n m) ∧ Row wj g 3 1 c ((order.take m).map vN) ∧ m ≤ c ∧ w1.heap.size + 1 < g ∧
  wj.cell? ⟨w.heap.size, 0, none⟩ = some (.int .i64 n) ∧ wj.cell? ⟨w.heap.size, 1, none⟩ = some (.slice a es.length cap) ∧ wj.cell? ⟨w1.heap.size + 1, 0, none⟩ = some (.slice (some ⟨w1.heap.size, 0, none⟩) n n) ∧ Below w.heap.size w wj)
 case atStart =>
  refine ⟨0, 0, _, n, by omega, rfl, rfl, .inl ⟨rfl, rfl⟩, Hrmc.out, by simpa using Hro.out, by omega, by have := Hszb.out; omega, Hk.out.1, Hk.out.2.1, Hk.out.2.2, bl_trans HB1.out HBc.out⟩
 case round =>
  clear Hrmc Hro Hk HBc HB1 hml hmo
  obtain ⟨k, m, g, c, hk, rfl, rfl, hm, hlr, hor, hmc, hg, k0, k1, k2, hB⟩ := hrel
  have hgl := hor.lt
  by_cases hkn : k < n
  ·
   have i1 : (k : Int) < (n : Int) := by omega
   rcases hm with ⟨rfl, rfl⟩ | ⟨hk0, rfl⟩
   ·
    have hl0 : wr.cell? ⟨w1.heap.size, 0, none⟩ = some (.int .i64 0) := by
     have h1 := lowC_get (order := order) (up := up) (m := 0) hkn (show 0 < 3 by omega); rw [hlr.cell? 0 (by rw [lowC_len]; omega)]; simpa [low1] using h1
    have Hlr := Lib.hid hlr; have Hor := Lib.hid hor; have HB := Lib.hid hB; have hrr := hr.below hB; clear hlr hor hB; go_wp2_with fail; refine (walkFn_walk n a cap es 0 _ hrr hcap).mono ?_; rintro e w2 ⟨hb2, ⟨hno, -⟩ | ⟨-, hno, -⟩ | ⟨-, -, gm, cm, gu, rfl, hrm, hru, hul, hgm, hgu, hmu⟩⟩
    · rw [Hright.out] at hno; cases hno
    ·
     have : inR (n : Int) 0 = true := (inR_iff _ _).2 ⟨by omega, by omega⟩; rw [this] at hno; cases hno
    simp only [Int.toNat_natCast, Int.toNat_zero] at hrm hru hul ⊢; rw [← Ho.out] at hrm ⊢; rw [← Hu.out] at hru hul; rw [Hi.out.len]; have hlr2 := Hlr.out.below hb2 Hlr.out.lt; have hor2 := Hor.out.below hb2 hgl; have k02 := keep_cell hb2 k0; have k12 := keep_cell hb2 k1; have k22 := keep_cell hb2 k2; have hB2 := bl_trans HB.out hb2; have hgs2 : wr.heap.size ≤ w2.heap.size := hb2.size; obtain ⟨wo, rfl⟩ : ∃ wo : World, wo = wr := ⟨_, rfl⟩
    obtain ⟨gko, hgko⟩ : ∃ g, g = gk := ⟨_, rfl⟩
    have Hgko := Lib.hid hgko; have Hk := Lib.hid hk; have hll := Hlr.out.lt; have Hlr2 := Lib.hid hlr2; have Hor2 := Lib.hid hor2; have HB2 := Lib.hid hB2; have Hrm := Lib.hid hrm; have Hru := Lib.hid hru; have Hks := Lib.hid (And.intro k02 (And.intro k12 k22)); clear hlr2 hor2 hB2 k0 k1 k2 k02 k12 k22 hb2 hrr hgko hk hrm hru; go_wp2_with fail
    go_loopg [6, 52] n (fun r ov iv wj => ∃ (m g c : Nat), m + r = n ∧ iv = .int .i64 m ∧ ov = .slice (some ⟨g, 0, none⟩) m c ∧ Row wj w1.heap.size 161 3 n (lowC order up n m) ∧ Row wj g 3 1 c ((order.take m).map vN) ∧ m ≤ c ∧ w1.heap.size + 1 < g ∧ g ≠ gm ∧ g ≠ gu ∧
     Row wj gm 3 1 cm (order.map vN) ∧ Row wj gu 3 1 n (up.map (Value.int .i64)) ∧
     wj.cell? ⟨w.heap.size, 0, none⟩ = some (.int .i64 n) ∧ wj.cell? ⟨w.heap.size, 1, none⟩ = some (.slice a es.length cap) ∧ wj.cell? ⟨w1.heap.size + 1, 0, none⟩ = some (.slice (some ⟨w1.heap.size, 0, none⟩) n n) ∧ Below w.heap.size w wj)
    case atStart => exact ⟨0, g, c, by omega, rfl, rfl, Hlr2.out, Hor2.out, hmc, hg, by omega, by omega, Hrm.out, Hru.out, Hks.out.1, Hks.out.2.1, Hks.out.2.2, HB2.out⟩
    case round =>
     clear Hlr2 Hor2 HB2 Hrm Hru Hks hmc hg hgl; obtain ⟨m, g, c, hm, rfl, rfl, hlr, hor, hmc, hg, hgm2, hgu2, hrm, hru, k0, k1, k2, hB⟩ := hrel; by_cases hmn : m < n
     ·
      have hml : m < order.length := by rw [Hi.out.len]; exact hmn
      obtain ⟨x, hxe⟩ : ∃ x, order[m] = x := ⟨_, rfl⟩
      have hxn : x < n := Hi.out.lt _ (by rw [← hxe]; exact List.getElem_mem hml); have hcx : wr.cell? ⟨gm, m, none⟩ = some (.int .i64 (x : Nat)) := by
       rw [hrm.cell? m (by simpa using hml), List.getElem?_map, List.getElem?_eq_getElem hml, hxe]; rfl
      obtain ⟨ux, hux⟩ : ∃ ux, up.getD x 0 = ux := ⟨_, rfl⟩
      have hcu : wr.cell? ⟨gu, x, none⟩ = some (.int .i64 ux) := by
       rw [hru.cell? x (by simpa [Hi.out.ul] using hxn), List.getElem?_map, List.getElem?_eq_getElem (by rw [Hi.out.ul]; exact hxn), ← hux]; simp [List.getD, Hi.out.ul, hxn]
      have hset := lowC_set (up := up) (n := n) Hi.out.nd hml (by rw [hxe]; exact hxn); rw [hxe, hux] at hset; have htk : (order.take (m + 1)).map vN = (order.take m).map vN ++ [.int .i64 (x : Nat)] := by rw [List.take_succ_eq_append_getElem hml, hxe, List.map_append]; rfl
      have hlen : ((order.take m).map vN).length = m := by rw [List.length_map, List.length_take]; omega
      have i2 : (m : Int) < (n : Int) := by omega
      have i3 : (x : Int) < (n : Int) := by omega
      have Hset := Lib.hid hset; have Htk := Lib.hid htk; have Hm := Lib.hid hm; clear hset htk hm hxe hux; have hgl := hor.lt; have hgml := hrm.lt; have hgul := hru.lt; have hl1 := hlr.lt; go_upto_region 16 with (at_builtin; go_loud (refine wpList_append_row _ rfl (.tmp 56) (.tmp 58) 25 rfl 3 (.int .i64 0) 1 8 Tryz.underlying25 int_info rfl (.slice (some ⟨g, 0, none⟩) m c) m _ rfl ((hor.alloc _).own (by rw [hlen]; simp) hmc) ⟨wr.heap.size, 0, none⟩ 1 1 [.int .i64 (x : Nat)] rfl rfl (one_new (by simp)) (one_ok _ _) (by omega) (by unfold maxLen; omega) (by omega) ?_; intro g3 c3 w3 hr3 hc3 hg3 hor3))
      have hgr : (wr.alloc (.cells #[.int .i64 (x : Nat)] 3)).heap.size = wr.heap.size + 1 := by simp
      have hg3g : g3 = g ∨ wr.heap.size < g3 := by
       rcases hor3 with h | h
       · cases h; exact .inl rfl
       · right; omega
      have hlr3 := (hlr.alloc (.cells #[.int .i64 (x : Nat)] 3)).grown hg3 (by simp [Value.ownBlock]; omega); have hrm3 := (hrm.alloc (.cells #[.int .i64 (x : Nat)] 3)).grown hg3 (by simp [Value.ownBlock]; omega); have hru3 := (hru.alloc (.cells #[.int .i64 (x : Nat)] 3)).grown hg3 (by simp [Value.ownBlock]; omega); have hbx := bl_alloc wr (.cells #[.int .i64 (x : Nat)] 3); have k03 := grown_cell hg3 (keep_cell hbx k0) (by simp [Value.ownBlock]; omega); have k13 := grown_cell hg3 (keep_cell hbx k1) (by simp [Value.ownBlock]; omega); have k23 := grown_cell hg3 (keep_cell hbx k2) (by simp [Value.ownBlock]; omega); have hcu3 := grown_cell hg3 (keep_cell hbx hcu) (by simp [Value.ownBlock]; omega); have hB3 := (bl_trans hB hbx).grown hg3 (by have := hB.size; simp; omega) (fun j hj => by cases hj; show w.heap.size ≤ g; omega); rw [← Htk.out] at hr3; have Hlr3 := Lib.hid hlr3; have Hrm3 := Lib.hid hrm3; have Hru3 := Lib.hid hru3; have HB3 := Lib.hid hB3; have Hr3 := Lib.hid hr3; have Hk3 := Lib.hid (And.intro k03 k13); have f0 := hlr3.frozen (x * 3); have f1 := hlr3.frozen (x * 3 + 1); have f2 := hlr3.frozen (x * 3 + 2); have hcl : ∀ i, i < 3 → ∃ v, w3.cell? ⟨w1.heap.size, x * 3 + i, none⟩ = some v := fun i hi => by
       refine ⟨_, hlr3.cell (x * 3 + i) (by rw [lowC_len]; omega)⟩
      obtain ⟨v0, c0⟩ := hcl 0 (by omega); obtain ⟨v1, c1⟩ := hcl 1 (by omega); obtain ⟨v2, c2⟩ := hcl 2 (by omega); rw [Nat.add_zero] at c0; clear hlr hor hrm hru hlr3 hrm3 hru3 k0 k1 k2 hB hB3 hr3 hg3 hor3 hcl hcu hcx k03 k13; refine regionT (fun w' => w'.cell? ⟨w1.heap.size + 1, 0, none⟩ = some (.slice (some ⟨w1.heap.size, 0, none⟩) n n) ∧ w'.cell? ⟨gu, x, none⟩ = some (.int .i64 ux)) 12 (by kernel_rfl) ?_; have hS : w3.drew.cell? ⟨w1.heap.size + 1, 0, none⟩ = some (.slice (some ⟨w1.heap.size, 0, none⟩) n n) ∧ w3.drew.cell? ⟨gu, x, none⟩ = some (.int .i64 ux) := ⟨k23, hcu3⟩
      refine tkT 0 ?_ rfl hS ?_ ?_ (by kernel_rfl) (fun _ _ _ h => h) (by rfl); rotate_left; (· intro wS hSw; (try dsimp only at hSw); go_simp; try with_reducible rfl); simp only [Act.put, zT]; refine tkT 1 ?_ rfl hS ?_ ?_ (by kernel_rfl) (fun _ _ _ h => h) (by rfl); rotate_left; (· intro wS hSw; (try dsimp only at hSw); go_simp; try with_reducible rfl); simp only [Act.put, zT]; refine tkT 2 ?_ rfl hS ?_ ?_ (by kernel_rfl) (fun _ _ _ h => h) (by rfl); rotate_left; (· intro wS hSw; (try dsimp only at hSw); go_simp; try with_reducible rfl); simp only [Act.put, zT]; refine tkT 3 ?_ rfl hS ?_ ?_ (by kernel_rfl) (fun _ _ _ h => h) (by rfl); rotate_left; (· intro wS hSw; (try dsimp only at hSw); go_simp; try with_reducible rfl); simp only [Act.put, zT]; refine tkT 4 ?_ rfl hS ?_ ?_ (by kernel_rfl) (fun _ _ _ h => h) (by rfl); rotate_left; (· intro wS hSw; (try dsimp only at hSw); go_simp; try with_reducible rfl); simp only [Act.put, zT]; refine tkT 5 ?_ rfl hS ?_ ?_ (by kernel_rfl) (fun _ _ _ h => h) (by rfl); rotate_left; (· intro wS hSw; (try dsimp only at hSw); go_simp; try with_reducible rfl); simp only [Act.put, zT]; refine tkT 6 ?_ rfl hS ?_ ?_ (by kernel_rfl) (fun _ _ _ h => h) (by rfl); rotate_left; (· intro wS hSw; (try dsimp only at hSw); go_simp; try with_reducible rfl); simp only [Act.put, zT]; refine tkT 7 ?_ rfl hS ?_ ?_ (by kernel_rfl) (fun _ _ _ h => h) (by rfl); rotate_left; (· intro wS hSw; (try dsimp only at hSw); go_simp; try with_reducible rfl); simp only [Act.put, zT]
      refine tkT 8 ?_ rfl hS ?_ ?_ (by kernel_rfl) (fun _ _ _ h => h) (by rfl); rotate_left; (· intro wS hSw; (try dsimp only at hSw); go_simp; try with_reducible rfl); simp only [Act.put, zT]; refine tkT 9 ?_ rfl hS ?_ ?_ (by kernel_rfl) (fun _ _ _ h => h) (by rfl); rotate_left; (· intro wS hSw; (try dsimp only at hSw); go_simp; try with_reducible rfl); simp only [Act.put, zT]; refine tkT 10 ?_ rfl hS ?_ ?_ (by kernel_rfl) (fun _ _ _ h => h) (by rfl); rotate_left; (· intro wS hSw; (try dsimp only at hSw); go_simp; try with_reducible rfl); simp only [Act.put, zT]; refine tkT 11 ?_ rfl hS ?_ ?_ (by kernel_rfl) (fun _ _ _ h => h) (by rfl); rotate_left; (· intro wS hSw; (try dsimp only at hSw); go_simp; try with_reducible rfl); simp only [Act.put, zT]; refine oneT (i := 12) rfl (by kernel_rfl) (fun K hK => ?_); go_simp; refine hK _ _ (fun h => absurd h (by omega)) ?_; clear hK K hS; refine doneT (by kernel_rfl) ?_ _; go_wp2_with fail; go_roundg (gk - 1)
      case measure => have := Hm.out; omega
      case rel =>
       have hr4 := (((Hlr3.out.set (x * 3) (.int .i64 ((m : Int) + 1))).set (x * 3 + 1) (.int .i64 ux)).set (x * 3 + 2) (.int .i64 ((m : Int) + 1))).drew; rw [Hset.out] at hr4; have hne : w1.heap.size ≠ g3 := by rcases hg3g with h | h <;> omega
       refine ⟨m + 1, g3, c3, by have := Hm.out; omega, by go_num, rfl, hr4, Hr3.out.block (set3_block _ _ _ _ _ _ _ _ (Ne.symm hne)), hc3, by rcases hg3g with h | h <;> omega, by rcases hg3g with h | h <;> omega, by rcases hg3g with h | h <;> omega,
        Hrm3.out.block (set3_block _ _ _ _ _ _ _ _ (by omega)), Hru3.out.block (set3_block _ _ _ _ _ _ _ _ (by omega)), cell_block Hk3.out.1 (set3_block _ _ _ _ _ _ _ _ (by omega)), cell_block Hk3.out.2 (set3_block _ _ _ _ _ _ _ _ (by omega)), cell_block k23 (set3_block _ _ _ _ _ _ _ _ (by omega)), ?_⟩
       exact (((HB3.out.setCell (p := ⟨w1.heap.size, x * 3, none⟩) (by show w.heap.size ≤ w1.heap.size; omega) _).setCell (p := ⟨w1.heap.size, x * 3 + 1, none⟩) (by show w.heap.size ≤ w1.heap.size; omega) _).setCell (p := ⟨w1.heap.size, x * 3 + 2, none⟩) (by show w.heap.size ≤ w1.heap.size; omega) _).drew
     ·
      have hmn2 : m = n := by omega
      subst hmn2; have Hlr := Lib.hid hlr; have Hor := Lib.hid hor; have HB := Lib.hid hB; clear hlr hor hrm hru hB hm; go_wp2_with fail; go_roundg (gko - 1)
      case measure => have := Hk.out; have := Hgko.out; omega
      case rel => exact ⟨1, m, g, c, by have := Hk.out; have := Hgko.out; omega, by simp, rfl, .inr ⟨by omega, rfl⟩, Hlr.out, Hor.out, hmc, hg, k0, k1, k2, HB.out⟩
   ·
    have hmem : k ∈ order := Hi.out.all k hkn; obtain ⟨x, hx, hl0⟩ : ∃ x : Nat, 0 < x ∧ wr.cell? ⟨w1.heap.size, k * 3, none⟩ = some (.int .i64 (x : Nat)) := by
     refine ⟨order.idxOf k + 1, by omega, ?_⟩; have h1 := lowC_get (order := order) (up := up) (m := m) hkn (show 0 < 3 by omega); rw [hlr.cell? (k * 3) (by rw [lowC_len]; omega)]; rw [Nat.add_zero] at h1; rw [h1]; unfold low1; rw [if_pos (by rw [List.take_of_length_le (by rw [Hi.out.len]; omega)]; exact hmem)]; rfl
    have hne : ((x : Int) != 0) = true := by simp; omega
    have Hlr := Lib.hid hlr; have Hor := Lib.hid hor; have HB := Lib.hid hB; have Hk := Lib.hid hk; clear hlr hor hB hk; go_wp2_with fail; go_roundg (gk - 1)
    case measure => have := Hk.out; omega
    case rel => exact ⟨k + 1, m, g, c, by have := Hk.out; omega, by go_num, rfl, .inr ⟨by omega, rfl⟩, Hlr.out, Hor.out, hmc, hg, k0, k1, k2, HB.out⟩
  ·
   have hkn2 : k = n := by omega
   have hmn : m = n := by omega
   subst hmn; subst hkn2; have hrr := hr.below hB; have hlm : ∀ v, v < k → ∀ i, i < 3 → wr.cell? ⟨w1.heap.size, v * 3 + i, none⟩ = (low1 order up k v)[i]? := fun v hv i hi => by
    rw [hlr.cell? _ (by rw [lowC_len]; omega)]; exact lowC_get hv hi
   obtain ⟨wo, rfl⟩ : ∃ wo : World, wo = wr := ⟨_, rfl⟩
   have hll := hlr.lt; have Hlr := Lib.hid hlr; have Hor := Lib.hid hor; have HB := Lib.hid hB; have Hrr := Lib.hid hrr; have Hlm := Lib.hid hlm; clear hlr hor hB hk hm hrr hlm hkn; go_wp2_with fail; go_loopg [77] es.length (fun r iv wj => ∃ j : Nat, j + r = es.length ∧ iv = .int .i64 j ∧ Below wo.heap.size wo wj)
   case atStart => exact ⟨0, by omega, rfl, bl_refl wo⟩
   case round =>
    obtain ⟨j, hk, rfl, hB2⟩ := hrel; have Hk := Lib.hid hk; have HB2 := Lib.hid hB2; by_cases hkl : j < es.length
    ·
     obtain ⟨b3, o3, rfl, hx0, hx1⟩ := (Hrr.out.below hB2).at j hkl; obtain ⟨x, y, hxe, hxy, hyn, hor2⟩ := Hi.out.edge _ (List.getElem_mem hkl); rw [hxe] at hx0 hx1; simp only at hx0 hx1; have hbx := bl_alloc wr (.cells #[.int .i64 x, .int .i64 y] 51); have hB3 := bl_trans hB2 hbx; have k23 := keep_cell hB3 k2; have hxn : x < k := by omega
     have hup : ∀ v, v < k → (wr.alloc (.cells #[.int .i64 x, .int .i64 y] 51)).cell? ⟨w1.heap.size, v * 3 + 1, none⟩ = some (.int .i64 (up.getD v 0)) := fun v hv => by
      refine keep_cell hB3 ?_; rw [Hlm.out v hv 1 (by omega)]; unfold low1; rw [if_pos (by rw [List.take_of_length_le (by rw [Hi.out.len]; omega)]; exact Hi.out.all v hv)]; rfl
     have hu1 := hup x hxn; have hu2 := hup y hyn; have d0 : (wr.alloc (.cells #[.int .i64 x, .int .i64 y] 51)).cell? ⟨wr.heap.size, 0, none⟩ = some (.int .i64 x) := by simp
     have d1 : (wr.alloc (.cells #[.int .i64 x, .int .i64 y] 51)).cell? ⟨wr.heap.size, 1, none⟩ = some (.int .i64 y) := by simp
     obtain ⟨p, hp⟩ : ∃ p, up.getD x 0 = p := ⟨_, rfl⟩
     obtain ⟨q, hq⟩ : ∃ q, up.getD y 0 = q := ⟨_, rfl⟩
     have hpq : p = y ∨ q = x := by
      rcases hor2 with h | h
      · left; rw [← hp]; simp [List.getD, h]
      · right; rw [← hq]; simp [List.getD, h]
     rw [hp] at hu1; rw [hq] at hu2; have i1 : (j : Int) < (es.length : Int) := by omega
     have i2 : (x : Int) < (k : Int) := by omega
     have i3 : (y : Int) < (k : Int) := by omega
     have HB3 := Lib.hid hB3; clear hp hq hup hk hB2 hxe hor2 hB3 hbx; go_upto_region 22 with (fail)
     generalize wr.alloc (.cells #[.int .i64 x, .int .i64 y] 51) = wa at *
     by_cases e1 : p = y
     ·
      have q1 : (p == (y : Int)) = true := by simp [e1]
      go_quiet (fail)
      go_wp2_with fail; obtain ⟨wc, hwc⟩ : ∃ wc, wc = wa.drewN nq := ⟨_, rfl⟩
      rw [← hwc]; have k24 : wc.cell? ⟨w1.heap.size + 1, 0, none⟩ = some (.slice (some ⟨w1.heap.size, 0, none⟩) k k) := by rw [hwc]; exact k23
      have hu3 : wc.cell? ⟨w1.heap.size, x * 3 + 1, none⟩ = some (.int .i64 p) := by rw [hwc]; exact hu1
      have hu4 : wc.cell? ⟨w1.heap.size, y * 3 + 1, none⟩ = some (.int .i64 q) := by rw [hwc]; exact hu2
      have d2 : wc.cell? ⟨wr.heap.size, 0, none⟩ = some (.int .i64 x) := by rw [hwc]; exact d0
      have d3 : wc.cell? ⟨wr.heap.size, 1, none⟩ = some (.int .i64 y) := by rw [hwc]; exact d1
      clear k23 hu1 hu2 d0 d1; have hB4 : Below wo.heap.size wo wc := by rw [hwc]; exact below_drewN HB3.out nq
      have HB4 := Lib.hid hB4; clear hwc hB4; go_quiet (fail)
      go_wp2_with fail; go_roundg (gk - 1)
      case measure => have := Hk.out; omega
      case rel => exact ⟨j + 1, by have := Hk.out; omega, by go_num, below_drewN HB4.out _⟩
     ·
      have q1 : (p == (y : Int)) = false := by simp [e1]
      have q2 : (q == (x : Int)) = true := by simp; exact hpq.resolve_left e1
      go_quiet (fail)
      go_wp2_with fail; obtain ⟨wc, hwc⟩ : ∃ wc, wc = wa.drewN nq := ⟨_, rfl⟩
      rw [← hwc]; have k24 : wc.cell? ⟨w1.heap.size + 1, 0, none⟩ = some (.slice (some ⟨w1.heap.size, 0, none⟩) k k) := by rw [hwc]; exact k23
      have hu3 : wc.cell? ⟨w1.heap.size, x * 3 + 1, none⟩ = some (.int .i64 p) := by rw [hwc]; exact hu1
      have hu4 : wc.cell? ⟨w1.heap.size, y * 3 + 1, none⟩ = some (.int .i64 q) := by rw [hwc]; exact hu2
      have d2 : wc.cell? ⟨wr.heap.size, 0, none⟩ = some (.int .i64 x) := by rw [hwc]; exact d0
      have d3 : wc.cell? ⟨wr.heap.size, 1, none⟩ = some (.int .i64 y) := by rw [hwc]; exact d1
      clear k23 hu1 hu2 d0 d1; have hB4 : Below wo.heap.size wo wc := by rw [hwc]; exact below_drewN HB3.out nq
      have HB4 := Lib.hid hB4; clear hwc hB4; go_quiet (fail)
      go_wp2_with fail; go_roundg (gk - 1)
      case measure => have := Hk.out; omega
      case rel => exact ⟨j + 1, by have := Hk.out; omega, by go_num, below_drewN HB4.out _⟩
    ·
     have hB3 := HB2.out; have hrow := Hor.out.below hB3 Hor.out.lt; have hlr3 := Hlr.out.below hB3 Hlr.out.lt; have hB4 := bl_trans HB.out hB3; have k24 := keep_cell hB3 k2; rw [List.take_of_length_le (by rw [Hi.out.len]; omega)] at hrow; have Hrow := Lib.hid hrow; have Hlr3 := Lib.hid hlr3; have HB4 := Lib.hid hB4; clear hrow hlr3 hB4 hB3 hk hB2; go_wp2_with fail; refine (bw_in _ k c _).mono ?_; rintro e w5 ⟨rfl, rfl⟩; go_wp2_with fail; obtain ⟨wq, hwq⟩ : ∃ wq, wq = wr.alloc (.cells #[.slice (some ⟨g, 0, none⟩) k c] 25) := ⟨_, rfl⟩
     have hbq : Below wr.heap.size wr wq := by rw [hwq]; exact bl_alloc _ _
     have hwqs : wq.heap.size = wr.heap.size + 1 := by rw [hwq]; simp
     have hbox : wq.cell? ⟨wr.heap.size, 0, none⟩ = some (.slice (some ⟨g, 0, none⟩) order.length c) := by rw [hwq, Hi.out.len]; simp
     have hrowq := Hrow.out.below hbq Hrow.out.lt; have hlrq := Hlr3.out.below hbq Hlr3.out.lt; have k25 := keep_cell hbq k24; have hB5 := bl_trans HB4.out hbq; have hgq := hrowq.lt; have hlq := hlrq.lt; rw [← hwq]; refine range_back (zs := order) (b := g) (off := 0) (cap := c) 18 (by simp [Act.eval]) (by rw [Hi.out.len]; omega) (by omega) hgq hbox (fun j h => ?_) ?assign ?body ?done
     · rw [Nat.zero_add, hrowq.cell? j (by simpa using h), List.getElem?_map, List.getElem?_eq_getElem h]; rfl
     case assign =>
      intro l x W K hK; unfold actB at hK; simp only [List.setIfInBounds_toArray, List.set_cons_zero, List.set_cons_succ] at hK; gi_wp2; exact hK
     case body =>
      clear hbox hwq hrowq; intro l x W hBW; obtain ⟨⟨i, v⟩, hv⟩ := x; simp only at hv; have hvn : v < k := Hi.out.lt v hv; have kW := keep_cell hBW k25; have hlw : ∀ v, v < k → W.cell? ⟨w1.heap.size, v * 3 + 1, none⟩ = some (.int .i64 (up.getD v 0)) ∧ W.cell? ⟨w1.heap.size, v * 3 + 2, none⟩ = some (.int .i64 ((order.idxOf v : Nat) + 1 : Int)) ∧ W.frozen? ⟨w1.heap.size, v * 3 + 2, none⟩ = false := fun v hv => by
       have hrW := hlrq.below hBW hlq; have hm : v ∈ order.take k := by rw [List.take_of_length_le (by rw [Hi.out.len]; omega)]; exact Hi.out.all v hv
       refine ⟨?_, ?_, hrW.frozen _⟩
       · rw [hrW.cell? _ (by rw [lowC_len]; omega), lowC_get hv (by omega)]; unfold low1; rw [if_pos hm]; rfl
       · rw [hrW.cell? _ (by rw [lowC_len]; omega), lowC_get hv (by omega)]; unfold low1; rw [if_pos hm]; rfl
      obtain ⟨v1, v2, v3⟩ := hlw v hvn; have i1 : (v : Int) < (k : Int) := by omega
      unfold actB; simp only; have HBW := Lib.hid hBW; have Hlw := Lib.hid hlw; have HB5 := Lib.hid hB5; by_cases h0 : v = 0
      ·
       subst h0; have hu0 : up.getD 0 0 = -1 := by simp [List.getD, Hi.out.root]
       rw [hu0] at v1; simp only [Nat.zero_mul, Nat.zero_add] at v1; clear hBW hlw hB5 hlrq hbq k25 hu0; gi_wp2; exact ⟨KeepsOthers.refl _, Below.refl _ _⟩
      ·
       obtain ⟨u, hu1, hun, hlt, -⟩ := Hi.out.par v hvn h0; have hu0 : up.getD v 0 = (u : Int) := by simp [List.getD, hu1]
       rw [hu0] at v1; obtain ⟨-, u2, u3⟩ := hlw u hun; have hmin : min ((order.idxOf u : Nat) + 1 : Int) ((order.idxOf v : Nat) + 1) = (order.idxOf u : Nat) + 1 := by omega
       obtain ⟨nu, hnu⟩ : ∃ x, order.idxOf u = x := ⟨_, rfl⟩
       obtain ⟨nv, hnv⟩ : ∃ x, order.idxOf v = x := ⟨_, rfl⟩
       rw [hnu] at u2 hmin; rw [hnu, hnv] at hlt; rw [hnv] at v2 hmin; have i2 : (u : Int) < (k : Int) := by omega
       clear hBW hlw hB5 hlrq hbq k25 hu0 hu1 hnu hnv; gi_wp2; refine regionTIn (fun w' => w'.cell? ⟨w1.heap.size + 1, 0, none⟩ = some (.slice (some ⟨w1.heap.size, 0, none⟩) k k) ∧ w'.cell? ⟨w1.heap.size, u * 3 + 2, none⟩ = some (.int .i64 ((nu : Nat) + 1 : Int)) ∧ w'.cell? ⟨w1.heap.size, v * 3 + 2, none⟩ = some (.int .i64 ((nv : Nat) + 1 : Int))) 15 (fun _ => trivial) (fun ⟨_, _, h⟩ => h) (by decide) (by kernel_rfl) ?_; have hS : W.drew.cell? ⟨w1.heap.size + 1, 0, none⟩ = some (.slice (some ⟨w1.heap.size, 0, none⟩) k k) ∧ W.drew.cell? ⟨w1.heap.size, u * 3 + 2, none⟩ = some (.int .i64 ((nu : Nat) + 1 : Int)) ∧ W.drew.cell? ⟨w1.heap.size, v * 3 + 2, none⟩ = some (.int .i64 ((nv : Nat) + 1 : Int)) := ⟨kW, u2, v2⟩
       refine tkT 0 ?_ rfl hS ?_ ?_ (by kernel_rfl) (fun _ _ _ h => h) (by rfl); rotate_left; (· intro wS hSw; (try dsimp only at hSw); go_simp; try with_reducible rfl); simp only [Act.put, zT]; refine tkT 1 ?_ rfl hS ?_ ?_ (by kernel_rfl) (fun _ _ _ h => h) (by rfl); rotate_left; (· intro wS hSw; (try dsimp only at hSw); go_simp; try with_reducible rfl); simp only [Act.put, zT]; refine tkT 2 ?_ rfl hS ?_ ?_ (by kernel_rfl) (fun _ _ _ h => h) (by rfl); rotate_left; (· intro wS hSw; (try dsimp only at hSw); go_simp; try with_reducible rfl); simp only [Act.put, zT]; refine tkT 3 ?_ rfl hS ?_ ?_ (by kernel_rfl) (fun _ _ _ h => h) (by rfl); rotate_left; (· intro wS hSw; (try dsimp only at hSw); go_simp; try with_reducible rfl); simp only [Act.put, zT]; refine tkT 4 ?_ rfl hS ?_ ?_ (by kernel_rfl) (fun _ _ _ h => h) (by rfl); rotate_left; (· intro wS hSw; (try dsimp only at hSw); go_simp; try with_reducible rfl); simp only [Act.put, zT]; refine tkT 5 ?_ rfl hS ?_ ?_ (by kernel_rfl) (fun _ _ _ h => h) (by rfl); rotate_left; (· intro wS hSw; (try dsimp only at hSw); go_simp; try with_reducible rfl); simp only [Act.put, zT]; refine tkT 6 ?_ rfl hS ?_ ?_ (by kernel_rfl) (fun _ _ _ h => h) (by rfl); rotate_left; (· intro wS hSw; (try dsimp only at hSw); go_simp; try with_reducible rfl); simp only [Act.put, zT]; refine tkT 7 ?_ rfl hS ?_ ?_ (by kernel_rfl) (fun _ _ _ h => h) (by rfl); rotate_left; (· intro wS hSw; (try dsimp only at hSw); go_simp; try with_reducible rfl); simp only [Act.put, zT]
       refine tkT 8 ?_ rfl hS ?_ ?_ (by kernel_rfl) (fun _ _ _ h => h) (by rfl); rotate_left; (· intro wS hSw; (try dsimp only at hSw); go_simp; try with_reducible rfl); simp only [Act.put, zT]; refine tkT 9 ?_ rfl hS ?_ ?_ (by kernel_rfl) (fun _ _ _ h => h) (by rfl); rotate_left; (· intro wS hSw; (try dsimp only at hSw); go_simp; try with_reducible rfl); simp only [Act.put, zT]; refine tkT 10 ?_ rfl hS ?_ ?_ (by kernel_rfl) (fun _ _ _ h => h) (by rfl); rotate_left; (· intro wS hSw; (try dsimp only at hSw); go_simp; try with_reducible rfl); simp only [Act.put, zT]; refine tkT 11 ?_ rfl hS ?_ ?_ (by kernel_rfl) (fun _ _ _ h => h) (by rfl); rotate_left; (· intro wS hSw; (try dsimp only at hSw); go_simp; try with_reducible rfl); simp only [Act.put, zT]; refine tkT 12 ?_ rfl hS ?_ ?_ (by kernel_rfl) (fun _ _ _ h => h) (by rfl); rotate_left; (· intro wS hSw; (try dsimp only at hSw); go_simp; try with_reducible rfl); simp only [Act.put, zT]; refine tkT 13 ?_ rfl hS ?_ ?_ (by kernel_rfl) (fun _ _ _ h => h) (by rfl); rotate_left; (· intro wS hSw; (try dsimp only at hSw); go_simp; try with_reducible rfl); simp only [Act.put, zT]; refine tkT 14 ?_ rfl hS ?_ ?_ (by kernel_rfl) (fun _ _ _ h => h) (by rfl); rotate_left; (· intro wS hSw; (try dsimp only at hSw); go_simp; try with_reducible rfl); simp only [Act.put, zT]; refine oneT (i := 15) rfl (by kernel_rfl) (fun K hK => ?_); go_simp; refine hK _ _ (fun h => absurd h (by omega)) ?_; clear hK K; refine doneT (by kernel_rfl) ?_ _; exact ⟨(KeepsOthers.setCell W ⟨w1.heap.size, u * 3 + 2, none⟩ _).trans (KeepsOthers.drew _), (below_same (Below.refl _ W) u2).drew⟩
     case done =>
      clear hbox hwq; intro D W hD hBW hK; have kW := keep_cell hBW k25; have hfin : Below wq.heap.size wq (W.putObj D (.deferred none)) := hBW.trans (belowK_b (w := wq) (Nat.le_refl _) W D _ (.deferred none) hD hK rfl rfl); have hlf := hlrq.below hfin hlq; have hof := hrowq.below hfin hgq; have hBf := bl_trans hB5 hfin; have Hlf := Lib.hid hlf; have Hof := Lib.hid hof; have HBf := Lib.hid hBf; have HK := Lib.hid hK; clear hlf hof hBf hK hfin hlrq hrowq hB5 hbq hBW k25; go_wp2_with fail; refine ⟨by simp, .inl ⟨_, _, rfl, run_takeDeferred HK.out, ?_⟩⟩; refine ⟨_, results_tmp3 rfl _ _ _, ?_⟩; exact ⟨w1.heap.size, g, c, rfl, Hlf.out, Hof.out, by omega, by omega, HBf.out⟩
end Go.Proofs.YtagjdkkfmfombaaGreat
namespace Go.Proofs.YtagjdkkfmfombaaGreat
open Go Go.RowKit
theorem lows_at {w : World} {gl n : Nat} {es : List (Int × Int)} {order : List Nat} {up : List Int} (h : Row w gl 161 3 n (lowC order up n n)) (hi : TreeI n es order up) {v : Nat} (hv : v < n) :
  w.cell? ⟨gl, v * 3, none⟩ = some (.int .i64 ((order.idxOf v : Nat) + 1 : Int)) ∧ w.cell? ⟨gl, v * 3 + 1, none⟩ = some (.int .i64 (up.getD v 0)) ∧ w.cell? ⟨gl, v * 3 + 2, none⟩ = some (.int .i64 ((order.idxOf v : Nat) + 1 : Int)) := by
 have hm : v ∈ order.take n := by rw [List.take_of_length_le (by rw [hi.len]; omega)]; exact hi.all v hv
 have key : ∀ i, i < 3 → w.cell? ⟨gl, v * 3 + i, none⟩ = (low1 order up n v)[i]? := fun i h3 => by
  rw [h.cell? _ (by rw [lowC_len]; omega), lowC_get hv h3]
 have e : low1 order up n v = [.int .i64 ((order.idxOf v : Nat) + 1 : Int), .int .i64 (up.getD v 0), .int .i64 ((order.idxOf v : Nat) + 1 : Int)] := by unfold low1; rw [if_pos hm]
 rw [e] at key
 exact ⟨key 0 (by omega), key 1 (by omega), key 2 (by omega)⟩
def chN (order : List Nat) (up : List Int) (m v : Nat) : Nat := ((order.take m).filter fun x => up.getD x 0 == (v : Int)).length
def cutB (order : List Nat) (up : List Int) (n v : Nat) : Bool := decide (1 < chN order up n v) || (chN order up n v == 1 && decide (0 ≤ up.getD v 0))
def cutsT (order : List Nat) (up : List Int) (n : Nat) : List Nat := (List.range n).filter (cutB order up n)
def begV (order : List Nat) (up : List Int) (n m : Nat) : List Value := (List.range n).map fun v => Value.int .i64 (chN order up m v : Nat)
theorem begV_len (order : List Nat) (up : List Int) (n m : Nat) : (begV order up n m).length = n := by simp [begV]
theorem begV_get {order : List Nat} {up : List Int} {n m v : Nat} (hv : v < n) : (begV order up n m)[v]? = some (.int .i64 (chN order up m v : Nat)) := by simp [begV, hv]
theorem chN_succ {order : List Nat} {up : List Int} {m : Nat} (hm : m < order.length) (v : Nat) : chN order up (m + 1) v = chN order up m v + if up.getD order[m] 0 = (v : Int) then 1 else 0 := by
 unfold chN
 rw [List.take_succ_eq_append_getElem hm, List.filter_append, List.length_append]
 congr 1
 rw [List.filter_cons]
 by_cases e : up.getD order[m] 0 = (v : Int)
 · rw [if_pos (by rw [e]; simp), if_pos e]; rfl
 · rw [if_neg (by simpa using e), if_neg e]; rfl
theorem chN_le (order : List Nat) (up : List Int) (m v : Nat) : chN order up m v ≤ m := by
 unfold chN
 have := List.length_filter_le (fun x => up.getD x 0 == (v : Int)) (order.take m)
 rw [List.length_take] at this
 omega
theorem begV_set {order : List Nat} {up : List Int} {n m u : Nat} (hm : m < order.length) (hu : up.getD order[m] 0 = (u : Int)) : (begV order up n m).set u (.int .i64 ((chN order up m u : Nat) + 1 : Int)) = begV order up n (m + 1) := by
 apply List.ext_getElem?
 intro i
 rw [List.getElem?_set, begV_len]
 by_cases hi : i < n
 ·
  rw [begV_get hi, begV_get hi, chN_succ hm, hu]
  by_cases e : u = i
  · subst e; simp [hi]
  ·
   have : ((u : Nat) : Int) ≠ (i : Int) := by omega
   simp [e, this]
 ·
  rw [List.getElem?_eq_none (l := begV order up n m) (by rw [begV_len]; omega), List.getElem?_eq_none (l := begV order up n (m + 1)) (by rw [begV_len]; omega)]
  simp; omega
theorem begV_none {order : List Nat} {up : List Int} {n m : Nat} (hm : m < order.length) (hu : up.getD order[m] 0 < 0) : begV order up n (m + 1) = begV order up n m := by
 unfold begV
 congr 1
 funext v
 rw [chN_succ hm, if_neg (by omega)]; rfl
def RetCuts (w : World) (l : List Nat) (e : Ending) (w' : World) : Prop :=
 ∃ g c, e = .returned (.tuple #[.slice (some ⟨g, 0, none⟩) l.length c, .int .i64 0]) ∧ Row w' g 3 1 c (l.map vN) ∧ l.length ≤ c ∧ w.heap.size ≤ g ∧ Below w.heap.size w w'
set_option maxRecDepth 100000 in
set_option maxHeartbeats 4000000 in
theorem cutsT_walk (n : Nat) (a : Option Addr) (cap : Nat) (es : List (Int × Int)) (w : World) (hr : RdP w a es) (hcap : es.length ≤ 9223372036854775807) (ht : TreeV n es) :
  Calls Tryz.prog 54 #[.agg #[.int .i64 n, .slice a es.length cap]] w (RetCuts w (cutsT (walkL (besideL n es) 0).1 (walkL (besideL n es) 0).2 n)) := by
 have hsw := fun w hr => search_walk n a cap es w hr hcap ht
 have hi := ht.inv
 have hright := ht.right
 obtain ⟨order, ho⟩ : ∃ o, o = (walkL (besideL n es) 0).1 := ⟨_, rfl⟩
 obtain ⟨up, hu⟩ : ∃ u, u = (walkL (besideL n es) 0).2 := ⟨_, rfl⟩
 simp only [← ho, ← hu] at hsw
 rw [← ho, ← hu] at hi ⊢
 have hn200 : n ≤ 200 := by have := ((rightB_iff n es).1 hright).2.1; omega
 have hpos := ht.pos
 have Hi := Lib.hid hi; have Hsw := Lib.hid hsw
 clear hi hright ho hu ht hsw
 have hmi := run_make_row' (P := Tryz.prog) 25 3 (.int .i64 0) 8 Tryz.underlying25 int_info rfl .i64 .i64 n (by omega) (by omega)
 have hb0 := bl_alloc w (.cells #[.int .i64 n, .slice a es.length cap] 24)
 have k0 : (w.alloc (.cells #[.int .i64 n, .slice a es.length cap] 24)).cell? ⟨w.heap.size, 0, none⟩ = some (.int .i64 n) := by simp
 have hbs : (w.alloc (.cells #[.int .i64 n, .slice a es.length cap] 24)).heap.size = w.heap.size + 1 := by simp
 have hr0 := hr.below hb0
 go_enter Tryz.func54, Tryz.ntmps54
 go_wp2_with fail
 refine (Hsw.out _ hr0).mono ?_
 rintro e w1 ⟨gl, go, co, rfl, hlr, hor, hgl, hgo, hb1⟩
 have k1 := keep_cell hb1 k0
 have hB1 := bl_trans hb0 hb1
 have hrm : Row (w1.alloc (.cells (madeCells #[.int .i64 0] n) 3)) w1.heap.size 3 1 n (begV order up n 0) := by
  have := row_made w1 (.int .i64 0) n 3 (by unfold maxLen; omega)
  rwa [show begV order up n 0 = List.replicate n (.int .i64 0) by simp [begV, chN, List.eq_replicate_iff]]
 have hgl1 := hlr.lt
 have hgo1 := hor.lt
 rw [hbs] at hgl hgo
 have hbm := bl_alloc w1 (.cells (madeCells #[.int .i64 0] n) 3)
 have hBm := bl_trans hB1 hbm
 have k2 := keep_cell hbm k1
 have hlr2 := hlr.below hbm hgl1
 have hor2 := hor.below hbm hgo1
 have Hrm := Lib.hid hrm; have HBm := Lib.hid hBm; have Hlr2 := Lib.hid hlr2; have Hor2 := Lib.hid hor2
 have hw1 : w.heap.size < w1.heap.size := by omega
 clear hlr hor hrm hBm hbm hlr2 hor2 hB1 hb1 hb0 k0 hr0
 go_wp2_with fail
 go_loopg [27] n (fun r iv wj => ∃ m : Nat, m + r = n ∧ iv = .int .i64 m ∧ Row wj w1.heap.size 3 1 n (begV order up n m) ∧ Row wj gl 161 3 n (lowC order up n n) ∧ Row wj go 3 1 co (order.map vN) ∧ wj.cell? ⟨w.heap.size, 0, none⟩ = some (.int .i64 n) ∧ Below w.heap.size w wj)
 case atStart => exact ⟨0, by omega, rfl, Hrm.out, Hlr2.out, Hor2.out, k2, HBm.out⟩
 case round =>
  clear Hrm HBm Hlr2 Hor2 k1 k2 hmi
  obtain ⟨m, hm, rfl, hbr, hlr, hor, kc, hB⟩ := hrel
  have Hm := Lib.hid hm; have Hbr := Lib.hid hbr; have Hlr := Lib.hid hlr; have Hor := Lib.hid hor; have HB := Lib.hid hB
  by_cases hmn : m < n
  ·
   have hml : m < order.length := by rw [Hi.out.len]; exact hmn
   obtain ⟨x, hxe⟩ : ∃ x, order[m] = x := ⟨_, rfl⟩
   have hxn : x < n := Hi.out.lt _ (by rw [← hxe]; exact List.getElem_mem hml); have hcx : wr.cell? ⟨go, m, none⟩ = some (.int .i64 (x : Nat)) := by
    rw [hor.cell? m (by simpa using hml), List.getElem?_map, List.getElem?_eq_getElem hml, hxe]; rfl
   obtain ⟨l0, l1, l2⟩ := lows_at hlr Hi.out hxn; have i1 : (m : Int) < (n : Int) := by omega
   have i2 : (x : Int) < (n : Int) := by omega
   by_cases h0 : x = 0
   ·
    have hu0 : up.getD x 0 = -1 := by rw [h0]; simp [List.getD, Hi.out.root]
    have hst := begV_none (up := up) (n := n) hml (by rw [hxe, hu0]; omega); rw [hu0] at l1; have Hst := Lib.hid hst; clear hst hxe hbr hlr hor hB hm hu0 h0 l0 l2; go_wp2_with fail; go_quiet (fail)
    go_wp2_with fail; go_roundg (gk - 1)
    case measure => have := Hm.out; omega
    case rel => exact ⟨m + 1, by have := Hm.out; omega, by go_num, by rw [Hst.out]; exact Hbr.out.drewN _, Hlr.out.drewN _, Hor.out.drewN _, kc, below_drewN HB.out _⟩
   ·
    obtain ⟨u, hu1, hun, hlt, -⟩ := Hi.out.par x hxn h0; have hu0 : up.getD x 0 = (u : Int) := by simp [List.getD, hu1]
    have hst := begV_set (n := n) hml (by rw [hxe]; exact hu0); have hbs2 := (Hbr.out.set u (.int .i64 ((chN order up m u : Nat) + 1 : Int)))
    rw [hst] at hbs2; have hbc : wr.cell? ⟨w1.heap.size, u, none⟩ = some (.int .i64 (chN order up m u : Nat)) := by
     rw [hbr.cell? u (by rw [begV_len]; exact hun)]; exact begV_get hun
    have hbf := hbr.frozen u; obtain ⟨p0, p1, p2⟩ := lows_at hlr Hi.out hun; rw [hu0] at l1; obtain ⟨nu, hnu⟩ : ∃ x, order.idxOf u = x := ⟨_, rfl⟩
    obtain ⟨nv, hnv⟩ : ∃ y, order.idxOf x = y := ⟨_, rfl⟩
    rw [hnu] at p0; rw [hnv] at l2; rw [hnu, hnv] at hlt; have hcm := chN_le order up m u; obtain ⟨cu, hcu⟩ : ∃ c, chN order up m u = c := ⟨_, rfl⟩
    rw [hcu] at hbc hbs2 hcm; have i3 : (u : Int) < (n : Int) := by omega
    have Hbs2 := Lib.hid hbs2; clear hst hbs2 hxe hbr hlr hor hB hm hu0 h0 l0 hu1 hnu hnv p1 p2 hcu; go_wp2_with fail; go_quiet (fail)
    go_wp2_with fail; go_roundg (gk - 1)
    case measure => have := Hm.out; omega
    case rel =>
     refine ⟨m + 1, by have := Hm.out; omega, by go_num, Hbs2.out, ?_, ?_, ?_, ?_⟩
     · exact Hlr.out.other (a := ⟨w1.heap.size, u, none⟩) (by show gl ≠ w1.heap.size; omega) _
     · exact Hor.out.other (a := ⟨w1.heap.size, u, none⟩) (by show go ≠ w1.heap.size; omega) _
     · exact (World.cell?_setCell_other _ _ _ _ (by simp <;> omega)).trans kc
     · exact (below_drewN HB.out _).setCell (p := ⟨w1.heap.size, u, none⟩) (by show w.heap.size ≤ w1.heap.size; omega) _
  ·
   have hmn2 : m = n := by omega
   subst hmn2; have hrn : Row (wr.alloc (.cells #[] 3)) wr.heap.size 3 1 0 [] := by
    have := row_new wr #[] 3 1 0 rfl (by unfold maxLen; omega); simpa using this
   obtain ⟨wo, rfl⟩ : ∃ wo : World, wo = wr := ⟨_, rfl⟩
   have hbx := bl_alloc wo (.cells #[] 3); have hbr2 := hbr.alloc (.cells #[] 3); have hlr2 := hlr.alloc (.cells #[] 3); have kc2 := keep_cell hbx kc; have hB2 := bl_trans hB hbx; have hwo := hbr.lt; have hglo := hlr.lt; have Hrn := Lib.hid hrn; have Hbr2 := Lib.hid hbr2; have Hlr2 := Lib.hid hlr2; have HB2 := Lib.hid hB2; clear hrn hbr2 hlr2 hB2 hbx hbr hlr hor hB hm; go_wp2_with fail; go_loopg [11, 61] m (fun r ov iv wj => ∃ (k g c : Nat) (L : List Nat), k + r = m ∧ iv = .int .i64 k ∧ ov = .slice (some ⟨g, 0, none⟩) L.length c ∧ L = (List.range k).filter (cutB order up m) ∧ Row wj g 3 1 c (L.map vN) ∧ L.length ≤ c ∧ Row wj w1.heap.size 3 1 m (begV order up m m) ∧ Row wj gl 161 3 m (lowC order up m m) ∧ wo.heap.size ≤ g ∧ Below w.heap.size w wj)
   case atStart => exact ⟨0, wo.heap.size, 0, [], by omega, rfl, rfl, rfl, Hrn.out, by simp, Hbr2.out, Hlr2.out, Nat.le_refl _, HB2.out⟩
   case round =>
    clear Hrn Hbr2 Hlr2 HB2 kc kc2; obtain ⟨k, g, c, L, hk, rfl, rfl, hL, hor, hLc, hbr, hlr, hg, hB⟩ := hrel; have Hk := Lib.hid hk; have HL := Lib.hid hL; have Hor := Lib.hid hor; have Hbr := Lib.hid hbr; have Hlr := Lib.hid hlr; have HB := Lib.hid hB; by_cases hkm : k < m
    ·
     have hLl : L.length ≤ k := by rw [hL]; have := List.length_filter_le (cutB order up m) (List.range k); simpa using this
     have hst : (List.range (k + 1)).filter (cutB order up m) = L ++ if cutB order up m k = true then [k] else [] := by
      rw [List.range_succ, List.filter_append, hL]; congr 1; cases h : cutB order up m k <;> simp [h]
     have hbc : wr.cell? ⟨w1.heap.size, k, none⟩ = some (.int .i64 (chN order up m k : Nat)) := by
      rw [hbr.cell? k (by rw [begV_len]; exact hkm)]; exact begV_get hkm
     obtain ⟨-, l1, -⟩ := lows_at hlr Hi.out hkm; have hcb : cutB order up m k = (decide (1 < chN order up m k) || (chN order up m k == 1 && decide (0 ≤ up.getD k 0))) := rfl; obtain ⟨cu, hcu⟩ : ∃ c, chN order up m k = c := ⟨_, rfl⟩
     obtain ⟨ux, hux⟩ : ∃ u, up.getD k 0 = u := ⟨_, rfl⟩
     rw [hcu, hux] at hcb; rw [hcu] at hbc; rw [hux] at l1; have i1 : (k : Int) < (m : Int) := by omega
     have hgl2 := hor.lt; have hl1 := hbr.lt; have hl2 := hlr.lt; cases hcut : cutB order up m k with
     | true =>
      rw [hcut, if_pos rfl] at hst; rw [hcut] at hcb; have hr2 := Hor.out.alloc (.cells #[.int .i64 (k : Nat)] 3); have hb2 := Hbr.out.alloc (.cells #[.int .i64 (k : Nat)] 3); have hl3 := Hlr.out.alloc (.cells #[.int .i64 (k : Nat)] 3); have hB3 := bl_trans HB.out (bl_alloc wr (.cells #[.int .i64 (k : Nat)] 3)); have Hst := Lib.hid hst; have Hr2 := Lib.hid hr2; have Hb2 := Lib.hid hb2; have Hl3 := Lib.hid hl3; have HB3 := Lib.hid hB3; have Hcb := Lib.hid hcb; clear hst hr2 hb2 hl3 hB3 hcb hor hbr hlr hB hL hk hcu hux hcut; have hcase : (1 : Int) < (cu : Int) ∨ (cu = 1 ∧ 0 ≤ ux) := by
       have h1 := Hcb.out; simp at h1; rcases h1 with h | h
       · left; omega
       · right; exact ⟨h.1, h.2⟩
      rcases hcase with hc1 | ⟨hc1, hc2⟩
      ·
       go_upto_region 17 with (fail)
       go_wp2_with (at_builtin; go_loud (refine wpList_append_row _ rfl (.tmp 84) (.tmp 86) 25 rfl 3 (.int .i64 0) 1 8 Tryz.underlying25 int_info rfl (.slice (some ⟨g, 0, none⟩) L.length c) L.length _ rfl (Hr2.out.own (by simp) hLc) ⟨wr.heap.size, 0, none⟩ 1 1 [.int .i64 (k : Nat)] rfl rfl (one_new (by simp)) (one_ok _ _) (by omega) (by unfold maxLen; omega) (by omega) ?_; intro g3 c3 w3 hr3 hc3 hg3 hor3)); have hg3' : wo.heap.size ≤ g3 := by
        rcases hor3 with h | h
        · cases h; exact hg
        · simp at h; omega
       have hb4 := Hb2.out.grown hg3 (by simp [Value.ownBlock]; omega); have hl4 := Hl3.out.grown hg3 (by simp [Value.ownBlock]; omega); have hB4 := HB3.out.grown hg3 (by have := HB3.out.size; exact this) (fun j hj => by cases hj; show w.heap.size ≤ g; omega); have hr4 : Row w3 g3 3 1 c3 ((L ++ [k]).map vN) := by rw [List.map_append]; exact hr3
       have Hb4 := Lib.hid hb4; have Hl4 := Lib.hid hl4; have HB4 := Lib.hid hB4; have Hr4 := Lib.hid hr4; clear hb4 hl4 hB4 hr4 hr3 hg3 hor3; go_roundg (gk - 1)
       case measure => have := Hk.out; omega
       case rel => exact ⟨k + 1, g3, c3, L ++ [k], by have := Hk.out; omega, by go_num, by simp, Hst.out.symm, Hr4.out, by simpa using hc3, Hb4.out, Hl4.out, hg3', HB4.out⟩
      ·
       have q1 : ((cu : Int) == 1) = true := by simp; omega
       have q2 : ¬ (1 : Int) < (cu : Int) := by omega
       clear hc1; go_upto_region 17 with (fail)
       go_wp2_with (at_builtin; go_loud (refine wpList_append_row _ rfl (.tmp 84) (.tmp 86) 25 rfl 3 (.int .i64 0) 1 8 Tryz.underlying25 int_info rfl (.slice (some ⟨g, 0, none⟩) L.length c) L.length _ rfl (Hr2.out.own (by simp) hLc) ⟨wr.heap.size, 0, none⟩ 1 1 [.int .i64 (k : Nat)] rfl rfl (one_new (by simp)) (one_ok _ _) (by omega) (by unfold maxLen; omega) (by omega) ?_; intro g3 c3 w3 hr3 hc3 hg3 hor3)); have hg3' : wo.heap.size ≤ g3 := by
        rcases hor3 with h | h
        · cases h; exact hg
        · simp at h; omega
       have hb4 := Hb2.out.grown hg3 (by simp [Value.ownBlock]; omega); have hl4 := Hl3.out.grown hg3 (by simp [Value.ownBlock]; omega); have hB4 := HB3.out.grown hg3 (by have := HB3.out.size; exact this) (fun j hj => by cases hj; show w.heap.size ≤ g; omega); have hr4 : Row w3 g3 3 1 c3 ((L ++ [k]).map vN) := by rw [List.map_append]; exact hr3
       have Hb4 := Lib.hid hb4; have Hl4 := Lib.hid hl4; have HB4 := Lib.hid hB4; have Hr4 := Lib.hid hr4; clear hb4 hl4 hB4 hr4 hr3 hg3 hor3; go_roundg (gk - 1)
       case measure => have := Hk.out; omega
       case rel => exact ⟨k + 1, g3, c3, L ++ [k], by have := Hk.out; omega, by go_num, by simp, Hst.out.symm, Hr4.out, by simpa using hc3, Hb4.out, Hl4.out, hg3', HB4.out⟩
     | false =>
      rw [hcut] at hst hcb; simp only [Bool.false_eq_true, if_false, List.append_nil] at hst; have Hst := Lib.hid hst; have Hcb := Lib.hid hcb; clear hst hcb hor hbr hlr hB hL hk hcu hux hcut; have hcase : cu = 0 ∨ (cu = 1 ∧ ux < 0) := by
       have h1 := Hcb.out.symm; simp at h1; by_cases e : cu = 1
       · right; exact ⟨e, h1.2 e⟩
       · left; omega
      rcases hcase with hc1 | ⟨hc1, hc2⟩
      ·
       have q2 : ((cu : Int) == 1) = false := by simp; omega
       have q1 : ¬ (1 : Int) < (cu : Int) := by omega
       clear hc1; go_wp2_with fail; go_roundg (gk - 1)
       case measure => have := Hk.out; omega
       case rel => exact ⟨k + 1, g, c, L, by have := Hk.out; omega, by go_num, rfl, Hst.out.symm, Hor.out, hLc, Hbr.out, Hlr.out, hg, HB.out⟩
      ·
       have q1 : ((cu : Int) == 1) = true := by simp; omega
       have q2 : ¬ (1 : Int) < (cu : Int) := by omega
       clear hc1; go_wp2_with fail; go_roundg (gk - 1)
       case measure => have := Hk.out; omega
       case rel => exact ⟨k + 1, g, c, L, by have := Hk.out; omega, by go_num, rfl, Hst.out.symm, Hor.out, hLc, Hbr.out, Hlr.out, hg, HB.out⟩
    ·
     have hkm2 : k = m := by omega
     subst hkm2; clear hor hbr hlr hB hL hk; go_wp2_with fail; go_ret2; have hLe : cutsT order up k = L := HL.out.symm; rw [hLe]; exact ⟨g, c, rfl, Hor.out, hLc, by omega, HB.out⟩
end Go.Proofs.YtagjdkkfmfombaaGreat
namespace Go.Proofs.YtagjdkkfmfombaaGreat
open Go Go.RowKit Go.Maps
def RV : Value → Option (DataW Value × List MemPlace) := fun v => some (.held v, [])
open Classical in
noncomputable def updL (F : Lit → Option Value) (k : Lit) (v : Value) : Lit → Option Value := fun j => if j = k then some v else F j
theorem updL_same (F : Lit → Option Value) (k : Lit) (v : Value) : updL F k v k = some v := by simp [updL]
theorem updL_ne (F : Lit → Option Value) {k j : Lit} (v : Value) (h : j ≠ k) : updL F k v j = F j := by simp [updL, h]
def MGs (D : DataW Value) (F : Lit → Option Value) (c : Nat) : Prop :=
 Tidy D ∧ Maps.size D = c ∧ (∀ l, Maps.has D l = (F l).isSome) ∧ ∀ l x, F l = some x → ∀ z, D.atKey l z = .held x
def MG (w : World) (k : TypeId) (B c : Nat) (F : Lit → Option Value) : Prop :=
 ∃ D : DataW Value, w.ownsMap Tryz.prog k RV B c D ∧ MGs D F c
theorem MGs.none : MGs (.map []) (fun _ => none) 0 := ⟨tidy_empty, rfl, fun v => rfl, fun v x h => by cases h⟩
theorem MGs.put {D : DataW Value} {F : Lit → Option Value} {c : Nat} (h : MGs D F c) {k : Lit} (hk : WideAt.IsKeyLit k) (v : Value) : MGs (D.put k (.held v)) (updL F k v) (if (F k).isSome then c else c + 1) := by
 obtain ⟨h1, h2, h3, h4⟩ := h
 refine ⟨h1.put hk _, ?_, fun j => ?_, fun j x hj z => ?_⟩
 · rw [size_put h1, h3 k, h2]
 ·
  by_cases e : j = k
  · subst e; rw [has_put_same h1.isMap hk, updL_same]; rfl
  · rw [has_put_other e, h3 j, updL_ne _ _ e]
 ·
  by_cases e : j = k
  · subst e; rw [updL_same] at hj; cases hj; rw [atKey_put_same h1.isMap hk]
  ·
   rw [updL_ne _ _ e] at hj; rw [atKey_put_other e]; exact h4 j x hj z
namespace MG
variable {w w' : World} {k : TypeId} {B c : Nat} {F : Lit → Option Value}
theorem exact_ {n : Nat} {D : DataW Value} (h : w.ownsMap Tryz.prog k RV B n D) : w.ownsMap Tryz.prog k RV B (Maps.size D) D := by
 obtain ⟨es, clock, hb, G, hs, rfl⟩ := h
 exact ⟨es, clock, hb, G, by rw [size_eq, length_read]; exact Nat.le_refl _, rfl⟩
theorem lt (h : MG w k B c F) : B < w.heap.size := by obtain ⟨D, h1, _⟩ := h; exact h1.lt
theorem made (w : World) (k : TypeId) : MG (w.alloc (.map #[] 0)) k w.heap.size 0 (fun _ => none) := ⟨_, World.ownsMap_made _ _ _ _, MGs.none⟩
theorem block (h : MG w k B c F) (e : w'.heap[B]? = w.heap[B]?) : MG w' k B c F := by
 obtain ⟨D, ⟨es, clock, hb, r⟩, h2⟩ := h
 exact ⟨D, ⟨es, clock, e.trans hb, r⟩, h2⟩
theorem below (h : MG w k B c F) (hb : Below w.heap.size w w') : MG w' k B c F := h.block (hb.block B h.lt)
theorem grown {r : Option Nat} (h : MG w k B c F) (hg : w.grownBy w' r) (hne : r ≠ some B) : MG w' k B c F := h.block (hg.block B h.lt (fun e => hne e.symm))
theorem alloc (h : MG w k B c F) (o : Obj) : MG (w.alloc o) k B c F := h.block (Below.heap_alloc w o B h.lt)
theorem look (h : MG w k B c F) (K : Keyed Tryz.prog k) {t e : TypeId} (ht : Tryz.prog.underlying t = some (.map k e)) {z : Value} (hz : (zeroValue e).run Tryz.prog w = .ok z w) {v : Value} {l : Lit} (hv : keyOf Tryz.prog k v = some l) :
  (Instr.lookup t (.map (some B)) v false).run Tryz.prog w = .ok ((F l).getD z) w := by
 obtain ⟨D, hown, _, _, h3, h4⟩ := h
 obtain ⟨u, ps, hrun, hu⟩ := hown.lookup K ht hz (zd := .held z) (zp := []) rfl hv
 rw [hrun]
 unfold RV at hu
 simp only [Option.some.injEq, Prod.mk.injEq] at hu
 cases hF : F l with
 | none =>
  have hh := h3 l; rw [hF] at hh
  rw [atKey_of_not_has hh] at hu
  have := hu.1; cases this; rfl
 | some x =>
  rw [h4 l x hF] at hu
  have := hu.1; cases this; rfl
theorem store (h : MG w k B c F) (K : Keyed Tryz.prog k) {t e : TypeId} (ht : Tryz.prog.underlying t = some (.map k e)) {v : Value} {l : Lit} (hv : keyOf Tryz.prog k v = some l) (x : Value) (hc : c ≤ 100000000) :
  ∃ w', (Instr.mapUpdate t (.map (some B)) v x).run Tryz.prog w = .ok () w' ∧ MG w' k B (if (F l).isSome then c else c + 1) (updL F l x) ∧ w.grownBy w' (some B) := by
 obtain ⟨D, hown, h2⟩ := h
 obtain ⟨w', hrun, r1, r2⟩ := hown.update K ht (by unfold maxLen; omega) hv (d := .held x) (ps := []) rfl
 have h3 := h2.put (K.key hv) x
 have h4 := exact_ r1
 rw [h3.2.1] at h4
 exact ⟨w', hrun, ⟨_, h4, h3⟩, r2⟩
end MG
theorem wpList_put_MG {w : World} {ops : Array Oper} {rest : List Oper} {o : Oper} {a : Act} {Q : Exit → Act → World → Prop} (hg : o.guard = none) (m x y : Operand) (t : TypeId) (hop : o.op = Op.mapUpdate t m x y) {k e : TypeId} {B c : Nat} {F : Lit → Option Value} (h : MG w k B c F) (K : Keyed Tryz.prog k) (ht : Tryz.prog.underlying t = some (.map k e))
  {kv v : Value} {l : Lit} (hm : a.eval m = .map (some B)) (hx : a.eval x = kv) (hy : a.eval y = v) (hv : keyOf Tryz.prog k kv = some l) (hc : c ≤ 100000000)
  (hK : ∀ w', MG w' k B (if (F l).isSome then c else c + 1) (updL F l v) → w.grownBy w' (some B) → wpList Tryz.prog ops Q rest (a.put o.dst undef) w') : wpList Tryz.prog ops Q (o :: rest) a w := by
 refine wpList_plain hg fun K' hK' => ?_
 obtain ⟨w', hrun, r1, r2⟩ := h.store K ht hv v hc
 unfold Oper.wp
 simp [execOp, hop, hm, hx, hy, hrun, Result.andThen]
 exact hK' _ _ (hK w' r1 r2)
theorem run_makeMapN (t k e : TypeId) (ht : Tryz.prog.underlying t = some (.map k e)) (w : World) : (Instr.makeMap t none).run Tryz.prog w = .ok (.map (some w.heap.size)) (w.alloc (.map #[] 0)) := by
 simp [Instr.makeMap, run_underlying ht, Result.andThen]
end Go.Proofs.YtagjdkkfmfombaaGreat
namespace Go.Proofs.YtagjdkkfmfombaaGreat
open Go Go.RowKit Go.Maps
def RdB (w : World) (a : Option Addr) (bs : List (List (Int × Int))) : Prop := ∀ (i : Nat) q, bs[i]? = some q →
 ∃ b o au cu, a = some ⟨b, o, none⟩ ∧ w.cell? ⟨b, o + i, none⟩ = some (.slice au q.length cu) ∧ RdP w au q ∧ q.length ≤ cu ∧ cu ≤ maxLen
theorem RdB.below {w w' : World} {a : Option Addr} {bs : List (List (Int × Int))} (h : RdB w a bs) (hb : Below w.heap.size w w') : RdB w' a bs := fun i q hq => by
 obtain ⟨b, o, au, cu, h1, h2, h3, h4⟩ := h i q hq
 exact ⟨b, o, au, cu, h1, keep_cell hb h2, h3.below hb, h4⟩
def lowV (order : List Nat) (e : Int × Int) : Nat := if order.idxOf e.2.toNat < order.idxOf e.1.toNat then e.1.toNat else e.2.toNat
set_option maxRecDepth 100000 in
set_option maxHeartbeats 1000000 in
theorem lower_walk (n gl Bx x y : Nat) (es : List (Int × Int)) (order : List Nat) (up : List Int) (w : World) (hi : TreeI n es order up) (hx : x < n) (hy : y < n) (hn : n ≤ 200)
  (hlr : Row w gl 161 3 n (lowC order up n n)) (hb : w.cell? ⟨Bx, 0, none⟩ = some (.slice (some ⟨gl, 0, none⟩) n n)) :
  Calls Tryz.prog 84 #[.agg #[.int .i64 x, .int .i64 y], .pointer (some ⟨Bx, 0, none⟩)] w fun e w' => e = .returned (.int .i64 (lowV order ((x : Int), (y : Int)) : Nat)) ∧ Below w.heap.size w w' := by
 have hbx := bl_alloc w (.cells #[.int .i64 x, .int .i64 y] 51)
 obtain ⟨p0, -, -⟩ := lows_at (hlr.alloc (.cells #[.int .i64 x, .int .i64 y] 51)) hi hx
 obtain ⟨r0, -, -⟩ := lows_at (hlr.alloc (.cells #[.int .i64 x, .int .i64 y] 51)) hi hy
 have kb := keep_cell hbx hb
 have d0 : (w.alloc (.cells #[.int .i64 x, .int .i64 y] 51)).cell? ⟨w.heap.size, 0, none⟩ = some (.int .i64 x) := by simp
 have d1 : (w.alloc (.cells #[.int .i64 x, .int .i64 y] 51)).cell? ⟨w.heap.size, 1, none⟩ = some (.int .i64 y) := by simp
 have hlow : lowV order ((x : Int), (y : Int)) = if order.idxOf y < order.idxOf x then x else y := by simp [lowV]
 rw [hlow]
 obtain ⟨nx, hnx⟩ : ∃ k, order.idxOf x = k := ⟨_, rfl⟩
 obtain ⟨ny, hny⟩ : ∃ k, order.idxOf y = k := ⟨_, rfl⟩
 rw [hnx] at p0 ⊢
 rw [hny] at r0 ⊢
 have i1 : (x : Int) < (n : Int) := by omega
 have i2 : (y : Int) < (n : Int) := by omega
 obtain ⟨z, hz⟩ : ∃ z, z = if ny < nx then x else y := ⟨_, rfl⟩
 rw [← hz]
 have Hz := Lib.hid hz
 clear hnx hny hlow hi hlr hb hz
 go_enter Tryz.func84, Tryz.ntmps84
 go_upto_region 1 with (fail)
 generalize w.alloc (.cells #[.int .i64 x, .int .i64 y] 51) = wa at *
 by_cases h : ny < nx
 ·
  have hzz : z = x := by rw [Hz.out, if_pos h]
  have Hzz := Lib.hid hzz
  clear hzz
  have h1 : ((ny : Nat) + 1 : Int) < (nx : Nat) + 1 := by omega
  go_quiet (fail)
  go_wp2_with fail
  go_ret
  exact ⟨by rw [Hzz.out]; rfl, below_drewN hbx _⟩
 ·
  have hzz : z = y := by rw [Hz.out, if_neg h]
  have Hzz := Lib.hid hzz
  clear hzz
  have h1 : ¬ ((ny : Nat) + 1 : Int) < (nx : Nat) + 1 := by omega
  go_quiet (fail)
  go_wp2_with fail
  go_ret
  exact ⟨by rw [Hzz.out]; rfl, below_drewN hbx _⟩
theorem lowV_spec {n : Nat} {es : List (Int × Int)} {order : List Nat} {up : List Int} (hi : TreeI n es order up) {e : Int × Int} (he : e ∈ es) :
  ∃ c p : Nat, lowV order e = c ∧ c < n ∧ p < n ∧ up[c]? = some (p : Int) ∧ order.idxOf p < order.idxOf c ∧ (e = ((c : Int), (p : Int)) ∨ e = ((p : Int), (c : Int))) := by
 obtain ⟨a, b, rfl, hab, hb, h⟩ := hi.edge e he
 have key : ∀ c p : Nat, c < n → up[c]? = some (p : Int) → order.idxOf p < order.idxOf c := fun c p hc hu => by
  have h0 : c ≠ 0 := fun q => by rw [q, hi.root] at hu; have := Option.some.inj hu; omega
  obtain ⟨u, h1, _, h2, _⟩ := hi.par c hc h0
  rw [h1] at hu
  have : u = p := by have := Option.some.inj hu; omega
  rw [← this]; exact h2
 have hv : lowV order ((a : Int), (b : Int)) = if order.idxOf b < order.idxOf a then a else b := by simp [lowV]
 rcases h with h | h
 ·
  have h2 := key a b (by omega) h
  exact ⟨a, b, by rw [hv, if_pos h2], by omega, hb, h, h2, .inl rfl⟩
 ·
  have h2 := key b a hb h
  exact ⟨b, a, by rw [hv, if_neg (by omega)], hb, by omega, h, h2, .inr rfl⟩
theorem edges_lt {n : Int} {es : List (Int × Int)} (h : rightB n es = true) : ∀ d i (h : i + d + 1 < es.length), lessP es[i] es[i + d + 1] := by
 intro d
 have hr := ((rightB_iff n es).1 h).2.2.2.2
 induction d with
 | zero => intro i hi; exact (cmpP_neg _ _).1 (hr i hi)
 | succ d ih =>
  intro i hi
  have h1 := ih i (by omega)
  have h2 := (cmpP_neg _ _).1 (hr (i + d + 1) (by omega))
  have e : i + (d + 1) + 1 = i + d + 1 + 1 := by omega
  simp only [e]
  unfold lessP at *
  omega
theorem edges_nodup {n : Int} {es : List (Int × Int)} (h : rightB n es = true) : es.Nodup := by
 refine List.pairwise_iff_getElem.2 fun i j hi hj hij => ?_
 obtain ⟨d, rfl⟩ : ∃ d, j = i + d + 1 := ⟨j - i - 1, by omega⟩
 have := edges_lt h d i hj
 intro e
 rw [e] at this
 unfold lessP at this
 omega
theorem lowV_inj {n : Nat} {es : List (Int × Int)} {order : List Nat} {up : List Int} (hi : TreeI n es order up) {e f : Int × Int} (he : e ∈ es) (hf : f ∈ es) (h : lowV order e = lowV order f) : e = f := by
 obtain ⟨c, p, h1, _, _, h2, _, h3⟩ := lowV_spec hi he
 obtain ⟨c', p', h1', _, _, h2', _, h3'⟩ := lowV_spec hi hf
 have hc : c = c' := by rw [← h1, ← h1', h]
 subst hc
 rw [h2] at h2'
 have hp : p = p' := by have := Option.some.inj h2'; omega
 subst hp
 obtain ⟨a, b, ea, hab, _⟩ := hi.edge e he
 obtain ⟨a', b', ea', hab', _⟩ := hi.edge f hf
 rcases h3 with h3 | h3 <;> rcases h3' with h3' | h3'
 · rw [h3, h3']
 · rw [ea] at h3; rw [ea'] at h3'; simp at h3 h3'; omega
 · rw [ea] at h3; rw [ea'] at h3'; simp at h3 h3'; omega
 · rw [h3, h3']
structure BkI (wj : World) (B gl Bx gh k : Nat) (n : Nat) (order : List Nat) (up : List Int) (es : List (Int × Int)) (vals : List (Nat × Nat)) (F : Lit → Option Value) : Prop where
 vl : vals.length = k
 map : MG wj 3 B k F
 low : Row wj gl 161 3 n (lowC order up n n)
 box : wj.cell? ⟨Bx, 0, none⟩ = some (.slice (some ⟨gl, 0, none⟩) n n)
 head : Row wj gh 3 1 n ((List.range n).map fun v => Value.int .i64 (v : Nat))
 old : ∀ j (hj : j < es.length) (p : Nat × Nat), vals[j]? = some p → F (.int .i64 (lowV order es[j] : Nat)) = some (.slice (some ⟨p.1, 0, none⟩) 1 p.2) ∧ Row wj p.1 51 2 p.2 (pairCells [es[j]]) ∧ 1 ≤ p.2 ∧ B < p.1
 new : ∀ v : Nat, (∀ j (hj : j < es.length), j < k → lowV order es[j] ≠ v) → F (.int .i64 (v : Nat)) = none
theorem BkI.below {wj wk : World} {B gl Bx gh k n : Nat} {order : List Nat} {up : List Int} {es : List (Int × Int)} {vals : List (Nat × Nat)} {F : Lit → Option Value} (h : BkI wj B gl Bx gh k n order up es vals F) (hb : Below wj.heap.size wj wk) : BkI wk B gl Bx gh k n order up es vals F :=
 ⟨h.vl, h.map.below hb, h.low.below hb h.low.lt, keep_cell hb h.box, h.head.below hb h.head.lt, fun j hj p hp => by
  obtain ⟨h1, h2, h3, h4⟩ := h.old j hj p hp
  exact ⟨h1, h2.below hb h2.lt, h3, h4⟩, h.new⟩
theorem BkI.grown {wj wk : World} {B gl Bx gh k n g : Nat} {order : List Nat} {up : List Int} {es : List (Int × Int)} {vals : List (Nat × Nat)} {F : Lit → Option Value} (h : BkI wj B gl Bx gh k n order up es vals F) (hg : wj.grownBy wk (some g)) (h1 : g ≠ B) (h2 : g ≠ gl) (h3 : g ≠ Bx) (h4 : g ≠ gh)
  (h5 : ∀ j p, vals[j]? = some p → j < es.length → g ≠ p.1) : BkI wk B gl Bx gh k n order up es vals F :=
 ⟨h.vl, h.map.grown hg (by simp; omega), h.low.grown hg (by simp; omega), grown_cell hg h.box (by simp; omega), h.head.grown hg (by simp; omega), fun j hj p hp => by
  obtain ⟨r1, r2, r3, r4⟩ := h.old j hj p hp
  exact ⟨r1, r2.grown hg (by simp; exact h5 j p hp hj), r3, r4⟩, h.new⟩
end Go.Proofs.YtagjdkkfmfombaaGreat
namespace Go.Proofs.YtagjdkkfmfombaaGreat
open Go Go.RowKit Go.Maps
theorem pairs_info : (Tryz.prog.info? 22).map (fun i => (i.zero, i.size, i.bytes)) = some (some (.slice none 0 0), 1, 24) := by kernel_rfl
theorem zeroPairs (w : World) : (zeroValue 22).run Tryz.prog w = .ok (.slice none 0 0) w := by kernel_rfl
def headV (order : List Nat) (n m : Nat) : List Value := (List.range n).map fun v => Value.int .i64 ((if v ∈ order.take m then v else 0 : Nat) : Int)
theorem headV_len (order : List Nat) (n m : Nat) : (headV order n m).length = n := by simp [headV]
theorem headV_set {order : List Nat} {n m : Nat} (hm : m < order.length) : (headV order n m).set order[m] (.int .i64 (order[m] : Nat)) = headV order n (m + 1) := by
 apply List.ext_getElem?
 intro i
 rw [List.getElem?_set, headV_len]
 unfold headV
 simp only [List.getElem?_map]
 have hmem : i ∈ order.take (m + 1) ↔ (i ∈ order.take m ∨ i = order[m]) := by rw [List.take_succ_eq_append_getElem hm, List.mem_append, List.mem_singleton]
 by_cases hi : i < n
 ·
  rw [List.getElem?_range hi]
  by_cases e : order[m] = i
  · simp [e, hi, hmem]
  · simp [e, hmem, Ne.symm e]
 ·
  rw [List.getElem?_eq_none (l := List.range n) (by simpa using hi)]
  simp; omega
def blkV (vals : List (Nat × Nat)) (M j : Nat) : List Value := (List.range M).map fun i => if i < j then Value.slice (some ⟨(vals.getD i (0, 0)).1, 0, none⟩) 1 (vals.getD i (0, 0)).2 else .slice none 0 0
theorem blkV_len (vals : List (Nat × Nat)) (M j : Nat) : (blkV vals M j).length = M := by simp [blkV]
theorem blkV_set {vals : List (Nat × Nat)} {M j : Nat} {p : Nat × Nat} (hp : vals[j]? = some p) : (blkV vals M j).set j (.slice (some ⟨p.1, 0, none⟩) 1 p.2) = blkV vals M (j + 1) := by
 apply List.ext_getElem?
 intro i
 rw [List.getElem?_set, blkV_len]
 unfold blkV
 simp only [List.getElem?_map]
 by_cases hi : i < M
 ·
  rw [List.getElem?_range hi]
  by_cases e : j = i
  · subst e; simp [hi, List.getD, hp]
  ·
   rcases Nat.lt_or_ge i j with h | h
   · simp [e, h, show i < j + 1 by omega]
   · simp [e, show ¬ i < j by omega, show ¬ i < j + 1 by omega]
 ·
  rw [List.getElem?_eq_none (l := List.range M) (by simpa using hi)]
  simp; omega
def RetBlk (w : World) (bs : List (List (Int × Int))) (e : Ending) (w' : World) : Prop :=
 ∃ a c, e = .returned (.tuple #[.slice a bs.length c, .int .i64 0]) ∧ RdB w' a bs ∧ bs.length ≤ c ∧ Below w.heap.size w w'
set_option maxRecDepth 100000 in
set_option maxHeartbeats 4000000 in
theorem blocksT_walk (n : Nat) (a : Option Addr) (cap : Nat) (es : List (Int × Int)) (w : World) (hr : RdP w a es) (hcap : es.length ≤ 9223372036854775807) (ht : TreeV n es) :
  Calls Tryz.prog 53 #[.agg #[.int .i64 n, .slice a es.length cap]] w (RetBlk w (es.map fun e => [e])) := by
 have hsw := fun w hr => search_walk n a cap es w hr hcap ht
 have hi := ht.inv
 have hright := ht.right
 obtain ⟨order, ho⟩ : ∃ o, o = (walkL (besideL n es) 0).1 := ⟨_, rfl⟩
 obtain ⟨up, hu⟩ : ∃ u, u = (walkL (besideL n es) 0).2 := ⟨_, rfl⟩
 simp only [← ho, ← hu] at hsw
 rw [← ho, ← hu] at hi
 have hn200 : n ≤ 200 := by have := ((rightB_iff n es).1 hright).2.1; omega
 have hpos := ht.pos
 have hel : es.length + 1 = n := ht.len
 have Hi := Lib.hid hi; have Hsw := Lib.hid hsw; have Hnd := Lib.hid (edges_nodup hright)
 clear hi hright ho hu ht hsw
 have hmi := run_make_row' (P := Tryz.prog) 25 3 (.int .i64 0) 8 Tryz.underlying25 int_info rfl .i64 .i64 n (by omega) (by omega)
 have hmm := fun w => run_makeMapN 163 _ _ Tryz.underlying163 w
 have hb0 := bl_alloc w (.cells #[.int .i64 n, .slice a es.length cap] 24)
 have k0 : (w.alloc (.cells #[.int .i64 n, .slice a es.length cap] 24)).cell? ⟨w.heap.size, 0, none⟩ = some (.int .i64 n) := by simp
 have k1 : (w.alloc (.cells #[.int .i64 n, .slice a es.length cap] 24)).cell? ⟨w.heap.size, 1, none⟩ = some (.slice a es.length cap) := by simp
 have hbs : (w.alloc (.cells #[.int .i64 n, .slice a es.length cap] 24)).heap.size = w.heap.size + 1 := by simp
 have hr0 := hr.below hb0
 go_enter Tryz.func53, Tryz.ntmps53
 go_wp2_with fail
 refine (Hsw.out _ hr0).mono ?_
 rintro e w1 ⟨gl, go, co, rfl, hlr, hor, hgl, hgo, hb1⟩
 have hgl1 := hlr.lt
 have hgo1 := hor.lt
 rw [hbs] at hgl hgo
 obtain ⟨wa, hwa⟩ : ∃ wa, wa = w1.alloc (.cells #[.slice (some ⟨gl, 0, none⟩) n n] 157) := ⟨_, rfl⟩
 have hba : Below w1.heap.size w1 wa := by rw [hwa]; exact bl_alloc _ _
 have hsa : wa.heap.size = w1.heap.size + 1 := by rw [hwa]; simp
 have hbx : wa.cell? ⟨w1.heap.size, 0, none⟩ = some (.slice (some ⟨gl, 0, none⟩) n n) := by rw [hwa]; simp
 have hrm : Row (wa.alloc (.cells (madeCells #[.int .i64 0] n) 3)) wa.heap.size 3 1 n (headV order n 0) := by
  have := row_made wa (.int .i64 0) n 3 (by unfold maxLen; omega)
  rwa [show headV order n 0 = List.replicate n (.int .i64 0) by simp [headV, List.eq_replicate_iff]]
 have hbm := bl_alloc wa (.cells (madeCells #[.int .i64 0] n) 3)
 have hb1m := bl_trans hb1 (bl_trans hba hbm)
 have k0a := keep_cell (bl_trans hb1 hba) k0
 have k0m := keep_cell hb1m k0
 have k1m := keep_cell hb1m k1
 have hBm := bl_trans hb0 hb1m
 have hlrm := hlr.below (bl_trans hba hbm) hgl1
 have horm := hor.below (bl_trans hba hbm) hgo1
 have hbxm := keep_cell hbm hbx
 have hw1 : w.heap.size < w1.heap.size := by omega
 have Hrm := Lib.hid hrm; have HBm := Lib.hid hBm; have Hlr := Lib.hid hlrm; have Hor := Lib.hid horm; have Hks := Lib.hid (And.intro k0m (And.intro k1m hbxm)); have Hsa := Lib.hid hsa; have Hwa := Lib.hid hwa
 clear hlr hor hrm hBm hbm hlrm horm hb1m hb1 hb0 k0 k1 hr0 k0m k1m hbxm hba hwa hsa hbs
 go_upto_region 4 with (fail)
 rw [← Hwa.out]
 go_wp2_with fail
 go_loopg [34] n (fun r iv wj => ∃ m : Nat, m + r = n ∧ iv = .int .i64 m ∧ Row wj wa.heap.size 3 1 n (headV order n m) ∧ Row wj gl 161 3 n (lowC order up n n) ∧ Row wj go 3 1 co (order.map vN) ∧ wj.cell? ⟨w.heap.size, 0, none⟩ = some (.int .i64 n) ∧ wj.cell? ⟨w.heap.size, 1, none⟩ = some (.slice a es.length cap) ∧ wj.cell? ⟨w1.heap.size, 0, none⟩ = some (.slice (some ⟨gl, 0, none⟩) n n) ∧ Below w.heap.size w wj)
 case atStart => exact ⟨0, by omega, rfl, Hrm.out, Hlr.out, Hor.out, Hks.out.1, Hks.out.2.1, Hks.out.2.2, HBm.out⟩
 case round =>
  clear Hrm HBm Hlr Hor Hks hmi
  obtain ⟨m, hm, rfl, hhr, hlr, hor, kc0, kc1, kx, hB⟩ := hrel
  have Hm := Lib.hid hm; have Hhr := Lib.hid hhr; have Hlr := Lib.hid hlr; have Hor := Lib.hid hor; have HB := Lib.hid hB
  by_cases hmn : m < n
  ·
   have hml : m < order.length := by rw [Hi.out.len]; exact hmn
   obtain ⟨x, hxe⟩ : ∃ x, order[m] = x := ⟨_, rfl⟩
   have hxn : x < n := Hi.out.lt _ (by rw [← hxe]; exact List.getElem_mem hml); have hcx : wr.cell? ⟨go, m, none⟩ = some (.int .i64 (x : Nat)) := by
    rw [hor.cell? m (by simpa using hml), List.getElem?_map, List.getElem?_eq_getElem hml, hxe]; rfl
   have hst := headV_set (n := n) hml; rw [hxe] at hst; have hh2 := hhr.set x (.int .i64 (x : Nat)); rw [hst] at hh2; have hhf := hhr.frozen x; obtain ⟨vh, hhc⟩ : ∃ v, wr.cell? ⟨wa.heap.size, x, none⟩ = some v := ⟨_, hhr.cell x (by rw [headV_len]; exact hxn)⟩
   have hsa := Hsa.out; have hlr2 := hlr.other (a := ⟨wa.heap.size, x, none⟩) (show gl ≠ wa.heap.size by omega) (.int .i64 (x : Nat)); have hor2 := hor.other (a := ⟨wa.heap.size, x, none⟩) (show go ≠ wa.heap.size by omega) (.int .i64 (x : Nat)); have kc02 := (World.cell?_setCell_other wr ⟨wa.heap.size, x, none⟩ ⟨w.heap.size, 0, none⟩ (.int .i64 (x : Nat)) (by simp <;> omega)).trans kc0; have kc12 := (World.cell?_setCell_other wr ⟨wa.heap.size, x, none⟩ ⟨w.heap.size, 1, none⟩ (.int .i64 (x : Nat)) (by simp <;> omega)).trans kc1; have kx2 := (World.cell?_setCell_other wr ⟨wa.heap.size, x, none⟩ ⟨w1.heap.size, 0, none⟩ (.int .i64 (x : Nat)) (by simp <;> omega)).trans kx; have hB2 := hB.setCell (p := ⟨wa.heap.size, x, none⟩) (by show w.heap.size ≤ wa.heap.size; omega) (.int .i64 (x : Nat)); obtain ⟨l0, l1, l2⟩ := lows_at hlr2 Hi.out hxn; have i1 : (m : Int) < (n : Int) := by omega
   have i2 : (x : Int) < (n : Int) := by omega
   have Hh2 := Lib.hid hh2; have Hlr2 := Lib.hid hlr2; have Hor2 := Lib.hid hor2; have HB2 := Lib.hid hB2; have Hks := Lib.hid (And.intro kc02 kc12); by_cases h0 : x = 0
   ·
    have hu0 : up.getD x 0 = -1 := by rw [h0]; simp [List.getD, Hi.out.root]
    rw [hu0] at l1; clear hst hxe hhr hlr hor hB hm hu0 h0 l0 l2 hh2 hlr2 hor2 hB2 kc0 kc1 kc02 kc12 hsa; go_upto_region 9 with (fail)
    generalize wr.setCell ⟨wa.heap.size, x, none⟩ (.int .i64 (x : Nat)) = ws at *
    go_wp2_with fail; go_quiet (fail)
    go_wp2_with fail; go_roundg (gk - 1)
    case measure => have := Hm.out; omega
    case rel => exact ⟨m + 1, by have := Hm.out; omega, by go_num, Hh2.out.drewN _, Hlr2.out.drewN _, Hor2.out.drewN _, Hks.out.1, Hks.out.2, kx2, below_drewN HB2.out _⟩
   ·
    obtain ⟨u, hu1, hun, hlt, -⟩ := Hi.out.par x hxn h0; have hu0 : up.getD x 0 = (u : Int) := by simp [List.getD, hu1]
    obtain ⟨p0, p1, p2⟩ := lows_at hlr2 Hi.out hun; rw [hu0] at l1; obtain ⟨nu, hnu⟩ : ∃ x, order.idxOf u = x := ⟨_, rfl⟩
    obtain ⟨nv, hnv⟩ : ∃ y, order.idxOf x = y := ⟨_, rfl⟩
    rw [hnu] at p0; rw [hnv] at l2; rw [hnu, hnv] at hlt; have i3 : (u : Int) < (n : Int) := by omega
    have q1 : ¬ ((nv : Nat) + 1 : Int) < (nu : Nat) + 1 := by omega
    clear hst hxe hhr hlr hor hB hm hu0 h0 l0 hh2 hlr2 hor2 hB2 kc0 kc1 kc02 kc12 hsa hu1 hnu hnv p1 p2; go_upto_region 9 with (fail)
    generalize wr.setCell ⟨wa.heap.size, x, none⟩ (.int .i64 (x : Nat)) = ws at *
    go_wp2_with fail; go_quiet (fail)
    go_wp2_with fail; go_roundg (gk - 1)
    case measure => have := Hm.out; omega
    case rel => exact ⟨m + 1, by have := Hm.out; omega, by go_num, Hh2.out.drewN _, Hlr2.out.drewN _, Hor2.out.drewN _, Hks.out.1, Hks.out.2, kx2, below_drewN HB2.out _⟩
  ·
   have hmn2 : m = n := by omega
   subst hmn2; have hhr2 : Row wr wa.heap.size 3 1 m ((List.range m).map fun v => Value.int .i64 (v : Nat)) := by
    have e : headV order m m = (List.range m).map fun v => Value.int .i64 (v : Nat) := by
     unfold headV; apply List.map_congr_left; intro v hv; rw [if_pos]; rw [List.take_of_length_le (by rw [Hi.out.len]; omega)]; exact Hi.out.all v (List.mem_range.1 hv)
    rw [e] at hhr; exact hhr
   obtain ⟨wo, rfl⟩ : ∃ wo : World, wo = wr := ⟨_, rfl⟩
   have hmz := MG.made wo 3; have hrn : Row ((wo.alloc (.map #[] 0)).alloc (.cells #[] 3)) (wo.heap.size + 1) 3 1 0 [] := by
    have := row_new (wo.alloc (.map #[] 0)) #[] 3 1 0 rfl (by unfold maxLen; omega); simpa using this
   have hbz := bl_trans (bl_alloc wo (.map #[] 0)) (bl_alloc (wo.alloc (.map #[] 0)) (.cells #[] 3)); have hI0 : BkI ((wo.alloc (.map #[] 0)).alloc (.cells #[] 3)) wo.heap.size gl w1.heap.size wa.heap.size 0 m order up es [] (fun _ => none) :=
    ⟨rfl, hmz.alloc _, hlr.below hbz hlr.lt, keep_cell hbz kx, hhr2.below hbz hhr2.lt, fun j hj p hp => by simp at hp, fun _ _ => rfl⟩
   have kc12 := keep_cell hbz kc1; have hBz := bl_trans hB hbz; have hlo := hhr2.lt; have hgo := hlr.lt; have hxo := World.block_lt_of_cell? wo _ kx; have hrz := hr.below hBz; have HI0 := Lib.hid hI0; have HBz := Lib.hid hBz; have Hrn := Lib.hid hrn; have HBo := Lib.hid hB; clear hI0 hBz hrn hbz hmz hhr hhr2 hlr hor hB hm kc0; go_wp2_with fail
   go_loopg [13, 76] es.length (fun r ov iv wj => ∃ (k g c : Nat) (vals : List (Nat × Nat)) (F : Lit → Option Value), k + r = es.length ∧ iv = .int .i64 k ∧ ov = .slice (some ⟨g, 0, none⟩) k c ∧ BkI wj wo.heap.size gl w1.heap.size wa.heap.size k m order up es vals F ∧
    Row wj g 3 1 c (((es.take k).map (lowV order)).map vN) ∧ k ≤ c ∧ wo.heap.size < g ∧ (∀ j p, vals[j]? = some p → j < es.length → g ≠ p.1) ∧ Below wo.heap.size wo wj)
   case atStart => exact ⟨0, _, 0, [], _, by omega, rfl, rfl, HI0.out, Hrn.out, by omega, by omega, fun j p hp => by simp at hp, bl_trans (bl_alloc _ _) (bl_alloc _ _)⟩
   case round =>
    clear HI0 HBz Hrn; obtain ⟨k, g, c, vals, F, hk, rfl, rfl, hI, hor, hkc, hg, hgv, hB2⟩ := hrel; have Hk := Lib.hid hk; have HI := Lib.hid hI; have Hor := Lib.hid hor; have HB2 := Lib.hid hB2; have Hgv := Lib.hid hgv; by_cases hkl : k < es.length
    ·
     obtain ⟨b3, o3, rfl, hx0, hx1⟩ := (hr.below (bl_trans HBo.out hB2)).at k hkl; obtain ⟨x, y, hxe, hxy, hyn, -⟩ := Hi.out.edge _ (List.getElem_mem hkl); obtain ⟨cv, pv, hcv, hcn, -, -, -, -⟩ := lowV_spec Hi.out (List.getElem_mem hkl); rw [hxe] at hx0 hx1; simp only at hx0 hx1; have hlow : lowV order ((x : Int), (y : Int)) = cv := by rw [← hxe]; exact hcv
     have hnew : F (.int .i64 (cv : Nat)) = none := HI.out.new cv fun j hj hjk e => by
      have := lowV_inj Hi.out (List.getElem_mem hj) (List.getElem_mem hkl) (by rw [e, hcv]); have h2 := (List.getElem?_inj (i := j) (j := k) hj Hnd.out).1 (by rw [List.getElem?_eq_getElem hj, List.getElem?_eq_getElem hkl, this]); omega
     have hwz : WfZ (cv : Int) := wfZ_of (by omega); have hbx := bl_alloc wr (.cells #[.int .i64 x, .int .i64 y] 51); have hIx := hI.below hbx; have i1 : (k : Int) < (es.length : Int) := by omega
     have i2 : (cv : Int) < (m : Int) := by omega
     have d0 : (wr.alloc (.cells #[.int .i64 x, .int .i64 y] 51)).cell? ⟨wr.heap.size, 0, none⟩ = some (.int .i64 x) := by simp
     have d1 : (wr.alloc (.cells #[.int .i64 x, .int .i64 y] 51)).cell? ⟨wr.heap.size, 1, none⟩ = some (.int .i64 y) := by simp
     have hlw := lower_walk m gl w1.heap.size x y es order up _ Hi.out (by omega) hyn hn200 hIx.low hIx.box; rw [hlow] at hlw; have horx := hor.alloc (.cells #[.int .i64 x, .int .i64 y] 51); have hBx := bl_trans hB2 hbx; have hlt := hor.lt; have Hlw := Lib.hid hlw; have HIx := Lib.hid hIx; have Horx := Lib.hid horx; have HBx := Lib.hid hBx; have Hnew := Lib.hid hnew; have Hcv := Lib.hid hcv; have Hxe := Lib.hid hxe; clear hk hI hor hB2 hgv hxe hcv hlow hnew hbx hIx hlw horx hBx; go_upto_region 19 with (fail)
     generalize wr.alloc (.cells #[.int .i64 x, .int .i64 y] 51) = wx at *
     go_wp2_with fail; refine Hlw.out.mono ?_; rintro e w2 ⟨rfl, hb2⟩; have hI2 := HIx.out.below hb2; have hor2 := Horx.out.below hb2 Horx.out.lt; have hB3 := bl_trans HBx.out hb2; have e0 := keep_cell hb2 d0; have e1 := keep_cell hb2 d1; have hh2 : w2.cell? ⟨wa.heap.size, cv, none⟩ = some (.int .i64 (cv : Nat)) := by
      rw [hI2.head.cell? cv (by simpa using hcn), List.getElem?_map, List.getElem?_range hcn]; rfl
     have hl2 := hI2.map.look mapLawZ Tryz.underlying163 (zeroPairs w2) (keyZ hwz); rw [Hnew.out] at hl2; simp only [Option.getD_none] at hl2; have hlt2 := hor2.lt; have hsz2 : wr.heap.size < w2.heap.size := by have := World.block_lt_of_cell? w2 _ e0; simpa using this
     have HI2 := Lib.hid hI2; have Hor2 := Lib.hid hor2; have HB3 := Lib.hid hB3; clear hI2 hor2 hB3 hb2 d0 d1; go_upto_region 22 with (at_builtin; go_loud (refine wpList_append_row _ rfl (.tmp 91) (.tmp 93) 25 rfl 3 (.int .i64 0) 1 8 Tryz.underlying25 int_info rfl (.slice (some ⟨g, 0, none⟩) k c) k _ rfl ((Hor2.out.alloc _).own (by simp; omega) hkc) ⟨w2.heap.size, 0, none⟩ 1 1 [.int .i64 (cv : Nat)] rfl rfl (one_new (by simp)) (one_ok _ _) (by omega) (by unfold maxLen; omega) (by omega) ?_; intro g3 c3 w3 hr3 hc3 hg3 hor3))
     have hba := bl_alloc w2 (.cells #[.int .i64 (cv : Nat)] 3); have hxo2 : w1.heap.size < wo.heap.size := hxo; have hI3 := (HI2.out.below hba).grown (g := g) hg3 (by omega) (by omega) (by omega) (by omega) Hgv.out; have e0' := grown_cell hg3 (keep_cell hba e0) (by simp [Value.ownBlock]; omega); have e1' := grown_cell hg3 (keep_cell hba e1) (by simp [Value.ownBlock]; omega); have hB4 : Below wo.heap.size wo w3 := (bl_trans HB3.out hba).grown hg3 (by have := HB3.out.size; simp; omega) (fun j hj => by cases hj; show wo.heap.size ≤ g; omega); have hg3' : g3 = g ∨ w2.heap.size < g3 := by
      rcases hor3 with h | h
      · cases h; exact .inl rfl
      · right; simp at h; omega
     have hw3 : w2.heap.size < w3.heap.size := by have := hg3.size; simp at this; omega
     have hl3 := hI3.map.look mapLawZ Tryz.underlying163 (zeroPairs w3) (keyZ hwz); rw [Hnew.out] at hl3; simp only [Option.getD_none] at hl3; have hm4 := hI3.map.alloc (.cells #[.int .i64 x, .int .i64 y] 51); have hr4 : Row w3 g3 3 1 c3 (((es.take (k + 1)).map (lowV order)).map vN) := by
      rw [List.take_succ_eq_append_getElem hkl, List.map_append, List.map_append, List.map_singleton, Hcv.out]; exact hr3
     have Hm4 := Lib.hid hm4; have HI3 := Lib.hid hI3; have HB4 := Lib.hid hB4; have Hr4 := Lib.hid hr4; clear hm4 hI3 hB4 hr4 hr3 hg3 hor3 e0 e1 hl2 hba hh2; go_wp2_with (first | (at_builtin; go_loud (refine wpList_append_row _ rfl (.tmp 99) (.tmp 101) 22 rfl 51 (.agg #[.int .i64 0, .int .i64 0]) 2 16 Tryz.underlying22 pair_info2 rfl (.slice none 0 0) 0 [] rfl (own_nil _ _ _) ⟨w3.heap.size, 0, none⟩ 1 1 [.int .i64 x, .int .i64 y] rfl rfl (news_lit w3 _ [_, _]) (by intro u hu; simp at hu; rcases hu with rfl | rfl <;> rfl) (by omega) (by unfold maxLen; omega) (by omega) ?_; intro gq cq w4 hr5 hc5 hg5 hor5)) | (at_mapUpdate; go_loud (refine wpList_put_MG rfl _ _ _ _ rfl (Hm4.out.grown hg5 (by simp [Value.ownBlock])) mapLawZ Tryz.underlying163 rfl rfl rfl (keyZ hwz) (by omega) ?_; intro w5 hm5 hg6))); have hcount : (if (F (.int .i64 (cv : Nat))).isSome then k else k + 1) = k + 1 := by rw [Hnew.out]; rfl
     rw [hcount] at hm5; have hgq : w3.heap.size < gq := by
      rcases hor5 with h | h
      · simp [Value.ownBlock] at h
      · simp at h; omega
     have hbb := bl_alloc w3 (.cells #[.int .i64 x, .int .i64 y] 51); have hb4 : Below w3.heap.size w3 w4 := hbb.grown hg5 (by simp) (fun j hj => by simp [Value.ownBlock] at hj); have hI4 := HI3.out.below hb4; have hw4 := hb4.size; have hr6 : Row w4 gq 51 2 cq (pairCells [es[k]]) := by rw [Hxe.out]; exact hr5
     have hI5 : BkI w5 wo.heap.size gl w1.heap.size wa.heap.size (k + 1) m order up es (vals ++ [(gq, cq)]) (updL F (.int .i64 (cv : Nat)) (.slice (some ⟨gq, 0, none⟩) 1 cq)) := by
      refine ⟨by rw [List.length_append, hI4.vl]; rfl, hm5, hI4.low.grown hg6 (by simp; omega), grown_cell hg6 hI4.box (by simp; omega), hI4.head.grown hg6 (by simp; omega), fun j hj p hp => ?_, fun v hv => ?_⟩
      ·
       by_cases hjk : j < k
       ·
        rw [List.getElem?_append_left (by rw [hI4.vl]; exact hjk)] at hp; obtain ⟨r1, r2, r3, r4⟩ := hI4.old j hj p hp; have hne : Lit.int .i64 (lowV order es[j] : Nat) ≠ Lit.int .i64 (cv : Nat) := fun e => by
         have e2 : lowV order es[j] = lowV order es[k] := by
          rw [Hcv.out]; simp only [Lit.int.injEq, true_and] at e; omega
         have := lowV_inj Hi.out (List.getElem_mem hj) (List.getElem_mem hkl) e2; have h2 := (List.getElem?_inj (i := j) (j := k) hj Hnd.out).1 (by rw [List.getElem?_eq_getElem hj, List.getElem?_eq_getElem hkl, this]); omega
        exact ⟨by rw [updL_ne _ _ hne]; exact r1, r2.grown hg6 (by simp; omega), r3, r4⟩
       ·
        rw [List.getElem?_append_right (by rw [hI4.vl]; omega), hI4.vl] at hp; have hjk2 : j = k := by
         have := (List.getElem?_eq_some_iff.1 hp).1; simp at this; omega
        subst hjk2; simp at hp; subst hp; exact ⟨by rw [Hcv.out, updL_same], hr6.grown hg6 (by simp; omega), by simpa using hc5, by omega⟩
      ·
       have hvc : lowV order es[k] ≠ v := hv k hkl (by omega); rw [Hcv.out] at hvc; have hne : Lit.int .i64 (v : Nat) ≠ Lit.int .i64 (cv : Nat) := fun e => by
        simp only [Lit.int.injEq, true_and] at e; omega
       rw [updL_ne _ _ hne]; exact hI4.new v fun j hj hjk => hv j hj (by omega)
     have hr7 := (Hr4.out.below hb4 Hr4.out.lt).grown hg6 (by simp; rcases hg3' with h | h <;> omega); have hgv5 : ∀ j p, (vals ++ [(gq, cq)])[j]? = some p → j < es.length → g3 ≠ p.1 := fun j p hp hj => by
      by_cases hjk : j < k
      ·
       rw [List.getElem?_append_left (by rw [hI4.vl]; exact hjk)] at hp; rcases hg3' with h | h
       · rw [h]; exact Hgv.out j p hp hj
       · have := (HI2.out.old j hj p hp).2.1.lt; omega
      ·
       rw [List.getElem?_append_right (by rw [hI4.vl]; omega), hI4.vl] at hp; have hjk2 : j = k := by
        have := (List.getElem?_eq_some_iff.1 hp).1; simp at this; omega
       subst hjk2; simp at hp; subst hp; have := Hr4.out.lt; simp; omega
     have hB5 : Below wo.heap.size wo w5 := (bl_trans HB4.out hb4).grown hg6 (by have := HB4.out.size; omega) (fun j hj => by cases hj; exact Nat.le_refl _); have HI5 := Lib.hid hI5; have Hr7 := Lib.hid hr7; have HB5 := Lib.hid hB5; have Hgv5 := Lib.hid hgv5; clear hI5 hr7 hB5 hr5 hg5 hor5 hI4 hm5 hg6 hr6 hgv5 hbb hb4; go_roundg (gk - 1)
     case measure => have := Hk.out; omega
     case rel => exact ⟨k + 1, g3, c3, _, _, by have := Hk.out; omega, by go_num, rfl, HI5.out, Hr7.out, hc3, by rcases hg3' with h | h <;> omega, Hgv5.out, HB5.out⟩
    ·
     have hkn : k = es.length := by omega
     subst hkn; rw [List.take_length] at hor; have hmk := fun w => run_make_row' (P := Tryz.prog) 76 22 (.slice none 0 0) 24 Tryz.underlying76 pairs_info rfl .i64 .i64 es.length (by omega) (by omega) w; have hrz2 : Row (wr.alloc (.cells (madeCells #[.slice none 0 0] es.length) 22)) wr.heap.size 22 1 es.length (blkV vals es.length 0) := by
      have := row_made wr (.slice none 0 0) es.length 22 (by unfold maxLen; omega); rwa [show blkV vals es.length 0 = List.replicate es.length (.slice none 0 0) by simp [blkV, List.eq_replicate_iff]]
     have hbz := bl_alloc wr (.cells (madeCells #[.slice none 0 0] es.length) 22); have Hrz := Lib.hid hrz2; have Hbz := Lib.hid hbz; obtain ⟨wq, rfl⟩ : ∃ wq : World, wq = wr := ⟨_, rfl⟩
     have hoq := hor.lt; clear hrz2 hbz hk hI hor hB2 hgv hrz; go_wp2_with fail; go_loopg [109] es.length (fun r iv wj => ∃ j : Nat, j + r = es.length ∧ iv = .int .i64 j ∧ Row wj wq.heap.size 22 1 es.length (blkV vals es.length j) ∧ Below wq.heap.size wq wj)
     case atStart => exact ⟨0, by omega, rfl, Hrz.out, Hbz.out⟩
     case round =>
      clear Hrz Hbz hmk; obtain ⟨j, hj, rfl, hbr, hbq⟩ := hrel; have Hj := Lib.hid hj; have Hbr := Lib.hid hbr; have Hbq := Lib.hid hbq; have hIj := HI.out.below hbq; have horj := Hor.out.below hbq hoq; rw [List.take_length] at horj; by_cases hjl : j < es.length
      ·
       obtain ⟨p, hp⟩ : ∃ p, vals[j]? = some p := ⟨_, List.getElem?_eq_getElem (by rw [hIj.vl]; exact hjl)⟩
       obtain ⟨r1, -, -, -⟩ := hIj.old j hjl p hp; obtain ⟨cv, pv, hcv, hcn, -, -, -, -⟩ := lowV_spec Hi.out (List.getElem_mem hjl); rw [hcv] at r1; have hwz : WfZ (cv : Int) := wfZ_of (by omega); have hl := hIj.map.look mapLawZ Tryz.underlying163 (zeroPairs wr) (keyZ hwz); rw [r1] at hl; simp only [Option.getD_some] at hl; have hcx : wr.cell? ⟨g, j, none⟩ = some (.int .i64 (cv : Nat)) := by
        rw [horj.cell? j (by simpa using hjl), List.getElem?_map, List.getElem?_map, List.getElem?_eq_getElem hjl]; simp [hcv, vN]
       have hst := blkV_set (M := es.length) hp; have hb2 := hbr.set j (.slice (some ⟨p.1, 0, none⟩) 1 p.2); rw [hst] at hb2; have hbf := hbr.frozen j; obtain ⟨vo, hbc⟩ : ∃ v, wr.cell? ⟨wq.heap.size, j, none⟩ = some v := ⟨_, hbr.cell j (by rw [blkV_len]; exact hjl)⟩
       have i1 : (j : Int) < (es.length : Int) := by omega
       have Hb2 := Lib.hid hb2; clear hj hbr hbq hIj horj hp r1 hcv hst hb2; go_wp2_with fail; go_roundg (gk - 1)
       case measure => have := Hj.out; omega
       case rel => exact ⟨j + 1, by have := Hj.out; omega, by go_num, Hb2.out, Hbq.out.setCell (p := ⟨wq.heap.size, j, none⟩) (Nat.le_refl _) _⟩
      ·
       have hjn : j = es.length := by omega
       subst hjn; have hfin : RdB wr (some ⟨wq.heap.size, 0, none⟩) (es.map fun e => [e]) := fun i q hq => by
        have hil : i < es.length := by have := (List.getElem?_eq_some_iff.1 hq).1; simpa using this
        rw [List.getElem?_map, List.getElem?_eq_getElem hil] at hq; have hqe : q = [es[i]] := by simpa using hq.symm
        subst hqe; obtain ⟨p, hp⟩ : ∃ p, vals[i]? = some p := ⟨_, List.getElem?_eq_getElem (by rw [hIj.vl]; exact hil)⟩
        obtain ⟨-, r2, r3, -⟩ := hIj.old i hil p hp; refine ⟨_, 0, some ⟨p.1, 0, none⟩, p.2, rfl, ?_, r2.at_, r3, r2.cap_le⟩; rw [Nat.zero_add, hbr.cell? i (by rw [blkV_len]; exact hil)]; simp [blkV, hil, List.getD, hp]
       have hBf := bl_trans (bl_trans HBo.out HB2.out) hbq; have Hfin := Lib.hid hfin; have HBf := Lib.hid hBf; clear hj hbr hbq hIj horj hfin hBf; go_wp2_with fail; go_ret2; exact ⟨some ⟨wq.heap.size, 0, none⟩, es.length, by rw [List.length_map]; rfl, Hfin.out, by rw [List.length_map]; exact Nat.le_refl _, HBf.out⟩
end Go.Proofs.YtagjdkkfmfombaaGreat
