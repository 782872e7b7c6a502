/- Part 1 of a verified evaluator and the run that it reckons. -/
import Derived.Test.YtpjhkpmmbeoghaaGreatV00
import Derived.Laws.BytesString
import Derived.Lib.AppendStr
import Derived.Lib.ConvBytes
import Derived.Orders
import Derived.OrdersIn
import Derived.RangeFuncLeaves
set_option linter.unusedVariables false
set_option linter.unusedSimpArgs false
namespace Go.Proofs.YtpjhkpmmbeoghaaGreat.Ev
open Go
section
variable {E : Fr} {a : Act} {P : Program}
theorem beVal_go2 (l : List UInt8) : ∀ a, l.foldl (fun a b => a * 256 + b.toNat) a = a * 256 ^ l.length + beVal l := by
  induction l with
  | nil => intro a; simp [beVal]
  | cons b l ih =>
    intro a
    have h1 := ih (a * 256 + b.toNat)
    have h2 := ih (0 * 256 + b.toNat)
    simp only [List.foldl_cons, List.length_cons, beVal] at h1 h2 ⊢
    rw [h1, h2, Nat.pow_succ, Nat.add_mul, Nat.zero_mul, Nat.zero_add, Nat.mul_assoc, Nat.mul_comm 256 (256 ^ l.length)]
    omega
theorem beVal_append (l m : List UInt8) : beVal (l ++ m) = beVal l * 256 ^ m.length + beVal m := by
  show (l ++ m).foldl _ 0 = _
  rw [List.foldl_append]
  exact beVal_go2 m _
theorem beVal_lt' (l : List UInt8) : beVal l < 256 ^ l.length := by
  have := beVal_lt l
  rwa [Nat.pow_mul] at this
theorem beVal_get (l : List UInt8) (i : Nat) (h : i < l.length) : beVal l / 256 ^ (l.length - 1 - i) % 256 = l[i].toNat := by
  have e : l = l.take i ++ ([l[i]] ++ l.drop (i + 1)) := by
    rw [List.singleton_append, ← List.drop_eq_getElem_cons h, List.take_append_drop]
  have e2 : beVal l = (beVal (l.take i) * 256 + l[i].toNat) * 256 ^ (l.length - 1 - i) + beVal (l.drop (i + 1)) := by
    conv => lhs; rw [e]
    rw [beVal_append, beVal_append]
    have : beVal [l[i]] = l[i].toNat := by simp [beVal]
    rw [this]
    have e3 : (l.drop (i + 1)).length = l.length - 1 - i := by simp; omega
    have e4 : ([l[i]] ++ l.drop (i + 1)).length = (l.length - 1 - i) + 1 := by simp; omega
    rw [e3, e4, Nat.pow_succ, Nat.add_mul, ← Nat.mul_assoc, Nat.mul_assoc (beVal _), Nat.mul_comm (256 ^ (l.length - 1 - i)) 256, ← Nat.mul_assoc, Nat.add_assoc]
  have hlt := beVal_lt' (l.drop (i + 1))
  have e3 : (l.drop (i + 1)).length = l.length - 1 - i := by simp; omega
  rw [e3] at hlt
  rw [e2, Nat.add_comm, Nat.add_mul_div_right _ _ (Nat.pow_pos (by decide)), Nat.div_eq_of_lt hlt, Nat.zero_add]
  have := l[i].toNat_lt
  omega
theorem idxTK_ok {f : Nat → Option FB} {I ni : Nat} {kv : KV} {x i : Operand} {t : TypeId} (ht : P.underlying t = some .string) (h : idxTK (lowOpd x) (lowOpd i) E I ni kv = .ok) (hx : OpR f I ni E a x) (hi : OpR f I ni E a i) (hI : IB I ni) :
    PureOk P f I ni kv (do let v ← Instr.index t (a.eval x) (a.eval i); pure (.value v)) := by
  obtain ⟨w, wi, I', n', h1, h2, h3, h4⟩ := op2_ok h hx hi hI
  obtain ⟨h5, h1⟩ := iff_bad h1
  obtain ⟨kd, n, e2, h1⟩ := natK_ok h1 h4
  obtain ⟨h6, h1⟩ := iff_bad h1
  have h6 := blt_iff.1 h6
  obtain ⟨q, m, s, e1, hn, hn2, hq, hs, -, hw⟩ := h3.inv_str (tg_ok h5)
  obtain ⟨t1, t2⟩ := tW hw hq
  rw [t1, t2] at h1
  rw [t2] at h6
  have hl : n < s.data.toList.length := by omega
  have hb : (strAt I' q m >>> (8 * (m - 1 - n))) % 256 = s.data.toList[n].toNat := by
    rw [hs, Nat.shiftRight_eq_div_pow, Nat.pow_mul]
    have := beVal_get s.data.toList n hl
    rwa [hn] at this
  have h1 : kv (6 + 32 * ((strAt I' q m >>> (8 * (m - 1 - n))) % 256)) I' n' = .ok := h1
  rw [hb] at h1
  have hlt := s.data.toList[n].toNat_lt
  refine ⟨_, I', n', .int .u8 (s.data.toList[n].toNat : Nat), h1, h2, .int .u8 _ _ (by simp [bias]) (by omega), fun W => ?_⟩
  have hget : s[n]? = some s.data.toList[n] := by
    have h7 : n < s.size := by simpa using hl
    rw [getElem?_pos s n h7]
    rfl
  rw [e1, e2]
  simp [Instr.index, asIntOf, run_underlying ht, hget]
theorem slpK_ok {f : Nat → Option FB} {I ni : Nat} {kv : KV} {x : Operand} {lo hi : Option Operand} {t e : TypeId} {n : Nat} {ie : TypeInfo} (ht : P.underlying t = some (.array n e)) (he : P.info? e = some ie) (hs : ie.size < 256)
    (h : slpK n ie.size (lowOpd x) (lo.map lowOpd) (hi.map lowOpd) E I ni kv = .ok) (hx : OpR f I ni E a x) (hlo : ∀ y, lo = some y → OpR f I ni E a y) (hhi : ∀ y, hi = some y → OpR f I ni E a y) (hI : IB I ni) :
    PureOk P f I ni kv (do let v ← Instr.sliceAt t (a.eval x) (lo.map a.eval) (hi.map a.eval) none; pure (.value v)) := by
  obtain ⟨w, I1, n1, h, i1, r1⟩ := opdK_ok h hx hI
  obtain ⟨h5, h⟩ := iff_bad h
  obtain ⟨h6, h⟩ := iff_bad h
  have h6 := blt_iff.1 h6
  obtain ⟨hh, I3, n3, h, i3, rh⟩ := bndK_ok (f := f) (a := a) h (fun y hy => (hhi y hy).mono (.refl _) i1.ext) i1.lt
  obtain ⟨l, I4, n4, h, i4, rl⟩ := bndK_ok (f := f) (a := a) h (fun y hy => (hlo y hy).mono (.refl _) (i1.trans i3).ext) i3.lt
  obtain ⟨b1, h⟩ := iff_bad h
  obtain ⟨b2, h⟩ := iff_bad h
  obtain ⟨b3, h⟩ := iff_bad h
  obtain ⟨b4, h⟩ := iff_bad h
  obtain ⟨b5, h⟩ := iff_bad h
  have b1 : l ≤ hh := Nat.le_of_ble_eq_true b1
  have b2 : hh ≤ n := Nat.le_of_ble_eq_true b2
  have b3 := blt_iff.1 b3
  have b4 := blt_iff.1 b4
  have b5 := blt_iff.1 b5
  rcases r1.inv_ptr (tg_ok h5) with ⟨hw, -⟩ | ⟨b, off, F, hb, hb2, hf, ho, hw, e1⟩
  · omega
  have p1 : pB w = b := by show w / 536870912 = _; omega
  have p2 : pOff w = off := by show (w / 32) % 16777216 = _; omega
  rw [p1] at b4
  rw [p2] at b5
  rw [p1, p2] at h
  have b5 : off + l * ie.size < 4194304 := b5
  have hbd : ∀ W, (Instr.sliceBounds false n n (lo.map a.eval) (hi.map a.eval) none).run P W = .ok (l, hh, n) W := fun W => by
    have x1 : l ≤ n := by omega
    rcases rh with ⟨rfl, rfl⟩ | ⟨y2, k2, rfl, eh⟩ <;> rcases rl with ⟨rfl, rfl⟩ | ⟨y3, k3, rfl, el⟩ <;> simp [Instr.sliceBounds, *, run_bound]
  refine ⟨_, I4, n4, .slice (some (if n = l then ⟨F.blk, F.base + off, none⟩ else (⟨F.blk, F.base + off, none⟩ : Addr).add (l * ie.size))) (hh - l) (n - l), h, (i1.trans i3).trans i4, ?_, fun W => ?_⟩
  · rw [slW_eq]
    refine .slice b (off + l * ie.size) (hh - l) ie.size (n - l) true F _ (n - l) hb b4 hf b5 (by omega) hs (by omega) (by omega) (fun _ => rfl) (fun hx => by cases hx) fun hz => ?_
    rw [if_neg (by omega), add_none, Nat.add_assoc]
  · rw [e1]
    simp only [Instr.sliceAt, Sem.run_bind, run_underlying ht, Result.andThen_ok, Instr.sureAddr, Sem.run_pure, hbd, Go.sizeOf, typeInfo, run_program, he]
theorem copyK_ok {c : Cf} {kf : KF} {x y : Operand} {t u ty e : TypeId} {ie : TypeInfo} (hr : HR c) (ht : P.underlying t = some (.slice e)) (he : P.info? e = some ie) (h : copyK ie.size (lowOpd x) (lowOpd y) E c.M c.nm c.I c.ni kf = .ok)
    (hx : OpR c.f c.I c.ni E a x) (hy : OpR c.f c.I c.ni E a y) (hI : IB c.I c.ni) : StepOk P c kf (do let v ← Builtin.copy_ #[t, u] ty #[a.eval x, a.eval y]; pure (.value v)) := by
  obtain ⟨w, wy, I', n', h1, h2, h3, h4⟩ := op2_ok h hx hy hI
  obtain ⟨t1, h1⟩ := iff_bad h1
  obtain ⟨t2, h1⟩ := iff_bad h1
  have hr1 := hr.growI h2.ext h2.lt.1
  have hx1 : Ext c { c with I := I', ni := n' } := Ext.growI h2.ext
  have vx := slice_view h3 t1
  have vy := slice_view h4 t2
  have hmin : (@Bool.rec (fun _ => Nat) (sLen wy) (sLen w) (Nat.blt (sLen w) (sLen wy))) = Nat.min (sLen wy) (sLen w) := by
    show _ = min (sLen wy) (sLen w)
    cases hb : Nat.blt (sLen w) (sLen wy) with
    | true => have := blt_iff.1 hb; show sLen w = _; omega
    | false =>
      have : ¬ sLen w < sLen wy := fun h => by rw [blt_iff.2 h] at hb; cases hb
      show sLen wy = _; omega
  simp only [hmin] at h1
  generalize hN : Nat.min (sLen wy) (sLen w) = N at h1
  have hN' : N = min (sLen wy) (sLen w) := hN.symm
  have hword : ∀ N, N < 524288 → WR c.f I' n' (295147905179352825861 + 32 * N) (goInt N) := fun N hlt => by
    have := WR.int (f := c.f) (I := I') (ni := n') .i64 (N : Int) (N + 9223372036854775808) (by simp [bias]) (by omega)
    have e : tagI .i64 + 32 * (N + 9223372036854775808) = 295147905179352825861 + 32 * N := by simp only [tagI]; omega
    rw [e] at this
    exact this
  rcases iff_ok h1 with ⟨t3, h1⟩ | ⟨t3, h1⟩
  · obtain rfl : N = 0 := Nat.eq_of_beq_eq_true t3
    refine ⟨_, goInt 0, { c with I := I', ni := n' }, h1, hr1, h2.lt, hx1, hword 0 (by omega), .inl ?_⟩
    have hye : ∃ B m cb, a.eval y = .slice B m cb ∧ m = sLen wy := by
      rcases vy with ⟨-, e1, e0⟩ | ⟨ex, F, A, cc, -, -, -, -, -, -, -, -, -, -, -, -, -, e1⟩
      · exact ⟨none, 0, 0, e1, e0.symm⟩
      · exact ⟨some A, _, cc, e1, rfl⟩
    have hxe : ∃ B m cb, a.eval x = .slice B m cb ∧ m = sLen w := by
      rcases vx with ⟨-, e1, e0⟩ | ⟨ex, F, A, cc, -, -, -, -, -, -, -, -, -, -, -, -, -, e1⟩
      · exact ⟨none, 0, 0, e1, e0.symm⟩
      · exact ⟨some A, _, cc, e1, rfl⟩
    obtain ⟨B, m, cb, ey, em⟩ := hye
    obtain ⟨B', m', cb', ex, em'⟩ := hxe
    rw [ex, ey]
    have hm : Nat.min m m' = 0 := by rw [em, em']; exact hN
    have hfc : (Builtin.firstCells ie.size 0 (.slice B m cb)).run P c.w = .ok #[] c.w := by
      cases B <;> simp [Builtin.firstCells, loadCells, loadCellsFrom]
    cases B' <;> simp [Builtin.copy_, run_underlying ht, Go.sizeOf, typeInfo, he, Builtin.lenOf, hm, hfc, storeCells]
  have hN0 : N ≠ 0 := fun h0 => by rw [h0] at t3; cases t3
  obtain ⟨k1, i1, h1⟩ := inK_ok h1
  obtain ⟨k2, i2, h1⟩ := inK_ok h1
  have i1 : sOff wy + N * ie.size ≤ hd c.M (sB wy) / 1024 := i1
  have i2 : sOff w + N * ie.size ≤ hd c.M (sB w) / 1024 := i2
  rcases vy with ⟨-, -, e0⟩ | ⟨exy, Fy, Ay, cy, -, hby0, hby1, hfy, hoy, hly, hsy, hcy, -, q1, q2, q3, -, ey⟩
  · omega
  rcases vx with ⟨-, -, e0⟩ | ⟨ex, F, A, cc, hw, hb0, hb1, hf, ho, hl, hsw, hc, hcap, p1, p2, p3, p4, e1⟩
  · omega
  have hcy0 : cy ≠ 0 := by
    cases exy
    · have := (q2 rfl).1; omega
    · have := q1 rfl; omega
  have hcc0 : cc ≠ 0 := by
    cases ex
    · have := (p2 rfl).1; omega
    · have := p1 rfl; omega
  obtain rfl := q3 hcy0
  obtain rfl := p3 hcc0
  obtain ⟨cs2, hs2c, hrow2, hth2, hcell2⟩ := hr1.row hfy k1 i1
  have hnews := cells_of (c := { c with I := I', ni := n' }) hs2c hcell2
  rw [← hs2c] at i2
  obtain ⟨g1, g2, g3⟩ := hr1.put (P := P) hf k2 i2 (hs2c ▸ hrow2)
  have h1 : kf (295147905179352825861 + 32 * N) (setRow c.M (sB w + sOff w) (N * ie.size) (rowAt c.M (sB wy + sOff wy) (N * ie.size))) c.nm I' n' = .ok := h1
  rw [hs2c] at g2 g3
  refine ⟨_, goInt N, _, h1, g2, h2.lt, hx1.trans hr g3, hword N (by omega), .inl ?_⟩
  have hfc := run_firstCells_some (P := P) c.w ie.size N ⟨Fy.blk, Fy.base + sOff wy, none⟩ (sLen wy) cy cs2.toList (by simpa using hs2c) hnews
  have hst : (storeCells ⟨F.blk, F.base + sOff w, none⟩ cs2.toList).run P c.w = .ok () (c.w.setCells F.blk (F.base + sOff w) cs2.toList) := g1
  rw [e1, ey]
  simp [Builtin.copy_, run_underlying ht, Go.sizeOf, typeInfo, he, Builtin.lenOf, hN, hfc, hst]
theorem clearK_ok {c : Cf} {kf : KF} {x : Operand} {t ty e : TypeId} {s r : Nat} (hr : HR c) (ht : P.underlying t = some (.slice e)) (hz : zeroRow P e = some (s, r)) (hs : 0 < s) (h : clearK s r (lowOpd x) E c.M c.nm c.I c.ni kf = .ok)
    (hx : OpR c.f c.I c.ni E a x) (hI : IB c.I c.ni) : StepOk P c kf (do let v ← Builtin.clear_ #[t] ty #[a.eval x]; pure (.value v)) := by
  obtain ⟨w, I', n', h1, h2, h3⟩ := opdK_ok h hx hI
  obtain ⟨t1, h1⟩ := iff_bad h1
  have hr1 := hr.growI h2.ext h2.lt.1
  have hx1 : Ext c { c with I := I', ni := n' } := Ext.growI h2.ext
  have vx := slice_view h3 t1
  rcases iff_ok h1 with ⟨t3, h1⟩ | ⟨t3, h1⟩
  · have t3 : sLen w = 0 := Nat.eq_of_beq_eq_true t3
    refine ⟨0, undef, { c with I := I', ni := n' }, h1, hr1, h2.lt, hx1, .undef, .inl ?_⟩
    rcases vx with ⟨-, e1, e0⟩ | ⟨ex, F, A, cc, -, -, -, -, -, -, -, -, -, -, -, -, -, e1⟩
    · rw [e1]; simp [Builtin.clear_, run_underlying ht, undef]
    · rw [e1, t3]; simp [Builtin.clear_, run_underlying ht, undef]
  have t3 : sLen w ≠ 0 := fun h0 => by rw [h0] at t3; cases t3
  obtain ⟨k2, i2, h1⟩ := inK_ok h1
  rcases vx with ⟨-, -, e0⟩ | ⟨ex, F, A, cc, hw, hb0, hb1, hf, ho, hl, hsw, hc, hcap, p1, p2, p3, p4, e1⟩
  · omega
  have hcc0 : cc ≠ 0 := by
    cases ex
    · have := (p2 rfl).1; omega
    · have := p1 rfl; omega
  obtain rfl := p3 hcc0
  obtain ⟨i, z, hi, hz', hzs, hrow⟩ := zeroRow_ok hz
  have hmade := rep_ok (f := c.f) (I := I') (ni := n') hs hzs hrow (sLen w)
  have hsz : (madeCells z.cells (sLen w * s)).size = sLen w * s := size_madeCells _ _
  have i2 : sOff w + sLen w * s ≤ hd c.M (sB w) / 1024 := i2
  rw [← hsz] at i2
  obtain ⟨g1, g2, g3⟩ := hr1.put (P := P) hf k2 i2 hmade
  rw [hsz] at g2 g3
  refine ⟨0, undef, _, h1, g2, h2.lt, hx1.trans hr g3, .undef, .inl ?_⟩
  have hzc : (Builtin.zeroCells z.cells (sLen w)) = madeCells z.cells (sLen w * s) := by
    simp only [Builtin.zeroCells, madeCells, hzs]
  rw [e1]
  obtain ⟨m, hm⟩ : ∃ m, sLen w = m + 1 := ⟨sLen w - 1, by omega⟩
  have hst : (storeCells ⟨F.blk, F.base + sOff w, none⟩ (madeCells z.cells (sLen w * s)).toList).run P c.w = .ok () (c.w.setCells F.blk (F.base + sOff w) (madeCells z.cells (sLen w * s)).toList) := g1
  rw [hm] at hzc hst ⊢
  simp [Builtin.clear_, run_underlying ht, zeroValue, typeInfo, hi, hz', hzc, hst, undef]
end
end Go.Proofs.YtpjhkpmmbeoghaaGreat.Ev

namespace Go.Proofs.YtpjhkpmmbeoghaaGreat.Ev
open Go
section
variable {E : Fr} {a : Act} {P : Program}
def bytesL (M : Nat) : Nat → Nat → List UInt8
  | 0, _ => []
  | n + 1, b => UInt8.ofNat (cellAt M b / 32) :: bytesL M n (b + 1)
theorem bytesL_len (M : Nat) : ∀ n b, (bytesL M n b).length = n
  | 0, _ => rfl
  | n + 1, b => by simp [bytesL, bytesL_len M n]
theorem bytesL_get (M : Nat) : ∀ (n b i : Nat) (h : i < (bytesL M n b).length), (bytesL M n b)[i] = UInt8.ofNat (cellAt M (b + i) / 32)
  | 0, _, i, h => absurd h (by simp [bytesL])
  | n + 1, b, 0, _ => rfl
  | n + 1, b, i + 1, h => by
    have := bytesL_get M n (b + 1) i (by simpa [bytesL] using h)
    simp only [bytesL, List.getElem_cons_succ, this]
    rw [show b + 1 + i = b + (i + 1) by omega]
theorem bytesK_ok {M : Nat} {k : Nat → Res} : ∀ {n b acc : Nat}, bytesK M n b acc k = .ok → k ((bytesL M n b).foldl (fun a b => a * 256 + b.toNat) acc) = .ok ∧ ∀ i, i < n → cellAt M (b + i) % 32 = 6
  | 0, b, acc, h => ⟨h, fun i hi => absurd hi (by omega)⟩
  | n + 1, b, acc, h => by
    obtain ⟨h1, h⟩ := iff_bad h
    obtain ⟨h2, h3⟩ := bytesK_ok (n := n) (b := b + 1) h
    refine ⟨?_, fun i hi => ?_⟩
    · simp only [bytesL, List.foldl_cons]
      have e : (UInt8.ofNat (cellAt M b / 32)).toNat = cellAt M b / 32 % 256 := by simp
      rw [e]
      exact h2
    · cases i with
      | zero => exact tg_ok h1
      | succ i => have := h3 i (by omega); rwa [show b + (i + 1) = b + 1 + i by omega]
theorem push_toList (ns : List Int) : ∀ s : ByteArray, (ns.foldl (fun r n => r.push (UInt8.ofNat n.toNat)) s).data.toList = s.data.toList ++ ns.map fun n => UInt8.ofNat n.toNat := by
  induction ns with
  | nil => intro s; simp
  | cons n ns ih =>
    intro s
    rw [List.foldl_cons, ih]
    simp [ByteArray.push]
/-- a new string -/
theorem newStr_ok {f : Nat → Option FB} {I ni : Nat} {kv : KV} {n y : Nat} (h : growK I ni (Nat.div (Nat.add n 11) 12) y (fun I' ni' => kv (strW (Nat.mul 12 ni) n) I' ni') = .ok) {s : ByteArray} (hn : s.data.toList.length = n) (hy : y = beVal s.data.toList) (hn2 : n < 1048576) (hI : IB I ni) :
    ∃ w I' ni', kv w I' ni' = .ok ∧ IOk I ni I' ni' ∧ WR f I' ni' w (.string s) := by
  obtain ⟨h1, h⟩ := growK_ok h
  have h1 : ni + (n + 11) / 12 < 16777216 := h1
  have hlt : y < 2 ^ (8 * n) := by rw [hy, ← hn]; exact beVal_lt _
  refine ⟨_, _, _, h, .grow hI (Nat.lt_of_lt_of_le hlt (Nat.pow_le_pow_right (by decide) ?_)) h1, ?_⟩
  · show 8 * n ≤ 96 * ((n + 11) / 12); omega
  · refine WR.str (12 * ni) n s hn hn2 (by omega) ?_ (.inr ?_)
    · rw [strAt_add hI.1 hlt, hy]
    · show 12 * ni + n ≤ 12 * (ni + (n + 11) / 12); omega
theorem strOfK_ok {c : Cf} {kv : KV} {x : Operand} {src dst e : TypeId} (hr : HR c) (hs : P.underlying src = some (.slice e)) (he : P.underlying e = some (.int .u8)) (hd : P.underlying dst = some .string) (h : strOfK (lowOpd x) E c.M c.I c.ni kv = .ok)
    (hx : OpR c.f c.I c.ni E a x) (hI : IB c.I c.ni) : ReadOk P c kv (do let v ← convert src dst (a.eval x); pure (.value v)) := by
  obtain ⟨w, I', n', h1, h2, h3⟩ := opdK_ok h hx hI
  obtain ⟨t1, h1⟩ := iff_bad h1
  have hr1 := hr.growI h2.ext h2.lt.1
  have vx := slice_view h3 t1
  rcases iff_ok h1 with ⟨t3, h1⟩ | ⟨t3, h1⟩
  · have t3 : sLen w = 0 := Nat.eq_of_beq_eq_true t3
    refine ⟨12, I', n', .string .empty, h1, h2, immW_ok rfl, ?_⟩
    rcases vx with ⟨-, e1, e0⟩ | ⟨ex, F, A, cc, -, -, -, -, -, -, -, -, -, -, -, -, -, e1⟩
    · rw [e1, Sem.run_bind, run_convert_bytes_string c.w src dst e none 0 0 hs he hd]; rfl
    · rw [e1, t3, Sem.run_bind, run_convert_bytes_string c.w src dst e (some A) 0 cc hs he hd]
      have := run_bytesToString (P := P) c.w A 0 cc [] (by simp [loadCells, loadCellsFrom])
      rw [this]; rfl
  have t3 : sLen w ≠ 0 := fun h0 => by rw [h0] at t3; cases t3
  obtain ⟨k2, i2, h1⟩ := inK_ok h1
  rcases vx with ⟨-, -, e0⟩ | ⟨ex, F, A, cc, hw, hb0, hb1, hf, ho, hl, hsw, hc, hcap, p1, p2, p3, p4, e1⟩
  · omega
  have hcc0 : cc ≠ 0 := by
    cases ex
    · have := (p2 rfl).1; omega
    · have := p1 rfl; omega
  obtain rfl := p3 hcc0
  obtain ⟨h1, htag⟩ := bytesK_ok h1
  obtain ⟨cs, hsz, hrow, -, hcell⟩ := hr1.row hf k2 i2
  have hnews := cells_of (c := { c with I := I', ni := n' }) hsz hcell
  have hint : ∀ j (hj : j < cs.size), ∃ z : Int, cs[j] = .int .u8 z ∧ UInt8.ofNat z.toNat = UInt8.ofNat (cellAt c.M (sB w + sOff w + j) / 32) := fun j hj => by
    have h4 := hrow.wr j hj
    rw [cell_row (by omega)] at h4
    obtain ⟨z, p, e2, e3, e4, -⟩ := h4.inv_int .u8 (htag j (by omega))
    have e4 : (p : Int) = z + 0 := e4
    have e3 : cellAt c.M (sB w + sOff w + j) = 6 + 32 * p := e3
    refine ⟨z, e2, ?_⟩
    rw [e3]
    congr 1
    omega
  obtain ⟨ns, hns, hbs⟩ : ∃ ns : List Int, cs.toList = ns.map (Value.int .u8) ∧ ns.map (fun n => UInt8.ofNat n.toNat) = bytesL c.M (sLen w) (sB w + sOff w) := by
    refine ⟨cs.toList.map fun | .int _ z => z | _ => 0, ?_, ?_⟩
    · apply List.ext_getElem (by simp)
      intro i q1 q2
      obtain ⟨z, e2, -⟩ := hint i (by simpa using q1)
      simp only [List.getElem_map, Array.getElem_toList, e2]
    · apply List.ext_getElem
      · simp [bytesL_len, hsz]
      · intro i q1 q2
        obtain ⟨z, e2, e3⟩ := hint i (by simpa using q1)
        rw [bytesL_get]
        simp only [List.getElem_map, Array.getElem_toList, e2]
        exact e3
  have hload : (loadCells ⟨F.blk, F.base + sOff w, none⟩ (sLen w)).run P c.w = .ok (ns.map (Value.int .u8)).toArray c.w := by
    have := run_loadCells_list (P := P) c.w ⟨F.blk, F.base + sOff w, none⟩ cs.toList hnews
    rw [← hns]
    have hl' : cs.toList.length = sLen w := by simpa using hsz
    rw [hl'] at this
    exact this
  have hrun := run_bytesToString (P := P) c.w ⟨F.blk, F.base + sOff w, none⟩ (sLen w) cc ns hload
  generalize hS : ns.foldl (fun r n => r.push (UInt8.ofNat n.toNat)) ByteArray.empty = S at hrun
  have hSl : S.data.toList = bytesL c.M (sLen w) (sB w + sOff w) := by
    rw [← hS, push_toList, ← hbs]
    rfl
  obtain ⟨w', I2, n2, h5, h6, h7⟩ := newStr_ok (f := c.f) (s := S) h1 (by rw [hSl, bytesL_len]) (by rw [hSl]; rfl) (by omega) h2.lt
  refine ⟨w', I2, n2, .string S, h5, h2.trans h6, h7, ?_⟩
  rw [e1, Sem.run_bind, run_convert_bytes_string c.w src dst e _ _ cc hs he hd, hrun]
  rfl
end
end Go.Proofs.YtpjhkpmmbeoghaaGreat.Ev

namespace Go.Proofs.YtpjhkpmmbeoghaaGreat.Ev
open Go Go.Lib
section
variable {E : Fr} {a : Act} {P : Program}
theorem byteRow_go : ∀ (n : Nat) (l : List UInt8), l.length = n → ∀ (acc i : Nat), cellAt (byteRow n (beVal l) acc) i = if h : i < l.length then 6 + 32 * l[i].toNat else cellAt acc (i - n) := by
  intro n
  induction n with
  | zero =>
    intro l hn acc i
    rw [dif_neg (by omega)]
    rfl
  | succ n ih =>
    intro l hn acc i
    obtain ⟨l', b, rfl⟩ : ∃ l' b, l = l' ++ [b] := ⟨l.dropLast, l.getLast (by intro h; subst h; simp at hn), (List.dropLast_concat_getLast _).symm⟩
    have hl' : l'.length = n := by simpa using hn
    have hb := b.toNat_lt
    have hv : beVal (l' ++ [b]) = beVal l' * 256 + b.toNat := by rw [beVal_append]; simp [beVal]
    have e1 : beVal (l' ++ [b]) / 256 = beVal l' := by rw [hv]; omega
    have e2 : beVal (l' ++ [b]) % 256 = b.toNat := by rw [hv]; omega
    have hw : 6 + 32 * b.toNat < 2 ^ (96 * 1) := by omega
    have e3 : byteRow (n + 1) (beVal (l' ++ [b])) acc = byteRow n (beVal l') (addRow (6 + 32 * b.toNat) 1 acc) := by
      show byteRow n (beVal (l' ++ [b]) / 256) (Nat.shiftLeft acc 96 + (6 + 32 * (beVal (l' ++ [b]) % 256))) = _
      rw [e1, e2]
      congr 1
      show _ = (6 + 32 * b.toNat) ||| (acc <<< (96 * 1))
      rw [Nat.or_comm, Nat.shiftLeft_eq, Nat.mul_comm acc, ← Nat.two_pow_add_eq_or_of_lt (i := 96 * 1) hw]
      show acc <<< 96 + _ = _
      rw [Nat.shiftLeft_eq, Nat.mul_comm acc]
    rw [e3, ih l' hl']
    by_cases h1 : i < n
    · rw [dif_pos (by omega), dif_pos (by omega)]
      rw [List.getElem_append_left (by omega)]
    · rw [dif_neg (by omega), cell_add hw]
      by_cases h2 : i = n
      · subst h2
        rw [dif_pos (by omega), if_pos (by omega), Nat.sub_self, cell_self (by omega)]
        rw [List.getElem_append_right (by omega)]
        simp
      · rw [dif_neg (by omega), if_neg (by omega)]
        congr 1
theorem byteRow_ok (l : List UInt8) (acc i : Nat) : cellAt (byteRow l.length (beVal l) acc) i = if h : i < l.length then 6 + 32 * l[i].toNat else cellAt acc (i - l.length) := byteRow_go _ l rfl acc i
theorem byteRow_lt : ∀ (l : List UInt8) (acc m : Nat), acc < 2 ^ (96 * m) → byteRow l.length (beVal l) acc < 2 ^ (96 * (l.length + m)) := by
  intro l
  generalize hn : l.length = n
  induction n generalizing l with
  | zero =>
    intro acc m h
    rw [Nat.zero_add]
    exact h
  | succ n ih =>
    intro acc m h
    obtain ⟨l', b, rfl⟩ : ∃ l' b, l = l' ++ [b] := ⟨l.dropLast, l.getLast (by intro h; subst h; simp at hn), (List.dropLast_concat_getLast _).symm⟩
    have hl' : l'.length = n := by simpa using hn
    have hb := b.toNat_lt
    have hv : beVal (l' ++ [b]) = beVal l' * 256 + b.toNat := by rw [beVal_append]; simp [beVal]
    have e1 : beVal (l' ++ [b]) / 256 = beVal l' := by rw [hv]; omega
    have e2 : beVal (l' ++ [b]) % 256 = b.toNat := by rw [hv]; omega
    have hw : 6 + 32 * b.toNat < 2 ^ (96 * 1) := by omega
    have e3 : byteRow (n + 1) (beVal (l' ++ [b])) acc = byteRow n (beVal l') (addRow (6 + 32 * b.toNat) 1 acc) := by
      show byteRow n (beVal (l' ++ [b]) / 256) (Nat.shiftLeft acc 96 + (6 + 32 * (beVal (l' ++ [b]) % 256))) = _
      rw [e1, e2]
      congr 1
      show _ = (6 + 32 * b.toNat) ||| (acc <<< (96 * 1))
      rw [Nat.or_comm, Nat.shiftLeft_eq, Nat.mul_comm acc, ← Nat.two_pow_add_eq_or_of_lt (i := 96 * 1) hw]
      show acc <<< 96 + _ = _
      rw [Nat.shiftLeft_eq, Nat.mul_comm acc]
    rw [e3]
    have := ih l' hl' (addRow (6 + 32 * b.toNat) 1 acc) (1 + m) (add_lt hw h)
    rw [show n + 1 + m = n + (1 + m) by omega]
    exact this
/-- a string's bytes as a row -/
theorem bytes_row {f : Nat → Option FB} {I ni : Nat} (s : ByteArray) : RowR f I ni (byteRow s.data.toList.length (beVal s.data.toList) 0) (strCells s).toArray := by
  have hs : (strCells s).toArray.size = s.data.toList.length := by simp [strCells]
  refine ⟨?_, fun i hi => ?_, fun i hi => ?_⟩
  · rw [hs]
    have := byteRow_lt s.data.toList 0 0 (by simp)
    simpa using this
  · have hi' : i < s.data.toList.length := by rw [← hs]; exact hi
    rw [byteRow_ok, dif_pos hi']
    have e : (strCells s).toArray[i] = .int .u8 (s.data.toList[i].toNat : Nat) := by simp [strCells]
    rw [e]
    have := s.data.toList[i].toNat_lt
    exact .int .u8 _ _ (by simp [bias]) (by omega)
  · have e : (strCells s).toArray[i] = .int .u8 (s.data.toList[i]'(by rw [← hs]; exact hi)).toNat := by simp [strCells]
    rw [e]; rfl
variable (w : World)
theorem run_room_str (t u ty e : TypeId) (i : TypeInfo) (ht : P.underlying t = some (.slice e)) (hu : P.underlying u = some .string) (hi : P.info? e = some i) (hs1 : i.size = 1) (b off sLen sCap : Nat) (s : ByteArray) (hroom : sLen + s.size ≤ sCap)
    (hc : ∀ j, j < (strCells s).length → (w.cell? ⟨b, off + sLen + j, none⟩).isSome = true) (hf : ∀ j, j < (strCells s).length → w.frozen? ⟨b, off + sLen + j, none⟩ = false) :
    (Builtin.append_ #[t, u] ty #[.slice (some ⟨b, off, none⟩) sLen sCap, .string s]).run P w = .ok (.slice (some ⟨b, off, none⟩) (sLen + s.size) sCap) (w.setCells b (off + sLen) (strCells s)) := by
  have hfc := run_firstCells_string (P := P) w 1 s
  have hst := run_storeCells_cells (P := P) b (off + sLen) (strCells s) 0 w (by simpa using hc) (by simpa using hf) (strCells_oneCell s)
  simp only [Nat.add_zero] at hst
  simp [Builtin.append_, run_underlying ht, run_underlying hu, Go.sizeOf, typeInfo, hi, hs1, Builtin.lenOf, hroom, hfc, Addr.add_lit, hst]
theorem run_grows_str (t u ty e : TypeId) (i : TypeInfo) (ht : P.underlying t = some (.slice e)) (hu : P.underlying u = some .string) (hi : P.info? e = some i) (hz : i.zero = some (.int .u8 0)) (hsize : i.size = 1) (hby : i.bytes = 1)
    (b : Addr) (n cap : Nat) (olds : List Value) (hlo : olds.length = n) (holds : ∀ j u, olds[j]? = some u → w.cell? (b.add j) = some u) (s : ByteArray) (hg : cap < n + s.size) (h63 : n + s.size ≤ maxLen) (hbytes : n + s.size ≤ 140737488355328) :
    ∃ v' w', (Builtin.append_ #[t, u] ty #[.slice (some b) n cap, .string s]).run P w = .ok v' w' ∧ w'.ownsRow w.heap.size e 1 v' (n + s.size) (olds ++ strCells s) ∧ w.grownBy w' none := by
  have hlen : (olds ++ strCells s).length = (n + s.size) * 1 := by rw [List.length_append, hlo, strCells_length, Nat.mul_one]
  have hge := grownCap_ge w (n + s.size) cap e
  have hcm : grownCap w (n + s.size) cap e ≤ maxLen := grownCap_le_maxLen w (n + s.size) cap e h63
  have hr := run_append_grow_string (P := P) w t u ty e i (.int .u8 0) ht hu hi hz b n cap olds (by rw [hsize, hlo, Nat.mul_one]) holds s hg (by simp only [maxLen] at h63; omega) (by rw [hby]; exact growslice_fits hg (by omega))
  refine ⟨_, _, hr, ⟨hlen, .inr ⟨w.heap.size, _, _, rfl, Nat.le_refl _, heap_alloc_new w.drew _, hge, hcm, ?_, ?_⟩⟩, ⟨rfl, rfl, rfl, by simp, fun k hk _ => heap_alloc_oldE w.drew _ k hk⟩⟩
  · have hz1 : (Value.int IntKind.u8 0).cells.size = 1 := rfl
    simp only [Array.size_append, List.size_toArray, size_zeroCells, hz1, hlo, strCells_length]
    omega
  · simp only [Array.toList_append, List.append_assoc]
    rw [← List.append_assoc, ← hlen]
    exact List.take_left
end
end Go.Proofs.YtpjhkpmmbeoghaaGreat.Ev

namespace Go.Proofs.YtpjhkpmmbeoghaaGreat.Ev
open Go Go.Lib
section
variable {E : Fr} {a : Act} {P : Program}
theorem appTK_ok {c : Cf} {kf : KF} {t u ty e : TypeId} {ie : TypeInfo} {x y : Operand} (hr : HR c) (ht : P.underlying t = some (.slice e)) (hu : P.underlying u = some .string) (he : P.info? e = some ie) (hz' : ie.zero = some (.int .u8 0)) (hsz : ie.size = 1) (hby : ie.bytes = 1)
    (h : appTK (lowOpd x) (lowOpd y) E c.M c.nm c.I c.ni kf = .ok) (hx : OpR c.f c.I c.ni E a x) (hy : OpR c.f c.I c.ni E a y) (hI : IB c.I c.ni) : StepOk P c kf (do let v ← Builtin.append_ #[t, u] ty #[a.eval x, a.eval y]; pure (.value v)) := by
  obtain ⟨w, wy, I', n', h1, h2, h3, h4⟩ := op2_ok h hx hy hI
  obtain ⟨t1, h1⟩ := iff_bad h1
  obtain ⟨t2, h1⟩ := iff_bad h1
  have hr1 := hr.growI h2.ext h2.lt.1
  have hx1 : Ext c { c with I := I', ni := n' } := Ext.growI h2.ext
  have vx := slice_view h3 t1
  obtain ⟨qy, m, sy, ey, hny, hny2, hqy, hsy, -, hwy⟩ := h4.inv_str (tg_ok t2)
  obtain ⟨ty1, ty2⟩ := tW hwy hqy
  rw [ty1, ty2] at h1
  have hm0 : sy.size = m := by rw [← hny]; rfl
  rcases iff_ok h1 with ⟨t3, h1⟩ | ⟨t3, h1⟩
  · -- nothing is appended
    have hm : m = 0 := Nat.eq_of_beq_eq_true t3
    refine ⟨w, a.eval x, { c with I := I', ni := n' }, h1, hr1, h2.lt, hx1, h3, .inl ?_⟩
    have hfc := run_firstCells_string (P := P) c.w 1 sy
    have hsc : strCells sy = [] := List.eq_nil_of_length_eq_zero (by rw [strCells_length]; omega)
    rw [hsc] at hfc
    have hm1 : sy.size = 0 := by omega
    rw [hm1] at hfc
    rcases vx with ⟨-, e1, -⟩ | ⟨ex, F, A, cc, -, -, -, -, -, -, -, hc, -, q1, q2, -, -, e1⟩
    · rw [ey, e1]; simp [Builtin.append_, run_underlying ht, run_underlying hu, Go.sizeOf, typeInfo, he, hsz, Builtin.lenOf, hm1, hfc]
    · have hcc : sLen w ≤ cc := by
        cases ex
        · have := (q2 rfl).1; omega
        · have := q1 rfl; omega
      rw [ey, e1]; simp [Builtin.append_, run_underlying ht, run_underlying hu, Go.sizeOf, typeInfo, he, hsz, Builtin.lenOf, hm1, hfc, hcc, storeCells]
  have hm : m ≠ 0 := fun h0 => by rw [h0] at t3; cases t3
  obtain ⟨t5, h1⟩ := iff_bad h1
  have t5 : sLen w + m < 524288 := blt_iff.1 t5
  obtain ⟨cs2, hcs2⟩ : ∃ cs2 : Array Value, cs2 = (strCells sy).toArray := ⟨_, rfl⟩
  have hs2c : cs2.size = m * 1 := by rw [hcs2, Nat.mul_one, ← hm0, List.size_toArray, strCells_length]
  have hrow2 : RowR c.f I' n' (byteRow m (strAt I' qy m) 0) cs2 := by
    rw [hsy, hcs2, ← hny]; exact bytes_row sy
  have hcsl : cs2.toList = strCells sy := by rw [hcs2]
  have hmax : sLen w + m ≤ maxLen := by simp only [maxLen]; omega
  have hs : (0 : Nat) < 1 := by decide
  have hs2 : (1 : Nat) < 256 := by decide
  have e1m : ∀ k : Nat, k * 1 = k := Nat.mul_one
  rcases vx with ⟨hw, e1, e0⟩ | ⟨ex, F, A, cc, hw, hb0, hb1, hf, ho, hl, hsw, hc, hcap, p1, p2, p3, p4, e1⟩
  · -- onto nil
    subst hw
    obtain ⟨-, h1⟩ := (iff_ok h1).resolve_right fun hh => by cases hh.1
    obtain ⟨h7, h1⟩ := allocK_ok h1
    obtain ⟨v', w', hrun, hown, hg, -⟩ := run_append_own_string (P := P) c.w c.w.heap.size t u ty e ie ht hu he hz' hsz hby (.slice none 0 0) 0 [] (World.ownsRow_nil c.w _ e 1) sy (by rw [hm0]; simp only [maxLen]; omega) (by omega) (Nat.le_refl _)
    rw [Nat.zero_add, List.nil_append, hm0, ← hcsl] at hown
    have hgr := hr1.grownRow (N := m) (s := 1) (by rw [Nat.mul_one]; exact h7) hs hs2 (by omega) hrow2 hs2c (by omega) hown hg
    simp only [Nat.mul_one] at hgr
    obtain ⟨g, size, r1, r2, r3⟩ := hgr
    refine ⟨_, v', _, h1, r1, h2.lt, hx1.trans hr r2, r3, .inl ?_⟩
    rw [ey, e1]; simp only [Sem.run_bind, hrun, Result.andThen_ok, Sem.run_pure]
    rfl
  obtain ⟨-, h1⟩ := (iff_ok h1).resolve_left fun hh => hw (Nat.eq_of_beq_eq_true hh.1)
  obtain ⟨t6, h1⟩ := iff_bad h1
  have t6 : sSz w = 1 := Nat.eq_of_beq_eq_true t6
  have hcap' : sCap w ≤ cc := by
    cases ex
    · exact (p2 rfl).1
    · exact Nat.le_of_eq (p1 rfl).symm
  have hs2c' : cs2.size = m := by rw [hs2c, Nat.mul_one]
  have hl2 : (strCells sy).length = m := by rw [strCells_length, hm0]
  rcases iff_ok h1 with ⟨t7, h1⟩ | ⟨t7, h1⟩
  · -- in place
    have t7 : sLen w + m ≤ sCap w := Nat.le_of_ble_eq_true t7
    obtain ⟨hk, hin, h1⟩ := inK_ok h1
    have hin : sOff w + sLen w + m ≤ hd c.M (sB w) / 1024 := hin
    obtain rfl := p3 (by omega)
    obtain ⟨-, g2, g3⟩ := hr1.put (P := P) (off := sOff w + sLen w) hf hk (by rw [hs2c']; exact hin) hrow2
    obtain ⟨-, -, -, hth, -⟩ := hr1.row hf hk hin
    rw [hs2c', hcsl] at g2 g3
    have hrun := run_room_str (P := P) c.w t u ty e ie ht hu he hsz F.blk (F.base + sOff w) (sLen w) cc sy (by omega)
      (fun j hj => by have := (hth j (by omega)).1; simpa only [Nat.add_assoc] using this) (fun j hj => by have := (hth j (by omega)).2; simpa only [Nat.add_assoc] using this)
    refine ⟨_, .slice (some ⟨F.blk, F.base + sOff w, none⟩) (sLen w + m) cc, _, h1, g2, h2.lt, hx1.trans hr g3, ?_, .inl ?_⟩
    · have hwr := WR.slice (f := c.f) (I := I') (ni := n') (sB w) (sOff w) (sLen w + m) 1 (sCap w) ex F ⟨F.blk, F.base + sOff w, none⟩ cc hb0 hb1 hf ho t5 hs2 t7 hcap p1 (fun hx => by have := p2 hx; rw [t6] at this; exact this) fun _ => rfl
      rw [← slW_eq, ← p4] at hwr
      exact hwr
    · rw [ey, e1]; simp only [Sem.run_bind, hrun, Result.andThen_ok, Sem.run_pure]
      simp only [hm0, Nat.add_assoc]
  · -- it grows, as far as is known
    have t7 : ¬ sLen w + m ≤ sCap w := fun h0 => by rw [show Nat.ble (Nat.add (sLen w) m) (sCap w) = true from Nat.ble_eq_true_of_le h0] at t7; cases t7
    obtain ⟨hk, hin, h1⟩ := inK_ok h1
    have hin : sOff w + sLen w ≤ hd c.M (sB w) / 1024 := hin
    obtain ⟨cs1, hs1c, hrow1, hth1, hcell1⟩ := hr1.row hf hk hin
    obtain ⟨h7, h1⟩ := allocK_ok h1
    have h7 : c.nm + (1 + (sLen w + m)) < 4194304 := h7
    have hrow := hrow1.append hrow2
    rw [hs1c] at hrow
    have hszs : (cs1 ++ cs2).size = (sLen w + m) * 1 := by rw [Array.size_append]; omega
    have hl1 : cs1.toList.length = sLen w := by simpa using hs1c
    obtain ⟨nn, hlay⟩ := hr1.dom _ _ hf
    by_cases hroom : sLen w + m ≤ cc
    · -- in place all the same: the old block is struck
      have hex : ex = false := by
        cases ex
        · rfl
        · have := p1 rfl; omega
      subst hex
      obtain rfl := p3 (by omega)
      obtain ⟨q4, q5⟩ := p2 rfl
      rw [t6] at q5
      have hM : (@Nat.rec (fun _ => Nat) (setRow c.M (Nat.sub (sB w) 1) 1 0) (fun _ _ => c.M) (sEx w)) = setRow c.M (sB w - 1) 1 0 := by rw [p4]; rfl
      rw [hM] at h1
      obtain ⟨g1, g2⟩ := hr1.moved (N := sLen w + m) hf hk h7 hin hs1c hrow1 hcell1 hrow2 (by omega) (by omega)
      rw [hcsl] at g1 g2
      have hend : ∀ j, j < m → ∃ u, c.w.cell? ⟨F.blk, F.base + sOff w + sLen w + j, none⟩ = some u ∧ c.w.frozen? ⟨F.blk, F.base + sOff w + sLen w + j, none⟩ = false := by
        intro j hj
        obtain ⟨bs, elem, fr, u1, u2, u3, u4, u5, u6⟩ := hr.cells _ _ hf hk
        have hlt : F.base + sOff w + sLen w + j < bs.size := by omega
        refine ⟨bs[F.base + sOff w + sLen w + j], by simp [World.cell?, u1, hlt], ?_⟩
        have h8 := u2 _ hlt
        simp only [World.frozen?, u1]
        rw [Bool.and_eq_false_iff]
        simp only [decide_eq_false_iff_not]
        omega
      have hrun := run_room_str (P := P) c.w t u ty e ie ht hu he hsz F.blk (F.base + sOff w) (sLen w) cc sy (by omega)
        (fun j hj => by obtain ⟨u, h5, -⟩ := hend j (by omega); rw [h5]; rfl) (fun j hj => by obtain ⟨u, -, h5⟩ := hend j (by omega); rw [h5])
      refine ⟨_, .slice (some ⟨F.blk, F.base + sOff w, none⟩) (sLen w + m) cc, _, h1, g1, h2.lt, hx1.trans hr g2, ?_, .inl ?_⟩
      · have hwr := WR.slice (f := setN c.f (c.nm + 1) ⟨F.blk, F.base + sOff w, F.size, 0⟩) (I := I') (ni := n') (c.nm + 1) 0 (sLen w + m) 1 (sLen w + m) false ⟨F.blk, F.base + sOff w, F.size, 0⟩ ⟨F.blk, F.base + sOff w, none⟩ cc (by omega) (by omega) (setN_same _ _ _) (by omega) t5 hs2 (Nat.le_refl _) t5 (fun h => by cases h) (fun _ => ⟨hroom, q5⟩) fun _ => rfl
        rw [← slW_eq] at hwr
        exact hwr
      · rw [ey, e1]; simp only [Sem.run_bind, hrun, Result.andThen_ok, Sem.run_pure]
        rw [hm0]
        rfl
    · have holds : ∀ j u, cs1.toList[j]? = some u → c.w.cell? (A.add j) = some u := by
        by_cases hc0 : cc = 0
        · intro j u hu
          have : cs1.toList.length = 0 := by rw [hl1]; omega
          rw [List.eq_nil_of_length_eq_zero this] at hu
          cases hu
        · obtain rfl := p3 hc0
          exact cells_of (c := { c with I := I', ni := n' }) hs1c hcell1
      obtain ⟨v', w', hrun, hown, hg⟩ := run_grows_str (P := P) c.w t u ty e ie ht hu he hz' hsz hby A (sLen w) cc cs1.toList hl1 holds sy (by omega) (by rw [hm0]; exact hmax) (by omega)
      rw [hm0, ← hcsl, ← Array.toList_append] at hown
      have hrun' : (do let v ← Builtin.append_ #[t, u] ty #[a.eval x, a.eval y]; pure (Next.value v) : Sem Next).run P c.w = .ok (.value v') w' := by
        rw [ey, e1]; simp only [Sem.run_bind, hrun, Result.andThen_ok, Sem.run_pure]
      cases ex
      · have hM : (@Nat.rec (fun _ => Nat) (setRow c.M (Nat.sub (sB w) 1) 1 0) (fun _ _ => c.M) (sEx w)) = setRow c.M (sB w - 1) 1 0 := by rw [p4]; rfl
        rw [hM] at h1
        have hstr := hr1.strike hlay
        have hgr := hstr.grownRow (N := sLen w + m) (s := 1) (by rw [Nat.mul_one]; exact h7) hs hs2 t5 hrow hszs (by omega) hown hg
        simp only [Nat.mul_one] at hgr
        obtain ⟨g, size, r1, r2, r3⟩ := hgr
        exact ⟨_, v', _, h1, r1, h2.lt, hx1.trans hr ((Ext.strike hr1 hf).trans hr1 r2), r3, .inl hrun'⟩
      · have hM : (@Nat.rec (fun _ => Nat) (setRow c.M (Nat.sub (sB w) 1) 1 0) (fun _ _ => c.M) (sEx w)) = c.M := by rw [p4]; rfl
        rw [hM] at h1
        have hgr := hr1.grownRow (N := sLen w + m) (s := 1) (by rw [Nat.mul_one]; exact h7) hs hs2 t5 hrow hszs (by omega) hown hg
        simp only [Nat.mul_one] at hgr
        obtain ⟨g, size, r1, r2, r3⟩ := hgr
        exact ⟨_, v', _, h1, r1, h2.lt, hx1.trans hr r2, r3, .inl hrun'⟩
end
end Go.Proofs.YtpjhkpmmbeoghaaGreat.Ev

namespace Go.Proofs.YtpjhkpmmbeoghaaGreat.Ev
open Go Go.Lib
section
variable {E : Fr} {a : Act} {P : Program}
/-- a new row of cells, of which the first n are known -/
theorem HR.newRowF {c : Cf} (h : HR c) {n r : Nat} (hn : c.nm + (1 + n) < 4194304) {cs vs : Array Value} {elem : TypeId} {fr : Nat × Nat} (hfz : ∀ i, i < cs.size → ¬ (fr.1 ≤ i ∧ i < fr.2)) (hrow : RowR c.f c.I c.ni r vs) (hvs : vs.size = n) (hcs : n ≤ cs.size) (hpre : ∀ i, i < n → cs[i]? = vs[i]?)
    (w' : World) {g : Nat} (hg : c.w.heap.size ≤ g) (hw : w'.heap[g]? = some (.cells cs elem fr)) (hsz : c.w.heap.size ≤ w'.heap.size) (hfr : ∀ k, k < c.w.heap.size → w'.heap[k]? = c.w.heap[k]?) (ht : w'.tape = c.w.tape ∧ w'.os = c.w.os ∧ w'.output = c.w.output) :
    HR (c.grown (1 + 1024 * n) n r ⟨g, 0, cs.size, 0⟩ w') ∧ Ext c (c.grown (1 + 1024 * n) n r ⟨g, 0, cs.size, 0⟩ w') := by
  have hh : 1 + 1024 * n < 2 ^ 96 := by omega
  subst hvs
  have hfx : FExt c.f (setN c.f (c.nm + 1) ⟨g, 0, cs.size, 0⟩) := by
    intro b F' e
    rw [setN_ne]
    · exact e
    · obtain ⟨n', hl'⟩ := h.dom b F' e
      have := h.lay0 b n' hl'
      omega
  refine ⟨h.grown hh (by omega) hrow.lt (fun b F' e _ => hfr _ (h.lt b F' e)) hsz (Array.getElem?_eq_some_iff.1 hw).1 (fun b F' e _ => by have := h.lt b F' e; show _ ≠ g; omega) (fun _ => ?_) (fun hx => by omega), .grown h hh ht hsz hfr hg⟩
  have e0 : hd (c.grown (1 + 1024 * vs.size) vs.size r ⟨g, 0, cs.size, 0⟩ w').M (c.nm + 1) = 1 + 1024 * vs.size := grown_hd' h hh
  refine ⟨cs, elem, fr, hw, hfz, rfl, ?_, ?_, fun i hi hx => ?_⟩
  · rw [e0]; show 0 + _ ≤ _; omega
  · rw [e0]; show _ = 0; omega
  · rw [e0] at hi
    have hi' : i < vs.size := by omega
    show WR (setN c.f (c.nm + 1) _) c.I c.ni (cellAt (addRow c.M c.nm (addRow _ 1 r)) (c.nm + 1 + i)) (cs[0 + i]'hx) ∧ (cs[0 + i]'hx).oneCell' = true
    rw [grown_cell h hh, if_neg (by omega), if_neg (by omega), show c.nm + 1 + i - (c.nm + 1) = i by omega]
    have e1 : cs[0 + i]'hx = vs[i] := by
      have := hpre i hi'
      rw [Array.getElem?_eq_getElem (by omega), Array.getElem?_eq_getElem hi'] at this
      simpa only [Nat.zero_add] using Option.some.inj this
    rw [e1]
    exact ⟨(hrow.wr i hi').mono hfx (.refl _ _), hrow.one i hi'⟩
theorem toBytesK_ok {c : Cf} {kf : KF} {x : Operand} {src dst e : TypeId} (hr : HR c) (hs : P.underlying src = some .string) (hd : P.underlying dst = some (.slice e)) (he : P.underlying e = some (.int .u8)) (h : toBytesK (lowOpd x) E c.M c.nm c.I c.ni kf = .ok)
    (hx : OpR c.f c.I c.ni E a x) (hI : IB c.I c.ni) : StepOk P c kf (do let v ← convert src dst (a.eval x); pure (.value v)) := by
  obtain ⟨w, I', n', h1, h2, h3⟩ := opdK_ok h hx hI
  obtain ⟨t1, h1⟩ := iff_bad h1
  obtain ⟨t2, h1⟩ := iff_bad h1
  have t2 := blt_iff.1 t2
  obtain ⟨q, m, s, e1, hn, hn2, hq, hsv, -, hw⟩ := h3.inv_str (tg_ok t1)
  obtain ⟨ty1, ty2⟩ := tW hw hq
  rw [ty1, ty2] at h1
  rw [ty2] at t2
  obtain ⟨h7, h1⟩ := allocK_ok h1
  have hm : s.size = m := by rw [← hn]; rfl
  have hr1 := hr.growI h2.ext h2.lt.1
  have hge : m ≤ grownCap c.w s.size 0 e := by rw [← hm]; exact grownCap_ge _ _ _ _
  have hrow : RowR c.f I' n' (byteRow m (strAt I' q m) 0) (strCells s).toArray := by
    rw [hsv, ← hn]; exact bytes_row s
  have hvs : (strCells s).toArray.size = m := by rw [List.size_toArray, strCells_length, hm]
  have hcell : ∀ j, j < m → (bytesCells c.w e s)[j]? = (strCells s).toArray[j]? := fun j hj => by
    have h8 := bytesWorld_cell c.w e s j (by omega)
    have h9 : (bytesWorld c.w e s).heap[c.w.heap.size]? = _ := bytesWorld_at_new c.w e s
    simp only [World.cell?, h9] at h8
    have h10 : (bytesCells c.w e s)[j]? = some (.int .u8 (s.data.toList.getD j 0).toNat) := by simpa using h8
    rw [h10]
    have hj' : j < s.data.toList.length := by omega
    simp [strCells, List.getD, List.getElem?_eq_getElem hj']
  have hsz : m ≤ (bytesCells c.w e s).size := by
    refine Classical.byContradiction fun hlt => ?_
    have h8 := hcell (bytesCells c.w e s).size (by omega)
    rw [Array.getElem?_eq_none (Nat.le_refl _), Array.getElem?_eq_getElem (by omega)] at h8
    cases h8
  have hcap : (bytesCells c.w e s).size = m + (grownCap c.w s.size 0 e - m) := by
    simp [bytesCells, ← hm]
  obtain ⟨q1, q2⟩ := hr1.newRowF (n := m) (r := byteRow m (strAt I' q m) 0) (cs := bytesCells c.w e s) (vs := (strCells s).toArray) (elem := e) (fr := ((bytesCells c.w e s).size, (bytesCells c.w e s).size + 1)) h7 (fun i hi h => by have := h.1; simp only at this; omega) hrow hvs hsz hcell (bytesWorld c.w e s) (Nat.le_refl _) (bytesWorld_at_new c.w e s) (by rw [bytesWorld_size]; show c.w.heap.size ≤ _; omega) (fun k hk => bytesWorld_at_old c.w e s k hk) ⟨rfl, rfl, rfl⟩
  refine ⟨_, .slice (some ⟨c.w.heap.size, 0, none⟩) m (grownCap c.w s.size 0 e), _, h1, q1, h2.lt, (Ext.growI h2.ext).trans hr q2, ?_, .inl ?_⟩
  · exact slWR (c := { c with I := I', ni := n' }) (g := c.w.heap.size) (r := byteRow m (strAt I' q m) 0) (w' := bytesWorld c.w e s) (ex := false) (bytesCells c.w e s) h7 rfl t2 (by decide) (Nat.le_refl _) t2 (grownCap c.w s.size 0 e) (fun h => by cases h) fun _ => ⟨hge, by omega⟩
  · rw [e1, Sem.run_bind, run_convert_string_bytes c.w src dst e s hs hd he, hm]
    rfl
end
end Go.Proofs.YtpjhkpmmbeoghaaGreat.Ev

namespace Go.Proofs.YtpjhkpmmbeoghaaGreat.Ev
open Go
/-- a list of parts to fill in -/
abbrev Parts := List (Nat × Nat × Opd)
/-- an operation, made ready -/
inductive In where
  | mov (x : Opd)
  | pick (c a b : Opd)
  | add (x y : Opd)
  | sub (x y : Opd)
  | iop (op : BinOp) (k : IntKind) (x y : Opd)
  | shf (op : BinOp) (k yk : IntKind) (x y : Opd)
  | ieq (t : Nat) (neg : Bool) (x y : Opd)
  | ilt (t : Nat) (neg : Bool) (x y : Opd)
  | seq (neg : Bool) (x y : Opd)
  | nilq (neg : Bool) (z t : Nat) (x : Opd)
  | not (x : Opd)
  | neg (k : IntKind) (x : Opd)
  | conv (s k : IntKind) (x : Opd)
  | len (x : Opd)
  | lenT (x : Opd)
  | iadrS (sz : Nat) (x i : Opd)
  | iadrA (len sz : Nat) (x i : Opd)
  | fadr (off : Nat) (x : Opd)
  | fld1 (t off : Nat) (x : Opd)
  | fldN (off n : Nat) (x : Opd)
  | idx1 (len : Nat) (x i : Opd)
  | slc (sz : Nat) (x : Opd) (lo hi mx : Option Opd)
  | nilc (x : Opd)
  | mki (t : Nat) (x : Opd)
  | mkf (fn n : Nat) (xs : List Opd)
  | min (mx : Bool) (t : Nat) (x y : Opd)
  | bld (n r : Nat) (ps : Parts)
  | load1 (x : Opd)
  | loadN (n : Nat) (x : Opd)
  | alloc (n r : Nat)
  | box (n : Nat) (x : Opd)
  | mkSl (s r : Nat) (l c : Opd)
  | bldS (len s r : Nat) (ps : Parts)
  | store (n : Nat) (x v : Opd)
  | app (s : Nat) (x y : Opd)
  | look (q : KK) (com agg : Bool) (n r : Nat) (x key : Opd)
  | upd (q : KK) (x key v : Opd)
  | mkMap
  | mkMapH (x : Opd)
  | lenM (x : Opd)
  | strOf (x : Opd)
  | toBytes (x : Opd)
  | copy (s : Nat) (x y : Opd)
  | clear (s r : Nat) (x : Opd)
  | slp (len sz : Nat) (x : Opd) (lo hi : Option Opd)
  | idxT (x i : Opd)
  | peq (neg : Bool) (x y : Opd)
  | capS (x : Opd)
  | appT (x y : Opd)
  | inv (name : String) (x : Opd) (xs : List Opd)
  | call (f : Nat) (xs : List Opd)
  | callv (x : Opd) (xs : List Opd)
  | bad (n : Nat)
/-- the method of a pointer type -/
def methOf (P : Program) (name : String) (t : TypeId) : Option Nat :=
  match P.underlying t, P.info? t with
  | some (.pointer _), some i => match i.methods.find? (·.name == name) with
    | some m => match m.path.toList, m.func with
      | [], some (f, true) => match P.funcs[f]? with
        | some fn => if fn.body.isSome && fn.name != "runtime.NumGoroutine" then some f else none
        | none => none
      | _, _ => none
    | none => none
  | _, _ => none
abbrev CallT := Nat → List Nat → Nat → Nat → Nat → Nat → KF → Res
abbrev StepT := Fr → Nat → Nat → Nat → Nat → KF → Res
noncomputable section
def pureS (g : Fr → Nat → Nat → KV → Res) (E : Fr) (M nm I ni : Nat) (kf : KF) : Res := (fun _ : Nat => g E I ni fun w I ni => kf w M nm I ni) hh40
def readS (g : Fr → Nat → Nat → Nat → KV → Res) (E : Fr) (M nm I ni : Nat) (kf : KF) : Res := (fun _ : Nat => g E M I ni fun w I ni => kf w M nm I ni) hh40
def callS (call : CallT) (f : Nat) (xs : List Opd) (E : Fr) (M nm I ni : Nat) (kf : KF) : Res := opdsK xs E I ni fun ws I ni => call f ws M nm I ni kf
/-- the words of a row -/
def wordsOf (I b n : Nat) : List Nat := @Nat.rec (fun _ => Nat → List Nat) (fun _ => []) (fun _ ih b => cellAt I b :: ih (Nat.add b 1)) n b
def callvS (call : CallT) (x : Opd) (xs : List Opd) (E : Fr) (M nm I ni : Nat) (kf : KF) : Res :=
  opdK x E I ni fun w I ni => iff (tg w 14) (opdsK xs E I ni fun ws I ni =>
    call (Nat.mod (Nat.div w 32) 1048576) (List.append ws (wordsOf I (Nat.mod (Nat.div w 33554432) 16777216) (Nat.div w 562949953421312))) M nm I ni kf) (.bad 50 0)
def invS (P : Program) (call : CallT) (name : String) (x : Opd) (xs : List Opd) (E : Fr) (M nm I ni : Nat) (kf : KF) : Res :=
  opdK x E I ni fun w I ni => iff (tg w 16) (opdsK xs E I ni fun ws I ni =>
    @Option.rec Nat (fun _ => Res) (.bad 52 w) (fun f => call f (cellAt I (Nat.div w 33554432) :: ws) M nm I ni kf) (methOf P name (Nat.mod (Nat.div w 32) 1048576))) (.bad 50 1)
def stepK (P : Program) (call : CallT) (i : In) : StepT :=
  @In.rec (fun _ => StepT)
    (fun x => pureS (opdK x))
    (fun c a b => pureS (pickK c a b))
    (fun x y => pureS fun E I ni kv => op2 x y E I ni fun wx wy I ni => add64 wx wy I ni kv)
    (fun x y => pureS fun E I ni kv => op2 x y E I ni fun wx wy I ni => sub64 wx wy I ni kv)
    (fun op k x y => pureS (iopK op k x y))
    (fun op k yk x y => pureS (shfK op k yk x y))
    (fun t neg x y => pureS (ieqK t neg x y))
    (fun t neg x y => pureS (iltK t neg x y))
    (fun neg x y => pureS (seqK neg x y))
    (fun neg z t x => pureS (nilqK neg z t x))
    (fun x => pureS (notK x))
    (fun k x => pureS (negK k x))
    (fun s k x => pureS (convK s k x))
    (fun x => pureS (lenSK x))
    (fun x => pureS (lenTK x))
    (fun sz x i => pureS (iadrSK sz x i))
    (fun len sz x i => pureS (iadrAK len sz x i))
    (fun off x => pureS (fadrK off x))
    (fun t off x => pureS (fld1K t off x))
    (fun off n x => pureS (fldNK off n x))
    (fun len x i => pureS (idx1K len x i))
    (fun sz x lo hi mx => pureS (slcK sz x lo hi mx))
    (fun x => pureS (nilcK x))
    (fun t x => pureS (mkiK t x))
    (fun fn n xs => pureS (mkfK fn n xs))
    (fun mx t x y => pureS (minK mx t x y))
    (fun n r ps => pureS (buildK n r ps))
    (fun x => readS (load1K x))
    (fun n x => readS (loadNK n x))
    (fun n r _ M nm I ni kf => newK n r M nm I ni kf)
    (fun n x => boxK n x)
    (fun s r l c => mkSlK s r l c)
    (fun len s r ps => bldSK len s r ps)
    (fun n x v => storeK n x v)
    (fun s x y => appK s x y)
    (fun q com agg n r x key => readS (lookK q com agg n r x key))
    (fun q x key v => updK q x key v)
    (fun _ M nm I ni kf => mkMapK M nm I ni kf)
    (fun x => mkMapHK x)
    (fun x => readS (lenMK x))
    (fun x => readS (strOfK x))
    (fun x => toBytesK x)
    (fun s x y => copyK s x y)
    (fun s r x => clearK s r x)
    (fun len sz x lo hi => pureS (slpK len sz x lo hi))
    (fun x i => pureS (idxTK x i))
    (fun neg x y => pureS (peqK neg x y))
    (fun x => pureS (capSK x))
    (fun x y => appTK x y)
    (fun name x xs => invS P call name x xs)
    (fun f xs => callS call f xs)
    (fun x xs => callvS call x xs)
    (fun n _ _ _ _ _ _ => .bad 51 n) i
end
def szOf (P : Program) (t : TypeId) : Option Nat := (P.info? t).map (·.size)
def nilWord : TypeDesc → Operand → Option (Nat × Nat)
  | .pointer _, .const (.pointer none) => some (10, 10)
  | .slice _, .const (.slice none 0 0) => some (11, 11)
  | .map _ _, .const (.map none) => some (13, 13)
  | .func _ _ _, .const .nilFunc => some (15, 14)
  | .interface _, .const .nilIface => some (17, 16)
  | _, _ => none
/-- keys of a type -/
def keyKind (P : Program) (t : TypeId) : Option KK :=
  match P.underlying t with
  | some (.int k) => some (.word (tagI k))
  | some .bool => some (.word 1)
  | some .string => some .str
  | some (.array n e) => match P.underlying e, szOf P e with
    | some (.int k), some 1 => some (.row n (tagI k))
    | _, _ => none
  | _ => none
def lowBin (P : Program) (op : BinOp) (t : TypeId) (x y : Operand) (yt : TypeId) : In :=
  match P.underlying t with
  | some (.int k) => match op with
    | .add => match k with | .i64 => .add (lowOpd x) (lowOpd y) | k => .iop .add k (lowOpd x) (lowOpd y)
    | .sub => match k with | .i64 => .sub (lowOpd x) (lowOpd y) | k => .iop .sub k (lowOpd x) (lowOpd y)
    | .eql => .ieq (tagI k) false (lowOpd x) (lowOpd y)
    | .neq => .ieq (tagI k) true (lowOpd x) (lowOpd y)
    | .lss => .ilt (tagI k) false (lowOpd x) (lowOpd y)
    | .gtr => .ilt (tagI k) false (lowOpd y) (lowOpd x)
    | .leq => .ilt (tagI k) true (lowOpd y) (lowOpd x)
    | .geq => .ilt (tagI k) true (lowOpd x) (lowOpd y)
    | .shl => match P.underlying yt with | some (.int yk) => .shf .shl k yk (lowOpd x) (lowOpd y) | _ => .bad 1
    | .shr => match P.underlying yt with | some (.int yk) => .shf .shr k yk (lowOpd x) (lowOpd y) | _ => .bad 1
    | op => .iop op k (lowOpd x) (lowOpd y)
  | some .bool => match op with
    | .eql => .ieq 1 false (lowOpd x) (lowOpd y)
    | .neq => .ieq 1 true (lowOpd x) (lowOpd y)
    | _ => .bad 2
  | some .string => match op with
    | .eql => .seq false (lowOpd x) (lowOpd y)
    | .neq => .seq true (lowOpd x) (lowOpd y)
    | _ => .bad 3
  | some d => match op, nilWord d y with
    | .eql, some (z, t) => .nilq false z t (lowOpd x)
    | .neq, some (z, t) => .nilq true z t (lowOpd x)
    | .eql, none => match d with | .pointer e => (match szOf P e with | some (_ + 1) => .peq false (lowOpd x) (lowOpd y) | _ => .bad 4) | _ => .bad 4
    | .neq, none => match d with | .pointer e => (match szOf P e with | some (_ + 1) => .peq true (lowOpd x) (lowOpd y) | _ => .bad 4) | _ => .bad 4
    | _, _ => .bad 4
  | none => .bad 5
def lowCall (P : Program) (o : Oper) (c : Call) : In :=
  match c.callee with
  | .value (.func f) => match P.funcs[f]? with
    | some fn => if fn.body.isSome && fn.name != "runtime.NumGoroutine" then .call f (c.args.toList.map lowOpd) else .bad 10
    | none => .bad 11
  | .value x => .callv (lowOpd x) (c.args.toList.map lowOpd)
  | .invoke x name => .inv name (lowOpd x) (c.args.toList.map lowOpd)
  | .builtin b => match b, c.args.toList, c.argTypes.toList with
    | .len, [x], [t] => match P.underlying t with
      | some (.slice _) => .len (lowOpd x)
      | some .string => .lenT (lowOpd x)
      | _ => .bad 13
    | .append, [x, y], [t, u] => if t = u then match P.underlying t with
        | some (.slice e) => match P.info? e, zeroRow P e with
          | some ie, some (s, _) => if 0 < s ∧ s < 256 ∧ ie.size = s ∧ ie.bytes < 134217728 then .app s (lowOpd x) (lowOpd y) else .bad 14
          | _, _ => .bad 15
        | _ => .bad 16
      else match P.underlying t, P.underlying u with
        | some (.slice e), some .string => match P.info? e with
          | some ie => match ie.zero with
            | some (.int .u8 0) => if ie.size = 1 ∧ ie.bytes = 1 then .appT (lowOpd x) (lowOpd y) else .bad 17
            | _ => .bad 17
          | none => .bad 17
        | _, _ => .bad 17
    | .copy, [x, y], [t, u] => match P.underlying t, P.underlying u with
      | some (.slice e), some (.slice _) => match szOf P e with | some n => if n = 0 then .bad 17 else .copy n (lowOpd x) (lowOpd y) | none => .bad 17
      | _, _ => .bad 17
    | .clear, [x], [t] => match P.underlying t with
      | some (.slice e) => match zeroRow P e with | some (s, r) => if s = 0 then .bad 17 else .clear s r (lowOpd x) | none => .bad 17
      | _ => .bad 17
    | .min, [x, y], _ => match P.underlying o.type with | some (.int k) => .min false (tagI k) (lowOpd x) (lowOpd y) | _ => .bad 18
    | .max, [x, y], _ => match P.underlying o.type with | some (.int k) => .min true (tagI k) (lowOpd x) (lowOpd y) | _ => .bad 18
    | _, _, _ => .bad 19
def lowOp (P : Program) (o : Oper) : In :=
  match o.op with
  | .move x | .assign x => .mov (lowOpd x)
  | .pick c a b => .pick (lowOpd c) (lowOpd a) (lowOpd b)
  | .alloc t => match zeroRow P t with | some (n, r) => .alloc n r | none => .bad 20
  | .box t x => match szOf P t with | some n => .box n (lowOpd x) | none => .bad 21
  | .build t ps => match zeroRow P t, placeOf P t with
    | some (n, r), some pl => match lowParts pl ps.toList with | some l => .bld n r l | none => .bad 22
    | _, _ => .bad 23
  | .buildSlice t len ps => match P.underlying t with
    | some (.slice e) => match P.info? e, zeroRow P e with
      | some ie, some (s, r) => if 0 < s ∧ s < 256 ∧ ie.size = s ∧ len < 65536 then match lowParts (fun i => some (i * s, s)) ps.toList with | some l => .bldS len s r l | none => .bad 24 else .bad 25
      | _, _ => .bad 26
    | _ => .bad 27
  | .load t x => match P.underlying t with
    | some d => if aggD d then match szOf P t with | some n => .loadN n (lowOpd x) | none => .bad 28 else .load1 (lowOpd x)
    | none => .bad 29
  | .store t x v => match szOf P t with | some n => .store n (lowOpd x) (lowOpd v) | none => .bad 30
  | .nilCheck x => .nilc (lowOpd x)
  | .binOp op t x y yt => lowBin P op t x y yt
  | .unOp op t x => match op with
    | .not => .not (lowOpd x)
    | .neg => match P.underlying t with | some (.int k) => .neg k (lowOpd x) | _ => .bad 31
    | _ => .bad 32
  | .convert s d x => match P.underlying s, P.underlying d with
    | some (.int ks), some (.int k) => .conv ks k (lowOpd x)
    | some (.slice e), some .string => match P.underlying e with | some (.int .u8) => .strOf (lowOpd x) | _ => .bad 33
    | some .string, some (.slice e) => match P.underlying e with | some (.int .u8) => .toBytes (lowOpd x) | _ => .bad 33
    | _, _ => .bad 33
  | .makeInterface t x => match P.underlying t with | some (.interface _) => .bad 34 | some _ => .mki t (lowOpd x) | none => .bad 34
  | .makeFunc (.func f) first captured => if first.toList.isEmpty then .mkf f captured.toList.length (captured.toList.map lowOpd) else .bad 35
  | .makeSlice t l c => match P.underlying t with
    | some (.slice e) => match P.info? e, zeroRow P e with
      | some ie, some (s, r) => if 0 < s ∧ s < 256 ∧ ie.size = s ∧ ie.bytes < 1048576 then .mkSl s r (lowOpd l) (lowOpd c) else .bad 36
      | _, _ => .bad 37
    | _ => .bad 38
  | .slice t x lo hi mx => match P.underlying t with
    | some (.slice e) => match P.info? e with
      | some ie => if mx.isSome && hi.isNone then .bad 39 else .slc ie.size (lowOpd x) (lo.map lowOpd) (hi.map lowOpd) (mx.map lowOpd)
      | none => .bad 40
    | some (.array n e) => match szOf P e with
      | some sz => if mx.isSome then .bad 41 else if sz < 256 then .slp n sz (lowOpd x) (lo.map lowOpd) (hi.map lowOpd) else .bad 41
      | none => .bad 41
    | _ => .bad 41
  | .fieldAddr s x j => match P.underlying s with
    | some (.struct fields) => match fields[j]? with
      | some fi => match szOf P fi.type with | some n => if n = 0 then .bad 42 else .fadr fi.offset (lowOpd x) | none => .bad 43
      | none => .bad 44
    | _ => .bad 45
  | .field s x j => match P.underlying s with
    | some (.struct fields) => match fields[j]? with
      | some fi => match P.underlying fi.type with
        | some d => if aggD d then match szOf P fi.type with | some n => .fldN fi.offset n (lowOpd x) | none => .bad 46 else .fld1 18 fi.offset (lowOpd x)
        | none => .bad 47
      | none => .bad 48
    | _ => .bad 49
  | .indexAddr t x i => match P.underlying t with
    | some (.slice e) => match szOf P e with | some n => .iadrS n (lowOpd x) (lowOpd i) | none => .bad 50
    | some (.array len e) => match szOf P e with | some n => .iadrA len n (lowOpd x) (lowOpd i) | none => .bad 51
    | _ => .bad 52
  | .index t x i => match P.underlying t with
    | some (.array len e) => match szOf P e, P.underlying e with
      | some 1, some d => if aggD d then .bad 53 else .idx1 len (lowOpd x) (lowOpd i)
      | _, _ => .bad 54
    | some .string => .idxT (lowOpd x) (lowOpd i)
    | _ => .bad 55
  | .makeMap t r => match r, P.underlying t with
    | none, _ => .mkMap
    | some x, some (.map _ _) => .mkMapH (lowOpd x)
    | _, _ => .bad 57
  | .lookup t x i com => match P.underlying t with
    | some (.map k e) => match keyKind P k, zeroW P e with
      | some q, some (agg, n, r) => .look q com agg n r (lowOpd x) (lowOpd i)
      | _, _ => .bad 58
    | _ => .bad 59
  | .mapUpdate t m k x | .insert t m k x => match P.underlying t with
    | some (.map kt _) => match keyKind P kt with | some q => .upd q (lowOpd m) (lowOpd k) (lowOpd x) | none => .bad 60
    | _ => .bad 61
  | .extract x j => .fld1 19 j (lowOpd x)
  | .call c => lowCall P o c
  | _ => .bad 99
end Go.Proofs.YtpjhkpmmbeoghaaGreat.Ev

namespace Go.Proofs.YtpjhkpmmbeoghaaGreat.Ev
open Go
/-- an operation in its region: its guard (a slot, and the word wanted there), where its value goes -/
inductive RI where
  | plain (off : Nat) (i : In)
  | none (i : In)
  | guarded (g want off : Nat) (i : In)
  | guardedNone (g want : Nat) (i : In)
/-- a result: a slot, or the cell, or the n cells, that a slot points to -/
inductive RV where
  | slot (off : Nat)
  | cell (off : Nat)
  | cells (off n : Nat)
inductive RR where
  | one (off : Nat)
  | many (n : Nat) (offs : List Nat)
  | gen (n : Nat) (l : List RV)
  | bad
abbrev KN := Fr → Nat → Nat → Nat → Nat → Res
abbrev KX := Nat → KN
abbrev CodeT := Fr → Nat → Nat → Nat → Nat → KN → KX → Res
noncomputable section
def putS (E : Fr) (off w : Nat) : Fr := (fun (_ : Nat) (o : Nat) => @Bool.rec (fun _ => Nat) (E o) w (Nat.beq o off)) hh40
/-- a call's frame -/
def frOf (ws : List Nat) : Fr := (fun _ : Nat => @List.rec Nat (fun _ => Fr) (fun _ => 0) (fun w _ ih o => @Bool.rec (fun _ => Nat) (ih (Nat.sub o 96)) w (Nat.beq o 0)) ws) hh40
def riK (P : Program) (call : CallT) (x : RI) (E : Fr) (M nm I ni : Nat) (kn : KN) : Res :=
  @RI.rec (fun _ => Fr → Nat → Nat → Nat → Nat → KN → Res)
    (fun off i E M nm I ni kn => stepK P call i E M nm I ni fun w M nm I ni => kn (putS E off w) M nm I ni)
    (fun i E M nm I ni kn => stepK P call i E M nm I ni fun _ M nm I ni => kn E M nm I ni)
    (fun g want off i E M nm I ni kn => iff (Nat.beq (slot E g) want) (stepK P call i E M nm I ni fun w M nm I ni => kn (putS E off w) M nm I ni) (kn (putS E off 0) M nm I ni))
    (fun g want i E M nm I ni kn => iff (Nat.beq (slot E g) want) (stepK P call i E M nm I ni fun _ M nm I ni => kn E M nm I ni) (kn E M nm I ni)) x E M nm I ni kn
def regK (P : Program) (call : CallT) (l : List RI) : Fr → Nat → Nat → Nat → Nat → KN → Res :=
  @List.rec RI (fun _ => Fr → Nat → Nat → Nat → Nat → KN → Res) (fun E M nm I ni kn => kn E M nm I ni) (fun x _ ih E M nm I ni kn => riK P call x E M nm I ni fun E M nm I ni => ih E M nm I ni kn) l
end
def lowRI (P : Program) (nt : Nat) (ops : Array Oper) (o : Oper) : RI :=
  let g : Option (Nat × Nat) := match o.guard with
    | none => none
    | some (j, want) => match (ops[j]?).bind (·.dst) with
      | some t => some (96 * t, if want then 33 else 1)
      | none => some (0, 2)
  match g, o.dst with
  | none, some d => if d < nt then .plain (96 * d) (lowOp P o) else .none (.bad 90)
  | none, none => .none (lowOp P o)
  | some (g, w), some d => if w = 2 then .none (.bad 91) else if d < nt then .guarded g w (96 * d) (lowOp P o) else .none (.bad 90)
  | some (g, w), none => if w = 2 then .none (.bad 91) else .guardedNone g w (lowOp P o)
/-- 0: needs no memory; 1: reads; 2: makes; 3: the rest -/
def clsI : In → Nat
  | .load1 _ | .loadN _ _ | .look .. | .strOf _ => 1
  | .alloc .. | .box .. | .mkSl .. | .bldS .. | .mkMap | .mkMapH _ => 2
  | .store .. | .app .. | .appT .. | .toBytes _ | .lenM _ | .upd .. | .copy .. | .clear .. | .inv .. | .call .. | .callv .. | .bad _ => 3
  | _ => 0
/-- what floats past an operation that turns memory: the guard of the reader, its address -/
inductive FlS where
  | load (off n : Nat)
  | str (off : Nat)
  | bad
structure DI where
  ri : RI
  w : Bool
  fl : List (Option (Nat × Nat) × FlS)
def guardOf (ops : Array Oper) (o : Oper) : Option (Nat × Nat) :=
  match o.guard with
  | none => none
  | some (j, want) => match (ops[j]?).bind (·.dst) with
    | some t => some (96 * t, if want then 33 else 1)
    | none => none
def lowFS (P : Program) (o : Oper) : FlS :=
  match lowOp P o with
  | .load1 (.s off) => .load off 1
  | .loadN n (.s off) => .load off n
  | .strOf (.s off) => .str off
  | _ => .bad
/-- an order in which what needs not wait for a turning of memory comes ahead of it -/
def eagerGo (b : Array Nat) (w : Nat → Bool) (n : Nat) : Nat → Nat → List Nat
  | 0, _ => []
  | k + 1, taken =>
    match (List.range n).find? (fun i => !taken.testBit i && !w i && (b.getD i 0) &&& taken == b.getD i 0) with
    | some i => i :: eagerGo b w n k (taken ||| 2 ^ i)
    | none => match (List.range n).find? (fun i => !taken.testBit i && (b.getD i 0) &&& taken == b.getD i 0) with
      | some i => i :: eagerGo b w n k (taken ||| 2 ^ i)
      | none => []
def wOf (P : Program) (ops : Array Oper) (i : Nat) : Bool := match ops[i]? with | some o => clsI (lowOp P o) == 3 | none => true
def rOf (P : Program) (ops : Array Oper) (i : Nat) : Bool := match ops[i]? with | some o => clsI (lowOp P o) == 1 | none => true
def eager (P : Program) (ops : Array Oper) : List Nat := eagerGo (Region.before ops) (wOf P ops) ops.size ops.size 0
/-- each one ahead of position p, that floats past it -/
def floats (P : Program) (ops : Array Oper) (ahead : List Nat) (i : Nat) : List (Option (Nat × Nat) × FlS) :=
  (ahead.filter fun r => rOf P ops r && !((Region.before ops).getD i 0).testBit r).filterMap fun r => match ops[r]? with | some o => some (guardOf ops o, lowFS P o) | none => none
def lowDI (P : Program) (nt : Nat) (ops : Array Oper) : List Nat → List Nat → List DI
  | _, [] => []
  | ahead, i :: l => match ops[i]? with
    | some o => ⟨lowRI P nt ops o, wOf P ops i, if wOf P ops i then floats P ops ahead i else []⟩ :: lowDI P nt ops (ahead ++ [i]) l
    | none => lowDI P nt ops ahead l
def opTmps (ops : Array Oper) (o : Oper) : List Tmp := o.looksAt ops
/-- the order is one, and says enough -/
def drawOk (P : Program) (ops : Array Oper) : Bool :=
  let b := Region.before ops
  let l := eager P ops
  let ds := ops.toList.filterMap (·.dst)
  ((List.range ops.size).all fun i => l.contains i && decide (b.getD i 0 < 2 ^ ops.size) && !(b.getD i 0).testBit i) &&
  -- a reader's operands are written by nobody but those it waits for
  ((List.range ops.size).all fun j => !rOf P ops j || match ops[j]? with
    | some o => (o.looksAt ops).all fun t => (List.range ops.size).all fun i => match ops[i]? with
      | some oi => oi.dst != some t || (b.getD j 0).testBit i
      | none => true
    | none => true) && decide (l.Nodup) && l.all (· < ops.size) && decide (ds.Nodup) &&
  -- what an operation looks at is another one's value only if one of them waits for the other
  ((List.range ops.size).all fun j => match ops[j]? with
    | some o => (o.looksAt ops).all fun t => (List.range ops.size).all fun i => match ops[i]? with
      | some oi => oi.dst != some t || i == j || (b.getD j 0).testBit i || (b.getD i 0).testBit j
      | none => true
    | none => true) &&
  -- what comes behind a turning of memory in the order waits for it; nobody comes ahead of what it waits for
  ((List.range l.length).all fun q => (List.range q).all fun p => match l[p]?, l[q]? with
    | some i, some j => (!wOf P ops i || (b.getD j 0).testBit i) && !(b.getD i 0).testBit j
    | _, _ => false)
def lowReg (P : Program) (nt : Nat) (ops : Array Oper) : List RI := ops.toList.map (lowRI P nt ops)
def lowRV (P : Program) : ResultVar → Option RV
  | .tmp t => some (.slot (96 * t))
  | .cell t ty => match P.underlying ty with
    | some d => if aggD d then (szOf P ty).map (.cells (96 * t)) else some (.cell (96 * t))
    | none => none
def lowRes (P : Program) (rs : Array ResultVar) : RR :=
  match rs.toList with
  | [.tmp t] => .one (96 * t)
  | l => match l.mapM (fun | .tmp t => some (96 * t) | .cell .. => none) with
    | some offs => .many offs.length offs
    | none => match l.mapM (lowRV P) with
      | some l => .gen l.length l
      | none => .bad
inductive FI where
  | none
  | some (c : Code) (nt : Nat) (r : RR)
def funInfo (P : Program) (f : Nat) : FI :=
  match P.funcs[f]? with
  | .some fn => match fn.body with
    | .some c => .some c fn.ntmps (lowRes P fn.results)
    | .none => .none
  | .none => .none
noncomputable section
def slotsOf (E : Fr) (l : List Nat) : List Nat := @List.rec Nat (fun _ => List Nat) [] (fun o _ r => slot E o :: r) l
def rvsK (l : List RV) (E : Fr) (M I ni : Nat) (k : List Nat → Nat → Nat → Res) : Res :=
  @List.rec RV (fun _ => Nat → Nat → (List Nat → Nat → Nat → Res) → Res) (fun I ni k => k [] I ni)
    (fun v _ ih I ni k => @RV.rec (fun _ => Res) (fun off => ih I ni fun ws I ni => k (slot E off :: ws) I ni)
      (fun off => load1K (.s off) E M I ni fun w I ni => ih I ni fun ws I ni => k (w :: ws) I ni)
      (fun off n => loadNK n (.s off) E M I ni fun w I ni => ih I ni fun ws I ni => k (w :: ws) I ni) v) l I ni k
def fltK (x : Option (Nat × Nat) × FlS) (E : Fr) (M M' : Nat) (k : Res) : Res :=
  @Prod.rec (Option (Nat × Nat)) FlS (fun _ => Res) (fun g s =>
    let go : Res := @FlS.rec (fun _ => Res)
      (fun off n => ptrIn (slot E off) (inK M' (pB (slot E off)) (pOff (slot E off)) n (iff (Nat.beq (rowAt M' (Nat.add (pB (slot E off)) (pOff (slot E off))) n) (rowAt M (Nat.add (pB (slot E off)) (pOff (slot E off))) n)) k (.bad 75 0))))
      (fun off => iff (tg (slot E off) 11) (iff (Nat.beq (sLen (slot E off)) 0) k (inK M' (sB (slot E off)) (sOff (slot E off)) (sLen (slot E off))
        (iff (Nat.beq (rowAt M' (Nat.add (sB (slot E off)) (sOff (slot E off))) (sLen (slot E off))) (rowAt M (Nat.add (sB (slot E off)) (sOff (slot E off))) (sLen (slot E off)))) k (.bad 75 1)))) (.bad 75 2))
      (.bad 75 3) s
    @Option.rec (Nat × Nat) (fun _ => Res) go (fun gw => @Prod.rec Nat Nat (fun _ => Res) (fun g want => iff (Nat.beq (slot E g) want) go k) gw) g) x
def fltsK (l : List (Option (Nat × Nat) × FlS)) (E : Fr) (M M' : Nat) (k : Res) : Res := @List.rec (Option (Nat × Nat) × FlS) (fun _ => Res) k (fun x _ ih => fltK x E M M' ih) l
def diK (P : Program) (call : CallT) (x : DI) (E : Fr) (M nm I ni : Nat) (kn : KN) : Res :=
  @DI.rec (fun _ => Res) (fun ri w fl => @Bool.rec (fun _ => Res) (riK P call ri E M nm I ni kn) (riK P call ri E M nm I ni fun E' M' nm' I' ni' => fltsK fl E M M' (kn E' M' nm' I' ni')) w) x
def regDK (P : Program) (call : CallT) (l : List DI) : Fr → Nat → Nat → Nat → Nat → KN → Res :=
  @List.rec DI (fun _ => Fr → Nat → Nat → Nat → Nat → KN → Res) (fun E M nm I ni kn => kn E M nm I ni) (fun x _ ih E M nm I ni kn => diK P call x E M nm I ni fun E M nm I ni => ih E M nm I ni kn) l
def retK (r : RR) (E : Fr) (M nm I ni : Nat) (kf : KF) : Res :=
  @RR.rec (fun _ => Fr → Nat → Nat → Nat → Nat → KF → Res)
    (fun off E M nm I ni kf => kf (slot E off) M nm I ni)
    (fun n offs E M nm I ni kf => growK I ni n (rowOf (slotsOf E offs)) fun I' ni' => kf (Nat.add 19 (Nat.mul 32 (Nat.add ni (Nat.mul 16777216 n)))) M nm I' ni')
    (fun n l E M nm I ni kf => rvsK l E M I ni fun ws I ni => @List.rec Nat (fun _ => Res) (.bad 60 1) (fun w ws' _ => @List.rec Nat (fun _ => Res) (kf w M nm I ni)
      (fun _ _ _ => growK I ni n (rowOf ws) fun I' ni' => kf (Nat.add 19 (Nat.mul 32 (Nat.add ni (Nat.mul 16777216 n)))) M nm I' ni') ws') ws)
    (fun _ _ _ _ _ _ => .bad 60 0) r E M nm I ni kf
def condK (c : Opd) (E : Fr) (M nm I ni : Nat) (x y : CodeT) (kn : KN) (kx : KX) : Res :=
  opdK c E I ni fun w _ _ => iff (Nat.beq w 33) (x E M nm I ni kn kx) (iff (Nat.beq w 1) (y E M nm I ni kn kx) (.bad 63 w))
/-- a range over slices.Backward of ints -/
def backK (bw : Nat) (f : Opd) (ps : List Nat) (E : Fr) (M nm I ni : Nat) (ia ib : CodeT) (kn : KN) : Res :=
  opdK f E I ni fun w I ni => iff (tg w 14) (iff (and (Nat.beq (Nat.mod (Nat.div w 32) 1048576) bw) (Nat.beq (Nat.div w 562949953421312) 1))
    (let q := cellAt I (Nat.mod (Nat.div w 33554432) 16777216)
     ptrIn q (inK M (pB q) (pOff q) 1
      (let s := cellAt M (Nat.add (pB q) (pOff q))
       iff (tg s 11) (@Nat.rec (fun _ => Nat → Nat → Nat → Nat → Res) (fun M nm I ni => kn E M nm I ni)
        (fun m ih M nm I ni => inK M (pB q) (pOff q) 1 (iff (Nat.beq (cellAt M (Nat.add (pB q) (pOff q))) s) (inK M (sB s) (Nat.add (sOff s) m) 1
          (let v := cellAt M (Nat.add (sB s) (Nat.add (sOff s) m))
           @List.rec Nat (fun _ => Res) (.bad 74 0) (fun p ps' _ => @List.rec Nat (fun _ => Res) (.bad 74 1) (fun p' _ _ =>
            ia (putS (putS E (Nat.mul 96 p) (Nat.add 295147905179352825861 (Nat.mul 32 m))) (Nat.mul 96 p') v) M nm I ni (fun E M nm I ni => ib E M nm I ni (fun _ M nm I ni => ih M nm I ni) (fun x _ _ _ _ _ => .bad 74 x)) (fun x _ _ _ _ _ => .bad 74 x)) ps') ps)) (.bad 74 2))) (sLen s) M nm I ni) (.bad 74 3)))) (.bad 74 4)) (.bad 74 5)
/-- no range over a function within -/
def noRF (c : Code) : Bool :=
  @Code.rec (fun _ => Bool) true (fun _ _ _ => true) (fun _ _ a b => and a b) (fun _ _ _ a b => and a b) (fun _ _ a => a) (fun _ a => a) (fun _ _ _ _ _ _ => false) (fun _ => true) (fun _ a => a) (fun _ => true) (fun _ => true) true (fun _ => true) c
/-- two slots of the frame -/
def psOk (nt : Nat) (ps : List Nat) : Bool := and (Nat.beq (List.length ps) 2) (@List.rec Nat (fun _ => Bool) true (fun p _ ih => and (Nat.blt p nt) ih) ps)
/-- a region's operations, those of one guard side by side taken together -/
inductive RG where
  | one (x : RI)
  | grp (g want : Nat) (l : List (Option Nat × In))
  | fl (x : DI)
def asG : RI → Option (Nat × Nat × Option Nat × In)
  | .guarded g w off i => some (g, w, some off, i)
  | .guardedNone g w i => some (g, w, none, i)
  | _ => none
def consG (x : RI) (gl : List RG) : List RG :=
  match asG x with
  | none => .one x :: gl
  | some (g, w, d, i) => match gl with
    | .grp g' w' l' :: r => if g = g' ∧ w = w' ∧ d ≠ some g then .grp g w ((d, i) :: l') :: r else .grp g w [(d, i)] :: .grp g' w' l' :: r
    | r => .grp g w [(d, i)] :: r
def groupL (l : List RI) : List RG := @List.rec RI (fun _ => List RG) [] (fun x _ ih => consG x ih) l
def groupD (l : List DI) : List RG := @List.rec DI (fun _ => List RG) [] (fun x _ ih => match x.fl with | [] => consG x.ri ih | _ => .fl x :: ih) l
def putO (E : Fr) (d : Option Nat) (w : Nat) : Fr := @Option.rec Nat (fun _ => Fr) E (fun off => putS E off w) d
def zeroO (l : List (Option Nat × In)) (E : Fr) : Fr := @List.rec (Option Nat × In) (fun _ => Fr → Fr) (fun E => E) (fun p _ ih E => ih (putO E p.1 0)) l E
def grpK (P : Program) (call : CallT) (l : List (Option Nat × In)) : Fr → Nat → Nat → Nat → Nat → KN → Res :=
  @List.rec (Option Nat × In) (fun _ => Fr → Nat → Nat → Nat → Nat → KN → Res) (fun E M nm I ni kn => kn E M nm I ni) (fun p _ ih E M nm I ni kn => stepK P call p.2 E M nm I ni fun w M nm I ni => ih (putO E p.1 w) M nm I ni kn) l
def rgK (P : Program) (call : CallT) (x : RG) (E : Fr) (M nm I ni : Nat) (kn : KN) : Res :=
  @RG.rec (fun _ => Res) (fun x => riK P call x E M nm I ni kn) (fun g want l => iff (Nat.beq (slot E g) want) (grpK P call l E M nm I ni kn) (kn (zeroO l E) M nm I ni)) (fun x => diK P call x E M nm I ni kn) x
def regG (P : Program) (call : CallT) (l : List RG) : Fr → Nat → Nat → Nat → Nat → KN → Res :=
  @List.rec RG (fun _ => Fr → Nat → Nat → Nat → Nat → KN → Res) (fun E M nm I ni kn => kn E M nm I ni) (fun x _ ih E M nm I ni kn => rgK P call x E M nm I ni fun E M nm I ni => ih E M nm I ni kn) l
theorem asG_eq {x : RI} {g w : Nat} {d : Option Nat} {i : In} (h : asG x = some (g, w, d, i)) (P : Program) (call : CallT) (E : Fr) (M nm I ni : Nat) (kn : KN) :
    riK P call x E M nm I ni kn = iff (Nat.beq (slot E g) w) (stepK P call i E M nm I ni fun v M nm I ni => kn (putO E d v) M nm I ni) (kn (putO E d 0) M nm I ni) := by
  cases x with
  | plain => cases h
  | none => cases h
  | guarded g' w' off i' => cases h; rfl
  | guardedNone g' w' i' => cases h; rfl
theorem slot_putO (E : Fr) {d : Option Nat} {g : Nat} (h : d ≠ some g) (v : Nat) : slot (putO E d v) g = slot E g := by
  cases d with
  | none => rfl
  | some off =>
    show @Bool.rec (fun _ => Nat) (E g) v (Nat.beq g off) = E g
    cases hb : Nat.beq g off with
    | false => rfl
    | true => exact absurd (by rw [Nat.eq_of_beq_eq_true hb]) h
theorem consG_eq (P : Program) (call : CallT) (x : RI) (gl : List RG) (E : Fr) (M nm I ni : Nat) (kn : KN) :
    regG P call (consG x gl) E M nm I ni kn = riK P call x E M nm I ni fun E M nm I ni => regG P call gl E M nm I ni kn := by
  unfold consG
  cases ha : asG x with
  | none => rfl
  | some q =>
    obtain ⟨g, w, d, i⟩ := q
    rw [asG_eq ha]
    simp only
    split
    · rename_i g' w' l' r
      split
      · rename_i hc
        obtain ⟨rfl, rfl, hd⟩ := hc
        show iff (Nat.beq (slot E g) w) (stepK P call i E M nm I ni fun v M nm I ni => grpK P call l' (putO E d v) M nm I ni fun E M nm I ni => regG P call r E M nm I ni kn) (regG P call r (zeroO l' (putO E d 0)) M nm I ni kn) =
          iff (Nat.beq (slot E g) w) (stepK P call i E M nm I ni fun v M nm I ni => iff (Nat.beq (slot (putO E d v) g) w) (grpK P call l' (putO E d v) M nm I ni fun E M nm I ni => regG P call r E M nm I ni kn) (regG P call r (zeroO l' (putO E d v)) M nm I ni kn))
            (iff (Nat.beq (slot (putO E d 0) g) w) (grpK P call l' (putO E d 0) M nm I ni fun E M nm I ni => regG P call r E M nm I ni kn) (regG P call r (zeroO l' (putO E d 0)) M nm I ni kn))
        simp only [slot_putO E hd]
        cases Nat.beq (slot E g) w <;> rfl
      · rfl
    · rfl
theorem regG_eq (P : Program) (call : CallT) : ∀ (l : List RI) (E : Fr) (M nm I ni : Nat) (kn : KN), regG P call (groupL l) E M nm I ni kn = regK P call l E M nm I ni kn
  | [], _, _, _, _, _, _ => rfl
  | x :: l, E, M, nm, I, ni, kn => by
    have e : groupL (x :: l) = consG x (groupL l) := rfl
    rw [e, consG_eq]
    have hf : (fun E M nm I ni => regG P call (groupL l) E M nm I ni kn) = fun E M nm I ni => regK P call l E M nm I ni kn := by
      funext E M nm I ni; exact regG_eq P call l E M nm I ni kn
    rw [hf]; rfl
theorem regGD_eq (P : Program) (call : CallT) : ∀ (l : List DI) (E : Fr) (M nm I ni : Nat) (kn : KN), regG P call (groupD l) E M nm I ni kn = regDK P call l E M nm I ni kn
  | [], _, _, _, _, _, _ => rfl
  | ⟨ri, w, fl⟩ :: l, E, M, nm, I, ni, kn => by
    have hf : (fun E M nm I ni => regG P call (groupD l) E M nm I ni kn) = fun E M nm I ni => regDK P call l E M nm I ni kn := by
      funext E M nm I ni; exact regGD_eq P call l E M nm I ni kn
    cases fl with
    | nil =>
      have e : groupD (⟨ri, w, []⟩ :: l) = consG ri (groupD l) := rfl
      rw [e, consG_eq, hf]
      cases w <;> rfl
    | cons y ys =>
      have e : regG P call (groupD (⟨ri, w, y :: ys⟩ :: l)) E M nm I ni kn = diK P call ⟨ri, w, y :: ys⟩ E M nm I ni fun E M nm I ni => regG P call (groupD l) E M nm I ni kn := rfl
      rw [e, hf]; rfl
def LF : Nat := 1000000
/-- rounds of a loop -/
def loopK (ib : CodeT) (kx : KX) (m : Nat) : KN := @Nat.rec (fun _ => KN) (fun _ _ _ _ _ => .bad 73 0) (fun _ ih E M nm I ni => ib E M nm I ni ih kx) m
def codeK (P : Program) (bw : Nat) (call : CallT) (nt : Nat) (c : Code) : CodeT :=
  @Code.rec (fun _ => CodeT)
    (fun E M nm I ni kn _ => kn E M nm I ni)
    (fun _ ops d E M nm I ni kn _ => @Bool.rec (fun _ => Res) (regG P call (groupL (lowReg P nt ops)) E M nm I ni kn)
      (iff (drawOk P ops) (regG P call (groupD (lowDI P nt ops [] (eager P ops))) E M nm I ni kn) (.bad 76 0)) d)
    (fun _ _ ia ib E M nm I ni kn kx => ia E M nm I ni (fun E M nm I ni => ib E M nm I ni kn kx) kx)
    (fun c _ _ ia ib E M nm I ni kn kx => condK (lowOpd c) E M nm I ni ia ib kn kx)
    (fun id _ ib E M nm I ni kn kx => ib E M nm I ni kn fun x E M nm I ni => iff (Nat.beq x (Nat.succ id)) (kn E M nm I ni) (kx x E M nm I ni))
    (fun _ ib E M nm I ni _ kx => loopK ib kx LF E M nm I ni)
    (fun f ps a b ia ib E M nm I ni kn _ => iff (and (psOk nt ps.toList) (and (noRF a) (noRF b))) (backK bw (lowOpd f) ps.toList E M nm I ni ia ib kn) (.bad 77 0))
    (fun id E M nm I ni _ kx => kx (Nat.succ id) E M nm I ni)
    (fun _ ib E M nm I ni kn kx => ib E M nm I ni kn kx)
    (fun _ E M nm I ni kn _ => kn E M nm I ni)
    (fun l _ _ _ _ _ _ _ => .bad 71 l)
    (fun E M nm I ni _ kx => kx 0 E M nm I ni)
    (fun _ _ _ _ _ _ _ _ => .bad 72 0) c
def callW (P : Program) (bw : Nat) (call : CallT) (f : Nat) (ws : List Nat) (M nm I ni : Nat) (kf : KF) : Res :=
  @FI.rec (fun _ => List Nat → Nat → Nat → Nat → Nat → KF → Res) (fun _ _ _ _ _ _ => .bad 61 f)
    (fun c nt r ws M nm I ni kf => iff (Nat.ble (List.length ws) nt) (codeK P bw call nt c (frOf ws) M nm I ni (fun E M nm I ni => retK r E M nm I ni kf) (fun x E M nm I ni => iff (Nat.beq x 0) (retK r E M nm I ni kf) (.bad 62 f))) (.bad 64 f)) (funInfo P f) ws M nm I ni kf
def evF (P : Program) (bw fuel : Nat) : CallT := @Nat.rec (fun _ => CallT) (fun f _ _ _ _ _ _ => .bad 73 f) (fun _ ih => callW P bw ih) fuel
end
end Go.Proofs.YtpjhkpmmbeoghaaGreat.Ev

namespace Go.Proofs.YtpjhkpmmbeoghaaGreat.Ev
open Go
/-- a step whose answer is a leaf, or that never comes to an end -/
def Good {κ : Type} (L : (κ → Res) → Prop) (G : κ → Res) : Prop := L G ∨ ∀ k, G k ≠ .ok
/-- a step that hands on one outcome, whatever comes behind it -/
def Lin (G : KF → Res) : Prop := Good (fun G => ∃ w M nm I ni, ∀ kf, G kf = kf w M nm I ni) G
def CallLin (call : CallT) : Prop := ∀ f ws M nm I ni, Lin (call f ws M nm I ni)
/-- a fence that keeps nobody out -/
def FOK (F : Fence) : Prop := (∀ f, F.fn f) ∧ F.depth = none
theorem FOK.room {F : Fence} (h : FOK F) (n : Nat) : F.room n := fun d hd => by rw [h.2] at hd; cases hd
theorem FOK.one {F : Fence} (h : FOK F) {n : Nat} : F.depth.isSome = true → 1 ≤ n := fun hd => by rw [h.2] at hd; cases hd
/-- what a call hands back -/
def CallPost (c : Cf) (kf : KF) (e : Ending) (w' : World) : Prop :=
  ∃ word v c', e = .returned v ∧ w' = c'.w ∧ kf word c'.M c'.nm c'.I c'.ni = .ok ∧ HR c' ∧ IB c'.I c'.ni ∧ Ext c c' ∧ WR c'.f c'.I c'.ni word v
def OpPost (o : Oper) (a : Act) (c : Cf) (kf : KF) (a' : Act) (w' : World) : Prop :=
  ∃ word v c', a' = a.put o.dst v ∧ w' = c'.w ∧ kf word c'.M c'.nm c'.I c'.ni = .ok ∧ HR c' ∧ IB c'.I c'.ni ∧ Ext c c' ∧ WR c'.f c'.I c'.ni word v
/-- an operation goes as reckoned -/
def OpGo (P : Program) (o : Oper) (a : Act) (c : Cf) (kf : KF) : Prop :=
  ∀ (F : Fence) (n : Nat), FOK F → o.wpIn F n P a c.w (OpPost o a c kf) (fun _ _ _ => False)
def OpSnd (P : Program) (call : CallT) : Prop :=
  ∀ (o : Oper) (a : Act) (c : Cf) (E : Fr) (kf : KF), stepK P call (lowOp P o) E c.M c.nm c.I c.ni kf = .ok → (∀ x ∈ o.op.operands, OpR c.f c.I c.ni E a x) → HR c → IB c.I c.ni → OpGo P o a c kf
def CallSnd (P : Program) (call : CallT) : Prop :=
  ∀ (f : Nat) (ws : List Nat) (c : Cf) (kf : KF) (args : Array Value), call f ws c.M c.nm c.I c.ni kf = .ok → HR c → IB c.I c.ni → args.size = ws.length → (∀ i (h : i < ws.length) (h' : i < args.size), WR c.f c.I c.ni ws[i] args[i]) →
    (∃ fn, P.funcs[f]? = some fn ∧ fn.body.isSome = true) ∧ ∀ (F : Fence) (n : Nat), FOK F → CallsIn F n P f args c.w (CallPost c kf)
/-- marks of ranges over functions that have ended -/
def MarksOk (c : Cf) (n0 : Nat) (ds : List Deferred) : Prop :=
  ds.Pairwise (fun d d' => d.target ≠ d'.target) ∧ ∀ d ∈ ds, ∃ D, d = { target := .collected D, args := #[] } ∧ n0 ≤ D ∧ c.w.heap[D]? = some (.deferred (some [])) ∧ ∀ b F, c.f b = some F → hd c.M b ≠ 0 → F.blk ≠ D
structure FR (c : Cf) (E : Fr) (a : Act) (nt n0 : Nat) : Prop where
  size : a.tmps.size = nt
  wr : ∀ t, WR c.f c.I c.ni (fcell E t) (a.tmps.getD t undef)
  marks : MarksOk c n0 a.defers
  low : n0 ≤ c.w.heap.size
theorem MarksOk.ext {c c' : Cf} {n0 : Nat} {ds : List Deferred} (h : Ext c c') (hm : MarksOk c n0 ds) : MarksOk c' n0 ds := by
  refine ⟨hm.1, fun d hd => ?_⟩
  obtain ⟨D, h1, h0, h2, h3⟩ := hm.2 d hd
  have hlt : D < c.w.heap.size := (Array.getElem?_eq_some_iff.1 h2).1
  refine ⟨D, h1, h0, (h.frame D hlt h3).trans h2, fun b F e1 e2 e3 => ?_⟩
  obtain ⟨b0, F0, q1, q2, q3⟩ := h.img b F e1 e2 (e3 ▸ hlt)
  exact h3 b0 F0 q1 q2 (q3.trans e3)
theorem FR.ext {c c' : Cf} {E : Fr} {nt n0 : Nat} {a : Act} (h : Ext c c') (hr : FR c E a nt n0) : FR c' E a nt n0 := ⟨hr.size, fun t => (hr.wr t).mono h.f h.I, hr.marks.ext h, Nat.le_trans hr.low h.size⟩
theorem fcell_put (E : Fr) (d t w : Nat) : fcell (putS E (96 * d) w) t = if t = d then w else fcell E t := by
  show @Bool.rec (fun _ => Nat) (E (96 * t)) w (Nat.beq (96 * t) (96 * d)) = _
  by_cases h : t = d
  · subst h; rw [Nat.beq_refl, if_pos rfl]
  · rw [if_neg h]
    have : Nat.beq (96 * t) (96 * d) = false := by
      cases hb : Nat.beq (96 * t) (96 * d) with
      | false => rfl
      | true => have := Nat.eq_of_beq_eq_true hb; omega
    rw [this]; rfl
theorem slot_eq (E : Fr) (t : Nat) : slot E (96 * t) = fcell E t := rfl
theorem FR.opR {c : Cf} {E : Fr} {nt n0 : Nat} {a : Act} (hr : FR c E a nt n0) (x : Operand) : OpR c.f c.I c.ni E a x := by
  cases x with
  | tmp t => exact hr.wr t
  | _ => trivial
theorem FR.put {c : Cf} {E : Fr} {nt n0 d w : Nat} {a : Act} {v : Value} (hr : FR c E a nt n0) (hd : d < nt) (hw : WR c.f c.I c.ni w v) : FR c (putS E (96 * d) w) (a.put (some d) v) nt n0 := by
  refine ⟨by simp [Act.put, hr.size], fun t => ?_, hr.marks, hr.low⟩
  rw [fcell_put]
  have hsz := hr.size
  by_cases ht : t = d
  · subst ht
    rw [if_pos rfl]
    have : (a.put (some t) v).tmps.getD t undef = v := by simp [Act.put, hsz, hd]
    rw [this]; exact hw
  · rw [if_neg ht]
    have : (a.put (some d) v).tmps.getD t undef = a.tmps.getD t undef := by
      simp [Act.put, Array.getElem?_setIfInBounds_ne (Ne.symm ht)]
    rw [this]; exact hr.wr t
theorem putN {a : Act} {v : Value} : a.put none v = a := rfl
/-- a bool's word -/
theorem WR.isBool {f : Nat → Option FB} {I ni w : Nat} {v : Value} (h : WR f I ni w v) (b : Bool) : (w = if b then 33 else 1) ↔ v = .bool b := by
  constructor
  · intro hw
    cases b
    · exact h.bool0 hw
    · exact h.bool1 hw
  · intro hv
    subst hv
    cases h with
    | bool b => cases b <;> rfl
theorem wanted_word {c : Cf} {E : Fr} {nt n0 j t : Nat} {a : Act} {ops : Array Oper} {want : Bool} (hr : FR c E a nt n0) (ht : (ops[j]?).bind (·.dst) = some t) :
    (yielded ops a.tmps j == some want) = Nat.beq (slot E (96 * t)) (if want then 33 else 1) := by
  rw [slot_eq, nbeq, Bool.eq_iff_iff, decide_eq_true_eq, (hr.wr t).isBool want]
  simp only [yielded, ht, Option.bind_some, beq_iff_eq]
  cases hg : a.tmps[t]? with
  | none =>
    have : a.tmps.getD t undef = undef := by simp [hg]
    rw [this]
    simp [undef]
  | some v =>
    have : a.tmps.getD t undef = v := by simp [hg]
    rw [this]
    cases v <;> simp
/-- the state behind a region, or at a jump -/
def CPost (c : Cf) (nt n0 : Nat) (kn : KN) (kx : KX) (e : Exit) (a' : Act) (w' : World) : Prop :=
  ∃ E' c', HR c' ∧ IB c'.I c'.ni ∧ Ext c c' ∧ FR c' E' a' nt n0 ∧ w' = c'.w ∧
    ((e = .normal ∧ kn E' c'.M c'.nm c'.I c'.ni = .ok) ∨ (e = .ret ∧ kx 0 E' c'.M c'.nm c'.I c'.ni = .ok) ∨ ∃ id, e = .exit id ∧ kx (id + 1) E' c'.M c'.nm c'.I c'.ni = .ok)
theorem CPost.trans {c c' : Cf} {nt n0 : Nat} {kn : KN} {kx : KX} {e : Exit} {a' : Act} {w' : World} (hr : HR c) (h : Ext c c') (hp : CPost c' nt n0 kn kx e a' w') : CPost c nt n0 kn kx e a' w' := by
  obtain ⟨E', c2, h1, h2, h3, h4, h5, h6⟩ := hp
  exact ⟨E', c2, h1, h2, h.trans hr h3, h4, h5, h6⟩
theorem wpIn_post {P : Program} {F : Fence} {n : Nat} {o : Oper} {a : Act} {w : World} {K K' : Act → World → Prop} {Q Q' : Exit → Act → World → Prop} (hk : ∀ a w, K a w → K' a w) (hq : ∀ e a w, Q e a w → Q' e a w) (h : o.wpIn F n P a w K Q) : o.wpIn F n P a w K' Q' := by
  refine ⟨h.1, ?_⟩
  have h2 := h.2
  revert h2
  generalize (o.semAt F.round a.eval).run P w = r
  intro h2
  cases r with
  | ok x w2 =>
    cases x <;> simp only [Oper.uponIn] at h2 ⊢ <;> first
      | exact hk _ _ h2
      | (obtain ⟨k3, k4, k5⟩ := h2; refine ⟨k3, k4, fun cs hr => ?_⟩; obtain ⟨e, w3, fr, k6, k7⟩ := k5 cs hr; refine ⟨e, w3, fr, ?_, k7⟩; cases e with | returned v => exact hk _ _ k6 | panicked c => exact hq _ _ _ k6 | outgrown => obtain ⟨a0, w0, k8⟩ := k6; exact ⟨a0, w0, hq _ _ _ k8⟩)
      | (obtain ⟨k3, k4, k5⟩ := h2; refine ⟨k3, k4, fun b cs hr => ?_⟩; obtain ⟨e, w3, k6, k7⟩ := k5 b cs hr; refine ⟨e, w3, ?_, k7⟩; cases e with | returned v => exact hk _ _ k6 | panicked c => exact hq _ _ _ k6 | outgrown => obtain ⟨a0, w0, k8⟩ := k6; exact ⟨a0, w0, hq _ _ _ k8⟩)
      | (obtain ⟨k3, k4⟩ := h2; refine ⟨k3, fun b cs hr => ?_⟩; obtain ⟨v, w3, k6, k7⟩ := k4 b cs hr; exact ⟨v, w3, hk _ _ k6, k7⟩)
  | halt x w2 => cases x <;> simp only [Oper.uponIn] at h2 ⊢ <;> exact hq _ _ _ h2
theorem wpOpsIn_post {P : Program} {F : Fence} {n : Nat} {ops : Array Oper} {Q Q' : Exit → Act → World → Prop} (hq : ∀ e a w, Q e a w → Q' e a w) : ∀ (is : List Nat) (a : Act) (w : World), wpOpsIn F n P ops Q is a w → wpOpsIn F n P ops Q' is a w
  | [], a, w, h => hq _ _ _ h
  | i :: is, a, w, h => by
    simp only [wpOpsIn] at h ⊢
    split
    · rename_i hi; rw [hi] at h; exact wpOpsIn_post hq is a w h
    · rename_i o hi
      rw [hi] at h
      simp only at h
      split
      · rename_i hw; rw [if_pos hw] at h; exact wpIn_post (fun a w => wpOpsIn_post hq is a w) hq h
      · rename_i hw; rw [if_neg hw] at h; exact ⟨h.1, wpOpsIn_post hq is _ _ h.2⟩
section
variable {P : Program} {call : CallT} {nt n0 : Nat}
/-- one operation of a region, wanted or not -/
theorem ri_ok (ho : OpSnd P call) {F : Fence} {n : Nat} (hF : FOK F) {ops : Array Oper} {o : Oper} {c : Cf} {E : Fr} {a : Act} {kn : KN} (h : riK P call (lowRI P nt ops o) E c.M c.nm c.I c.ni kn = .ok) (hr : HR c) (hI : IB c.I c.ni) (hf : FR c E a nt n0)
    (K : Act → World → Prop) (hK : ∀ E' c' a', kn E' c'.M c'.nm c'.I c'.ni = .ok → HR c' → IB c'.I c'.ni → Ext c c' → FR c' E' a' nt n0 → K a' c'.w) :
    if Region.wanted o (yielded ops a.tmps) then o.wpIn F n P a c.w K (fun _ _ _ => False) else (∀ f, o.about P c.w a.eval = some f → F.fn f) ∧ K (a.put o.dst undef) c.w := by
  have go : ∀ (kf : KF), stepK P call (lowOp P o) E c.M c.nm c.I c.ni kf = .ok → (∀ word v c', kf word c'.M c'.nm c'.I c'.ni = .ok → HR c' → IB c'.I c'.ni → Ext c c' → WR c'.f c'.I c'.ni word v → FR c' E a nt n0 → K (a.put o.dst v) c'.w) → o.wpIn F n P a c.w K (fun _ _ _ => False) := fun kf hs hk => by
    refine Oper.wpIn_mono (fun a' w' hp => ?_) (ho o a c E kf hs (fun x _ => hf.opR x) hr hI F n hF)
    obtain ⟨word, v, c', rfl, rfl, h1, h2, h3, h4, h5⟩ := hp
    exact hk word v c' h1 h2 h3 h4 h5 (hf.ext h4)
  unfold lowRI at h
  cases hg : o.guard with
  | none =>
    have hw : Region.wanted o (yielded ops a.tmps) = true := by simp [Region.wanted, hg]
    rw [if_pos hw]
    simp only [hg] at h
    cases hd : o.dst with
    | none =>
      simp only [hd] at h
      refine go _ h fun word v c' h1 h2 h3 h4 h5 h6 => ?_
      rw [hd, putN]
      exact hK E c' a h1 h2 h3 h4 h6
    | some d =>
      simp only [hd] at h
      split at h
      case isFalse => cases h
      rename_i hlt
      refine go _ h fun word v c' h1 h2 h3 h4 h5 h6 => ?_
      rw [hd]
      exact hK _ c' _ h1 h2 h3 h4 (h6.put hlt h5)
  | some gw =>
    obtain ⟨j, want⟩ := gw
    have hwt : Region.wanted o (yielded ops a.tmps) = (yielded ops a.tmps j == some want) := by simp [Region.wanted, hg]
    simp only [hg] at h
    cases ht : (ops[j]?).bind (·.dst) with
    | none =>
      simp only [ht] at h
      cases hd : o.dst <;> simp only [hd] at h <;> cases h
    | some t =>
      rw [hwt, wanted_word hf ht]
      simp only [ht] at h
      have h2 : ¬ (if want = true then 33 else 1) = 2 := by cases want <;> decide
      cases hd : o.dst with
      | none =>
        simp only [hd, if_neg h2] at h
        rcases iff_ok h with ⟨h3, h⟩ | ⟨h3, h⟩
        · rw [if_pos h3]
          refine go _ h fun word v c' h1 h2 h3 h4 h5 h6 => ?_
          rw [hd, putN]
          exact hK E c' a h1 h2 h3 h4 h6
        · rw [if_neg (by rw [h3]; simp)]
          exact ⟨fun f _ => hF.1 f, hK E c a h hr hI (.refl _) hf⟩
      | some d =>
        simp only [hd, if_neg h2] at h
        split at h
        case isFalse => cases h
        rename_i hlt
        rcases iff_ok h with ⟨h3, h⟩ | ⟨h3, h⟩
        · rw [if_pos h3]
          refine go _ h fun word v c' h1 h2 h3 h4 h5 h6 => ?_
          rw [hd]
          exact hK _ c' _ h1 h2 h3 h4 (h6.put hlt h5)
        · rw [if_neg (by rw [h3]; simp)]
          exact ⟨fun f _ => hF.1 f, hK _ c _ h hr hI (.refl _) (hf.put hlt .undef)⟩
/-- a region without a draw -/
theorem ops_ok (ho : OpSnd P call) {F : Fence} {n : Nat} (hF : FOK F) {ops : Array Oper} {kx : KX} : ∀ (l : List Oper) (is : List Nat), is.length = l.length → (∀ j (h : j < is.length) (h' : j < l.length), ops[is[j]]? = some l[j]) →
    ∀ {c : Cf} {E : Fr} {a : Act} {kn : KN}, regK P call (l.map (lowRI P nt ops)) E c.M c.nm c.I c.ni kn = .ok → HR c → IB c.I c.ni → FR c E a nt n0 → wpOpsIn F n P ops (CPost c nt n0 kn kx) is a c.w
  | [], [], _, _, c, E, a, kn, h, hr, hI, hf => ⟨E, c, hr, hI, .refl _, hf, rfl, .inl ⟨rfl, h⟩⟩
  | o :: l, i :: is, hl, hix, c, E, a, kn, h, hr, hI, hf => by
    have hi : ops[i]? = some o := hix 0 (by simp) (by simp)
    have key := ri_ok (P := P) (nt := nt) (n0 := n0) (n := n) (kn := fun E M nm I ni => regK P call (l.map (lowRI P nt ops)) E M nm I ni kn) ho hF (ops := ops) (o := o) h hr hI hf
      (fun a' w' => wpOpsIn F n P ops (CPost c nt n0 kn kx) is a' w') (fun E' c' a' h1 h2 h3 h4 h5 => ?_)
    · simp only [wpOpsIn, hi]
      split
      · rename_i hw
        rw [if_pos hw] at key
        exact wpIn_post (fun _ _ h => h) (fun _ _ _ h => h.elim) key
      · rename_i hw
        rw [if_neg hw] at key
        exact key
    · refine wpOpsIn_post ?_ is a' c'.w (ops_ok (kx := kx) ho hF l is (by simpa using hl) (fun j q1 q2 => hix (j + 1) (by simpa using q1) (by simpa using q2)) h1 h2 h3 h5)
      exact fun e a w hp => CPost.trans hr h4 hp
end
end Go.Proofs.YtpjhkpmmbeoghaaGreat.Ev

namespace Go.Proofs.YtpjhkpmmbeoghaaGreat.Ev
open Go
section
variable {F : Fence} {n : Nat} {P : Program} {Q : Exit → Act → World → Prop} {a : Act} {w : World}
/-- a loop, once it has been entered -/
def LoopGo (F : Fence) (n : Nat) (P : Program) (c : Code) (Q : Exit → Act → World → Prop) (a : Act) (w : World) : Prop :=
  ∀ (b : Frame) (k : List Item) (cs : List Frame), b.roundOf = F.round → F.fn b.fn → F.room (cs.length + 1 + n) →
    ∃ e a' w', Q e a' w' ∧ ArrivesIn (Machine.fenced P F) P (lone (b.atR a (.code c :: .inLoop c :: k)) cs w) b k cs e a' w'
theorem LoopGo.wp {c : Code} (h : LoopGo F n P c Q a w) : (Code.loop c).wpIn F n P Q a w := by
  intro b k cs hro hb hr
  obtain ⟨e, a', w', hq, harr⟩ := h b k cs hro hb hr
  exact ⟨e, a', w', hq, .of_steps (.one (fenced_calm hb hr rfl) stepR_loop) harr⟩
theorem LoopGo.round {c : Code} (h : c.wpIn F n P (Exit.then (LoopGo F n P c Q) Q) a w) : LoopGo F n P c Q a w := by
  intro b k cs hro hb hr
  obtain ⟨e, a₁, w₁, hq, harr⟩ := h b (.inLoop c :: k) cs hro hb hr
  cases e with
  | normal =>
    obtain ⟨e₂, a₂, w₂, hq₂, harr₂⟩ := hq b k cs hro hb hr
    exact ⟨e₂, a₂, w₂, hq₂, .of_steps (StepsIn.trans harr (.one (fenced_calm hb hr rfl) stepR_inLoop)) harr₂⟩
  | exit id => exact ⟨_, a₁, w₁, hq, .pass (x := .inLoop c) rfl (fun _ _ => .inl (by simp)) harr⟩
  | goto l => exact ⟨_, a₁, w₁, hq, .pass (x := .inLoop c) rfl (fun _ _ => .inl (by simp)) harr⟩
  | ret => exact ⟨_, a₁, w₁, hq, .pass (x := .inLoop c) rfl (fun _ _ => .inl (by simp)) harr⟩
  | panic ch => exact ⟨_, a₁, w₁, hq, .pass (x := .inLoop c) rfl (fun _ _ => .inl (by simp)) harr⟩
  | outgrown => exact ⟨_, a₁, w₁, hq, .pass (x := .inLoop c) rfl (fun _ _ => .inl (by simp)) harr⟩
/-- a scope that nothing jumps back into -/
theorem wpIn_scope_straight {c : Code} (h : c.wpIn F n P (fun e a w => (∀ l, e ≠ .goto l) ∧ Q e a w) a w) : (Code.scope c).wpIn F n P Q a w := by
  intro b k cs hro hb hr
  obtain ⟨e, a₁, w₁, ⟨hg, hq⟩, harr⟩ := h b (.inScope c :: k) cs hro hb hr
  have h0 : (lone (b.atR a (.code (.scope c) :: k)) cs w).fenced P F := fenced_calm hb hr rfl
  have hs : step P (lone (b.atR a (.code (.scope c) :: k)) cs w) = .next (lone (b.atR a (.code c :: .inScope c :: k)) cs w) := step_lone_go (by simp [stepG, stepG.exec, Frame.atR])
  cases e with
  | normal =>
    have hs2 : step P (lone (b.atR a₁ (.inScope c :: k)) cs w₁) = .next (lone (b.atR a₁ k) cs w₁) := step_lone_go (by simp [stepG, stepG.exec, Frame.atR])
    exact ⟨.normal, a₁, w₁, hq, .head h0 hs (StepsIn.trans harr (.one (fenced_calm hb hr rfl) hs2))⟩
  | exit id =>
    refine ⟨.exit id, a₁, w₁, hq, fun k' hk => .head h0 hs (harr.1 k' (by simp [exitTo, hk])), fun hr' hk => ?_⟩
    obtain ⟨k₁, h1, h2⟩ := harr.2 hr' (by simp [exitTo, hk])
    exact ⟨k₁, h1, .head h0 hs h2⟩
  | goto l => exact absurd rfl (hg l)
  | ret => exact ⟨_, a₁, w₁, hq, .of_steps (.one h0 hs) harr⟩
  | panic ch => exact ⟨_, a₁, w₁, hq, .of_steps (.one h0 hs) harr⟩
  | outgrown => exact ⟨_, a₁, w₁, hq, .of_steps (.one h0 hs) harr⟩
theorem wpAnyIn_post {md : Region.Mode} {ops : Array Oper} {Q' : Exit → Act → World → Prop} (hq : ∀ e a w, Q e a w → Q' e a w) : ∀ (fuel : Nat) (listed : Array Bool) (a : Act) (w : World), wpAnyIn F n P md ops Q fuel listed a w → wpAnyIn F n P md ops Q' fuel listed a w
  | 0, _, _, _, h => ⟨h.1, hq _ _ _ h.2⟩
  | fuel + 1, listed, a, w, h => by
    refine ⟨fun h0 => hq _ _ _ (h.1 h0), fun i hi => ?_⟩
    have h1 := h.2 i hi
    unfold wpOpIn at h1 ⊢
    split
    · rename_i ho; rw [ho] at h1; exact wpAnyIn_post hq fuel _ a w h1
    · rename_i o ho
      rw [ho] at h1
      simp only at h1
      split
      · rename_i hw; rw [if_pos hw] at h1; exact wpIn_post (fun a w => wpAnyIn_post hq fuel _ a w) hq h1
      · rename_i hw; rw [if_neg hw] at h1; exact ⟨h1.1, wpAnyIn_post hq fuel _ _ _ h1.2⟩
end
end Go.Proofs.YtpjhkpmmbeoghaaGreat.Ev

namespace Go.Proofs.YtpjhkpmmbeoghaaGreat.Ev
open Go
section
variable {P : Program}
def CodeSnd (P : Program) (ct : CodeT) (code : Code) (nt : Nat) : Prop :=
  ∀ (n0 : Nat) (E : Fr) (c : Cf) (a : Act) (kn : KN) (kx : KX), ct E c.M c.nm c.I c.ni kn kx = .ok → HR c → IB c.I c.ni → FR c E a nt n0 → ∀ (F : Fence) (n : Nat), FOK F → (F.round = none ∨ noRF code = true) →
    code.wpIn F n P (CPost c nt n0 kn kx) a c.w
/-- a drawn region goes as reckoned -/
def RegDSnd (P : Program) : Prop :=
  ∀ (call : CallT) (ops : Array Oper) (nt n0 : Nat) (E : Fr) (c : Cf) (a : Act) (kn : KN) (kx : KX), OpSnd P call → CallLin call → drawOk P ops = true → regDK P call (lowDI P nt ops [] (eager P ops)) E c.M c.nm c.I c.ni kn = .ok → HR c → IB c.I c.ni → FR c E a nt n0 →
    ∀ (F : Fence) (n : Nat), FOK F → wpAnyIn F n P .any ops (CPost c nt n0 kn kx) ops.size (Array.replicate ops.size false) a c.w
/-- a range over slices.Backward goes as reckoned -/
def BackSnd (P : Program) (bw : Nat) : Prop :=
  ∀ (f : Operand) (ps : Array Tmp) (assign body : Code) (ia ib : CodeT) (nt n0 : Nat) (E : Fr) (c : Cf) (a : Act) (kn : KN) (kx : KX), CodeSnd P ia assign nt → CodeSnd P ib body nt → psOk nt ps.toList = true → noRF assign = true → noRF body = true → backK bw (lowOpd f) ps.toList E c.M c.nm c.I c.ni ia ib kn = .ok → HR c → IB c.I c.ni → FR c E a nt n0 →
    ∀ (F : Fence) (n : Nat), FOK F → F.round = none → (Code.rangeFunc f ps assign body).wpIn F n P (CPost c nt n0 kn kx) a c.w
theorem drew_ext (c : Cf) : Ext c { c with w := { c.w with drawn := c.w.drawn + 1 } } := Ext.drew rfl ⟨rfl, rfl, rfl⟩
theorem codeK_ok {bw : Nat} {call : CallT} (hop : OpSnd P call) (hl : CallLin call) (hd : RegDSnd P) (hb : BackSnd P bw) (hm : P.follows .mixedOrders = true) (nt : Nat) (code : Code) : CodeSnd P (codeK P bw call nt code) code nt := by
  induction code with
  | skip =>
    intro n0 E c a kn kx h hr hI hf F n hF hN
    exact wpIn_skip ⟨E, c, hr, hI, .refl _, hf, rfl, .inl ⟨rfl, h⟩⟩
  | region id ops draw =>
    intro n0 E c a kn kx h hr hI hf F n hF hN
    cases draw with
    | false =>
      refine wpIn_region ?_
      have h : regG P call (groupL (ops.toList.map (lowRI P nt ops))) E c.M c.nm c.I c.ni kn = .ok := h
      rw [regG_eq] at h
      exact ops_ok hop hF ops.toList (List.range ops.size) (by simp) (fun j q1 q2 => by simp) h hr hI hf
    | true =>
      refine wpIn_region_any hm ?_
      obtain ⟨h1, h2⟩ := iff_bad h
      rw [regGD_eq] at h2
      have hr' := hr.drew (w' := { c.w with drawn := c.w.drawn + 1 }) rfl
      have hf' := hf.ext (drew_ext c)
      have := hd call ops nt n0 E { c with w := { c.w with drawn := c.w.drawn + 1 } } a kn kx hop hl h1 h2 hr' hI hf' F n hF
      exact wpAnyIn_post (fun e a' w' hp => CPost.trans hr (drew_ext c) hp) _ _ _ _ this
  | seq x y ihx ihy =>
    intro n0 E c a kn kx h hr hI hf F n hF hN
    refine wpIn_seq (wpIn_mono (ihx n0 E c a _ kx h hr hI hf F n hF (hN.imp id fun h => (Bool.and_eq_true_iff.1 h).1)) fun e a' w' hp => ?_)
    obtain ⟨E', c', h1, h2, h3, h4, rfl, h6⟩ := hp
    rcases h6 with ⟨rfl, h7⟩ | ⟨rfl, h7⟩ | ⟨id, rfl, h7⟩
    · exact wpIn_mono (ihy n0 E' c' a' kn kx h7 h1 h2 h4 F n hF (hN.imp id fun h => (Bool.and_eq_true_iff.1 h).2)) fun e a2 w2 hp => CPost.trans hr h3 hp
    · exact ⟨E', c', h1, h2, h3, h4, rfl, .inr (.inl ⟨rfl, h7⟩)⟩
    · exact ⟨E', c', h1, h2, h3, h4, rfl, .inr (.inr ⟨id, rfl, h7⟩)⟩
  | cond cnd x y ihx ihy =>
    intro n0 E c a kn kx h hr hI hf F n hF hN
    obtain ⟨w, I', n', h1, h2, h3⟩ := opdK_ok (k := fun w _ _ => iff (Nat.beq w 33) (codeK P bw call nt x E c.M c.nm c.I c.ni kn kx) (iff (Nat.beq w 1) (codeK P bw call nt y E c.M c.nm c.I c.ni kn kx) (.bad 63 w))) h (hf.opR cnd) hI
    rcases iff_ok h1 with ⟨h4, h5⟩ | ⟨_, h5⟩
    · exact wpIn_cond_true (h3.bool1 (Nat.eq_of_beq_eq_true h4)) (ihx n0 E c a kn kx h5 hr hI hf F n hF (hN.imp id fun h => (Bool.and_eq_true_iff.1 h).1))
    · obtain ⟨h4, h5⟩ := iff_bad h5
      exact wpIn_cond_false (h3.bool0 (Nat.eq_of_beq_eq_true h4)) (ihy n0 E c a kn kx h5 hr hI hf F n hF (hN.imp id fun h => (Bool.and_eq_true_iff.1 h).2))
  | block id b ih =>
    intro n0 E c a kn kx h hr hI hf F n hF hN
    refine wpIn_block (wpIn_mono (ih n0 E c a kn _ h hr hI hf F n hF hN) fun e a' w' hp => ?_)
    obtain ⟨E', c', h1, h2, h3, h4, rfl, h6⟩ := hp
    rcases h6 with ⟨rfl, h7⟩ | ⟨rfl, h7⟩ | ⟨id', rfl, h7⟩
    · exact ⟨E', c', h1, h2, h3, h4, rfl, .inl ⟨rfl, h7⟩⟩
    · rcases iff_ok h7 with ⟨h8, h7⟩ | ⟨-, h7⟩
      · have := Nat.eq_of_beq_eq_true h8; omega
      · exact ⟨E', c', h1, h2, h3, h4, rfl, .inr (.inl ⟨rfl, h7⟩)⟩
    · show (if id' = id then CPost c nt n0 kn kx .normal a' c'.w else CPost c nt n0 kn kx (.exit id') a' c'.w)
      rcases iff_ok h7 with ⟨h8, h7⟩ | ⟨h8, h7⟩
      · have := Nat.eq_of_beq_eq_true h8
        rw [if_pos (by omega)]
        exact ⟨E', c', h1, h2, h3, h4, rfl, .inl ⟨rfl, h7⟩⟩
      · rw [if_neg (fun he => by subst he; rw [Nat.beq_refl] at h8; cases h8)]
        exact ⟨E', c', h1, h2, h3, h4, rfl, .inr (.inr ⟨id', rfl, h7⟩)⟩
  | loop b ih =>
    intro n0 E c a kn kx h hr hI hf F n hF hN
    have go : ∀ (m : Nat) (E : Fr) (c : Cf) (a : Act), loopK (codeK P bw call nt b) kx m E c.M c.nm c.I c.ni = .ok → HR c → IB c.I c.ni → FR c E a nt n0 → LoopGo F n P b (CPost c nt n0 kn kx) a c.w := by
      intro m
      induction m with
      | zero => intro E c a h; cases h
      | succ m im =>
        intro E c a h hr hI hf
        refine LoopGo.round (wpIn_mono (ih n0 E c a _ kx h hr hI hf F n hF hN) fun e a' w' hp => ?_)
        obtain ⟨E', c', h1, h2, h3, h4, rfl, h6⟩ := hp
        rcases h6 with ⟨rfl, h7⟩ | ⟨rfl, h7⟩ | ⟨id, rfl, h7⟩
        · have hg := im E' c' a' h7 h1 h2 h4
          intro bf k cs hro hb hroom
          obtain ⟨e, a2, w2, hq, harr⟩ := hg bf k cs hro hb hroom
          exact ⟨e, a2, w2, CPost.trans hr h3 hq, harr⟩
        · exact ⟨E', c', h1, h2, h3, h4, rfl, .inr (.inl ⟨rfl, h7⟩)⟩
        · exact ⟨E', c', h1, h2, h3, h4, rfl, .inr (.inr ⟨id, rfl, h7⟩)⟩
    exact (go LF E c a h hr hI hf).wp
  | rangeFunc f ps assign body iha ihb =>
    intro n0 E c a kn kx h hr hI hf F n hF hN
    obtain ⟨h1, h⟩ := iff_bad h
    have h1 := Bool.and_eq_true_iff.1 h1
    have h2 := Bool.and_eq_true_iff.1 h1.2
    exact hb f ps assign body _ _ nt n0 E c a kn kx iha ihb h1.1 h2.1 h2.2 h hr hI hf F n hF (hN.resolve_right fun h => by cases h)
  | exit id =>
    intro n0 E c a kn kx h hr hI hf F n hF hN
    exact wpIn_exit ⟨E, c, hr, hI, .refl _, hf, rfl, .inr (.inr ⟨id, rfl, h⟩)⟩
  | scope b ih =>
    intro n0 E c a kn kx h hr hI hf F n hF hN
    refine wpIn_scope_straight (wpIn_mono (ih n0 E c a kn kx h hr hI hf F n hF hN) fun e a' w' hp => ⟨fun l he => ?_, hp⟩)
    obtain ⟨E', c', -, -, -, -, -, h6⟩ := hp
    rcases h6 with ⟨rfl, _⟩ | ⟨rfl, _⟩ | ⟨id, rfl, _⟩ <;> cases he
  | label l =>
    intro n0 E c a kn kx h hr hI hf F n hF hN
    exact wpIn_label ⟨E, c, hr, hI, .refl _, hf, rfl, .inl ⟨rfl, h⟩⟩
  | goto l => intro n0 E c a kn kx h; cases h
  | ret =>
    intro n0 E c a kn kx h hr hI hf F n hF hN
    exact wpIn_ret ⟨E, c, hr, hI, .refl _, hf, rfl, .inr (.inl ⟨rfl, h⟩)⟩
  | refuse s => intro n0 E c a kn kx h; cases h
end
end Go.Proofs.YtpjhkpmmbeoghaaGreat.Ev

namespace Go.Proofs.YtpjhkpmmbeoghaaGreat.Ev
open Go
section
variable {P : Program}
/-- a block that is nobody's turns -/
theorem HR.turn {c : Cf} (h : HR c) {k : Nat} {ob : Obj} {w' : World} (hw : w'.heap = c.w.heap.setIfInBounds k ob) (hno : ∀ b F, c.f b = some F → hd c.M b ≠ 0 → F.blk ≠ k) : HR { c with w := w' } where
  mlt := h.mlt
  ilt := h.ilt
  lay0 := h.lay0
  apart := h.apart
  dom := h.dom
  hdr := h.hdr
  cells b F hf hk := by
    have hk' : hd c.M b % 4 = 1 := hk
    obtain ⟨cs, elem, fr, h1, h2⟩ := h.cells b F hf hk'
    exact ⟨cs, elem, fr, by show w'.heap[_]? = _; rw [hw, Array.getElem?_setIfInBounds_ne (Ne.symm (hno b F hf (by omega)))]; exact h1, h2⟩
  maps b F hf hk := by
    have hk' : hd c.M b % 4 = 3 := hk
    obtain ⟨h0, es, clock, b', k', h1, h2⟩ := h.maps b F hf hk'
    exact ⟨h0, es, clock, b', k', by show w'.heap[_]? = _; rw [hw, Array.getElem?_setIfInBounds_ne (Ne.symm (hno b F hf (by omega)))]; exact h1, h2⟩
  lt b F hf := by show _ < w'.heap.size; rw [hw]; simpa using h.lt b F hf
  inj := h.inj
/-- turned there, what came ahead still is as it was for whom that block is new -/
theorem Ext.turn {c0 c : Cf} (he : Ext c0 c) {k : Nat} {ob : Obj} {w' : World} (hw : w'.heap = c.w.heap.setIfInBounds k ob) (ht : w'.tape = c.w.tape ∧ w'.os = c.w.os ∧ w'.output = c.w.output) (hk : c0.w.heap.size ≤ k) : Ext c0 { c with w := w' } :=
  ⟨he.lay, he.layN, he.f, he.fN, he.I, he.nm, he.keep, ⟨ht.1.trans he.tape.1, ht.2.1.trans he.tape.2.1, ht.2.2.trans he.tape.2.2⟩, by show _ ≤ w'.heap.size; rw [hw]; simpa using he.size,
    fun j hj hn => by show w'.heap[j]? = _; rw [hw, Array.getElem?_setIfInBounds_ne (by omega)]; exact he.frame j hj hn, he.img⟩
def resVal (_P : Program) (tmps : Array Value) : ResultVar → Sem Value
  | .tmp t => pure (tmps.getD t undef)
  | .cell a t => do loadVar t (← asAddr (tmps.getD a undef))
theorem results_eq (fn : Func) (tmps : Array Value) : results fn tmps = (do let vs ← fn.results.mapM (resVal P tmps); pure (if h : vs.size = 1 then vs[0] else .tuple vs)) := by
  unfold results
  congr 1
theorem run_mapM {α : Type} (g : α → Sem Value) (W : World) : ∀ (l : List α) (vs : List Value), l.length = vs.length → (∀ i (h : i < l.length) (h' : i < vs.length), (g l[i]).run P W = .ok vs[i] W) → (l.mapM g).run P W = .ok vs W
  | [], [], _, _ => rfl
  | x :: l, v :: vs, hl, h => by
    have h0 := h 0 (by simp) (by simp)
    have ih := run_mapM g W l vs (by simpa using hl) fun i q1 q2 => h (i + 1) (by simpa using q1) (by simpa using q2)
    simp only [List.getElem_cons_zero] at h0
    simp only [List.mapM_cons, Sem.run_bind, h0, Result.andThen_ok, ih, Sem.run_pure]
theorem run_results {fn : Func} {tmps : Array Value} {vs : List Value} {W : World} (hl : fn.results.toList.length = vs.length) (h : ∀ i (h : i < fn.results.toList.length) (h' : i < vs.length), (resVal P tmps fn.results.toList[i]).run P W = .ok vs[i] W) :
    (results fn tmps).run P W = .ok (if h : vs.toArray.size = 1 then vs.toArray[0] else .tuple vs.toArray) W := by
  rw [results_eq (P := P), Array.mapM_eq_mapM_toList]
  simp only [Sem.run_bind, Sem.run_map, run_mapM (resVal P tmps) W _ vs hl h, Result.andThen_ok, Sem.run_pure]
/-- a row of words, as a tuple -/
theorem tuple_ok {f : Nat → Option FB} {I ni n : Nat} {ws : List Nat} {vs : List Value} (hI : IB I ni) (hn : ws.length = n) (hb : ni + n < 16777216) (hv : vs.length = n) (h : ∀ i (h : i < ws.length) (h' : i < vs.length), WR f I ni ws[i] vs[i]) :
    IOk I ni (addRow I ni (rowOf ws)) (ni + n) ∧ WR f (addRow I ni (rowOf ws)) (ni + n) (19 + 32 * (ni + 16777216 * n)) (.tuple vs.toArray) := by
  obtain ⟨h1, h2⟩ := rowOf_ok (l := ws) fun w hw => by
    obtain ⟨i, hi, rfl⟩ := List.getElem_of_mem hw
    exact (h i hi (by omega)).lt96
  rw [hn] at h1
  refine ⟨.grow hI h1 hb, .tuple ni n _ (by simp [hv]) (by omega) (by omega) (Nat.le_refl _) fun i hi => ?_⟩
  have hi' : i < vs.length := by simpa using hi
  rw [cell_add hI.1, if_neg (by omega), Nat.add_sub_cancel_left, h2 i (by omega)]
  simpa using (h i (by omega) hi').mono (.refl _) (iext_add hI.1)
theorem mapM_some {α β : Type} {g : α → Option β} : ∀ {l : List α} {r : List β}, l.mapM g = some r → l.length = r.length ∧ ∀ i (h : i < l.length) (h' : i < r.length), g l[i] = some r[i]
  | [], r, h => by
    simp at h; subst h; exact ⟨rfl, fun i h => absurd h (by simp)⟩
  | x :: l, r, h => by
    simp only [List.mapM_cons, Option.bind_eq_bind, Option.pure_def] at h
    cases hx : g x with
    | none => simp [hx] at h
    | some y =>
      cases hl : l.mapM g with
      | none => simp [hx, hl] at h
      | some ys =>
        simp [hx, hl] at h
        subst h
        obtain ⟨h1, h2⟩ := mapM_some hl
        refine ⟨by simp [h1], fun i q1 q2 => ?_⟩
        cases i with
        | zero => simpa using hx
        | succ i => exact h2 i (by simpa using q1) (by simpa using q2)
theorem slotsOf_get : ∀ (E : Fr) (l : List Nat), (slotsOf E l).length = l.length ∧ ∀ i (h : i < (slotsOf E l).length) (h' : i < l.length), (slotsOf E l)[i] = slot E l[i]
  | _, [] => ⟨rfl, fun i h => absurd h (by simp [slotsOf])⟩
  | E, o :: l => by
    obtain ⟨h1, h2⟩ := slotsOf_get E l
    have e : slotsOf E (o :: l) = slot E o :: slotsOf E l := rfl
    rw [e]
    refine ⟨by simp [h1], fun i q1 q2 => ?_⟩
    cases i with
    | zero => rfl
    | succ i => exact h2 i (by simpa using q1) (by simpa using q2)
/-- words of results, and their values -/
def RetOut (P : Program) (c : Cf) (kf : KF) (s : Sem Value) : Prop :=
  ∃ word v I' ni', kf word c.M c.nm I' ni' = .ok ∧ IOk c.I c.ni I' ni' ∧ WR c.f I' ni' word v ∧ s.run P c.w = .ok v c.w
/-- the general kind of results -/
theorem rvsK_ok {c : Cf} {E : Fr} {a : Act} (hr : HR c) (hwr : ∀ t, WR c.f c.I c.ni (fcell E t) (a.tmps.getD t undef)) : ∀ (l : List ResultVar) (rv : List RV), l.mapM (lowRV P) = some rv → ∀ {I ni : Nat} {k : List Nat → Nat → Nat → Res}, IOk c.I c.ni I ni → rvsK rv E c.M I ni k = .ok →
    ∃ (ws : List Nat) (vs : List Value) (I' ni' : Nat), k ws I' ni' = .ok ∧ IOk I ni I' ni' ∧ ws.length = l.length ∧ vs.length = l.length ∧ (∀ i (h : i < ws.length) (h' : i < vs.length), WR c.f I' ni' ws[i] vs[i]) ∧ ∀ i (h : i < l.length) (h' : i < vs.length), (resVal P a.tmps l[i]).run P c.w = .ok vs[i] c.w
  | [], rv, hm, I, ni, k, hI, h => by
    simp at hm; subst hm
    exact ⟨[], [], I, ni, h, .refl hI.lt, rfl, rfl, fun i h => absurd h (by simp), fun i h => absurd h (by simp)⟩
  | x :: l, rv, hm, I, ni, k, hI, h => by
    obtain ⟨hl, hg⟩ := mapM_some hm
    cases rv with
    | nil => simp at hl
    | cons y rv =>
      have hx := hg 0 (by simp) (by simp)
      simp only [List.getElem_cons_zero] at hx
      have hrest : l.mapM (lowRV P) = some rv := by
        simp only [List.mapM_cons, Option.bind_eq_bind, Option.pure_def, hx, Option.bind_some] at hm
        cases hl : l.mapM (lowRV P) with
        | none => simp [hl] at hm
        | some ys => simp [hl] at hm; rw [hm]
      -- the word and the value of the first one
      have first : ∃ w v I1 n1, (rvsK rv E c.M I1 n1 fun ws I ni => k (w :: ws) I ni) = .ok ∧ IOk I ni I1 n1 ∧ WR c.f I1 n1 w v ∧ (resVal P a.tmps x).run P c.w = .ok v c.w := by
        have hr1 := hr.growI hI.ext hI.lt.1
        cases x with
        | tmp t =>
          simp only [lowRV, Option.some.injEq] at hx
          subst hx
          exact ⟨_, _, I, ni, h, .refl hI.lt, (hwr t).mono (.refl _) hI.ext, rfl⟩
        | cell t ty =>
          simp only [lowRV] at hx
          cases hd : P.underlying ty with
          | none => simp [hd] at hx
          | some d =>
            simp only [hd] at hx
            have hop : OpR c.f I ni E a (.tmp t) := (hwr t).mono (.refl _) hI.ext
            by_cases hag : aggD d = true
            · rw [if_pos hag] at hx
              simp only [szOf, Option.map_map, Option.map_eq_some_iff] at hx
              obtain ⟨i, hi, rfl⟩ := hx
              obtain ⟨w, I1, n1, v, h1, h2, h3, h4⟩ := loadNK_ok (c := { c with I := I, ni := ni }) (E := E) (a := a) (x := .tmp t) (P := P) (kv := fun w I ni => rvsK rv E c.M I ni fun ws I ni => k (w :: ws) I ni) hr1 hd hag hi h hop hI.lt
              refine ⟨w, v, I1, n1, h1, h2, h3, ?_⟩
              have h5 : (Instr.loadAt ty (a.tmps.getD t undef)).run P c.w = .ok v c.w := by
                have h4' : (do let v ← Instr.loadAt ty (a.tmps.getD t undef); pure (Next.value v) : Sem Next).run P c.w = .ok (.value v) c.w := h4
                rw [Sem.run_bind] at h4'
                cases hl : (Instr.loadAt ty (a.tmps.getD t undef)).run P c.w with
                | ok u w2 => rw [hl] at h4'; simp at h4'; obtain ⟨rfl, rfl⟩ := h4'; rfl
                | halt x w2 => rw [hl] at h4'; simp at h4'
              simp only [resVal]
              simp only [Instr.loadAt, Sem.run_bind] at h5 ⊢
              cases hv : a.tmps.getD t undef with
              | pointer o => cases o with
                | some A => rw [hv] at h5; simpa [Instr.sureAddr, asAddr] using h5
                | none => rw [hv] at h5; simp [Instr.sureAddr] at h5
              | _ => rw [hv] at h5; simp [Instr.sureAddr] at h5
            · rw [if_neg hag] at hx
              cases hx
              have hag' : aggD d = false := by simpa using hag
              obtain ⟨w, I1, n1, v, h1, h2, h3, h4⟩ := load1K_ok (c := { c with I := I, ni := ni }) (E := E) (a := a) (x := .tmp t) (P := P) (kv := fun w I ni => rvsK rv E c.M I ni fun ws I ni => k (w :: ws) I ni) hr1 hd hag' h hop hI.lt
              refine ⟨w, v, I1, n1, h1, h2, h3, ?_⟩
              have h5 : (Instr.loadAt ty (a.tmps.getD t undef)).run P c.w = .ok v c.w := by
                have h4' : (do let v ← Instr.loadAt ty (a.tmps.getD t undef); pure (Next.value v) : Sem Next).run P c.w = .ok (.value v) c.w := h4
                rw [Sem.run_bind] at h4'
                cases hl : (Instr.loadAt ty (a.tmps.getD t undef)).run P c.w with
                | ok u w2 => rw [hl] at h4'; simp at h4'; obtain ⟨rfl, rfl⟩ := h4'; rfl
                | halt x w2 => rw [hl] at h4'; simp at h4'
              simp only [resVal]
              simp only [Instr.loadAt, Sem.run_bind] at h5 ⊢
              cases hv : a.tmps.getD t undef with
              | pointer o => cases o with
                | some A => rw [hv] at h5; simpa [Instr.sureAddr, asAddr] using h5
                | none => rw [hv] at h5; simp [Instr.sureAddr] at h5
              | _ => rw [hv] at h5; simp [Instr.sureAddr] at h5
      obtain ⟨w, v, I1, n1, h1, h2, h3, h4⟩ := first
      obtain ⟨ws, vs, I2, n2, h5, h6, h7, h8, h9, h10⟩ := rvsK_ok hr hwr l rv hrest (hI.trans h2) h1
      refine ⟨w :: ws, v :: vs, I2, n2, h5, h2.trans h6, by simp [h7], by simp [h8], fun i q1 q2 => ?_, fun i q1 q2 => ?_⟩
      · cases i with
        | zero => exact h3.mono (.refl _) h6.ext
        | succ i => exact h9 i (by simpa using q1) (by simpa using q2)
      · cases i with
        | zero => exact h4
        | succ i => exact h10 i (by simpa using q1) (by simpa using q2)
end
end Go.Proofs.YtpjhkpmmbeoghaaGreat.Ev

namespace Go.Proofs.YtpjhkpmmbeoghaaGreat.Ev
open Go
section
variable {P : Program}
theorem res_one (v : Value) : (if h : [v].toArray.size = 1 then [v].toArray[0] else Value.tuple [v].toArray) = v := by simp
theorem res_many {vs : List Value} (h : vs.length ≠ 1) : (if h : vs.toArray.size = 1 then vs.toArray[0] else Value.tuple vs.toArray) = .tuple vs.toArray := by rw [dif_neg]; simpa using h
theorem retK_ok {fn : Func} {c : Cf} {E : Fr} {a : Act} {kf : KF} (hr : HR c) (hI : IB c.I c.ni) (hwr : ∀ t, WR c.f c.I c.ni (fcell E t) (a.tmps.getD t undef)) (h : retK (lowRes P fn.results) E c.M c.nm c.I c.ni kf = .ok) : RetOut P c kf (results fn a.tmps) := by
  unfold lowRes at h
  split at h
  · rename_i t hl
    refine ⟨_, a.tmps.getD t undef, c.I, c.ni, h, .refl hI, hwr t, ?_⟩
    have := run_results (P := P) (fn := fn) (tmps := a.tmps) (vs := [a.tmps.getD t undef]) (W := c.w) (by rw [hl]; rfl) fun i q1 q2 => by
      have : i = 0 := by simp at q2; omega
      subst this
      simp [hl, resVal]
    rw [this, res_one]
  · rename_i hno
    split at h
    · rename_i offs hm
      obtain ⟨hl, hg⟩ := mapM_some hm
      obtain ⟨h1, h2⟩ := growK_ok (k := fun I' ni' => kf _ c.M c.nm I' ni') h
      obtain ⟨s1, s2⟩ := slotsOf_get E offs
      -- each result is a slot
      have hts : ∀ i (q : i < fn.results.toList.length) (q' : i < offs.length), ∃ t, fn.results.toList[i] = .tmp t ∧ offs[i] = 96 * t := fun i q q' => by
        have := hg i q q'
        cases hx : fn.results.toList[i] with
        | tmp t => rw [hx] at this; simp only [Option.some.injEq] at this; exact ⟨t, rfl, this.symm⟩
        | cell a t => rw [hx] at this; simp at this
      let vs : List Value := fn.results.toList.map fun x => match x with | .tmp t => a.tmps.getD t undef | .cell .. => undef
      have hvl : vs.length = fn.results.toList.length := by simp [vs]
      obtain ⟨g1, g2⟩ := tuple_ok (f := c.f) (ws := slotsOf E offs) (vs := vs) (n := offs.length) hI s1 h1 (by omega) fun i q1 q2 => by
        obtain ⟨t, e1, e2⟩ := hts i (by omega) (by omega)
        rw [s2 i q1 (by omega), e2]
        simp only [vs, List.getElem_map, e1]
        exact hwr t
      refine ⟨_, .tuple vs.toArray, _, _, h2, g1, g2, ?_⟩
      have := run_results (P := P) (fn := fn) (tmps := a.tmps) (vs := vs) (W := c.w) hvl.symm fun i q1 q2 => by
        obtain ⟨t, e1, e2⟩ := hts i q1 (by omega)
        simp only [vs, List.getElem_map, e1]
        rfl
      rw [this, res_many]
      intro h1'
      obtain ⟨x, hx⟩ := List.length_eq_one_iff.1 (hvl ▸ h1')
      obtain ⟨t, e1, -⟩ := hts 0 (by rw [hx]; simp) (by rw [hx] at hl; simp at hl; omega)
      simp only [hx, List.getElem_cons_zero] at e1
      exact hno t (by rw [hx, e1])
    · split at h
      · rename_i rv hm
        obtain ⟨ws, vs, I', n', h1, h2, h3, h4, h5, h6⟩ := rvsK_ok hr hwr _ rv hm (.refl hI) h
        have hrun := run_results (P := P) (fn := fn) (tmps := a.tmps) (vs := vs) (W := c.w) h4.symm h6
        have hl := (mapM_some hm).1
        cases ws with
        | nil => cases h1
        | cons w ws' =>
          cases ws' with
          | nil =>
            cases vs with
            | nil => simp at h3 h4; omega
            | cons v vs' =>
              have : vs' = [] := by
                simp only [List.length_cons, List.length_nil] at h3 h4
                exact List.eq_nil_of_length_eq_zero (by omega)
              subst this
              refine ⟨w, v, I', n', h1, h2, h5 0 (by simp) (by simp), ?_⟩
              rw [hrun, res_one]
          | cons w2 ws'' =>
            obtain ⟨h7, h8⟩ := growK_ok (k := fun I'' ni'' => kf _ c.M c.nm I'' ni'') h1
            obtain ⟨g1, g2⟩ := tuple_ok (f := c.f) (ws := w :: w2 :: ws'') (vs := vs) (n := rv.length) h2.lt (by rw [h3]; exact hl) h7 (by omega) h5
            refine ⟨_, .tuple vs.toArray, _, _, h8, h2.trans g1, g2, ?_⟩
            rw [hrun, res_many]
            rw [h4, ← h3]
            simp
      · cases h
/-- the marks are taken, and the results read -/
theorem leaves_ok {fn : Func} {F : Fence} {n : Nat} {c0 : Cf} {n0 : Nat} {kf : KF} {E : Fr} (hn0 : c0.w.heap.size ≤ n0) : ∀ (ds : List Deferred) (c : Cf) (a : Act), HR c0 → HR c → IB c.I c.ni → Ext c0 c → (∀ t, WR c.f c.I c.ni (fcell E t) (a.tmps.getD t undef)) → MarksOk c n0 ds →
    retK (lowRes P fn.results) E c.M c.nm c.I c.ni kf = .ok → LeavesInM F n P fn a.tmps (CallPost c0 kf) ds .returning c.w
  | [], c, a, hr0, hr, hI, he, hwr, hm, h => by
    obtain ⟨word, v, I', n', h1, h2, h3, h4⟩ := retK_ok hr hI hwr h
    exact ⟨v, h4, word, v, { c with I := I', ni := n' }, rfl, rfl, h1, hr.growI h2.ext h2.lt.1, h2.lt, he.trans hr0 (.growI h2.ext), h3⟩
  | d :: ds, c, a, hr0, hr, hI, he, hwr, hm, h => by
    obtain ⟨D, rfl, hD0, hD, hDn⟩ := hm.2 d (by simp)
    have hlt : D < c.w.heap.size := (Array.getElem?_eq_some_iff.1 hD).1
    refine ⟨by simp, .inl ⟨D, { c.w with heap := c.w.heap.setIfInBounds D (.deferred none) }, rfl, ?_, ?_⟩⟩
    · simp [Instr.takeDeferred, getObj, setObj, Sem.run, hD]
    · have hrt := hr.turn (w' := { c.w with heap := c.w.heap.setIfInBounds D (.deferred none) }) (k := D) rfl hDn
      have het := he.turn (w' := { c.w with heap := c.w.heap.setIfInBounds D (.deferred none) }) (k := D) rfl ⟨rfl, rfl, rfl⟩ (by omega)
      have hm1 := List.pairwise_cons.1 hm.1
      refine leaves_ok hn0 ds { c with w := { c.w with heap := c.w.heap.setIfInBounds D (.deferred none) } } a hr0 hrt hI het hwr ⟨hm1.2, fun d' hd' => ?_⟩ h
      obtain ⟨D', e1, q0, q1, q2⟩ := hm.2 d' (by simp [hd'])
      refine ⟨D', e1, q0, ?_, q2⟩
      have hne : D ≠ D' := fun e => by
        subst e
        subst e1
        exact hm1.1 _ hd' rfl
      show (c.w.heap.setIfInBounds D _)[D']? = _
      rw [Array.getElem?_setIfInBounds_ne hne]; exact q1
theorem frOf_cons (w : Nat) (ws : List Nat) (o : Nat) : frOf (w :: ws) o = @Bool.rec (fun _ => Nat) (frOf ws (o - 96)) w (Nat.beq o 0) := rfl
theorem frOf_in {ws : List Nat} (t : Nat) (h : t < ws.length) : fcell (frOf ws) t = ws[t] := by
  induction ws generalizing t with
  | nil => simp at h
  | cons w ws ih =>
    show frOf (w :: ws) (96 * t) = _
    rw [frOf_cons]
    cases t with
    | zero => rfl
    | succ t =>
      have : Nat.beq (96 * (t + 1)) 0 = false := rfl
      rw [this]
      have h9 : frOf ws (96 * t) = ws[t]'(by simpa using h) := ih t (by simpa using h)
      show frOf ws (96 * (t + 1) - 96) = _
      rw [show 96 * (t + 1) - 96 = 96 * t by omega]
      exact h9
theorem frOf_out {ws : List Nat} {t : Nat} (h : ws.length ≤ t) : fcell (frOf ws) t = 0 := by
  induction ws generalizing t with
  | nil => rfl
  | cons w ws ih =>
    show frOf (w :: ws) (96 * t) = _
    rw [frOf_cons]
    cases t with
    | zero => simp at h
    | succ t =>
      have : Nat.beq (96 * (t + 1)) 0 = false := rfl
      rw [this]
      show frOf ws (96 * (t + 1) - 96) = _
      rw [show 96 * (t + 1) - 96 = 96 * t by omega]
      exact ih (by simpa using h)
theorem callW_ok {bw : Nat} {call : CallT} (hev : ∀ nt code, CodeSnd P (codeK P bw call nt code) code nt) : CallSnd P (callW P bw call) := by
  intro f ws c kf args h hr hI hsz hargs
  unfold callW funInfo at h
  cases hfn : P.funcs[f]? with
  | none => rw [hfn] at h; cases h
  | some fn =>
    cases hb : fn.body with
    | none => simp only [hfn, hb] at h; cases h
    | some code =>
      simp only [hfn, hb] at h
      refine ⟨⟨fn, rfl, by rw [hb]; rfl⟩, fun F n hF => ?_⟩
      obtain ⟨h1, h⟩ := iff_bad h
      have h1 : ws.length ≤ fn.ntmps := Nat.le_of_ble_eq_true h1
      have hfr : FR c (frOf ws) { tmps := args ++ Array.replicate (fn.ntmps - args.size) undef, defers := [] } fn.ntmps c.w.heap.size := by
        refine ⟨by simp; omega, fun t => ?_, ⟨.nil, fun d hd => by cases hd⟩, Nat.le_refl _⟩
        by_cases ht : t < ws.length
        · rw [frOf_in t ht]
          have : (args ++ Array.replicate (fn.ntmps - args.size) undef).getD t undef = args[t]'(by omega) := by
            simp [Array.getElem?_append_left (show t < args.size by omega), show t < args.size by omega]
          show WR c.f c.I c.ni ws[t] ((args ++ Array.replicate (fn.ntmps - args.size) undef).getD t undef)
          rw [this]
          exact hargs t ht (by omega)
        · rw [frOf_out (by omega)]
          have : (args ++ Array.replicate (fn.ntmps - args.size) undef).getD t undef = undef := by
            rw [Array.getD_eq_getD_getElem?, Array.getElem?_append_right (by omega)]
            by_cases h2 : t - args.size < fn.ntmps - args.size
            · simp [h2]
            · simp [h2]
          show WR c.f c.I c.ni 0 ((args ++ Array.replicate (fn.ntmps - args.size) undef).getD t undef)
          rw [this]; exact .undef
      have hFp : FOK F.plain := hF
      have key : CallsIn F.plain n P f args c.w (CallPost c kf) := by
        refine callsIn_of_wp_marks hfn hb (hFp.1 f) (wpIn_mono (hev fn.ntmps code c.w.heap.size (frOf ws) c _ _ _ h hr hI hfr F.plain n hFp (.inl rfl)) fun e a' w' hp => ?_) rfl
        obtain ⟨E', c', h2, h3, h4, h5, rfl, h6⟩ := hp
        rcases h6 with ⟨rfl, h7⟩ | ⟨rfl, h7⟩ | ⟨id, rfl, h7⟩
        · exact leaves_ok (Nat.le_refl _) _ c' a' hr h2 h3 h4 h5.wr h5.marks h7
        · obtain ⟨-, h7⟩ := iff_bad h7
          exact leaves_ok (Nat.le_refl _) _ c' a' hr h2 h3 h4 h5.wr h5.marks h7
        · obtain ⟨h8, -⟩ := iff_bad h7
          have := Nat.eq_of_beq_eq_true h8
          omega
      exact key
theorem evF_ok {bw : Nat} (hop : ∀ call, CallSnd P call → OpSnd P call) (hl : ∀ fuel, CallLin (evF P bw fuel)) (hd : RegDSnd P) (hb : BackSnd P bw) (hm : P.follows .mixedOrders = true) : ∀ fuel, CallSnd P (evF P bw fuel)
  | 0 => fun f ws c kf args h => by cases h
  | fuel + 1 => callW_ok (codeK_ok (hop _ (evF_ok hop hl hd hb hm fuel)) (hl fuel) hd hb hm)
end
end Go.Proofs.YtpjhkpmmbeoghaaGreat.Ev

namespace Go.Proofs.YtpjhkpmmbeoghaaGreat.Ev
open Go
section
variable {f : Nat → Option FB} {I ni : Nat} {E : Fr} {a : Act} {P : Program} {kv : KV}
theorem guard_word {w : Nat} {u v : Value} (h : WR f I ni w u) (h1 : w % 32 ≠ 17) (h2 : w % 32 ≠ 18) (op : BinOp) (t : TypeId) (x y : Operand) (W : World) : (eqGuard op t x y u v).run P W = .ok () W := by
  unfold eqGuard
  cases h with
  | nilIface => exact absurd rfl h1
  | agg b n cs => exact absurd (by omega) h2
  | _ => cases op <;> rfl
theorem guard_op {op : BinOp} (h1 : op ≠ .eql) (h2 : op ≠ .neq) (t : TypeId) (x y : Operand) (u v : Value) (W : World) : (eqGuard op t x y u v).run P W = .ok () W := by
  unfold eqGuard
  cases op <;> first | rfl | exact absurd rfl h1 | exact absurd rfl h2
theorem binGuard {op : BinOp} {t : TypeId} {x y : Operand} {u v : Value} (hg : ∀ W, (eqGuard op t x y u v).run P W = .ok () W) (h : PureOk P f I ni kv (do let v ← binOp op t u v; pure (.value v))) :
    PureOk P f I ni kv (do let v ← (do eqGuard op t x y u v; binOp op t u v); pure (.value v)) := by
  obtain ⟨w, I', n', r, h1, h2, h3, h4⟩ := h
  refine ⟨w, I', n', r, h1, h2, h3, fun W => ?_⟩
  have := h4 W
  rw [Sem.run_bind] at this
  rw [Sem.run_bind, Sem.run_bind, hg, Result.andThen_ok]
  exact this
theorem ieqK_guard {t : Nat} {neg : Bool} {x y : Operand} {op : BinOp} {ty : TypeId} (ht : t ≠ 17 ∧ t ≠ 18) (h : ieqK t neg (lowOpd x) (lowOpd y) E I ni kv = .ok) (hx : OpR f I ni E a x) (hy : OpR f I ni E a y) (hI : IB I ni) (W : World) : (eqGuard op ty x y (a.eval x) (a.eval y)).run P W = .ok () W := by
  obtain ⟨wx, wy, I', n', h1, h2, h3, h4⟩ := op2_ok h hx hy hI
  obtain ⟨h5, h1⟩ := iff_bad h1
  have := tg_ok h5
  exact guard_word h3 (by omega) (by omega) op ty x y W
theorem seqK_guard {neg : Bool} {x y : Operand} {op : BinOp} {ty : TypeId} (h : seqK neg (lowOpd x) (lowOpd y) E I ni kv = .ok) (hx : OpR f I ni E a x) (hy : OpR f I ni E a y) (hI : IB I ni) (W : World) : (eqGuard op ty x y (a.eval x) (a.eval y)).run P W = .ok () W := by
  obtain ⟨wx, wy, I', n', h1, h2, h3, h4⟩ := op2_ok h hx hy hI
  obtain ⟨h5, h1⟩ := iff_bad h1
  have := tg_ok h5
  exact guard_word h3 (by omega) (by omega) op ty x y W
theorem addS_ok {x y : Operand} {t : TypeId} (h : op2 (lowOpd x) (lowOpd y) E I ni (fun wx wy I ni => add64 wx wy I ni kv) = .ok) (hx : OpR f I ni E a x) (hy : OpR f I ni E a y) (hI : IB I ni) :
    PureOk P f I ni kv (do let v ← binOp .add t (a.eval x) (a.eval y); pure (.value v)) := by
  obtain ⟨wx, wy, I', n', h1, h2, h3, h4⟩ := op2_ok h hx hy hI
  obtain ⟨w, m, n, e1, e2, h5, h6⟩ := add64_ok h1 h3 h4
  refine ⟨w, I', n', _, h5, h2, h6, fun W => ?_⟩
  rw [e1, e2]; simp [binOp, Op.intArith]
theorem subS_ok {x y : Operand} {t : TypeId} (h : op2 (lowOpd x) (lowOpd y) E I ni (fun wx wy I ni => sub64 wx wy I ni kv) = .ok) (hx : OpR f I ni E a x) (hy : OpR f I ni E a y) (hI : IB I ni) :
    PureOk P f I ni kv (do let v ← binOp .sub t (a.eval x) (a.eval y); pure (.value v)) := by
  obtain ⟨wx, wy, I', n', h1, h2, h3, h4⟩ := op2_ok h hx hy hI
  obtain ⟨w, m, n, e1, e2, h5, h6⟩ := sub64_ok h1 h3 h4
  refine ⟨w, I', n', _, h5, h2, h6, fun W => ?_⟩
  rw [e1, e2]; simp [binOp, Op.intArith]
theorem iopK_ok {op : BinOp} {k : IntKind} {x y : Operand} {t : TypeId} (h : iopK op k (lowOpd x) (lowOpd y) E I ni kv = .ok) (hx : OpR f I ni E a x) (hy : OpR f I ni E a y) (hI : IB I ni) :
    PureOk P f I ni kv (do let v ← binOp op t (a.eval x) (a.eval y); pure (.value v)) := by
  obtain ⟨wx, wy, I', n', h1, h2, h3, h4⟩ := op2_ok h hx hy hI
  obtain ⟨h5, h1⟩ := iff_bad h1
  obtain ⟨h6, h1⟩ := iff_bad h1
  obtain ⟨m, p, e1, w1, p1, -⟩ := h3.inv_int k (tg_ok h5)
  obtain ⟨n, q, e2, w2, p2, -⟩ := h4.inv_int k (tg_ok h6)
  obtain ⟨w, z, h7, h8, h9⟩ := optK_ok (f := f) h1
  rw [decI_eq w1 p1, decI_eq w2 p2] at h7
  refine ⟨w, I', n', _, h8, h2, h9, fun W => ?_⟩
  rw [e1, e2, Sem.run_bind, iopV_run h7]; rfl
theorem shfK_ok {op : BinOp} {k yk : IntKind} {x y : Operand} {t : TypeId} (h : shfK op k yk (lowOpd x) (lowOpd y) E I ni kv = .ok) (hx : OpR f I ni E a x) (hy : OpR f I ni E a y) (hI : IB I ni) :
    PureOk P f I ni kv (do let v ← binOp op t (a.eval x) (a.eval y); pure (.value v)) := by
  obtain ⟨wx, wy, I', n', h1, h2, h3, h4⟩ := op2_ok h hx hy hI
  obtain ⟨h5, h1⟩ := iff_bad h1
  obtain ⟨h6, h1⟩ := iff_bad h1
  obtain ⟨m, p, e1, w1, p1, -⟩ := h3.inv_int k (tg_ok h5)
  obtain ⟨n, q, e2, w2, p2, -⟩ := h4.inv_int yk (tg_ok h6)
  obtain ⟨w, z, h7, h8, h9⟩ := optK_ok (f := f) h1
  rw [decI_eq w1 p1, decI_eq w2 p2] at h7
  refine ⟨w, I', n', _, h8, h2, h9, fun W => ?_⟩
  rw [e1, e2, Sem.run_bind, shfV_run h7]; rfl
/-- comparisons with nil -/
theorem nil_run {d : TypeDesc} {ty : TypeId} {y : Operand} {z t : Nat} (hd : P.underlying ty = some d) (hn : nilWord d y = some (z, t)) {neg : Bool} {x : Operand} : (∀ {I' ni' w v}, WR f I' ni' w v → w = z → ∀ W, (do eqGuard (if neg then .neq else .eql) ty x y v (a.eval y); binOp (if neg then .neq else .eql) ty v (a.eval y) : Sem Value).run P W = .ok (.bool (!neg)) W) ∧
    (∀ {I' ni' w v}, WR f I' ni' w v → w % 32 = t → w ≠ z → ∀ W, (do eqGuard (if neg then .neq else .eql) ty x y v (a.eval y); binOp (if neg then .neq else .eql) ty v (a.eval y) : Sem Value).run P W = .ok (.bool neg) W) := by
  unfold nilWord at hn
  split at hn <;> first | (cases hn; done) | skip
  all_goals (simp only [Option.some.injEq, Prod.mk.injEq] at hn; obtain ⟨rfl, rfl⟩ := hn)
  case h_1 e =>
    have ht := pointee_of hd
    have key : ∀ (p : Option Addr) (W : World), (do eqGuard (if neg then .neq else .eql) ty x (.const (.pointer none)) (.pointer p) (.pointer none); binOp (if neg then .neq else .eql) ty (.pointer p) (.pointer none) : Sem Value).run P W = .ok (.bool (if neg then !p.isNone else p.isNone)) W := fun p W =>
      eq_run W (by cases neg <;> rfl) (by cases neg <;> rfl) (run_equal_pointer_nil W ty p ht)
    refine ⟨fun {I' ni' w v} h hw W => ?_, fun {I' ni' w v} h hw hne W => ?_⟩
    · rcases h.inv_ptr (by omega) with ⟨-, rfl⟩ | ⟨b, off, F, hb, -, -, -, hw', -⟩
      · refine (key none W).trans ?_; cases neg <;> rfl
      · omega
    · rcases h.inv_ptr hw with ⟨hw', -⟩ | ⟨b, off, F, hb, -, -, -, -, rfl⟩
      · exact absurd hw' hne
      · refine (key _ W).trans ?_; cases neg <;> rfl
  case h_2 e =>
    have key : ∀ (p : Option Addr) (l c : Nat) (W : World), (do eqGuard (if neg then .neq else .eql) ty x (.const (.slice none 0 0)) (.slice p l c) (.slice none 0 0); binOp (if neg then .neq else .eql) ty (.slice p l c) (.slice none 0 0) : Sem Value).run P W = .ok (.bool (if neg then !p.isNone else p.isNone)) W := fun p l c W =>
      eq_run W (by cases neg <;> rfl) (by cases neg <;> rfl) (run_equal_slice_nil W ty e p l c hd)
    refine ⟨fun {I' ni' w v} h hw W => ?_, fun {I' ni' w v} h hw hne W => ?_⟩
    · rcases h.inv_slice (by omega) with ⟨-, rfl⟩ | ⟨b, off, len, sz, cap, ex, F, A, c, hb, hb2, hf, ho, hlen, hsz, hc, hcap, q1, q2, q3, hw', e1⟩
      · refine (key none 0 0 W).trans ?_; cases neg <;> rfl
      · omega
    · rcases h.inv_slice hw with ⟨hw', -⟩ | ⟨b, off, len, sz, cap, ex, F, A, c, hb, hb2, hf, ho, hlen, hsz, hc, hcap, q1, q2, q3, hw', rfl⟩
      · exact absurd hw' hne
      · refine (key _ _ _ W).trans ?_; cases neg <;> rfl
  case h_3 k e =>
    have key : ∀ (p : Option Nat) (W : World), (do eqGuard (if neg then .neq else .eql) ty x (.const (.map none)) (.map p) (.map none); binOp (if neg then .neq else .eql) ty (.map p) (.map none) : Sem Value).run P W = .ok (.bool (if neg then !p.isNone else p.isNone)) W := fun p W =>
      eq_run W (by cases neg <;> rfl) (by cases neg <;> rfl) (run_equal_map_nil W ty k e p hd)
    refine ⟨fun {I' ni' w v} h hw W => ?_, fun {I' ni' w v} h hw hne W => ?_⟩
    · rcases h.inv_map (by omega) with ⟨-, rfl⟩ | ⟨b, F, hb, -, -, hw', -⟩
      · refine (key none W).trans ?_; cases neg <;> rfl
      · omega
    · rcases h.inv_map hw with ⟨hw', -⟩ | ⟨b, F, hb, -, -, hw', rfl⟩
      · exact absurd hw' hne
      · refine (key _ W).trans ?_; cases neg <;> rfl
  case h_4 ps rs vr =>
    refine ⟨fun {I' ni' w v} h hw W => ?_, fun {I' ni' w v} h hw hne W => ?_⟩
    · have e1 := h.inv_nilFunc (by omega)
      subst e1
      refine (eq_run W (by cases neg <;> rfl) (by cases neg <;> rfl) (equal_fn ty hd .nilFunc (.inl rfl) W)).trans ?_
      cases neg <;> rfl
    · obtain ⟨fn, b, n, cs, rfl, -⟩ := h.inv_func hw
      refine (eq_run W (by cases neg <;> rfl) (by cases neg <;> rfl) (equal_fn ty hd _ (.inr ⟨_, _, _, rfl⟩) W)).trans ?_
      cases neg <;> rfl
  case h_5 ms =>
    refine ⟨fun {I' ni' w v} h hw W => ?_, fun {I' ni' w v} h hw hne W => ?_⟩
    · have e1 := h.inv_nilIface (by omega)
      subst e1
      refine (eq_run W (by cases neg <;> cases x <;> rfl) (by cases neg <;> rfl) (equal_iface ty hd .nilIface (.inl rfl) W)).trans ?_
      cases neg <;> rfl
    · obtain ⟨t, b, v, rfl, -⟩ := h.inv_iface hw
      refine (eq_run W (by cases neg <;> rfl) (by cases neg <;> rfl) (equal_iface ty hd _ (.inr ⟨_, _, rfl⟩) W)).trans ?_
      cases neg <;> rfl
end
end Go.Proofs.YtpjhkpmmbeoghaaGreat.Ev

namespace Go.Proofs.YtpjhkpmmbeoghaaGreat.Ev
open Go
section
variable {P : Program} {call : CallT}
theorem bad_step {n : Nat} {E : Fr} {M nm I ni : Nat} {kf : KF} (h : stepK P call (.bad n) E M nm I ni kf = .ok) : False := by cases (show Res.bad 51 n = Res.ok from h)
theorem go_step {o : Oper} {a : Act} {c : Cf} {kf : KF} (hnd : ∀ c, o.op ≠ .defer c) (hs : StepOk P c kf (execOp a.eval o)) : OpGo P o a c kf := by
  intro F n hF
  obtain ⟨word, v, c', h1, h2, h3, h4, h5, h6⟩ := hs
  refine ⟨fun f _ => hF.1 f, ?_⟩
  rw [Oper.semAt_eq _ _ _ hnd]
  rcases h6 with h6 | ⟨h6, rfl⟩
  · rw [h6]; exact ⟨word, v, c', rfl, rfl, h1, h2, h3, h4, h5⟩
  · rw [h6]; exact ⟨word, undef, c', rfl, rfl, h1, h2, h3, h4, h5⟩
/-- a call, where it goes to function f -/
theorem go_call {o : Oper} {a : Act} {c c1 : Cf} {kf : KF} (hnd : ∀ c, o.op ≠ .defer c) {f : Nat} {ws : List Nat} {args : Array Value} (hr : HR c) (hx : Ext c c1) (hw : c1.w = c.w) (hr1 : HR c1) (hI1 : IB c1.I c1.ni) (hsz : args.size = ws.length)
    (hargs : ∀ i (h : i < ws.length) (h' : i < args.size), WR c1.f c1.I c1.ni ws[i] args[i]) (hc : CallSnd P call) (h : call f ws c1.M c1.nm c1.I c1.ni kf = .ok)
    (hrun : (∃ fn : Func, P.funcs[f]? = some fn ∧ fn.body.isSome = true) → (execOp a.eval o).run P c.w = .ok (.enter f args) c.w) : OpGo P o a c kf := by
  intro F n hF
  obtain ⟨hb, hcall⟩ := hc f ws c1 kf args h hr1 hI1 hsz hargs
  refine ⟨fun f _ => hF.1 f, ?_⟩
  rw [Oper.semAt_eq _ _ _ hnd, hrun hb]
  refine ⟨hF.one, CallsIn.mono (hw ▸ hcall F (n - 1) hF) fun e w' hp => ?_⟩
  obtain ⟨word, v, c', rfl, rfl, h1, h2, h3, h4, h5⟩ := hp
  exact ⟨word, v, c', rfl, rfl, h1, h2, h3, hx.trans hr h4, h5⟩
/-- no function with a text is the one that counts goroutines -/
def NoNG (P : Program) : Prop := ∀ (f : Nat) (fn : Func), P.funcs[f]? = some fn → fn.body.isSome = true → (fn.name == "runtime.NumGoroutine") = false
theorem run_callFunc_at {f : Nat} {fn : Func} (h1 : P.funcs[f]? = some fn) (h2 : fn.body.isSome = true) (h3 : (fn.name == "runtime.NumGoroutine") = false) (args : Array Value) (W : World) : (callFunc f args).run P W = .ok (.enter f args) W := by
  have h4 : ¬ fn.body = none := by intro h; rw [h] at h2; cases h2
  have h5 : ¬ fn.name = "runtime.NumGoroutine" := by simpa using h3
  simp [callFunc, h1, h5, h4]
theorem run_callFunc' (hng : NoNG P) {f : Nat} (h : ∃ fn : Func, P.funcs[f]? = some fn ∧ fn.body.isSome = true) (args : Array Value) (W : World) : (callFunc f args).run P W = .ok (.enter f args) W := by
  obtain ⟨fn, h1, h2⟩ := h
  exact run_callFunc_at h1 h2 (hng f fn h1 h2) args W
theorem args_ok {f : Nat → Option FB} {I ni : Nat} {a : Act} {ws : List Nat} {xs : Array Operand} (hl : ws.length = xs.toList.length) (h : ∀ i (h : i < ws.length) (h' : i < xs.toList.length), WR f I ni ws[i] (a.eval xs.toList[i])) :
    (xs.map a.eval).size = ws.length ∧ ∀ i (h : i < ws.length) (h' : i < (xs.map a.eval).size), WR f I ni ws[i] (xs.map a.eval)[i] := by
  refine ⟨by simp [hl], fun i h1 h2 => ?_⟩
  have := h i h1 (by omega)
  simpa using this
theorem wordsOf_ok (I : Nat) : ∀ n b, (wordsOf I b n).length = n ∧ ∀ i (h : i < (wordsOf I b n).length), (wordsOf I b n)[i] = cellAt I (b + i)
  | 0, b => ⟨rfl, fun i h => absurd h (Nat.not_lt_zero i)⟩
  | n + 1, b => by
    obtain ⟨h1, h2⟩ := wordsOf_ok I n (b + 1)
    have e : wordsOf I b (n + 1) = cellAt I b :: wordsOf I (b + 1) n := rfl
    rw [e]
    refine ⟨by simp [h1], fun i h => ?_⟩
    cases i with
    | zero => rfl
    | succ i =>
      simp only [List.getElem_cons_succ]
      rw [h2 i (by simpa using h), show b + 1 + i = b + (i + 1) by omega]
theorem methOf_ok {name : String} {t : TypeId} {f : Nat} (h : methOf P name t = some f) : (∃ fn : Func, P.funcs[f]? = some fn ∧ fn.body.isSome = true ∧ (fn.name == "runtime.NumGoroutine") = false) ∧ ∀ (n : Nat) (v : Value) (W : World), (method (n + 1) t v name).run P W = .ok (f, v) W := by
  unfold methOf at h
  split at h
  case h_2 => cases h
  rename_i e i hu hi
  split at h
  case h_2 => cases h
  rename_i m hm
  split at h
  case h_2 => cases h
  rename_i g hp hf
  split at h
  case h_2 => cases h
  rename_i fn hfn
  split at h
  case isFalse => cases h
  rename_i hc
  cases h
  simp only [Bool.and_eq_true, bne_iff_ne, ne_eq] at hc
  refine ⟨⟨fn, hfn, hc.1, by simpa using hc.2⟩, fun n v W => ?_⟩
  have hm' : i.methods.find? (fun x => x.name == name) = some m := hm
  simp [method, typeInfo, hi, hm', hp, hf, follow, receiverAt, run_underlying hu, Place.get]
theorem callS_ok (hc : CallSnd P call) {o : Oper} {a : Act} {c : Cf} {E : Fr} {kf : KF} {cl : Call} {f : Nat} {fn : Func} (ho : o.op = .call cl) (hcl : cl.callee = .value (.func f)) (hf : P.funcs[f]? = some fn) (hb : fn.body.isSome = true) (hn : (fn.name == "runtime.NumGoroutine") = false)
    (h : callS call f (cl.args.toList.map lowOpd) E c.M c.nm c.I c.ni kf = .ok) (hx : ∀ x ∈ cl.args.toList, OpR c.f c.I c.ni E a x) (hr : HR c) (hI : IB c.I c.ni) : OpGo P o a c kf := by
  obtain ⟨ws, I', n', h1, h2, hl, h3⟩ := opdsK_ok h hx hI
  obtain ⟨q1, q2⟩ := args_ok hl h3
  refine go_call (c1 := { c with I := I', ni := n' }) (fun c hc => by rw [ho] at hc; cases hc) hr (Ext.growI h2.ext) rfl (hr.growI h2.ext h2.lt.1) h2.lt q1 q2 hc h1 fun _ => ?_
  simp [execOp, ho, resolve, hcl, Deferred.ofValue, Act.eval, invoke, run_callFunc_at hf hb hn]
theorem callvS_ok (hng : NoNG P) (hc : CallSnd P call) {o : Oper} {a : Act} {c : Cf} {E : Fr} {kf : KF} {cl : Call} {x : Operand} (ho : o.op = .call cl) (hcl : cl.callee = .value x)
    (h : callvS call (lowOpd x) (cl.args.toList.map lowOpd) E c.M c.nm c.I c.ni kf = .ok) (hx0 : OpR c.f c.I c.ni E a x) (hx : ∀ x ∈ cl.args.toList, OpR c.f c.I c.ni E a x) (hr : HR c) (hI : IB c.I c.ni) : OpGo P o a c kf := by
  obtain ⟨w, I1, n1, h, i1, r1⟩ := opdK_ok h hx0 hI
  obtain ⟨t1, h⟩ := iff_bad h
  obtain ⟨ws, I', n', h1, h2, hl, h3⟩ := opdsK_ok h (fun y hy => (hx y hy).mono (.refl _) i1.ext) i1.lt
  have r1 := r1.mono (.refl _) h2.ext
  obtain ⟨q1, q2⟩ := args_ok hl h3
  obtain ⟨fn, b, n, cs, e1, hn, hn2, hfn, hb, hbi, hv, hw⟩ := r1.inv_func (tg_ok t1)
  have f1 : Nat.mod (Nat.div w 32) 1048576 = fn := by show (w / 32) % 1048576 = _; omega
  have f2 : Nat.mod (Nat.div w 33554432) 16777216 = b := by show (w / 33554432) % 16777216 = _; omega
  have f3 : Nat.div w 562949953421312 = n := by show w / 562949953421312 = _; omega
  rw [f1, f2, f3] at h1
  obtain ⟨g1, g2⟩ := wordsOf_ok I' n b
  have h1 : call fn (ws ++ wordsOf I' b n) c.M c.nm I' n' kf = .ok := h1
  refine go_call (c1 := { c with I := I', ni := n' }) (args := cl.args.map a.eval ++ cs) (fun c hc => by rw [ho] at hc; cases hc) hr (Ext.growI (i1.trans h2).ext) rfl (hr.growI (i1.trans h2).ext h2.lt.1) h2.lt (by simp only [Array.size_append, List.length_append]; omega) (fun i k1 k2 => ?_) hc h1 fun hbody => ?_
  · by_cases hi : i < ws.length
    · rw [List.getElem_append_left hi, Array.getElem_append_left (by omega)]
      exact q2 i hi (by omega)
    · have hi' : i - ws.length < n := by simp only [List.length_append, g1] at k1; omega
      rw [List.getElem_append_right (by omega), g2, Array.getElem_append_right (by omega)]
      have := hv (i - ws.length) (by omega)
      simpa only [q1] using this
  · simp [execOp, ho, resolve, hcl, Deferred.ofValue, e1, invoke, run_callFunc' hng hbody]
theorem invS_ok (hc : CallSnd P call) {o : Oper} {a : Act} {c : Cf} {E : Fr} {kf : KF} {cl : Call} {x : Operand} {name : String} (ho : o.op = .call cl) (hcl : cl.callee = .invoke x name)
    (h : invS P call name (lowOpd x) (cl.args.toList.map lowOpd) E c.M c.nm c.I c.ni kf = .ok) (hx0 : OpR c.f c.I c.ni E a x) (hx : ∀ x ∈ cl.args.toList, OpR c.f c.I c.ni E a x) (hr : HR c) (hI : IB c.I c.ni) : OpGo P o a c kf := by
  obtain ⟨w, I1, n1, h, i1, r1⟩ := opdK_ok h hx0 hI
  obtain ⟨t1, h⟩ := iff_bad h
  obtain ⟨ws, I', n', h1, h2, hl, h3⟩ := opdsK_ok h (fun y hy => (hx y hy).mono (.refl _) i1.ext) i1.lt
  have r1 := r1.mono (.refl _) h2.ext
  obtain ⟨q1, q2⟩ := args_ok hl h3
  obtain ⟨t, b, v, e1, ht, hb, hbi, hv, hw⟩ := r1.inv_iface (tg_ok t1)
  have f1 : Nat.mod (Nat.div w 32) 1048576 = t := by show (w / 32) % 1048576 = _; omega
  have f2 : Nat.div w 33554432 = b := by show w / 33554432 = _; omega
  rw [f1, f2] at h1
  cases hm : methOf P name t with
  | none => rw [hm] at h1; cases h1
  | some f =>
    rw [hm] at h1
    have h1 : call f (cellAt I' b :: ws) c.M c.nm I' n' kf = .ok := h1
    obtain ⟨⟨fn, hfn, hbody, hn⟩, hmeth⟩ := methOf_ok hm
    refine go_call (c1 := { c with I := I', ni := n' }) (args := #[v] ++ cl.args.map a.eval) (fun c hc => by rw [ho] at hc; cases hc) hr (Ext.growI (i1.trans h2).ext) rfl (hr.growI (i1.trans h2).ext h2.lt.1) h2.lt (by simp only [Array.size_append, List.length_cons, List.size_toArray, List.length_nil]; omega) (fun i k1 k2 => ?_) hc h1 fun _ => ?_
    · cases i with
      | zero => simpa using hv
      | succ i =>
        have := q2 i (by simpa using k1) (by simp only [List.length_cons] at k1; omega)
        rw [Array.getElem_append_right (by simp)]
        simpa using this
    · have h5 : ∀ W, (method (P.types.size + Made.depth) t v name).run P W = .ok (f, v) W := fun W => hmeth (P.types.size + 99) v W
      have h7 : (#[Value.iface t v] ++ cl.args.map a.eval)[0]? = some (.iface t v) := by rw [Array.getElem?_append_left (by simp)]; rfl
      have h8 : (Array.map a.eval cl.args).extract 0 cl.args.size = cl.args.map a.eval := by
        apply Array.ext
        · simp
        · intro i q3 q4; simp
      simp [execOp, ho, resolve, hcl, invoke, e1, h7, callMethod, h5, h8, run_callFunc_at hfn hbody hn]
end
end Go.Proofs.YtpjhkpmmbeoghaaGreat.Ev

namespace Go.Proofs.YtpjhkpmmbeoghaaGreat.Ev
open Go
section
variable {P : Program} {call : CallT}
theorem bin_eql {f : Nat → Option FB} {I ni : Nat} {E : Fr} {a : Act} {kv : KV} {t : Nat} {neg : Bool} {ty : TypeId} {x y : Operand} {k : IntKind} (ht : t = tagI k) (h : ieqK t neg (lowOpd x) (lowOpd y) E I ni kv = .ok) (hx : OpR f I ni E a x) (hy : OpR f I ni E a y) (hI : IB I ni) :
    PureOk P f I ni kv (do let v ← (do eqGuard (if neg then .neq else .eql) ty x y (a.eval x) (a.eval y); binOp (if neg then .neq else .eql) ty (a.eval x) (a.eval y)); pure (.value v)) := by
  subst ht
  have := tagI_lt k
  exact binGuard (ieqK_guard (by omega) h hx hy hI) (ieqK_int ty h hx hy hI)
theorem lowBin_pure {op : BinOp} {t yt : TypeId} {x y : Operand} {c : Cf} {E : Fr} {a : Act} {kf : KF} (h : stepK P call (lowBin P op t x y yt) E c.M c.nm c.I c.ni kf = .ok) (hx : OpR c.f c.I c.ni E a x) (hy : OpR c.f c.I c.ni E a y) (hI : IB c.I c.ni) :
    PureOk P c.f c.I c.ni (fun w I ni => kf w c.M c.nm I ni) (do let v ← (do eqGuard op t x y (a.eval x) (a.eval y); binOp op t (a.eval x) (a.eval y)); pure (.value v)) := by
  unfold lowBin at h
  have opg : ∀ {k : Fr → Nat → Nat → KV → Res}, op ≠ .eql → op ≠ .neq → (k E c.I c.ni (fun w I ni => kf w c.M c.nm I ni) = .ok → PureOk P c.f c.I c.ni (fun w I ni => kf w c.M c.nm I ni) (do let v ← binOp op t (a.eval x) (a.eval y); pure (.value v))) → k E c.I c.ni (fun w I ni => kf w c.M c.nm I ni) = .ok →
      PureOk P c.f c.I c.ni (fun w I ni => kf w c.M c.nm I ni) (do let v ← (do eqGuard op t x y (a.eval x) (a.eval y); binOp op t (a.eval x) (a.eval y)); pure (.value v)) := fun h1 h2 h3 h4 =>
    binGuard (guard_op h1 h2 t x y _ _) (h3 h4)
  cases hu : P.underlying t with
  | none => simp only [hu] at h; exact (bad_step h).elim
  | some d =>
    simp only [hu] at h
    cases d
    case int k =>
      cases op
      case add => cases k <;> first | exact opg (k := iopK .add _ _ _) (by decide) (by decide) (fun h => iopK_ok h hx hy hI) h | exact opg (k := fun E I ni kv => op2 (lowOpd x) (lowOpd y) E I ni fun wx wy I ni => add64 wx wy I ni kv) (by decide) (by decide) (fun h => addS_ok h hx hy hI) h
      case sub => cases k <;> first | exact opg (k := iopK .sub _ _ _) (by decide) (by decide) (fun h => iopK_ok h hx hy hI) h | exact opg (k := fun E I ni kv => op2 (lowOpd x) (lowOpd y) E I ni fun wx wy I ni => sub64 wx wy I ni kv) (by decide) (by decide) (fun h => subS_ok h hx hy hI) h
      case eql => exact bin_eql (neg := false) rfl h hx hy hI
      case neq => exact bin_eql (neg := true) rfl h hx hy hI
      case lss => exact opg (k := iltK (tagI k) false (lowOpd x) (lowOpd y)) (by decide) (by decide) (fun h => iltK_int (sw := false) rfl t h hx hy hI) h
      case gtr => exact opg (k := iltK (tagI k) false (lowOpd y) (lowOpd x)) (by decide) (by decide) (fun h => iltK_int (sw := true) rfl t h hx hy hI) h
      case leq => exact opg (k := iltK (tagI k) true (lowOpd y) (lowOpd x)) (by decide) (by decide) (fun h => iltK_int (sw := true) rfl t h hx hy hI) h
      case geq => exact opg (k := iltK (tagI k) true (lowOpd x) (lowOpd y)) (by decide) (by decide) (fun h => iltK_int (sw := false) rfl t h hx hy hI) h
      case shl =>
        simp only at h
        split at h
        · exact opg (k := shfK .shl _ _ _ _) (by decide) (by decide) (fun h => shfK_ok h hx hy hI) h
        · exact (bad_step h).elim
      case shr =>
        simp only at h
        split at h
        · exact opg (k := shfK .shr _ _ _ _) (by decide) (by decide) (fun h => shfK_ok h hx hy hI) h
        · exact (bad_step h).elim
      all_goals exact opg (k := iopK _ k _ _) (by decide) (by decide) (fun h => iopK_ok h hx hy hI) h
    case bool =>
      cases op
      case eql => exact binGuard (ieqK_guard (neg := false) (by decide) h hx hy hI) (ieqK_bool (neg := false) hu h hx hy hI)
      case neq => exact binGuard (ieqK_guard (neg := true) (by decide) h hx hy hI) (ieqK_bool (neg := true) hu h hx hy hI)
      all_goals exact (bad_step h).elim
    case string =>
      cases op
      case eql => exact binGuard (seqK_guard (neg := false) h hx hy hI) (seqK_ok (neg := false) t h hx hy hI)
      case neq => exact binGuard (seqK_guard (neg := true) h hx hy hI) (seqK_ok (neg := true) t h hx hy hI)
      all_goals exact (bad_step h).elim
    all_goals
      simp only at h
      split at h
      · rename_i z tt hn
        obtain ⟨n1, n2⟩ := nil_run (a := a) (x := x) (neg := false) hu hn
        exact nilqK_ok (neg := false) h hx hI n1 n2
      · rename_i z tt hn
        obtain ⟨n1, n2⟩ := nil_run (a := a) (x := x) (neg := true) hu hn
        exact nilqK_ok (neg := true) h hx hI n1 n2
      · first
        | exact (bad_step h).elim
        | (split at h
           · rename_i hs
             unfold szOf at hs
             simp only [Option.map_eq_some_iff] at hs
             obtain ⟨ie, hie, hsz⟩ := hs
             exact peqK_ok (neg := false) hu hie (by omega) h hx hy hI
           · exact (bad_step h).elim)
      · first
        | exact (bad_step h).elim
        | (split at h
           · rename_i hs
             unfold szOf at hs
             simp only [Option.map_eq_some_iff] at hs
             obtain ⟨ie, hie, hsz⟩ := hs
             exact peqK_ok (neg := true) hu hie (by omega) h hx hy hI
           · exact (bad_step h).elim)
      · exact (bad_step h).elim
theorem lowBin_ok {op : BinOp} {t yt : TypeId} {x y : Operand} {c : Cf} {E : Fr} {a : Act} {kf : KF} (h : stepK P call (lowBin P op t x y yt) E c.M c.nm c.I c.ni kf = .ok) (hx : OpR c.f c.I c.ni E a x) (hy : OpR c.f c.I c.ni E a y) (hr : HR c) (hI : IB c.I c.ni) :
    StepOk P c kf (do let v ← (do eqGuard op t x y (a.eval x) (a.eval y); binOp op t (a.eval x) (a.eval y)); pure (.value v)) := PureOk.step hr (lowBin_pure h hx hy hI)
end
end Go.Proofs.YtpjhkpmmbeoghaaGreat.Ev

namespace Go.Proofs.YtpjhkpmmbeoghaaGreat.Ev
open Go
section
variable {P : Program} {call : CallT}
theorem szOf_ok {t : TypeId} {n : Nat} (h : szOf P t = some n) : ∃ ie, P.info? t = some ie ∧ ie.size = n := by
  unfold szOf at h
  simpa only [Option.map_eq_some_iff] using h
theorem keyKind_ok {t : TypeId} {q : KK} (h : keyKind P t = some q) : KType P t q := by
  unfold keyKind at h
  split at h
  · rename_i k hk; cases h; exact .inr ⟨k, hk, rfl⟩
  · rename_i hk; cases h; exact .inl ⟨hk, rfl⟩
  · rename_i hk; cases h; exact hk
  · rename_i n e hk
    split at h
    · rename_i k hk2 hs
      cases h
      obtain ⟨ie, h1, h2⟩ := szOf_ok hs
      exact ⟨e, k, ie, hk, hk2, rfl, h1, h2⟩
    · cases h
  · cases h
theorem opr2 {Q : Operand → Prop} {x y : Operand} (h : ∀ z ∈ (#[x, y] : Array Operand), Q z) : Q x ∧ Q y := ⟨h x (by simp), h y (by simp)⟩
theorem opr3 {Q : Operand → Prop} {x y u : Operand} (h : ∀ z ∈ (#[x, y, u] : Array Operand), Q z) : Q x ∧ Q y ∧ Q u := ⟨h x (by simp), h y (by simp), h u (by simp)⟩
theorem opr1 {Q : Operand → Prop} {x : Operand} (h : ∀ z ∈ (#[x] : Array Operand), Q z) : Q x := h x (by simp)
theorem builtin_ok {o : Oper} {cl : Call} {b : Builtin} {c : Cf} {E : Fr} {a : Act} {kf : KF} (ho : o.op = .call cl) (hcl : cl.callee = .builtin b) (h : stepK P call (lowCall P o cl) E c.M c.nm c.I c.ni kf = .ok) (hx : ∀ x ∈ cl.args.toList, OpR c.f c.I c.ni E a x) (hr : HR c) (hI : IB c.I c.ni) :
    StepOk P c kf (execOp a.eval o) := by
  obtain ⟨callee, args, ats⟩ := cl
  simp only at hcl hx
  subst hcl
  obtain ⟨args⟩ := args
  obtain ⟨ats⟩ := ats
  have hm : Array.map a.eval (Array.mk args) = Array.mk (args.map a.eval) := List.map_toArray ..
  obtain ⟨cn, hex⟩ : ∃ cn, execOp a.eval o = builtin b ⟨ats⟩ o.type cn ⟨args.map a.eval⟩ := by
    rw [← hm]
    simp only [execOp, ho, resolve, invoke]
    exact ⟨_, rfl⟩
  rw [hex]
  unfold lowCall at h
  simp only at h hx
  split at h
  · rename_i x t
    have hx0 := hx x (by simp)
    split at h
    · rename_i e ht; exact PureOk.step hr (lenSK_ok (P := P) ht h hx0 hI)
    · rename_i ht; exact PureOk.step hr (lenTK_ok (P := P) ht h hx0 hI)
    · exact (bad_step h).elim
  · rename_i x y t u
    have hx0 := hx x (by simp)
    have hy0 := hx y (by simp)
    split at h
    · rename_i htu
      subst htu
      split at h
      · rename_i e ht
        split at h
        · rename_i ie s r hie hz
          split at h
          · rename_i hcond
            obtain ⟨k1, k2, k3, k4⟩ := hcond
            exact appK_ok (P := P) hr ht hie hz k1 k2 k3 k4 h hx0 hy0 hI
          · exact (bad_step h).elim
        · exact (bad_step h).elim
      · exact (bad_step h).elim
    · split at h
      · rename_i e ht hu
        split at h
        · rename_i ie hie
          split at h
          · rename_i hz
            split at h
            · rename_i hcond
              exact appTK_ok (P := P) hr ht hu hie hz hcond.1 hcond.2 h hx0 hy0 hI
            · exact (bad_step h).elim
          · exact (bad_step h).elim
        · exact (bad_step h).elim
      · exact (bad_step h).elim
  · rename_i x y t u
    have hx0 := hx x (by simp)
    have hy0 := hx y (by simp)
    split at h
    · rename_i e e' ht hu
      split at h
      · rename_i n hs
        obtain ⟨ie, hie, rfl⟩ := szOf_ok hs
        split at h
        · exact (bad_step h).elim
        · exact copyK_ok (P := P) hr ht hie h hx0 hy0 hI
      · exact (bad_step h).elim
    · exact (bad_step h).elim
  · rename_i x t
    have hx0 := hx x (by simp)
    split at h
    · rename_i e ht
      split at h
      · rename_i s r hz
        split at h
        · exact (bad_step h).elim
        · exact clearK_ok (P := P) hr ht hz (by omega) h hx0 hI
      · exact (bad_step h).elim
    · exact (bad_step h).elim
  · rename_i ts x y
    have hx0 := hx x (by simp)
    have hy0 := hx y (by simp)
    split at h
    · rename_i k ht
      exact PureOk.step hr (minK_ok (P := P) (mx := false) (ts := ⟨ats⟩) (t := o.type) h hx0 hy0 hI)
    · exact (bad_step h).elim
  · rename_i ts x y
    have hx0 := hx x (by simp)
    have hy0 := hx y (by simp)
    split at h
    · rename_i k ht
      exact PureOk.step hr (minK_ok (P := P) (mx := true) (ts := ⟨ats⟩) (t := o.type) h hx0 hy0 hI)
    · exact (bad_step h).elim
  · exact (bad_step h).elim
end
end Go.Proofs.YtpjhkpmmbeoghaaGreat.Ev

namespace Go.Proofs.YtpjhkpmmbeoghaaGreat.Ev
open Go
section
variable {P : Program} {call : CallT}
theorem parts_map (ps : Array (Nat × Operand)) (ρ : Operand → Value) : ps.map (fun (i, x) => (i, ρ x)) = (ps.toList.map fun p => (p.1, ρ p.2)).toArray := by
  apply Array.ext'
  simp
theorem op_ok (hng : NoNG P) (hc : CallSnd P call) : OpSnd P call := by
  intro o a c E kf h hx hr hI
  obtain ⟨dst, op, ty, pos, after, guard⟩ := o
  unfold lowOp at h
  cases op
  case move x => exact go_step (by simp) (PureOk.step hr (movK_ok (P := P) h (opr1 hx) hI))
  case assign x => exact go_step (by simp) (PureOk.step hr (movK_ok (P := P) h (opr1 hx) hI))
  case pick x y z => exact go_step (by simp) (PureOk.step hr (pickK_ok (P := P) h (opr3 hx).1 (opr3 hx).2.1 (opr3 hx).2.2 hI))
  case alloc t =>
    simp only at h
    split at h
    · rename_i n r hz; exact go_step (by simp) (allocVar_ok (P := P) hr hz h hI)
    · exact (bad_step h).elim
  case box t x =>
    simp only at h
    split at h
    · exact go_step (by simp) (boxK_ok (P := P) hr h (opr1 hx) hI)
    · exact (bad_step h).elim
  case build t ps =>
    simp only at h
    split at h
    · rename_i n r pl hz hp
      split at h
      · rename_i l hl
        refine go_step (by simp) ?_
        have := PureOk.step hr (buildK_ok (P := P) (a := a) (f := c.f) hz hp hl h (fun p hp => hx p.2 (by simp [Op.operands]; exact ⟨p.1, by simpa using hp⟩)) hI)
        rw [← parts_map] at this
        exact this
      · exact (bad_step h).elim
    · exact (bad_step h).elim
  case buildSlice t len ps =>
    simp only at h
    split at h
    · rename_i e ht
      split at h
      · rename_i ie s r hie hz
        split at h
        · rename_i hcond
          obtain ⟨k1, k2, k3, k4⟩ := hcond
          split at h
          · rename_i l hl
            refine go_step (by simp) ?_
            have := bldSK_ok (P := P) (a := a) hr ht hie hz k1 k2 k3 k4 hl h (fun p hp => hx p.2 (by simp [Op.operands]; exact ⟨p.1, by simpa using hp⟩)) hI
            rw [← parts_map] at this
            exact this
          · exact (bad_step h).elim
        · exact (bad_step h).elim
      · exact (bad_step h).elim
    · exact (bad_step h).elim
  case load t x =>
    simp only at h
    split at h
    · rename_i d hd
      split at h
      · rename_i hagg
        split at h
        · rename_i n hs
          obtain ⟨ie, hie, rfl⟩ := szOf_ok hs
          exact go_step (by simp) (ReadOk.step hr (loadNK_ok (P := P) hr hd hagg hie h (opr1 hx) hI))
        · exact (bad_step h).elim
      · rename_i hagg
        exact go_step (by simp) (ReadOk.step hr (load1K_ok (P := P) hr hd (by simpa using hagg) h (opr1 hx) hI))
    · exact (bad_step h).elim
  case store t x v =>
    simp only at h
    split at h
    · rename_i n hs
      obtain ⟨ie, hie, rfl⟩ := szOf_ok hs
      exact go_step (by simp) (storeK_ok (P := P) hr hie h (opr2 hx).1 (opr2 hx).2 hI)
    · exact (bad_step h).elim
  case nilCheck x => exact go_step (by simp) (PureOk.step hr (nilcK_ok (P := P) h (opr1 hx) hI _ rfl))
  case binOp op t x y yt => exact go_step (by simp) (lowBin_ok h (opr2 hx).1 (opr2 hx).2 hr hI)
  case unOp op t x =>
    simp only at h
    split at h
    · exact go_step (by simp) (PureOk.step hr (notK_ok (P := P) h (opr1 hx) hI))
    · split at h
      · exact go_step (by simp) (PureOk.step hr (negK_ok (P := P) h (opr1 hx) hI))
      · exact (bad_step h).elim
    · exact (bad_step h).elim
  case convert s d x =>
    simp only at h
    split at h
    · rename_i ks k hs hd
      exact go_step (by simp) (PureOk.step hr (convK_ok (P := P) hs hd h (opr1 hx) hI))
    · rename_i e hs hd
      split at h
      · rename_i he
        exact go_step (by simp) (ReadOk.step hr (strOfK_ok (P := P) hr hs he hd h (opr1 hx) hI))
      · exact (bad_step h).elim
    · rename_i e hs hd
      split at h
      · rename_i he
        exact go_step (by simp) (toBytesK_ok (P := P) hr hs hd he h (opr1 hx) hI)
      · exact (bad_step h).elim
    · exact (bad_step h).elim
  case makeInterface t x =>
    simp only at h
    split at h
    · exact (bad_step h).elim
    · rename_i d hne hd
      exact go_step (by simp) (PureOk.step hr (mkiK_ok (P := P) hd (fun ms e => hne ms e) h (opr1 hx) hI))
    · exact (bad_step h).elim
  case makeFunc fn first captured =>
    cases fn
    case func f =>
      simp only at h
      split at h
      · rename_i hf
        refine go_step (by simp) ?_
        have hf' : first = #[] := by
          obtain ⟨first⟩ := first
          cases first with
          | nil => rfl
          | cons x l => simp at hf
        subst hf'
        have := PureOk.step hr (mkfK_ok (P := P) (a := a) (f := c.f) h (fun y hy => hx y (by simp [Op.operands]; exact Array.mem_toList_iff.1 hy)) hI)
        have e : (captured.toList.map a.eval).toArray = captured.map a.eval := by apply Array.ext'; simp
        rw [e] at this
        have e0 : Array.map a.eval (#[] : Array Operand) = #[] := by simp
        show StepOk P c kf (do let v ← Instr.makeFunc (.func f) (Array.map a.eval #[]) (captured.map a.eval); pure (.value v))
        rw [e0]
        exact this
      · exact (bad_step h).elim
    all_goals exact (bad_step h).elim
  case makeSlice t l cc =>
    simp only at h
    split at h
    · rename_i e ht
      split at h
      · rename_i ie s r hie hz
        split at h
        · rename_i hcond
          obtain ⟨k1, k2, k3, k4⟩ := hcond
          exact go_step (by simp) (mkSlK_ok (P := P) hr ht hie hz k1 k2 k3 k4 h (opr2 hx).1 (opr2 hx).2 hI)
        · exact (bad_step h).elim
      · exact (bad_step h).elim
    · exact (bad_step h).elim
  case slice t x lo hi mx =>
    have hx0 : OpR c.f c.I c.ni E a x := hx x (by simp [Op.operands])
    have hlo : ∀ y, lo = some y → OpR c.f c.I c.ni E a y := fun y hy => hx y (by subst hy; simp [Op.operands])
    have hhi : ∀ y, hi = some y → OpR c.f c.I c.ni E a y := fun y hy => hx y (by subst hy; simp [Op.operands])
    have hmx : ∀ y, mx = some y → OpR c.f c.I c.ni E a y := fun y hy => hx y (by subst hy; simp [Op.operands])
    simp only at h
    split at h
    · rename_i e ht
      split at h
      · rename_i ie hie
        split at h
        · exact (bad_step h).elim
        · rename_i hno
          exact go_step (by simp) (PureOk.step hr (slcK_ok (P := P) ht hie (by intro h1; cases hi <;> simp_all) h hx0 hlo hhi hmx hI))
      · exact (bad_step h).elim
    · rename_i n e ht
      split at h
      · rename_i sz hs
        obtain ⟨ie, hie, rfl⟩ := szOf_ok hs
        split at h
        · exact (bad_step h).elim
        · rename_i hno
          split at h
          · rename_i hlt
            have hmn : mx = none := by cases mx <;> simp_all
            subst hmn
            exact go_step (by simp) (PureOk.step hr (slpK_ok (P := P) ht hie hlt h hx0 hlo hhi hI))
          · exact (bad_step h).elim
      · exact (bad_step h).elim
    · exact (bad_step h).elim
  case fieldAddr s x j =>
    simp only at h
    split at h
    · rename_i fields ht
      split at h
      · rename_i fi hj
        split at h
        · rename_i n hs
          obtain ⟨ie, hie, rfl⟩ := szOf_ok hs
          split at h
          · exact (bad_step h).elim
          · rename_i hz
            exact go_step (by simp) (PureOk.step hr (fadrK_ok (P := P) ht hj hie hz h (opr1 hx) hI))
        · exact (bad_step h).elim
      · exact (bad_step h).elim
    · exact (bad_step h).elim
  case field s x j =>
    simp only at h
    split at h
    · rename_i fields ht
      split at h
      · rename_i fi hj
        split at h
        · rename_i d hd
          split at h
          · rename_i hagg
            split at h
            · rename_i n hs
              obtain ⟨ie, hie, rfl⟩ := szOf_ok hs
              exact go_step (by simp) (PureOk.step hr (fldNK_ok (P := P) ht hj hd hagg hie h (opr1 hx) hI))
            · exact (bad_step h).elim
          · rename_i hagg
            exact go_step (by simp) (PureOk.step hr (fld1K_ok (P := P) ht hj hd (by simpa using hagg) h (opr1 hx) hI))
        · exact (bad_step h).elim
      · exact (bad_step h).elim
    · exact (bad_step h).elim
  case indexAddr t x i =>
    simp only at h
    split at h
    · rename_i e ht
      split at h
      · rename_i n hs
        obtain ⟨ie, hie, rfl⟩ := szOf_ok hs
        exact go_step (by simp) (PureOk.step hr (iadrSK_ok (P := P) ht hie h (opr2 hx).1 (opr2 hx).2 hI))
      · exact (bad_step h).elim
    · rename_i len e ht
      split at h
      · rename_i n hs
        obtain ⟨ie, hie, rfl⟩ := szOf_ok hs
        exact go_step (by simp) (PureOk.step hr (iadrAK_ok (P := P) ht hie h (opr2 hx).1 (opr2 hx).2 hI))
      · exact (bad_step h).elim
    · exact (bad_step h).elim
  case index t x i =>
    simp only at h
    split at h
    · rename_i len e ht
      split at h
      · rename_i d hs hd
        obtain ⟨ie, hie, hsz⟩ := szOf_ok hs
        split at h
        · exact (bad_step h).elim
        · rename_i hagg
          exact go_step (by simp) (PureOk.step hr (idx1K_ok (P := P) ht hie hsz hd (by simpa using hagg) h (opr2 hx).1 (opr2 hx).2 hI))
      · exact (bad_step h).elim
    · rename_i ht
      exact go_step (by simp) (PureOk.step hr (idxTK_ok (P := P) ht h (opr2 hx).1 (opr2 hx).2 hI))
    · exact (bad_step h).elim
  case makeMap t r =>
    simp only at h
    split at h
    · exact go_step (by simp) (mkMap_ok (P := P) hr hI h)
    · rename_i x k e ht
      exact go_step (by simp) (mkMapH_ok (P := P) hr ht h (hx x (by simp [Op.operands])) hI)
    · exact (bad_step h).elim
  case lookup t x i com =>
    simp only at h
    split at h
    · rename_i k e ht
      split at h
      · rename_i q agg n r hq hz
        exact go_step (by simp) (ReadOk.step hr (lookK_ok (P := P) hr ht (keyKind_ok hq) hz h (opr2 hx).1 (opr2 hx).2 hI))
      · exact (bad_step h).elim
    · exact (bad_step h).elim
  case mapUpdate t m k x =>
    simp only at h
    split at h
    · rename_i kt e ht
      split at h
      · rename_i q hq
        exact go_step (by simp) (updK_ok (P := P) hr ht (keyKind_ok hq) h (opr3 hx).1 (opr3 hx).2.1 (opr3 hx).2.2 hI)
      · exact (bad_step h).elim
    · exact (bad_step h).elim
  case insert t m k x =>
    simp only at h
    split at h
    · rename_i kt e ht
      split at h
      · rename_i q hq
        exact go_step (by simp) (updK_ok (P := P) hr ht (keyKind_ok hq) h (opr3 hx).1 (opr3 hx).2.1 (opr3 hx).2.2 hI)
      · exact (bad_step h).elim
    · exact (bad_step h).elim
  case extract x j => exact go_step (by simp) (PureOk.step hr (extK_ok (P := P) h (opr1 hx) hI))
  case call cl =>
    have hargs : ∀ x ∈ cl.args.toList, OpR c.f c.I c.ni E a x := fun x hm => hx x (by simp [Op.operands, Call.operands]; exact .inr (by simpa using hm))
    cases hcl : cl.callee with
    | builtin b => exact go_step (by simp) (builtin_ok (o := ⟨dst, .call cl, ty, pos, after, guard⟩) rfl hcl h hargs hr hI)
    | invoke x name =>
      have hx0 : OpR c.f c.I c.ni E a x := hx x (by simp [Op.operands, Call.operands, hcl])
      simp only [lowCall, hcl] at h
      exact invS_ok hc rfl hcl h hx0 hargs hr hI
    | value x =>
      have hx0 : OpR c.f c.I c.ni E a x := hx x (by simp [Op.operands, Call.operands, hcl])
      simp only [lowCall, hcl] at h
      split at h
      · rename_i f heq
        cases heq
        split at h
        · rename_i fn hfn
          split at h
          · rename_i hcond
            simp only [Bool.and_eq_true, bne_iff_ne, ne_eq] at hcond
            exact callS_ok hc rfl hcl hfn hcond.1 (by simpa using hcond.2) h hargs hr hI
          · exact (bad_step h).elim
        · exact (bad_step h).elim
      · rename_i x' hne heq
        cases heq
        exact callvS_ok hng hc rfl hcl h hx0 hargs hr hI
      · rename_i heq; cases heq
      · rename_i heq; cases heq
  all_goals exact (bad_step h).elim
end
end Go.Proofs.YtpjhkpmmbeoghaaGreat.Ev

namespace Go.Proofs.YtpjhkpmmbeoghaaGreat.Ev
open Go
section
variable {κ : Type} {L : (κ → Res) → Prop} {E : Fr} {M nm I ni : Nat}
theorem good_leaf {G : κ → Res} (h : L G) : Good L G := .inl h
theorem good_bad {m n : Nat} : Good L (fun _ => .bad m n) := .inr fun _ h => by cases h
theorem good_iff {b : Bool} {G H : κ → Res} (hG : Good L G) (hH : Good L H) : Good L (fun k => iff b (G k) (H k)) := by
  cases b
  · exact hH
  · exact hG
theorem good_grow {n r : Nat} {G : Nat → Nat → κ → Res} (h : ∀ I ni, Good L (G I ni)) : Good L (fun k => growK I ni n r fun I ni => G I ni k) := good_iff (h _ _) good_bad
theorem good_opd {x : Opd} {G : Nat → Nat → Nat → κ → Res} (h : ∀ w I ni, Good L (G w I ni)) : Good L (fun k => opdK x E I ni fun w I ni => G w I ni k) := by
  cases x with
  | s off => exact h _ _ _
  | k w => exact h _ _ _
  | str n x => exact good_grow fun _ _ => h _ _ _
  | agg n r => exact good_grow fun _ _ => h _ _ _
  | bad => exact good_bad
theorem good_op2 {x y : Opd} {G : Nat → Nat → Nat → Nat → κ → Res} (h : ∀ w w' I ni, Good L (G w w' I ni)) : Good L (fun k => op2 x y E I ni fun w w' I ni => G w w' I ni k) := good_opd fun _ _ _ => good_opd fun _ _ _ => h _ _ _ _
theorem good_opds {xs : List Opd} : ∀ {I ni : Nat} {G : List Nat → Nat → Nat → κ → Res}, (∀ w I ni, Good L (G w I ni)) → Good L (fun k => opdsK xs E I ni fun w I ni => G w I ni k) := by
  induction xs with
  | nil => exact fun h => h _ _ _
  | cons x xs ih => exact fun h => good_opd fun _ _ _ => ih fun _ _ _ => h _ _ _
theorem good_bool {b : Bool} {G : Nat → Nat → Nat → κ → Res} (h : ∀ w I ni, Good L (G w I ni)) : Good L (fun k => boolK b I ni fun w I ni => G w I ni k) := h _ _ _
theorem good_enc {kd : IntKind} {z : Int} {G : Nat → Nat → Nat → κ → Res} (h : ∀ w I ni, Good L (G w I ni)) : Good L (fun k => encK kd z I ni fun w I ni => G w I ni k) := good_iff (good_iff (h _ _ _) good_bad) good_bad
theorem good_optz {z : Option Int} {kd : IntKind} {G : Nat → Nat → Nat → κ → Res} (h : ∀ w I ni, Good L (G w I ni)) : Good L (fun k => optK z kd I ni fun w I ni => G w I ni k) := by
  cases z
  · exact good_bad
  · exact good_enc h
theorem good_nat {w : Nat} {G : Nat → κ → Res} (h : ∀ n, Good L (G n)) : Good L (fun k => natK w fun n => G n k) := by
  unfold natK
  repeat' first | exact h _ | exact good_bad | refine good_iff ?_ ?_
theorem good_bnd {x : Option Opd} {d : Nat} {G : Nat → Nat → Nat → κ → Res} (h : ∀ w I ni, Good L (G w I ni)) : Good L (fun k => bndK x d E I ni fun w I ni => G w I ni k) := by
  cases x
  · exact h _ _ _
  · exact good_opd fun _ _ _ => good_nat fun _ => h _ _ _
theorem good_part {sz w : Nat} {G : Nat → κ → Res} (h : ∀ n, Good L (G n)) : Good L (fun k => partK sz w I fun n => G n k) :=
  good_iff (good_iff (h _) good_bad) (good_iff (good_iff (good_iff (h _) good_bad) good_bad) good_bad)
theorem good_fill {n : Nat} {l : List (Nat × Nat × Opd)} : ∀ {I ni r : Nat} {G : Nat → Nat → Nat → κ → Res}, (∀ w I ni, Good L (G w I ni)) → Good L (fun k => fillK n l E I ni r fun w I ni => G w I ni k) := by
  induction l with
  | nil => exact fun h => h _ _ _
  | cons p l ih =>
    obtain ⟨off, sz, x⟩ := p
    exact fun h => good_opd fun _ _ _ => good_part fun _ => good_iff (ih h) good_bad
theorem good_in {b off n : Nat} {G : κ → Res} (h : Good L G) : Good L (fun k => inK M b off n (G k)) := good_iff (good_iff h good_bad) good_bad
theorem good_ptr {w : Nat} {G : κ → Res} (h : Good L G) : Good L (fun k => ptrIn w (G k)) := good_iff (good_iff h good_bad) good_bad
theorem good_ptrK {b off : Nat} {G : Nat → Nat → Nat → κ → Res} (h : ∀ w I ni, Good L (G w I ni)) : Good L (fun k => ptrK b off I ni fun w I ni => G w I ni k) := good_iff (h _ _ _) good_bad
theorem good_tags {t n : Nat} {G : κ → Res} (h : Good L G) : ∀ {b : Nat}, Good L (fun k => tagsK t I n b (G k)) := by
  induction n with
  | zero => exact h
  | succ n ih => exact good_iff ih good_bad
theorem good_keyTag {q : KK} {w : Nat} {G : κ → Res} (h : Good L G) : Good L (fun k => keyTag q I w (G k)) := by
  cases q with
  | word t => exact good_iff h good_bad
  | str => exact good_iff h good_bad
  | row n t => exact good_iff (good_iff (good_tags h) good_bad) good_bad
theorem good_find {q : KK} {key n : Nat} {G : Nat → κ → Res} {H : κ → Res} (hG : ∀ b, Good L (G b)) (hH : Good L H) : ∀ {b : Nat}, Good L (fun k => findK q I key n b (fun b => G b k) (H k)) := by
  induction n with
  | zero => exact hH
  | succ n ih => exact good_keyTag (good_iff (hG _) ih)
theorem good_mapIn {w : Nat} {G : Nat → Nat → κ → Res} (h : ∀ b n, Good L (G b n)) : Good L (fun k => mapIn M w fun b n => G b n k) := good_iff (h _ _) good_bad
theorem good_okK {com : Bool} {v yes : Nat} {G : Nat → Nat → Nat → κ → Res} (h : ∀ w I ni, Good L (G w I ni)) : Good L (fun k => okK com v yes I ni fun w I ni => G w I ni k) := by
  cases com
  · exact h _ _ _
  · exact good_grow fun _ _ => h _ _ _
theorem good_zer {agg : Bool} {n r : Nat} {G : Nat → Nat → Nat → κ → Res} (h : ∀ w I ni, Good L (G w I ni)) : Good L (fun k => zerK agg n r I ni fun w I ni => G w I ni k) := by
  cases agg
  · exact h _ _ _
  · exact good_grow fun _ _ => h _ _ _
theorem good_bytes {n : Nat} {G : Nat → κ → Res} (h : ∀ y, Good L (G y)) : ∀ {b acc : Nat}, Good L (fun k => bytesK M n b acc fun y => G y k) := by
  induction n with
  | zero => exact h _
  | succ n ih => exact good_iff ih good_bad
theorem good_alloc {n r : Nat} {G : Nat → Nat → Nat → κ → Res} (h : Good L (G (nm + 1) (addRow M nm (addRow (1 + 1024 * n) 1 r)) (nm + (1 + n)))) : Good L (fun k => allocK n r M nm fun b M nm => G b M nm k) := good_iff h good_bad
theorem good_orec {α : Type} {o : Option α} {G : κ → Res} {H : α → κ → Res} (hG : Good L G) (hH : ∀ a, Good L (H a)) : Good L (fun k => @Option.rec α (fun _ => Res) (G k) (fun a => H a k) o) := by
  cases o
  · exact hG
  · exact hH _
end
end Go.Proofs.YtpjhkpmmbeoghaaGreat.Ev

namespace Go.Proofs.YtpjhkpmmbeoghaaGreat.Ev
open Go
section
variable {P : Program} {call : CallT} {E : Fr} {M nm I ni : Nat}
theorem step_lin (hc : ∀ f ws M nm I ni, Lin (call f ws M nm I ni)) (i : In) : Lin (stepK P call i E M nm I ni) := by
  cases i
  case mov x =>
    show Good _ (fun kf : KF => (opdK x) E I ni fun w I ni => kf w M nm I ni)
    repeat' first
    | exact good_bad
    | refine good_leaf ⟨_, _, _, _, _, fun _ => rfl⟩
    | refine good_iff ?_ ?_ | refine good_op2 fun _ _ _ _ => ?_ | refine good_opd fun _ _ _ => ?_ | refine good_opds fun _ _ _ => ?_ | refine good_grow fun _ _ => ?_
    | refine good_bool fun _ _ _ => ?_ | refine good_enc fun _ _ _ => ?_ | refine good_optz fun _ _ _ => ?_ | refine good_nat fun _ => ?_ | refine good_bnd fun _ _ _ => ?_
    | refine good_part fun _ => ?_ | refine good_fill fun _ _ _ => ?_ | refine good_in ?_ | refine good_ptr ?_ | refine good_ptrK fun _ _ _ => ?_
    | refine good_keyTag ?_ | refine good_find (fun _ => ?_) ?_ | refine good_mapIn fun _ _ => ?_ | refine good_okK fun _ _ _ => ?_ | refine good_zer fun _ _ _ => ?_ | refine good_bytes fun _ => ?_ | refine good_alloc ?_ | refine good_orec ?_ fun _ => ?_
  case pick c a b =>
    show Good _ (fun kf : KF => (pickK c a b) E I ni fun w I ni => kf w M nm I ni)
    unfold pickK
    repeat' first
    | exact good_bad
    | refine good_leaf ⟨_, _, _, _, _, fun _ => rfl⟩
    | refine good_iff ?_ ?_ | refine good_op2 fun _ _ _ _ => ?_ | refine good_opd fun _ _ _ => ?_ | refine good_opds fun _ _ _ => ?_ | refine good_grow fun _ _ => ?_
    | refine good_bool fun _ _ _ => ?_ | refine good_enc fun _ _ _ => ?_ | refine good_optz fun _ _ _ => ?_ | refine good_nat fun _ => ?_ | refine good_bnd fun _ _ _ => ?_
    | refine good_part fun _ => ?_ | refine good_fill fun _ _ _ => ?_ | refine good_in ?_ | refine good_ptr ?_ | refine good_ptrK fun _ _ _ => ?_
    | refine good_keyTag ?_ | refine good_find (fun _ => ?_) ?_ | refine good_mapIn fun _ _ => ?_ | refine good_okK fun _ _ _ => ?_ | refine good_zer fun _ _ _ => ?_ | refine good_bytes fun _ => ?_ | refine good_alloc ?_ | refine good_orec ?_ fun _ => ?_
  case add x y =>
    show Good _ (fun kf : KF => op2 x y E I ni fun wx wy I ni => add64 wx wy I ni fun w I ni => kf w M nm I ni)
    refine good_op2 fun _ _ _ _ => ?_
    unfold add64
    exact good_iff (good_iff (good_leaf ⟨_, _, _, _, _, fun _ => rfl⟩) good_bad) good_bad
  case sub x y =>
    show Good _ (fun kf : KF => op2 x y E I ni fun wx wy I ni => sub64 wx wy I ni fun w I ni => kf w M nm I ni)
    refine good_op2 fun _ _ _ _ => ?_
    unfold sub64
    exact good_iff (good_iff (good_leaf ⟨_, _, _, _, _, fun _ => rfl⟩) good_bad) good_bad
  case iop op k x y =>
    show Good _ (fun kf : KF => (iopK op k x y) E I ni fun w I ni => kf w M nm I ni)
    unfold iopK
    repeat' first
    | exact good_bad
    | refine good_leaf ⟨_, _, _, _, _, fun _ => rfl⟩
    | refine good_iff ?_ ?_ | refine good_op2 fun _ _ _ _ => ?_ | refine good_opd fun _ _ _ => ?_ | refine good_opds fun _ _ _ => ?_ | refine good_grow fun _ _ => ?_
    | refine good_bool fun _ _ _ => ?_ | refine good_enc fun _ _ _ => ?_ | refine good_optz fun _ _ _ => ?_ | refine good_nat fun _ => ?_ | refine good_bnd fun _ _ _ => ?_
    | refine good_part fun _ => ?_ | refine good_fill fun _ _ _ => ?_ | refine good_in ?_ | refine good_ptr ?_ | refine good_ptrK fun _ _ _ => ?_
    | refine good_keyTag ?_ | refine good_find (fun _ => ?_) ?_ | refine good_mapIn fun _ _ => ?_ | refine good_okK fun _ _ _ => ?_ | refine good_zer fun _ _ _ => ?_ | refine good_bytes fun _ => ?_ | refine good_alloc ?_ | refine good_orec ?_ fun _ => ?_
  case shf op k yk x y =>
    show Good _ (fun kf : KF => (shfK op k yk x y) E I ni fun w I ni => kf w M nm I ni)
    unfold shfK
    repeat' first
    | exact good_bad
    | refine good_leaf ⟨_, _, _, _, _, fun _ => rfl⟩
    | refine good_iff ?_ ?_ | refine good_op2 fun _ _ _ _ => ?_ | refine good_opd fun _ _ _ => ?_ | refine good_opds fun _ _ _ => ?_ | refine good_grow fun _ _ => ?_
    | refine good_bool fun _ _ _ => ?_ | refine good_enc fun _ _ _ => ?_ | refine good_optz fun _ _ _ => ?_ | refine good_nat fun _ => ?_ | refine good_bnd fun _ _ _ => ?_
    | refine good_part fun _ => ?_ | refine good_fill fun _ _ _ => ?_ | refine good_in ?_ | refine good_ptr ?_ | refine good_ptrK fun _ _ _ => ?_
    | refine good_keyTag ?_ | refine good_find (fun _ => ?_) ?_ | refine good_mapIn fun _ _ => ?_ | refine good_okK fun _ _ _ => ?_ | refine good_zer fun _ _ _ => ?_ | refine good_bytes fun _ => ?_ | refine good_alloc ?_ | refine good_orec ?_ fun _ => ?_
  case ieq t neg x y =>
    show Good _ (fun kf : KF => (ieqK t neg x y) E I ni fun w I ni => kf w M nm I ni)
    unfold ieqK
    repeat' first
    | exact good_bad
    | refine good_leaf ⟨_, _, _, _, _, fun _ => rfl⟩
    | refine good_iff ?_ ?_ | refine good_op2 fun _ _ _ _ => ?_ | refine good_opd fun _ _ _ => ?_ | refine good_opds fun _ _ _ => ?_ | refine good_grow fun _ _ => ?_
    | refine good_bool fun _ _ _ => ?_ | refine good_enc fun _ _ _ => ?_ | refine good_optz fun _ _ _ => ?_ | refine good_nat fun _ => ?_ | refine good_bnd fun _ _ _ => ?_
    | refine good_part fun _ => ?_ | refine good_fill fun _ _ _ => ?_ | refine good_in ?_ | refine good_ptr ?_ | refine good_ptrK fun _ _ _ => ?_
    | refine good_keyTag ?_ | refine good_find (fun _ => ?_) ?_ | refine good_mapIn fun _ _ => ?_ | refine good_okK fun _ _ _ => ?_ | refine good_zer fun _ _ _ => ?_ | refine good_bytes fun _ => ?_ | refine good_alloc ?_ | refine good_orec ?_ fun _ => ?_
  case ilt t neg x y =>
    show Good _ (fun kf : KF => (iltK t neg x y) E I ni fun w I ni => kf w M nm I ni)
    unfold iltK
    repeat' first
    | exact good_bad
    | refine good_leaf ⟨_, _, _, _, _, fun _ => rfl⟩
    | refine good_iff ?_ ?_ | refine good_op2 fun _ _ _ _ => ?_ | refine good_opd fun _ _ _ => ?_ | refine good_opds fun _ _ _ => ?_ | refine good_grow fun _ _ => ?_
    | refine good_bool fun _ _ _ => ?_ | refine good_enc fun _ _ _ => ?_ | refine good_optz fun _ _ _ => ?_ | refine good_nat fun _ => ?_ | refine good_bnd fun _ _ _ => ?_
    | refine good_part fun _ => ?_ | refine good_fill fun _ _ _ => ?_ | refine good_in ?_ | refine good_ptr ?_ | refine good_ptrK fun _ _ _ => ?_
    | refine good_keyTag ?_ | refine good_find (fun _ => ?_) ?_ | refine good_mapIn fun _ _ => ?_ | refine good_okK fun _ _ _ => ?_ | refine good_zer fun _ _ _ => ?_ | refine good_bytes fun _ => ?_ | refine good_alloc ?_ | refine good_orec ?_ fun _ => ?_
  case seq neg x y =>
    show Good _ (fun kf : KF => (seqK neg x y) E I ni fun w I ni => kf w M nm I ni)
    unfold seqK
    repeat' first
    | exact good_bad
    | refine good_leaf ⟨_, _, _, _, _, fun _ => rfl⟩
    | refine good_iff ?_ ?_ | refine good_op2 fun _ _ _ _ => ?_ | refine good_opd fun _ _ _ => ?_ | refine good_opds fun _ _ _ => ?_ | refine good_grow fun _ _ => ?_
    | refine good_bool fun _ _ _ => ?_ | refine good_enc fun _ _ _ => ?_ | refine good_optz fun _ _ _ => ?_ | refine good_nat fun _ => ?_ | refine good_bnd fun _ _ _ => ?_
    | refine good_part fun _ => ?_ | refine good_fill fun _ _ _ => ?_ | refine good_in ?_ | refine good_ptr ?_ | refine good_ptrK fun _ _ _ => ?_
    | refine good_keyTag ?_ | refine good_find (fun _ => ?_) ?_ | refine good_mapIn fun _ _ => ?_ | refine good_okK fun _ _ _ => ?_ | refine good_zer fun _ _ _ => ?_ | refine good_bytes fun _ => ?_ | refine good_alloc ?_ | refine good_orec ?_ fun _ => ?_
  case nilq neg z t x =>
    show Good _ (fun kf : KF => (nilqK neg z t x) E I ni fun w I ni => kf w M nm I ni)
    unfold nilqK
    repeat' first
    | exact good_bad
    | refine good_leaf ⟨_, _, _, _, _, fun _ => rfl⟩
    | refine good_iff ?_ ?_ | refine good_op2 fun _ _ _ _ => ?_ | refine good_opd fun _ _ _ => ?_ | refine good_opds fun _ _ _ => ?_ | refine good_grow fun _ _ => ?_
    | refine good_bool fun _ _ _ => ?_ | refine good_enc fun _ _ _ => ?_ | refine good_optz fun _ _ _ => ?_ | refine good_nat fun _ => ?_ | refine good_bnd fun _ _ _ => ?_
    | refine good_part fun _ => ?_ | refine good_fill fun _ _ _ => ?_ | refine good_in ?_ | refine good_ptr ?_ | refine good_ptrK fun _ _ _ => ?_
    | refine good_keyTag ?_ | refine good_find (fun _ => ?_) ?_ | refine good_mapIn fun _ _ => ?_ | refine good_okK fun _ _ _ => ?_ | refine good_zer fun _ _ _ => ?_ | refine good_bytes fun _ => ?_ | refine good_alloc ?_ | refine good_orec ?_ fun _ => ?_
  case not x =>
    show Good _ (fun kf : KF => (notK x) E I ni fun w I ni => kf w M nm I ni)
    unfold notK
    repeat' first
    | exact good_bad
    | refine good_leaf ⟨_, _, _, _, _, fun _ => rfl⟩
    | refine good_iff ?_ ?_ | refine good_op2 fun _ _ _ _ => ?_ | refine good_opd fun _ _ _ => ?_ | refine good_opds fun _ _ _ => ?_ | refine good_grow fun _ _ => ?_
    | refine good_bool fun _ _ _ => ?_ | refine good_enc fun _ _ _ => ?_ | refine good_optz fun _ _ _ => ?_ | refine good_nat fun _ => ?_ | refine good_bnd fun _ _ _ => ?_
    | refine good_part fun _ => ?_ | refine good_fill fun _ _ _ => ?_ | refine good_in ?_ | refine good_ptr ?_ | refine good_ptrK fun _ _ _ => ?_
    | refine good_keyTag ?_ | refine good_find (fun _ => ?_) ?_ | refine good_mapIn fun _ _ => ?_ | refine good_okK fun _ _ _ => ?_ | refine good_zer fun _ _ _ => ?_ | refine good_bytes fun _ => ?_ | refine good_alloc ?_ | refine good_orec ?_ fun _ => ?_
  case neg k x =>
    show Good _ (fun kf : KF => (negK k x) E I ni fun w I ni => kf w M nm I ni)
    unfold negK
    repeat' first
    | exact good_bad
    | refine good_leaf ⟨_, _, _, _, _, fun _ => rfl⟩
    | refine good_iff ?_ ?_ | refine good_op2 fun _ _ _ _ => ?_ | refine good_opd fun _ _ _ => ?_ | refine good_opds fun _ _ _ => ?_ | refine good_grow fun _ _ => ?_
    | refine good_bool fun _ _ _ => ?_ | refine good_enc fun _ _ _ => ?_ | refine good_optz fun _ _ _ => ?_ | refine good_nat fun _ => ?_ | refine good_bnd fun _ _ _ => ?_
    | refine good_part fun _ => ?_ | refine good_fill fun _ _ _ => ?_ | refine good_in ?_ | refine good_ptr ?_ | refine good_ptrK fun _ _ _ => ?_
    | refine good_keyTag ?_ | refine good_find (fun _ => ?_) ?_ | refine good_mapIn fun _ _ => ?_ | refine good_okK fun _ _ _ => ?_ | refine good_zer fun _ _ _ => ?_ | refine good_bytes fun _ => ?_ | refine good_alloc ?_ | refine good_orec ?_ fun _ => ?_
  case conv s k x =>
    show Good _ (fun kf : KF => (convK s k x) E I ni fun w I ni => kf w M nm I ni)
    unfold convK
    repeat' first
    | exact good_bad
    | refine good_leaf ⟨_, _, _, _, _, fun _ => rfl⟩
    | refine good_iff ?_ ?_ | refine good_op2 fun _ _ _ _ => ?_ | refine good_opd fun _ _ _ => ?_ | refine good_opds fun _ _ _ => ?_ | refine good_grow fun _ _ => ?_
    | refine good_bool fun _ _ _ => ?_ | refine good_enc fun _ _ _ => ?_ | refine good_optz fun _ _ _ => ?_ | refine good_nat fun _ => ?_ | refine good_bnd fun _ _ _ => ?_
    | refine good_part fun _ => ?_ | refine good_fill fun _ _ _ => ?_ | refine good_in ?_ | refine good_ptr ?_ | refine good_ptrK fun _ _ _ => ?_
    | refine good_keyTag ?_ | refine good_find (fun _ => ?_) ?_ | refine good_mapIn fun _ _ => ?_ | refine good_okK fun _ _ _ => ?_ | refine good_zer fun _ _ _ => ?_ | refine good_bytes fun _ => ?_ | refine good_alloc ?_ | refine good_orec ?_ fun _ => ?_
  case len x =>
    show Good _ (fun kf : KF => (lenSK x) E I ni fun w I ni => kf w M nm I ni)
    unfold lenSK
    repeat' first
    | exact good_bad
    | refine good_leaf ⟨_, _, _, _, _, fun _ => rfl⟩
    | refine good_iff ?_ ?_ | refine good_op2 fun _ _ _ _ => ?_ | refine good_opd fun _ _ _ => ?_ | refine good_opds fun _ _ _ => ?_ | refine good_grow fun _ _ => ?_
    | refine good_bool fun _ _ _ => ?_ | refine good_enc fun _ _ _ => ?_ | refine good_optz fun _ _ _ => ?_ | refine good_nat fun _ => ?_ | refine good_bnd fun _ _ _ => ?_
    | refine good_part fun _ => ?_ | refine good_fill fun _ _ _ => ?_ | refine good_in ?_ | refine good_ptr ?_ | refine good_ptrK fun _ _ _ => ?_
    | refine good_keyTag ?_ | refine good_find (fun _ => ?_) ?_ | refine good_mapIn fun _ _ => ?_ | refine good_okK fun _ _ _ => ?_ | refine good_zer fun _ _ _ => ?_ | refine good_bytes fun _ => ?_ | refine good_alloc ?_ | refine good_orec ?_ fun _ => ?_
  case lenT x =>
    show Good _ (fun kf : KF => (lenTK x) E I ni fun w I ni => kf w M nm I ni)
    unfold lenTK
    repeat' first
    | exact good_bad
    | refine good_leaf ⟨_, _, _, _, _, fun _ => rfl⟩
    | refine good_iff ?_ ?_ | refine good_op2 fun _ _ _ _ => ?_ | refine good_opd fun _ _ _ => ?_ | refine good_opds fun _ _ _ => ?_ | refine good_grow fun _ _ => ?_
    | refine good_bool fun _ _ _ => ?_ | refine good_enc fun _ _ _ => ?_ | refine good_optz fun _ _ _ => ?_ | refine good_nat fun _ => ?_ | refine good_bnd fun _ _ _ => ?_
    | refine good_part fun _ => ?_ | refine good_fill fun _ _ _ => ?_ | refine good_in ?_ | refine good_ptr ?_ | refine good_ptrK fun _ _ _ => ?_
    | refine good_keyTag ?_ | refine good_find (fun _ => ?_) ?_ | refine good_mapIn fun _ _ => ?_ | refine good_okK fun _ _ _ => ?_ | refine good_zer fun _ _ _ => ?_ | refine good_bytes fun _ => ?_ | refine good_alloc ?_ | refine good_orec ?_ fun _ => ?_
  case iadrS sz x i =>
    show Good _ (fun kf : KF => (iadrSK sz x i) E I ni fun w I ni => kf w M nm I ni)
    unfold iadrSK
    repeat' first
    | exact good_bad
    | refine good_leaf ⟨_, _, _, _, _, fun _ => rfl⟩
    | refine good_iff ?_ ?_ | refine good_op2 fun _ _ _ _ => ?_ | refine good_opd fun _ _ _ => ?_ | refine good_opds fun _ _ _ => ?_ | refine good_grow fun _ _ => ?_
    | refine good_bool fun _ _ _ => ?_ | refine good_enc fun _ _ _ => ?_ | refine good_optz fun _ _ _ => ?_ | refine good_nat fun _ => ?_ | refine good_bnd fun _ _ _ => ?_
    | refine good_part fun _ => ?_ | refine good_fill fun _ _ _ => ?_ | refine good_in ?_ | refine good_ptr ?_ | refine good_ptrK fun _ _ _ => ?_
    | refine good_keyTag ?_ | refine good_find (fun _ => ?_) ?_ | refine good_mapIn fun _ _ => ?_ | refine good_okK fun _ _ _ => ?_ | refine good_zer fun _ _ _ => ?_ | refine good_bytes fun _ => ?_ | refine good_alloc ?_ | refine good_orec ?_ fun _ => ?_
  case iadrA len sz x i =>
    show Good _ (fun kf : KF => (iadrAK len sz x i) E I ni fun w I ni => kf w M nm I ni)
    unfold iadrAK
    repeat' first
    | exact good_bad
    | refine good_leaf ⟨_, _, _, _, _, fun _ => rfl⟩
    | refine good_iff ?_ ?_ | refine good_op2 fun _ _ _ _ => ?_ | refine good_opd fun _ _ _ => ?_ | refine good_opds fun _ _ _ => ?_ | refine good_grow fun _ _ => ?_
    | refine good_bool fun _ _ _ => ?_ | refine good_enc fun _ _ _ => ?_ | refine good_optz fun _ _ _ => ?_ | refine good_nat fun _ => ?_ | refine good_bnd fun _ _ _ => ?_
    | refine good_part fun _ => ?_ | refine good_fill fun _ _ _ => ?_ | refine good_in ?_ | refine good_ptr ?_ | refine good_ptrK fun _ _ _ => ?_
    | refine good_keyTag ?_ | refine good_find (fun _ => ?_) ?_ | refine good_mapIn fun _ _ => ?_ | refine good_okK fun _ _ _ => ?_ | refine good_zer fun _ _ _ => ?_ | refine good_bytes fun _ => ?_ | refine good_alloc ?_ | refine good_orec ?_ fun _ => ?_
  case fadr off x =>
    show Good _ (fun kf : KF => (fadrK off x) E I ni fun w I ni => kf w M nm I ni)
    unfold fadrK
    repeat' first
    | exact good_bad
    | refine good_leaf ⟨_, _, _, _, _, fun _ => rfl⟩
    | refine good_iff ?_ ?_ | refine good_op2 fun _ _ _ _ => ?_ | refine good_opd fun _ _ _ => ?_ | refine good_opds fun _ _ _ => ?_ | refine good_grow fun _ _ => ?_
    | refine good_bool fun _ _ _ => ?_ | refine good_enc fun _ _ _ => ?_ | refine good_optz fun _ _ _ => ?_ | refine good_nat fun _ => ?_ | refine good_bnd fun _ _ _ => ?_
    | refine good_part fun _ => ?_ | refine good_fill fun _ _ _ => ?_ | refine good_in ?_ | refine good_ptr ?_ | refine good_ptrK fun _ _ _ => ?_
    | refine good_keyTag ?_ | refine good_find (fun _ => ?_) ?_ | refine good_mapIn fun _ _ => ?_ | refine good_okK fun _ _ _ => ?_ | refine good_zer fun _ _ _ => ?_ | refine good_bytes fun _ => ?_ | refine good_alloc ?_ | refine good_orec ?_ fun _ => ?_
  case fld1 t off x =>
    show Good _ (fun kf : KF => (fld1K t off x) E I ni fun w I ni => kf w M nm I ni)
    unfold fld1K
    repeat' first
    | exact good_bad
    | refine good_leaf ⟨_, _, _, _, _, fun _ => rfl⟩
    | refine good_iff ?_ ?_ | refine good_op2 fun _ _ _ _ => ?_ | refine good_opd fun _ _ _ => ?_ | refine good_opds fun _ _ _ => ?_ | refine good_grow fun _ _ => ?_
    | refine good_bool fun _ _ _ => ?_ | refine good_enc fun _ _ _ => ?_ | refine good_optz fun _ _ _ => ?_ | refine good_nat fun _ => ?_ | refine good_bnd fun _ _ _ => ?_
    | refine good_part fun _ => ?_ | refine good_fill fun _ _ _ => ?_ | refine good_in ?_ | refine good_ptr ?_ | refine good_ptrK fun _ _ _ => ?_
    | refine good_keyTag ?_ | refine good_find (fun _ => ?_) ?_ | refine good_mapIn fun _ _ => ?_ | refine good_okK fun _ _ _ => ?_ | refine good_zer fun _ _ _ => ?_ | refine good_bytes fun _ => ?_ | refine good_alloc ?_ | refine good_orec ?_ fun _ => ?_
  case fldN off n x =>
    show Good _ (fun kf : KF => (fldNK off n x) E I ni fun w I ni => kf w M nm I ni)
    unfold fldNK
    repeat' first
    | exact good_bad
    | refine good_leaf ⟨_, _, _, _, _, fun _ => rfl⟩
    | refine good_iff ?_ ?_ | refine good_op2 fun _ _ _ _ => ?_ | refine good_opd fun _ _ _ => ?_ | refine good_opds fun _ _ _ => ?_ | refine good_grow fun _ _ => ?_
    | refine good_bool fun _ _ _ => ?_ | refine good_enc fun _ _ _ => ?_ | refine good_optz fun _ _ _ => ?_ | refine good_nat fun _ => ?_ | refine good_bnd fun _ _ _ => ?_
    | refine good_part fun _ => ?_ | refine good_fill fun _ _ _ => ?_ | refine good_in ?_ | refine good_ptr ?_ | refine good_ptrK fun _ _ _ => ?_
    | refine good_keyTag ?_ | refine good_find (fun _ => ?_) ?_ | refine good_mapIn fun _ _ => ?_ | refine good_okK fun _ _ _ => ?_ | refine good_zer fun _ _ _ => ?_ | refine good_bytes fun _ => ?_ | refine good_alloc ?_ | refine good_orec ?_ fun _ => ?_
  case idx1 len x i =>
    show Good _ (fun kf : KF => (idx1K len x i) E I ni fun w I ni => kf w M nm I ni)
    unfold idx1K
    repeat' first
    | exact good_bad
    | refine good_leaf ⟨_, _, _, _, _, fun _ => rfl⟩
    | refine good_iff ?_ ?_ | refine good_op2 fun _ _ _ _ => ?_ | refine good_opd fun _ _ _ => ?_ | refine good_opds fun _ _ _ => ?_ | refine good_grow fun _ _ => ?_
    | refine good_bool fun _ _ _ => ?_ | refine good_enc fun _ _ _ => ?_ | refine good_optz fun _ _ _ => ?_ | refine good_nat fun _ => ?_ | refine good_bnd fun _ _ _ => ?_
    | refine good_part fun _ => ?_ | refine good_fill fun _ _ _ => ?_ | refine good_in ?_ | refine good_ptr ?_ | refine good_ptrK fun _ _ _ => ?_
    | refine good_keyTag ?_ | refine good_find (fun _ => ?_) ?_ | refine good_mapIn fun _ _ => ?_ | refine good_okK fun _ _ _ => ?_ | refine good_zer fun _ _ _ => ?_ | refine good_bytes fun _ => ?_ | refine good_alloc ?_ | refine good_orec ?_ fun _ => ?_
  case nilc x =>
    show Good _ (fun kf : KF => (nilcK x) E I ni fun w I ni => kf w M nm I ni)
    unfold nilcK
    repeat' first
    | exact good_bad
    | refine good_leaf ⟨_, _, _, _, _, fun _ => rfl⟩
    | refine good_iff ?_ ?_ | refine good_op2 fun _ _ _ _ => ?_ | refine good_opd fun _ _ _ => ?_ | refine good_opds fun _ _ _ => ?_ | refine good_grow fun _ _ => ?_
    | refine good_bool fun _ _ _ => ?_ | refine good_enc fun _ _ _ => ?_ | refine good_optz fun _ _ _ => ?_ | refine good_nat fun _ => ?_ | refine good_bnd fun _ _ _ => ?_
    | refine good_part fun _ => ?_ | refine good_fill fun _ _ _ => ?_ | refine good_in ?_ | refine good_ptr ?_ | refine good_ptrK fun _ _ _ => ?_
    | refine good_keyTag ?_ | refine good_find (fun _ => ?_) ?_ | refine good_mapIn fun _ _ => ?_ | refine good_okK fun _ _ _ => ?_ | refine good_zer fun _ _ _ => ?_ | refine good_bytes fun _ => ?_ | refine good_alloc ?_ | refine good_orec ?_ fun _ => ?_
  case mki t x =>
    show Good _ (fun kf : KF => (mkiK t x) E I ni fun w I ni => kf w M nm I ni)
    unfold mkiK
    repeat' first
    | exact good_bad
    | refine good_leaf ⟨_, _, _, _, _, fun _ => rfl⟩
    | refine good_iff ?_ ?_ | refine good_op2 fun _ _ _ _ => ?_ | refine good_opd fun _ _ _ => ?_ | refine good_opds fun _ _ _ => ?_ | refine good_grow fun _ _ => ?_
    | refine good_bool fun _ _ _ => ?_ | refine good_enc fun _ _ _ => ?_ | refine good_optz fun _ _ _ => ?_ | refine good_nat fun _ => ?_ | refine good_bnd fun _ _ _ => ?_
    | refine good_part fun _ => ?_ | refine good_fill fun _ _ _ => ?_ | refine good_in ?_ | refine good_ptr ?_ | refine good_ptrK fun _ _ _ => ?_
    | refine good_keyTag ?_ | refine good_find (fun _ => ?_) ?_ | refine good_mapIn fun _ _ => ?_ | refine good_okK fun _ _ _ => ?_ | refine good_zer fun _ _ _ => ?_ | refine good_bytes fun _ => ?_ | refine good_alloc ?_ | refine good_orec ?_ fun _ => ?_
  case mkf fn n xs =>
    show Good _ (fun kf : KF => (mkfK fn n xs) E I ni fun w I ni => kf w M nm I ni)
    unfold mkfK
    repeat' first
    | exact good_bad
    | refine good_leaf ⟨_, _, _, _, _, fun _ => rfl⟩
    | refine good_iff ?_ ?_ | refine good_op2 fun _ _ _ _ => ?_ | refine good_opd fun _ _ _ => ?_ | refine good_opds fun _ _ _ => ?_ | refine good_grow fun _ _ => ?_
    | refine good_bool fun _ _ _ => ?_ | refine good_enc fun _ _ _ => ?_ | refine good_optz fun _ _ _ => ?_ | refine good_nat fun _ => ?_ | refine good_bnd fun _ _ _ => ?_
    | refine good_part fun _ => ?_ | refine good_fill fun _ _ _ => ?_ | refine good_in ?_ | refine good_ptr ?_ | refine good_ptrK fun _ _ _ => ?_
    | refine good_keyTag ?_ | refine good_find (fun _ => ?_) ?_ | refine good_mapIn fun _ _ => ?_ | refine good_okK fun _ _ _ => ?_ | refine good_zer fun _ _ _ => ?_ | refine good_bytes fun _ => ?_ | refine good_alloc ?_ | refine good_orec ?_ fun _ => ?_
  case min mx t x y =>
    show Good _ (fun kf : KF => (minK mx t x y) E I ni fun w I ni => kf w M nm I ni)
    unfold minK
    repeat' first
    | exact good_bad
    | refine good_leaf ⟨_, _, _, _, _, fun _ => rfl⟩
    | refine good_iff ?_ ?_ | refine good_op2 fun _ _ _ _ => ?_ | refine good_opd fun _ _ _ => ?_ | refine good_opds fun _ _ _ => ?_ | refine good_grow fun _ _ => ?_
    | refine good_bool fun _ _ _ => ?_ | refine good_enc fun _ _ _ => ?_ | refine good_optz fun _ _ _ => ?_ | refine good_nat fun _ => ?_ | refine good_bnd fun _ _ _ => ?_
    | refine good_part fun _ => ?_ | refine good_fill fun _ _ _ => ?_ | refine good_in ?_ | refine good_ptr ?_ | refine good_ptrK fun _ _ _ => ?_
    | refine good_keyTag ?_ | refine good_find (fun _ => ?_) ?_ | refine good_mapIn fun _ _ => ?_ | refine good_okK fun _ _ _ => ?_ | refine good_zer fun _ _ _ => ?_ | refine good_bytes fun _ => ?_ | refine good_alloc ?_ | refine good_orec ?_ fun _ => ?_
  case bld n r ps =>
    show Good _ (fun kf : KF => (buildK n r ps) E I ni fun w I ni => kf w M nm I ni)
    unfold buildK
    repeat' first
    | exact good_bad
    | refine good_leaf ⟨_, _, _, _, _, fun _ => rfl⟩
    | refine good_iff ?_ ?_ | refine good_op2 fun _ _ _ _ => ?_ | refine good_opd fun _ _ _ => ?_ | refine good_opds fun _ _ _ => ?_ | refine good_grow fun _ _ => ?_
    | refine good_bool fun _ _ _ => ?_ | refine good_enc fun _ _ _ => ?_ | refine good_optz fun _ _ _ => ?_ | refine good_nat fun _ => ?_ | refine good_bnd fun _ _ _ => ?_
    | refine good_part fun _ => ?_ | refine good_fill fun _ _ _ => ?_ | refine good_in ?_ | refine good_ptr ?_ | refine good_ptrK fun _ _ _ => ?_
    | refine good_keyTag ?_ | refine good_find (fun _ => ?_) ?_ | refine good_mapIn fun _ _ => ?_ | refine good_okK fun _ _ _ => ?_ | refine good_zer fun _ _ _ => ?_ | refine good_bytes fun _ => ?_ | refine good_alloc ?_ | refine good_orec ?_ fun _ => ?_
  case slp len sz x lo hi =>
    show Good _ (fun kf : KF => (slpK len sz x lo hi) E I ni fun w I ni => kf w M nm I ni)
    unfold slpK
    repeat' first
    | exact good_bad
    | refine good_leaf ⟨_, _, _, _, _, fun _ => rfl⟩
    | refine good_iff ?_ ?_ | refine good_op2 fun _ _ _ _ => ?_ | refine good_opd fun _ _ _ => ?_ | refine good_opds fun _ _ _ => ?_ | refine good_grow fun _ _ => ?_
    | refine good_bool fun _ _ _ => ?_ | refine good_enc fun _ _ _ => ?_ | refine good_optz fun _ _ _ => ?_ | refine good_nat fun _ => ?_ | refine good_bnd fun _ _ _ => ?_
    | refine good_part fun _ => ?_ | refine good_fill fun _ _ _ => ?_ | refine good_in ?_ | refine good_ptr ?_ | refine good_ptrK fun _ _ _ => ?_
    | refine good_keyTag ?_ | refine good_find (fun _ => ?_) ?_ | refine good_mapIn fun _ _ => ?_ | refine good_okK fun _ _ _ => ?_ | refine good_zer fun _ _ _ => ?_ | refine good_bytes fun _ => ?_ | refine good_alloc ?_ | refine good_orec ?_ fun _ => ?_
  case idxT x i =>
    show Good _ (fun kf : KF => (idxTK x i) E I ni fun w I ni => kf w M nm I ni)
    unfold idxTK
    repeat' first
    | exact good_bad
    | refine good_leaf ⟨_, _, _, _, _, fun _ => rfl⟩
    | refine good_iff ?_ ?_ | refine good_op2 fun _ _ _ _ => ?_ | refine good_opd fun _ _ _ => ?_ | refine good_opds fun _ _ _ => ?_ | refine good_grow fun _ _ => ?_
    | refine good_bool fun _ _ _ => ?_ | refine good_enc fun _ _ _ => ?_ | refine good_optz fun _ _ _ => ?_ | refine good_nat fun _ => ?_ | refine good_bnd fun _ _ _ => ?_
    | refine good_part fun _ => ?_ | refine good_fill fun _ _ _ => ?_ | refine good_in ?_ | refine good_ptr ?_ | refine good_ptrK fun _ _ _ => ?_
    | refine good_keyTag ?_ | refine good_find (fun _ => ?_) ?_ | refine good_mapIn fun _ _ => ?_ | refine good_okK fun _ _ _ => ?_ | refine good_zer fun _ _ _ => ?_ | refine good_bytes fun _ => ?_ | refine good_alloc ?_ | refine good_orec ?_ fun _ => ?_
  case peq neg x y =>
    show Good _ (fun kf : KF => (peqK neg x y) E I ni fun w I ni => kf w M nm I ni)
    unfold peqK
    repeat' first
    | exact good_bad
    | refine good_leaf ⟨_, _, _, _, _, fun _ => rfl⟩
    | refine good_iff ?_ ?_ | refine good_op2 fun _ _ _ _ => ?_ | refine good_opd fun _ _ _ => ?_ | refine good_opds fun _ _ _ => ?_ | refine good_grow fun _ _ => ?_
    | refine good_bool fun _ _ _ => ?_ | refine good_enc fun _ _ _ => ?_ | refine good_optz fun _ _ _ => ?_ | refine good_nat fun _ => ?_ | refine good_bnd fun _ _ _ => ?_
    | refine good_part fun _ => ?_ | refine good_fill fun _ _ _ => ?_ | refine good_in ?_ | refine good_ptr ?_ | refine good_ptrK fun _ _ _ => ?_
    | refine good_keyTag ?_ | refine good_find (fun _ => ?_) ?_ | refine good_mapIn fun _ _ => ?_ | refine good_okK fun _ _ _ => ?_ | refine good_zer fun _ _ _ => ?_ | refine good_bytes fun _ => ?_ | refine good_alloc ?_ | refine good_orec ?_ fun _ => ?_
  case capS x =>
    show Good _ (fun kf : KF => (capSK x) E I ni fun w I ni => kf w M nm I ni)
    unfold capSK capSW
    repeat' first
    | exact good_bad
    | refine good_leaf ⟨_, _, _, _, _, fun _ => rfl⟩
    | refine good_iff ?_ ?_ | refine good_op2 fun _ _ _ _ => ?_ | refine good_opd fun _ _ _ => ?_ | refine good_opds fun _ _ _ => ?_ | refine good_grow fun _ _ => ?_
    | refine good_bool fun _ _ _ => ?_ | refine good_enc fun _ _ _ => ?_ | refine good_optz fun _ _ _ => ?_ | refine good_nat fun _ => ?_ | refine good_bnd fun _ _ _ => ?_
    | refine good_part fun _ => ?_ | refine good_fill fun _ _ _ => ?_ | refine good_in ?_ | refine good_ptr ?_ | refine good_ptrK fun _ _ _ => ?_
    | refine good_keyTag ?_ | refine good_find (fun _ => ?_) ?_ | refine good_mapIn fun _ _ => ?_ | refine good_okK fun _ _ _ => ?_ | refine good_zer fun _ _ _ => ?_ | refine good_bytes fun _ => ?_ | refine good_alloc ?_ | refine good_orec ?_ fun _ => ?_
  case slc sz x lo hi mx =>
    show Good _ (fun kf : KF => slcK sz x lo hi mx E I ni fun w I ni => kf w M nm I ni)
    unfold slcK slcW
    cases mx <;>
    repeat' first
    | exact good_bad
    | refine good_leaf ⟨_, _, _, _, _, fun _ => rfl⟩
    | refine good_iff ?_ ?_ | refine good_op2 fun _ _ _ _ => ?_ | refine good_opd fun _ _ _ => ?_ | refine good_opds fun _ _ _ => ?_ | refine good_grow fun _ _ => ?_
    | refine good_bool fun _ _ _ => ?_ | refine good_enc fun _ _ _ => ?_ | refine good_optz fun _ _ _ => ?_ | refine good_nat fun _ => ?_ | refine good_bnd fun _ _ _ => ?_
    | refine good_part fun _ => ?_ | refine good_fill fun _ _ _ => ?_ | refine good_in ?_ | refine good_ptr ?_ | refine good_ptrK fun _ _ _ => ?_
    | refine good_keyTag ?_ | refine good_find (fun _ => ?_) ?_ | refine good_mapIn fun _ _ => ?_ | refine good_okK fun _ _ _ => ?_ | refine good_zer fun _ _ _ => ?_ | refine good_bytes fun _ => ?_ | refine good_alloc ?_ | refine good_orec ?_ fun _ => ?_
  case load1 x =>
    show Good _ (fun kf : KF => (load1K x) E M I ni fun w I ni => kf w M nm I ni)
    unfold load1K
    repeat' first
    | exact good_bad
    | refine good_leaf ⟨_, _, _, _, _, fun _ => rfl⟩
    | refine good_iff ?_ ?_ | refine good_op2 fun _ _ _ _ => ?_ | refine good_opd fun _ _ _ => ?_ | refine good_opds fun _ _ _ => ?_ | refine good_grow fun _ _ => ?_
    | refine good_bool fun _ _ _ => ?_ | refine good_enc fun _ _ _ => ?_ | refine good_optz fun _ _ _ => ?_ | refine good_nat fun _ => ?_ | refine good_bnd fun _ _ _ => ?_
    | refine good_part fun _ => ?_ | refine good_fill fun _ _ _ => ?_ | refine good_in ?_ | refine good_ptr ?_ | refine good_ptrK fun _ _ _ => ?_
    | refine good_keyTag ?_ | refine good_find (fun _ => ?_) ?_ | refine good_mapIn fun _ _ => ?_ | refine good_okK fun _ _ _ => ?_ | refine good_zer fun _ _ _ => ?_ | refine good_bytes fun _ => ?_ | refine good_alloc ?_ | refine good_orec ?_ fun _ => ?_
  case loadN n x =>
    show Good _ (fun kf : KF => (loadNK n x) E M I ni fun w I ni => kf w M nm I ni)
    unfold loadNK
    repeat' first
    | exact good_bad
    | refine good_leaf ⟨_, _, _, _, _, fun _ => rfl⟩
    | refine good_iff ?_ ?_ | refine good_op2 fun _ _ _ _ => ?_ | refine good_opd fun _ _ _ => ?_ | refine good_opds fun _ _ _ => ?_ | refine good_grow fun _ _ => ?_
    | refine good_bool fun _ _ _ => ?_ | refine good_enc fun _ _ _ => ?_ | refine good_optz fun _ _ _ => ?_ | refine good_nat fun _ => ?_ | refine good_bnd fun _ _ _ => ?_
    | refine good_part fun _ => ?_ | refine good_fill fun _ _ _ => ?_ | refine good_in ?_ | refine good_ptr ?_ | refine good_ptrK fun _ _ _ => ?_
    | refine good_keyTag ?_ | refine good_find (fun _ => ?_) ?_ | refine good_mapIn fun _ _ => ?_ | refine good_okK fun _ _ _ => ?_ | refine good_zer fun _ _ _ => ?_ | refine good_bytes fun _ => ?_ | refine good_alloc ?_ | refine good_orec ?_ fun _ => ?_
  case look q com agg n r x key =>
    show Good _ (fun kf : KF => (lookK q com agg n r x key) E M I ni fun w I ni => kf w M nm I ni)
    unfold lookK lookW
    repeat' first
    | exact good_bad
    | refine good_leaf ⟨_, _, _, _, _, fun _ => rfl⟩
    | refine good_iff ?_ ?_ | refine good_op2 fun _ _ _ _ => ?_ | refine good_opd fun _ _ _ => ?_ | refine good_opds fun _ _ _ => ?_ | refine good_grow fun _ _ => ?_
    | refine good_bool fun _ _ _ => ?_ | refine good_enc fun _ _ _ => ?_ | refine good_optz fun _ _ _ => ?_ | refine good_nat fun _ => ?_ | refine good_bnd fun _ _ _ => ?_
    | refine good_part fun _ => ?_ | refine good_fill fun _ _ _ => ?_ | refine good_in ?_ | refine good_ptr ?_ | refine good_ptrK fun _ _ _ => ?_
    | refine good_keyTag ?_ | refine good_find (fun _ => ?_) ?_ | refine good_mapIn fun _ _ => ?_ | refine good_okK fun _ _ _ => ?_ | refine good_zer fun _ _ _ => ?_ | refine good_bytes fun _ => ?_ | refine good_alloc ?_ | refine good_orec ?_ fun _ => ?_
  case lenM x =>
    show Good _ (fun kf : KF => (lenMK x) E M I ni fun w I ni => kf w M nm I ni)
    unfold lenMK lenMW
    repeat' first
    | exact good_bad
    | refine good_leaf ⟨_, _, _, _, _, fun _ => rfl⟩
    | refine good_iff ?_ ?_ | refine good_op2 fun _ _ _ _ => ?_ | refine good_opd fun _ _ _ => ?_ | refine good_opds fun _ _ _ => ?_ | refine good_grow fun _ _ => ?_
    | refine good_bool fun _ _ _ => ?_ | refine good_enc fun _ _ _ => ?_ | refine good_optz fun _ _ _ => ?_ | refine good_nat fun _ => ?_ | refine good_bnd fun _ _ _ => ?_
    | refine good_part fun _ => ?_ | refine good_fill fun _ _ _ => ?_ | refine good_in ?_ | refine good_ptr ?_ | refine good_ptrK fun _ _ _ => ?_
    | refine good_keyTag ?_ | refine good_find (fun _ => ?_) ?_ | refine good_mapIn fun _ _ => ?_ | refine good_okK fun _ _ _ => ?_ | refine good_zer fun _ _ _ => ?_ | refine good_bytes fun _ => ?_ | refine good_alloc ?_ | refine good_orec ?_ fun _ => ?_
  case strOf x =>
    show Good _ (fun kf : KF => (strOfK x) E M I ni fun w I ni => kf w M nm I ni)
    unfold strOfK strOfW
    repeat' first
    | exact good_bad
    | refine good_leaf ⟨_, _, _, _, _, fun _ => rfl⟩
    | refine good_iff ?_ ?_ | refine good_op2 fun _ _ _ _ => ?_ | refine good_opd fun _ _ _ => ?_ | refine good_opds fun _ _ _ => ?_ | refine good_grow fun _ _ => ?_
    | refine good_bool fun _ _ _ => ?_ | refine good_enc fun _ _ _ => ?_ | refine good_optz fun _ _ _ => ?_ | refine good_nat fun _ => ?_ | refine good_bnd fun _ _ _ => ?_
    | refine good_part fun _ => ?_ | refine good_fill fun _ _ _ => ?_ | refine good_in ?_ | refine good_ptr ?_ | refine good_ptrK fun _ _ _ => ?_
    | refine good_keyTag ?_ | refine good_find (fun _ => ?_) ?_ | refine good_mapIn fun _ _ => ?_ | refine good_okK fun _ _ _ => ?_ | refine good_zer fun _ _ _ => ?_ | refine good_bytes fun _ => ?_ | refine good_alloc ?_ | refine good_orec ?_ fun _ => ?_
  case alloc n r =>
    show Good _ (fun kf : KF => newK n r M nm I ni kf)
    unfold newK
    repeat' first
    | exact good_bad
    | refine good_leaf ⟨_, _, _, _, _, fun _ => rfl⟩
    | refine good_iff ?_ ?_ | refine good_op2 fun _ _ _ _ => ?_ | refine good_opd fun _ _ _ => ?_ | refine good_opds fun _ _ _ => ?_ | refine good_grow fun _ _ => ?_
    | refine good_bool fun _ _ _ => ?_ | refine good_enc fun _ _ _ => ?_ | refine good_optz fun _ _ _ => ?_ | refine good_nat fun _ => ?_ | refine good_bnd fun _ _ _ => ?_
    | refine good_part fun _ => ?_ | refine good_fill fun _ _ _ => ?_ | refine good_in ?_ | refine good_ptr ?_ | refine good_ptrK fun _ _ _ => ?_
    | refine good_keyTag ?_ | refine good_find (fun _ => ?_) ?_ | refine good_mapIn fun _ _ => ?_ | refine good_okK fun _ _ _ => ?_ | refine good_zer fun _ _ _ => ?_ | refine good_bytes fun _ => ?_ | refine good_alloc ?_ | refine good_orec ?_ fun _ => ?_
  case box n x =>
    show Good _ (fun kf : KF => boxK n x E M nm I ni kf)
    unfold boxK newK
    repeat' first
    | exact good_bad
    | refine good_leaf ⟨_, _, _, _, _, fun _ => rfl⟩
    | refine good_iff ?_ ?_ | refine good_op2 fun _ _ _ _ => ?_ | refine good_opd fun _ _ _ => ?_ | refine good_opds fun _ _ _ => ?_ | refine good_grow fun _ _ => ?_
    | refine good_bool fun _ _ _ => ?_ | refine good_enc fun _ _ _ => ?_ | refine good_optz fun _ _ _ => ?_ | refine good_nat fun _ => ?_ | refine good_bnd fun _ _ _ => ?_
    | refine good_part fun _ => ?_ | refine good_fill fun _ _ _ => ?_ | refine good_in ?_ | refine good_ptr ?_ | refine good_ptrK fun _ _ _ => ?_
    | refine good_keyTag ?_ | refine good_find (fun _ => ?_) ?_ | refine good_mapIn fun _ _ => ?_ | refine good_okK fun _ _ _ => ?_ | refine good_zer fun _ _ _ => ?_ | refine good_bytes fun _ => ?_ | refine good_alloc ?_ | refine good_orec ?_ fun _ => ?_
  case mkSl s r l c =>
    show Good _ (fun kf : KF => mkSlK s r l c E M nm I ni kf)
    unfold mkSlK
    repeat' first
    | exact good_bad
    | refine good_leaf ⟨_, _, _, _, _, fun _ => rfl⟩
    | refine good_iff ?_ ?_ | refine good_op2 fun _ _ _ _ => ?_ | refine good_opd fun _ _ _ => ?_ | refine good_opds fun _ _ _ => ?_ | refine good_grow fun _ _ => ?_
    | refine good_bool fun _ _ _ => ?_ | refine good_enc fun _ _ _ => ?_ | refine good_optz fun _ _ _ => ?_ | refine good_nat fun _ => ?_ | refine good_bnd fun _ _ _ => ?_
    | refine good_part fun _ => ?_ | refine good_fill fun _ _ _ => ?_ | refine good_in ?_ | refine good_ptr ?_ | refine good_ptrK fun _ _ _ => ?_
    | refine good_keyTag ?_ | refine good_find (fun _ => ?_) ?_ | refine good_mapIn fun _ _ => ?_ | refine good_okK fun _ _ _ => ?_ | refine good_zer fun _ _ _ => ?_ | refine good_bytes fun _ => ?_ | refine good_alloc ?_ | refine good_orec ?_ fun _ => ?_
  case bldS len s r ps =>
    show Good _ (fun kf : KF => bldSK len s r ps E M nm I ni kf)
    unfold bldSK
    repeat' first
    | exact good_bad
    | refine good_leaf ⟨_, _, _, _, _, fun _ => rfl⟩
    | refine good_iff ?_ ?_ | refine good_op2 fun _ _ _ _ => ?_ | refine good_opd fun _ _ _ => ?_ | refine good_opds fun _ _ _ => ?_ | refine good_grow fun _ _ => ?_
    | refine good_bool fun _ _ _ => ?_ | refine good_enc fun _ _ _ => ?_ | refine good_optz fun _ _ _ => ?_ | refine good_nat fun _ => ?_ | refine good_bnd fun _ _ _ => ?_
    | refine good_part fun _ => ?_ | refine good_fill fun _ _ _ => ?_ | refine good_in ?_ | refine good_ptr ?_ | refine good_ptrK fun _ _ _ => ?_
    | refine good_keyTag ?_ | refine good_find (fun _ => ?_) ?_ | refine good_mapIn fun _ _ => ?_ | refine good_okK fun _ _ _ => ?_ | refine good_zer fun _ _ _ => ?_ | refine good_bytes fun _ => ?_ | refine good_alloc ?_ | refine good_orec ?_ fun _ => ?_
  case mkMap =>
    show Good _ (fun kf : KF => mkMapK M nm I ni kf)
    unfold mkMapK
    repeat' first
    | exact good_bad
    | refine good_leaf ⟨_, _, _, _, _, fun _ => rfl⟩
    | refine good_iff ?_ ?_ | refine good_op2 fun _ _ _ _ => ?_ | refine good_opd fun _ _ _ => ?_ | refine good_opds fun _ _ _ => ?_ | refine good_grow fun _ _ => ?_
    | refine good_bool fun _ _ _ => ?_ | refine good_enc fun _ _ _ => ?_ | refine good_optz fun _ _ _ => ?_ | refine good_nat fun _ => ?_ | refine good_bnd fun _ _ _ => ?_
    | refine good_part fun _ => ?_ | refine good_fill fun _ _ _ => ?_ | refine good_in ?_ | refine good_ptr ?_ | refine good_ptrK fun _ _ _ => ?_
    | refine good_keyTag ?_ | refine good_find (fun _ => ?_) ?_ | refine good_mapIn fun _ _ => ?_ | refine good_okK fun _ _ _ => ?_ | refine good_zer fun _ _ _ => ?_ | refine good_bytes fun _ => ?_ | refine good_alloc ?_ | refine good_orec ?_ fun _ => ?_
  case mkMapH x =>
    show Good _ (fun kf : KF => mkMapHK x E M nm I ni kf)
    unfold mkMapHK mkMapK
    repeat' first
    | exact good_bad
    | refine good_leaf ⟨_, _, _, _, _, fun _ => rfl⟩
    | refine good_iff ?_ ?_ | refine good_op2 fun _ _ _ _ => ?_ | refine good_opd fun _ _ _ => ?_ | refine good_opds fun _ _ _ => ?_ | refine good_grow fun _ _ => ?_
    | refine good_bool fun _ _ _ => ?_ | refine good_enc fun _ _ _ => ?_ | refine good_optz fun _ _ _ => ?_ | refine good_nat fun _ => ?_ | refine good_bnd fun _ _ _ => ?_
    | refine good_part fun _ => ?_ | refine good_fill fun _ _ _ => ?_ | refine good_in ?_ | refine good_ptr ?_ | refine good_ptrK fun _ _ _ => ?_
    | refine good_keyTag ?_ | refine good_find (fun _ => ?_) ?_ | refine good_mapIn fun _ _ => ?_ | refine good_okK fun _ _ _ => ?_ | refine good_zer fun _ _ _ => ?_ | refine good_bytes fun _ => ?_ | refine good_alloc ?_ | refine good_orec ?_ fun _ => ?_
  case store n x v =>
    show Good _ (fun kf : KF => storeK n x v E M nm I ni kf)
    unfold storeK
    repeat' first
    | exact good_bad
    | refine good_leaf ⟨_, _, _, _, _, fun _ => rfl⟩
    | refine good_iff ?_ ?_ | refine good_op2 fun _ _ _ _ => ?_ | refine good_opd fun _ _ _ => ?_ | refine good_opds fun _ _ _ => ?_ | refine good_grow fun _ _ => ?_
    | refine good_bool fun _ _ _ => ?_ | refine good_enc fun _ _ _ => ?_ | refine good_optz fun _ _ _ => ?_ | refine good_nat fun _ => ?_ | refine good_bnd fun _ _ _ => ?_
    | refine good_part fun _ => ?_ | refine good_fill fun _ _ _ => ?_ | refine good_in ?_ | refine good_ptr ?_ | refine good_ptrK fun _ _ _ => ?_
    | refine good_keyTag ?_ | refine good_find (fun _ => ?_) ?_ | refine good_mapIn fun _ _ => ?_ | refine good_okK fun _ _ _ => ?_ | refine good_zer fun _ _ _ => ?_ | refine good_bytes fun _ => ?_ | refine good_alloc ?_ | refine good_orec ?_ fun _ => ?_
  case upd q x key v =>
    show Good _ (fun kf : KF => updK q x key v E M nm I ni kf)
    unfold updK updW
    repeat' first
    | exact good_bad
    | refine good_leaf ⟨_, _, _, _, _, fun _ => rfl⟩
    | refine good_iff ?_ ?_ | refine good_op2 fun _ _ _ _ => ?_ | refine good_opd fun _ _ _ => ?_ | refine good_opds fun _ _ _ => ?_ | refine good_grow fun _ _ => ?_
    | refine good_bool fun _ _ _ => ?_ | refine good_enc fun _ _ _ => ?_ | refine good_optz fun _ _ _ => ?_ | refine good_nat fun _ => ?_ | refine good_bnd fun _ _ _ => ?_
    | refine good_part fun _ => ?_ | refine good_fill fun _ _ _ => ?_ | refine good_in ?_ | refine good_ptr ?_ | refine good_ptrK fun _ _ _ => ?_
    | refine good_keyTag ?_ | refine good_find (fun _ => ?_) ?_ | refine good_mapIn fun _ _ => ?_ | refine good_okK fun _ _ _ => ?_ | refine good_zer fun _ _ _ => ?_ | refine good_bytes fun _ => ?_ | refine good_alloc ?_ | refine good_orec ?_ fun _ => ?_
  case copy s x y =>
    show Good _ (fun kf : KF => copyK s x y E M nm I ni kf)
    unfold copyK copyW
    repeat' first
    | exact good_bad
    | refine good_leaf ⟨_, _, _, _, _, fun _ => rfl⟩
    | refine good_iff ?_ ?_ | refine good_op2 fun _ _ _ _ => ?_ | refine good_opd fun _ _ _ => ?_ | refine good_opds fun _ _ _ => ?_ | refine good_grow fun _ _ => ?_
    | refine good_bool fun _ _ _ => ?_ | refine good_enc fun _ _ _ => ?_ | refine good_optz fun _ _ _ => ?_ | refine good_nat fun _ => ?_ | refine good_bnd fun _ _ _ => ?_
    | refine good_part fun _ => ?_ | refine good_fill fun _ _ _ => ?_ | refine good_in ?_ | refine good_ptr ?_ | refine good_ptrK fun _ _ _ => ?_
    | refine good_keyTag ?_ | refine good_find (fun _ => ?_) ?_ | refine good_mapIn fun _ _ => ?_ | refine good_okK fun _ _ _ => ?_ | refine good_zer fun _ _ _ => ?_ | refine good_bytes fun _ => ?_ | refine good_alloc ?_ | refine good_orec ?_ fun _ => ?_
  case clear s r x =>
    show Good _ (fun kf : KF => clearK s r x E M nm I ni kf)
    unfold clearK clearW
    repeat' first
    | exact good_bad
    | refine good_leaf ⟨_, _, _, _, _, fun _ => rfl⟩
    | refine good_iff ?_ ?_ | refine good_op2 fun _ _ _ _ => ?_ | refine good_opd fun _ _ _ => ?_ | refine good_opds fun _ _ _ => ?_ | refine good_grow fun _ _ => ?_
    | refine good_bool fun _ _ _ => ?_ | refine good_enc fun _ _ _ => ?_ | refine good_optz fun _ _ _ => ?_ | refine good_nat fun _ => ?_ | refine good_bnd fun _ _ _ => ?_
    | refine good_part fun _ => ?_ | refine good_fill fun _ _ _ => ?_ | refine good_in ?_ | refine good_ptr ?_ | refine good_ptrK fun _ _ _ => ?_
    | refine good_keyTag ?_ | refine good_find (fun _ => ?_) ?_ | refine good_mapIn fun _ _ => ?_ | refine good_okK fun _ _ _ => ?_ | refine good_zer fun _ _ _ => ?_ | refine good_bytes fun _ => ?_ | refine good_alloc ?_ | refine good_orec ?_ fun _ => ?_
  case app s x y =>
    show Good _ (fun kf : KF => appK s x y E M nm I ni kf)
    unfold appK appW
    repeat' first
    | exact good_bad
    | refine good_leaf ⟨_, _, _, _, _, fun _ => rfl⟩
    | refine good_iff ?_ ?_ | refine good_op2 fun _ _ _ _ => ?_ | refine good_opd fun _ _ _ => ?_ | refine good_opds fun _ _ _ => ?_ | refine good_grow fun _ _ => ?_
    | refine good_bool fun _ _ _ => ?_ | refine good_enc fun _ _ _ => ?_ | refine good_optz fun _ _ _ => ?_ | refine good_nat fun _ => ?_ | refine good_bnd fun _ _ _ => ?_
    | refine good_part fun _ => ?_ | refine good_fill fun _ _ _ => ?_ | refine good_in ?_ | refine good_ptr ?_ | refine good_ptrK fun _ _ _ => ?_
    | refine good_keyTag ?_ | refine good_find (fun _ => ?_) ?_ | refine good_mapIn fun _ _ => ?_ | refine good_okK fun _ _ _ => ?_ | refine good_zer fun _ _ _ => ?_ | refine good_bytes fun _ => ?_ | refine good_alloc ?_ | refine good_orec ?_ fun _ => ?_
  case appT x y =>
    show Good _ (fun kf : KF => appTK x y E M nm I ni kf)
    unfold appTK appTW
    repeat' first
    | exact good_bad
    | refine good_leaf ⟨_, _, _, _, _, fun _ => rfl⟩
    | refine good_iff ?_ ?_ | refine good_op2 fun _ _ _ _ => ?_ | refine good_opd fun _ _ _ => ?_ | refine good_opds fun _ _ _ => ?_ | refine good_grow fun _ _ => ?_
    | refine good_bool fun _ _ _ => ?_ | refine good_enc fun _ _ _ => ?_ | refine good_optz fun _ _ _ => ?_ | refine good_nat fun _ => ?_ | refine good_bnd fun _ _ _ => ?_
    | refine good_part fun _ => ?_ | refine good_fill fun _ _ _ => ?_ | refine good_in ?_ | refine good_ptr ?_ | refine good_ptrK fun _ _ _ => ?_
    | refine good_keyTag ?_ | refine good_find (fun _ => ?_) ?_ | refine good_mapIn fun _ _ => ?_ | refine good_okK fun _ _ _ => ?_ | refine good_zer fun _ _ _ => ?_ | refine good_bytes fun _ => ?_ | refine good_alloc ?_ | refine good_orec ?_ fun _ => ?_
  case toBytes x =>
    show Good _ (fun kf : KF => toBytesK x E M nm I ni kf)
    unfold toBytesK
    repeat' first
    | exact good_bad
    | refine good_leaf ⟨_, _, _, _, _, fun _ => rfl⟩
    | refine good_iff ?_ ?_ | refine good_op2 fun _ _ _ _ => ?_ | refine good_opd fun _ _ _ => ?_ | refine good_opds fun _ _ _ => ?_ | refine good_grow fun _ _ => ?_
    | refine good_bool fun _ _ _ => ?_ | refine good_enc fun _ _ _ => ?_ | refine good_optz fun _ _ _ => ?_ | refine good_nat fun _ => ?_ | refine good_bnd fun _ _ _ => ?_
    | refine good_part fun _ => ?_ | refine good_fill fun _ _ _ => ?_ | refine good_in ?_ | refine good_ptr ?_ | refine good_ptrK fun _ _ _ => ?_
    | refine good_keyTag ?_ | refine good_find (fun _ => ?_) ?_ | refine good_mapIn fun _ _ => ?_ | refine good_okK fun _ _ _ => ?_ | refine good_zer fun _ _ _ => ?_ | refine good_bytes fun _ => ?_ | refine good_alloc ?_ | refine good_orec ?_ fun _ => ?_
  case inv name x xs =>
    show Good _ (fun kf : KF => invS P call name x xs E M nm I ni kf)
    unfold invS
    refine good_opd fun _ _ _ => good_iff (good_opds fun _ _ _ => good_orec good_bad fun _ => hc _ _ _ _ _ _) good_bad
  case call f xs =>
    show Good _ (fun kf : KF => callS call f xs E M nm I ni kf)
    unfold callS
    exact good_opds fun _ _ _ => hc _ _ _ _ _ _
  case callv x xs =>
    show Good _ (fun kf : KF => callvS call x xs E M nm I ni kf)
    unfold callvS
    exact good_opd fun _ _ _ => good_iff (good_opds fun _ _ _ => hc _ _ _ _ _ _) good_bad
  case bad n => exact good_bad
end
end Go.Proofs.YtpjhkpmmbeoghaaGreat.Ev

namespace Go.Proofs.YtpjhkpmmbeoghaaGreat.Ev
open Go
def LinN (G : KN → Res) : Prop := Good (fun G => ∃ E M nm I ni, ∀ kn, G kn = kn E M nm I ni) G
def Lin2 (G : KN → KX → Res) : Prop := Good (κ := KN × KX) (fun G => (∃ E M nm I ni, ∀ k, G k = k.1 E M nm I ni) ∨ ∃ x E M nm I ni, ∀ k, G k = k.2 x E M nm I ni) fun k => G k.1 k.2
section
variable {κ : Type} {L : (κ → Res) → Prop} {P : Program} {call : CallT}
theorem Lin.bind {G : KF → Res} (h : Lin G) {H : Nat → Nat → Nat → Nat → Nat → κ → Res} (hH : ∀ w M nm I ni, Good L (H w M nm I ni)) : Good L (fun k => G fun w M nm I ni => H w M nm I ni k) := by
  rcases h with ⟨w, M, nm, I, ni, h⟩ | h
  · have : (fun k => G fun w M nm I ni => H w M nm I ni k) = H w M nm I ni := funext fun k => h _
    rw [this]; exact hH _ _ _ _ _
  · exact .inr fun k => h _
theorem LinN.bind {G : KN → Res} (h : LinN G) {H : Fr → Nat → Nat → Nat → Nat → κ → Res} (hH : ∀ w M nm I ni, Good L (H w M nm I ni)) : Good L (fun k => G fun w M nm I ni => H w M nm I ni k) := by
  rcases h with ⟨w, M, nm, I, ni, h⟩ | h
  · have : (fun k => G fun w M nm I ni => H w M nm I ni k) = H w M nm I ni := funext fun k => h _
    rw [this]; exact hH _ _ _ _ _
  · exact .inr fun k => h _
theorem Lin2.bind {G : KN → KX → Res} (h : Lin2 G) {H : Fr → Nat → Nat → Nat → Nat → κ → Res} {H' : Nat → Fr → Nat → Nat → Nat → Nat → κ → Res} (hH : ∀ w M nm I ni, Good L (H w M nm I ni)) (hH' : ∀ x w M nm I ni, Good L (H' x w M nm I ni)) :
    Good L (fun k => G (fun w M nm I ni => H w M nm I ni k) (fun x w M nm I ni => H' x w M nm I ni k)) := by
  rcases h with (⟨w, M, nm, I, ni, h⟩ | ⟨x, w, M, nm, I, ni, h⟩) | h
  · have : (fun k => G (fun w M nm I ni => H w M nm I ni k) (fun x w M nm I ni => H' x w M nm I ni k)) = H w M nm I ni := funext fun k => h (_, _)
    rw [this]; exact hH _ _ _ _ _
  · have : (fun k => G (fun w M nm I ni => H w M nm I ni k) (fun x w M nm I ni => H' x w M nm I ni k)) = H' x w M nm I ni := funext fun k => h (_, _)
    rw [this]; exact hH' _ _ _ _ _ _
  · exact .inr fun k => h (_, _)
def EvLin (ev : Nat → Code → CodeT) : Prop := ∀ nt c E M nm I ni, Lin2 (ev nt c E M nm I ni)
theorem ri_good (hc : CallLin call) (x : RI) {E : Fr} {M nm I ni : Nat} {H : Fr → Nat → Nat → Nat → Nat → κ → Res} (hH : ∀ w M nm I ni, Good L (H w M nm I ni)) : Good L (fun k => riK P call x E M nm I ni fun w M nm I ni => H w M nm I ni k) := by
  cases x with
  | plain off i => exact Lin.bind (step_lin hc i) fun _ _ _ _ _ => hH _ _ _ _ _
  | none i => exact Lin.bind (step_lin hc i) fun _ _ _ _ _ => hH _ _ _ _ _
  | guarded g want off i => exact good_iff (Lin.bind (step_lin hc i) fun _ _ _ _ _ => hH _ _ _ _ _) (hH _ _ _ _ _)
  | guardedNone g want i => exact good_iff (Lin.bind (step_lin hc i) fun _ _ _ _ _ => hH _ _ _ _ _) (hH _ _ _ _ _)
theorem reg_good (hc : CallLin call) : ∀ (l : List RI) {E : Fr} {M nm I ni : Nat} {H : Fr → Nat → Nat → Nat → Nat → κ → Res}, (∀ w M nm I ni, Good L (H w M nm I ni)) → Good L (fun k => regK P call l E M nm I ni fun w M nm I ni => H w M nm I ni k)
  | [], _, _, _, _, _, _, hH => hH _ _ _ _ _
  | x :: l, _, _, _, _, _, _, hH => ri_good hc x fun _ _ _ _ _ => reg_good hc l hH
theorem flt_good {x : Option (Nat × Nat) × FlS} {E : Fr} {M M' : Nat} {G : κ → Res} (h : Good L G) : Good L (fun k => fltK x E M M' (G k)) := by
  obtain ⟨g, s⟩ := x
  have go : Good L (fun k => fltK (none, s) E M M' (G k)) := by
    cases s with
    | load off n => exact good_ptr (good_in (good_iff h good_bad))
    | str off => exact good_iff (good_iff h (good_in (good_iff h good_bad))) good_bad
    | bad => exact good_bad
  cases g with
  | none => exact go
  | some gw => exact good_iff go h
theorem flts_good {E : Fr} {M M' : Nat} {G : κ → Res} (h : Good L G) : ∀ l : List (Option (Nat × Nat) × FlS), Good L (fun k => fltsK l E M M' (G k))
  | [] => h
  | _ :: l => flt_good (flts_good h l)
theorem regD_good (hc : CallLin call) : ∀ (l : List DI) {E : Fr} {M nm I ni : Nat} {H : Fr → Nat → Nat → Nat → Nat → κ → Res}, (∀ w M nm I ni, Good L (H w M nm I ni)) → Good L (fun k => regDK P call l E M nm I ni fun w M nm I ni => H w M nm I ni k)
  | [], _, _, _, _, _, _, hH => hH _ _ _ _ _
  | ⟨ri, w, fl⟩ :: l, _, _, _, _, _, _, hH => by
    cases w
    · exact ri_good hc ri fun _ _ _ _ _ => regD_good hc l hH
    · exact ri_good hc ri fun _ _ _ _ _ => flts_good (regD_good hc l hH) fl
theorem load1_good {x : Opd} {E : Fr} {M I ni : Nat} {G : Nat → Nat → Nat → κ → Res} (h : ∀ w I ni, Good L (G w I ni)) : Good L (fun k => load1K x E M I ni fun w I ni => G w I ni k) := good_opd fun _ _ _ => good_ptr (good_in (h _ _ _))
theorem loadN_good {x : Opd} {n : Nat} {E : Fr} {M I ni : Nat} {G : Nat → Nat → Nat → κ → Res} (h : ∀ w I ni, Good L (G w I ni)) : Good L (fun k => loadNK n x E M I ni fun w I ni => G w I ni k) := good_opd fun _ _ _ => good_ptr (good_in (good_grow fun _ _ => h _ _ _))
theorem rvs_good {E : Fr} {M : Nat} : ∀ (l : List RV) {I ni : Nat} {G : List Nat → Nat → Nat → κ → Res}, (∀ ws I ni, Good L (G ws I ni)) → Good L (fun k => rvsK l E M I ni fun ws I ni => G ws I ni k)
  | [], _, _, _, h => h _ _ _
  | .slot off :: l, _, _, _, h => rvs_good l fun _ _ _ => h _ _ _
  | .cell off :: l, _, _, G, h => load1_good (x := .s off) (G := fun w I ni k => rvsK l E M I ni fun ws I ni => G (w :: ws) I ni k) fun _ _ _ => rvs_good l fun _ _ _ => h _ _ _
  | .cells off n :: l, _, _, G, h => loadN_good (x := .s off) (G := fun w I ni k => rvsK l E M I ni fun ws I ni => G (w :: ws) I ni k) fun _ _ _ => rvs_good l fun _ _ _ => h _ _ _
theorem ret_lin (r : RR) {E : Fr} {M nm I ni : Nat} : Lin (retK r E M nm I ni) := by
  cases r with
  | one off => exact good_leaf ⟨_, _, _, _, _, fun _ => rfl⟩
  | many n offs =>
    show Good _ (fun kf : KF => growK I ni n (rowOf (slotsOf E offs)) fun I' ni' => kf (Nat.add 19 (Nat.mul 32 (Nat.add ni (Nat.mul 16777216 n)))) M nm I' ni')
    exact good_grow fun _ _ => good_leaf ⟨_, _, _, _, _, fun _ => rfl⟩
  | gen n l =>
    refine rvs_good l (G := fun ws I ni (kf : KF) => @List.rec Nat (fun _ => Res) (.bad 60 1) (fun w ws' _ => @List.rec Nat (fun _ => Res) (kf w M nm I ni)
      (fun _ _ _ => growK I ni n (rowOf ws) fun I' ni' => kf (Nat.add 19 (Nat.mul 32 (Nat.add ni (Nat.mul 16777216 n)))) M nm I' ni') ws') ws) fun ws I ni => ?_
    cases ws with
    | nil => exact good_bad
    | cons w ws =>
      cases ws with
      | nil => exact good_leaf ⟨_, _, _, _, _, fun _ => rfl⟩
      | cons w' ws => exact good_grow fun _ _ => good_leaf ⟨_, _, _, _, _, fun _ => rfl⟩
  | bad => exact good_bad
theorem lin2_kn {E : Fr} {M nm I ni : Nat} : Good (κ := KN × KX) (fun G => (∃ E M nm I ni, ∀ k, G k = k.1 E M nm I ni) ∨ ∃ x E M nm I ni, ∀ k, G k = k.2 x E M nm I ni) (fun k => k.1 E M nm I ni) := .inl (.inl ⟨_, _, _, _, _, fun _ => rfl⟩)
theorem lin2_kx {x : Nat} {E : Fr} {M nm I ni : Nat} : Good (κ := KN × KX) (fun G => (∃ E M nm I ni, ∀ k, G k = k.1 E M nm I ni) ∨ ∃ x E M nm I ni, ∀ k, G k = k.2 x E M nm I ni) (fun k => k.2 x E M nm I ni) := .inl (.inr ⟨_, _, _, _, _, _, fun _ => rfl⟩)
theorem back_good {bw : Nat} {E : Fr} {f : Opd} {ps : List Nat} {ia ib : CodeT} (hia : ∀ E M nm I ni, Lin2 (ia E M nm I ni)) (hib : ∀ E M nm I ni, Lin2 (ib E M nm I ni)) {M nm I ni : Nat} {H : Fr → Nat → Nat → Nat → Nat → κ → Res} (hH : ∀ w M nm I ni, Good L (H w M nm I ni)) :
    Good L (fun k => backK bw f ps E M nm I ni ia ib fun w M nm I ni => H w M nm I ni k) := by
  unfold backK
  refine good_opd fun w I ni => good_iff (good_iff (good_ptr (good_in (good_iff ?_ good_bad))) good_bad) good_bad
  generalize cellAt M (Nat.add (pB (cellAt I (Nat.mod (Nat.div w 33554432) 16777216))) (pOff (cellAt I (Nat.mod (Nat.div w 33554432) 16777216)))) = s
  generalize cellAt I (Nat.mod (Nat.div w 33554432) 16777216) = q
  generalize sLen s = m
  induction m generalizing M nm I ni with
  | zero => exact hH _ _ _ _ _
  | succ m ih =>
    refine good_in (good_iff (good_in ?_) good_bad)
    cases ps with
    | nil => exact good_bad
    | cons p ps =>
      cases ps with
      | nil => exact good_bad
      | cons p' ps => exact Lin2.bind (hia _ _ _ _ _) (fun _ _ _ _ _ => Lin2.bind (hib _ _ _ _ _) (fun _ _ _ _ _ => ih _ _) fun _ _ _ _ _ _ => good_bad) fun _ _ _ _ _ _ => good_bad
theorem codeK_lin {bw nt : Nat} {call : CallT} (hc : CallLin call) (c : Code) : ∀ E M nm I ni, Lin2 (codeK P bw call nt c E M nm I ni) := by
  induction c with
  | skip => exact fun E M nm I ni => lin2_kn
  | region id ops d =>
    intro E M nm I ni
    cases d with
    | false =>
      show Good _ (fun k : KN × KX => regG P call (groupL (lowReg P nt ops)) E M nm I ni k.1)
      simp only [regG_eq]
      exact reg_good hc _ (H := fun w M nm I ni (k : KN × KX) => k.1 w M nm I ni) fun _ _ _ _ _ => lin2_kn
    | true =>
      show Good _ (fun k : KN × KX => iff (drawOk P ops) (regG P call (groupD (lowDI P nt ops [] (eager P ops))) E M nm I ni k.1) (.bad 76 0))
      simp only [regGD_eq]
      exact good_iff (regD_good hc _ (H := fun w M nm I ni (k : KN × KX) => k.1 w M nm I ni) fun _ _ _ _ _ => lin2_kn) good_bad
  | seq a b iha ihb => exact fun E M nm I ni => Lin2.bind (iha _ _ _ _ _) (H := fun w M nm I ni (k : KN × KX) => codeK P bw call nt b w M nm I ni k.1 k.2) (H' := fun x w M nm I ni (k : KN × KX) => k.2 x w M nm I ni) (fun _ _ _ _ _ => ihb _ _ _ _ _) fun _ _ _ _ _ _ => lin2_kx
  | cond c a b iha ihb => exact fun E M nm I ni => good_opd (x := lowOpd c) (E := E) (G := fun w _ _ (k : KN × KX) => iff (Nat.beq w 33) (codeK P bw call nt a E M nm I ni k.1 k.2) (iff (Nat.beq w 1) (codeK P bw call nt b E M nm I ni k.1 k.2) (.bad 63 w))) fun _ _ _ => good_iff (iha _ _ _ _ _) (good_iff (ihb _ _ _ _ _) good_bad)
  | block id b ih => exact fun E M nm I ni => Lin2.bind (ih _ _ _ _ _) (H := fun w M nm I ni (k : KN × KX) => k.1 w M nm I ni) (H' := fun x E M nm I ni (k : KN × KX) => iff (Nat.beq x (Nat.succ id)) (k.1 E M nm I ni) (k.2 x E M nm I ni)) (fun _ _ _ _ _ => lin2_kn) fun _ _ _ _ _ _ => good_iff lin2_kn lin2_kx
  | loop b ih =>
    have go : ∀ (m : Nat) (E : Fr) (M nm I ni : Nat), Good (κ := KN × KX) (fun G => (∃ E M nm I ni, ∀ k, G k = k.1 E M nm I ni) ∨ ∃ x E M nm I ni, ∀ k, G k = k.2 x E M nm I ni) (fun k => loopK (codeK P bw call nt b) k.2 m E M nm I ni) := by
      intro m
      induction m with
      | zero => exact fun _ _ _ _ _ => good_bad
      | succ m im => exact fun E M nm I ni => Lin2.bind (ih _ _ _ _ _) (H := fun w M nm I ni (k : KN × KX) => loopK (codeK P bw call nt b) k.2 m w M nm I ni) (H' := fun x w M nm I ni (k : KN × KX) => k.2 x w M nm I ni) (fun _ _ _ _ _ => im _ _ _ _ _) fun _ _ _ _ _ _ => lin2_kx
    exact fun E M nm I ni => go LF E M nm I ni
  | rangeFunc f ps a b iha ihb => exact fun E M nm I ni => good_iff (back_good (H := fun w M nm I ni (k : KN × KX) => k.1 w M nm I ni) iha ihb fun _ _ _ _ _ => lin2_kn) good_bad
  | exit id => exact fun E M nm I ni => lin2_kx
  | scope b ih => exact ih
  | ret => exact fun E M nm I ni => lin2_kx
  | label l => exact fun E M nm I ni => lin2_kn
  | goto l => exact fun E M nm I ni => good_bad
  | _ => exact fun E M nm I ni => good_bad
theorem callW_lin {bw : Nat} {call : CallT} (hc : CallLin call) : CallLin (callW P bw call) := by
  intro f ws M nm I ni
  show Good _ (fun kf : KF => callW P bw call f ws M nm I ni kf)
  unfold callW
  cases funInfo P f with
  | none => exact good_bad
  | some c nt r =>
    refine good_iff ?_ good_bad
    exact Lin2.bind (codeK_lin hc c _ _ _ _ _) (fun _ _ _ _ _ => Lin.bind (ret_lin r) fun _ _ _ _ _ => good_leaf ⟨_, _, _, _, _, fun _ => rfl⟩) fun _ _ _ _ _ _ => good_iff (Lin.bind (ret_lin r) fun _ _ _ _ _ => good_leaf ⟨_, _, _, _, _, fun _ => rfl⟩) good_bad
theorem evF_lin {bw : Nat} : ∀ fuel, CallLin (evF P bw fuel)
  | 0 => fun _ _ _ _ _ _ => good_bad
  | fuel + 1 => callW_lin (evF_lin fuel)
end
end Go.Proofs.YtpjhkpmmbeoghaaGreat.Ev
