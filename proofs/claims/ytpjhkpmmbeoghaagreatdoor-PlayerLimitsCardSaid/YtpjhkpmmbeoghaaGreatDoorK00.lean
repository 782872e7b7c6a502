/- Part 0 of a verified evaluator, and what it reckons of the player. -/
import GoSem.Core.World
import Derived.Laws.Sem
import GoSem.Dispatch
import Derived.Calls
import Derived.Laws.Small
import Derived.Laws.Cover3
import Derived.Laws.Pointers
import Derived.Laws.StructEq
import Derived.Laws.Entries
import Derived.Laws.Tables
import Derived.ChangeKeysEq
import Derived.Deep.MidRow
import Derived.ArgAppend
import Derived.Laws.MakeOwn
import Derived.Great.BuildSlice
import Derived.Orders
set_option linter.unusedVariables false
set_option linter.unusedSimpArgs false
set_option linter.unusedSectionVars false
namespace Go.Proofs.YtpjhkpmmbeoghaaGreatDoor.Ev
def cellAt (c i : Nat) : Nat := Nat.mod (Nat.shiftRight c (Nat.mul 96 i)) 79228162514264337593543950336
def rowAt (c a n : Nat) : Nat := Nat.mod (Nat.shiftRight c (Nat.mul 96 a)) (Nat.pow 2 (Nat.mul 96 n))
def setRow (c a n r : Nat) : Nat := Nat.xor c (Nat.shiftLeft (Nat.xor (rowAt c a n) r) (Nat.mul 96 a))
def addRow (c m r : Nat) : Nat := Nat.lor c (Nat.shiftLeft r (Nat.mul 96 m))
theorem rowAt_def (c a n : Nat) : rowAt c a n = (c >>> (96 * a)) % 2 ^ (96 * n) := rfl
theorem cellAt_def (c i : Nat) : cellAt c i = (c >>> (96 * i)) % 2 ^ 96 := rfl
theorem bit_cell (c i j : Nat) : (cellAt c i).testBit j = (decide (j < 96) && c.testBit (96 * i + j)) := by
  rw [cellAt_def, Nat.testBit_mod_two_pow, Nat.testBit_shiftRight]
theorem bit_row (c a n j : Nat) : (rowAt c a n).testBit j = (decide (j < 96 * n) && c.testBit (96 * a + j)) := by
  rw [rowAt_def, Nat.testBit_mod_two_pow, Nat.testBit_shiftRight]
theorem bit_set (c a n r j : Nat) : (setRow c a n r).testBit j = (c.testBit j ^^ (decide (96 * a ≤ j) && ((rowAt c a n).testBit (j - 96 * a) ^^ r.testBit (j - 96 * a)))) := by
  show (c ^^^ ((rowAt c a n ^^^ r) <<< (96 * a))).testBit j = _
  rw [Nat.testBit_xor, Nat.testBit_shiftLeft, Nat.testBit_xor]
theorem bit_add (c m r j : Nat) : (addRow c m r).testBit j = (c.testBit j || (decide (96 * m ≤ j) && r.testBit (j - 96 * m))) := by
  show (c ||| (r <<< (96 * m))).testBit j = _
  rw [Nat.testBit_or, Nat.testBit_shiftLeft]
theorem bit_of_lt {x n j : Nat} (h : x < 2 ^ n) (hj : n ≤ j) : x.testBit j = false :=
  Nat.testBit_lt_two_pow (Nat.lt_of_lt_of_le h (Nat.pow_le_pow_right (by decide) hj))
theorem cell_lt (c i : Nat) : cellAt c i < 2 ^ 96 := Nat.mod_lt _ (by decide)
theorem row_lt (c a n : Nat) : rowAt c a n < 2 ^ (96 * n) := Nat.mod_lt _ (Nat.two_pow_pos _)
theorem cell_row {c a n i : Nat} (h : i < n) : cellAt (rowAt c a n) i = cellAt c (a + i) := by
  apply Nat.eq_of_testBit_eq
  intro j
  rw [bit_cell, bit_cell, bit_row]
  by_cases hj : j < 96
  · have h1 : 96 * i + j < 96 * n := by omega
    have h2 : 96 * a + (96 * i + j) = 96 * (a + i) + j := by omega
    simp [hj, h1, h2]
  · simp [hj]
theorem cell_out {c i m : Nat} (h : c < 2 ^ (96 * m)) (hi : m ≤ i) : cellAt c i = 0 := by
  apply Nat.eq_of_testBit_eq
  intro j
  rw [bit_cell, bit_of_lt h (by omega)]
  simp
theorem cell_set {c a n r i : Nat} (hr : r < 2 ^ (96 * n)) :
    cellAt (setRow c a n r) i = if a ≤ i ∧ i < a + n then cellAt r (i - a) else cellAt c i := by
  apply Nat.eq_of_testBit_eq
  intro j
  rw [bit_cell, bit_set, bit_row]
  by_cases hj : j < 96
  case neg => split <;> rw [bit_cell] <;> simp [hj]
  by_cases h1 : a ≤ i
  · have h2 : 96 * a ≤ 96 * i + j := by omega
    have h3 : 96 * i + j - 96 * a = 96 * (i - a) + j := by omega
    have h4 : 96 * a + (96 * (i - a) + j) = 96 * i + j := by omega
    by_cases h5 : i < a + n
    · have h6 : 96 * (i - a) + j < 96 * n := by omega
      rw [if_pos ⟨h1, h5⟩, bit_cell]
      simp only [hj, h2, h3, h4, h6, decide_true, Bool.true_and]
      cases c.testBit (96 * i + j) <;> simp
    · have h6 : ¬ 96 * (i - a) + j < 96 * n := by omega
      rw [if_neg (by omega), bit_cell]
      simp only [hj, h2, h3, h6, decide_true, decide_false, Bool.true_and, Bool.false_and]
      rw [bit_of_lt hr (by omega)]
      simp
  · have h2 : ¬ 96 * a ≤ 96 * i + j := by omega
    rw [if_neg (by omega), bit_cell]
    simp [h2]
theorem cell_add {c m r i : Nat} (hc : c < 2 ^ (96 * m)) : cellAt (addRow c m r) i = if i < m then cellAt c i else cellAt r (i - m) := by
  apply Nat.eq_of_testBit_eq
  intro j
  rw [bit_cell, bit_add]
  by_cases hj : j < 96
  case neg => split <;> rw [bit_cell] <;> simp [hj]
  by_cases h1 : i < m
  · have h2 : ¬ 96 * m ≤ 96 * i + j := by omega
    rw [if_pos h1, bit_cell]
    simp [h2]
  · have h2 : 96 * m ≤ 96 * i + j := by omega
    have h3 : 96 * i + j - 96 * m = 96 * (i - m) + j := by omega
    rw [if_neg h1, bit_cell, bit_of_lt hc h2]
    simp [h2, h3]
theorem lt_of_bits {x n : Nat} (h : ∀ j, n ≤ j → x.testBit j = false) : x < 2 ^ n := Nat.lt_pow_two_of_testBit x h
theorem set_lt {c a n r N : Nat} (hc : c < 2 ^ (96 * N)) (hN : a + n ≤ N) (hr : r < 2 ^ (96 * n)) : setRow c a n r < 2 ^ (96 * N) := by
  apply lt_of_bits
  intro j hj
  rw [bit_set, bit_row, bit_of_lt hc hj, bit_of_lt hr (by omega)]
  have : ¬ j - 96 * a < 96 * n := by omega
  simp [this]
theorem add_lt {c m r n : Nat} (hc : c < 2 ^ (96 * m)) (hr : r < 2 ^ (96 * n)) : addRow c m r < 2 ^ (96 * (m + n)) := by
  apply lt_of_bits
  intro j hj
  rw [bit_add, bit_of_lt hc (by omega), bit_of_lt hr (by omega)]
  simp
theorem row_ext {x y n : Nat} (hx : x < 2 ^ (96 * n)) (hy : y < 2 ^ (96 * n)) (h : ∀ i, i < n → cellAt x i = cellAt y i) : x = y := by
  apply Nat.eq_of_testBit_eq
  intro j
  by_cases hj : j < 96 * n
  · have h1 := congrArg (fun z => z.testBit (j % 96)) (h (j / 96) (by omega))
    simp only [bit_cell] at h1
    have h2 : 96 * (j / 96) + j % 96 = j := by omega
    have h3 : j % 96 < 96 := by omega
    simpa [h2, h3] using h1
  · rw [bit_of_lt hx (by omega), bit_of_lt hy (by omega)]
theorem cell_self {x : Nat} (h : x < 2 ^ 96) : cellAt x 0 = x := by
  rw [cellAt_def]; simpa using Nat.mod_eq_of_lt h
end Go.Proofs.YtpjhkpmmbeoghaaGreatDoor.Ev
namespace Go.Proofs.YtpjhkpmmbeoghaaGreatDoor.Ev
open Go
structure FB where
  blk : Nat
  base : Nat
  size : Nat
  sz : Nat
def beVal (l : List UInt8) : Nat := l.foldl (fun a b => a * 256 + b.toNat) 0
def strAt (I q n : Nat) : Nat := Nat.mod (Nat.shiftRight I (Nat.mul 8 q)) (Nat.pow 2 (Nat.mul 8 n))
def tagI : IntKind → Nat
  | .i8 => 2 | .i16 => 3 | .i32 => 4 | .i64 => 5 | .u8 => 6 | .u16 => 7 | .u32 => 8 | .u64 => 9
def bias : IntKind → Nat
  | .i8 | .i16 | .i32 | .i64 => 9223372036854775808
  | _ => 0
inductive WR (f : Nat → Option FB) (I ni : Nat) : Nat → Value → Prop
  | undef : WR f I ni 0 (.tuple #[])
  | bool (b : Bool) : WR f I ni (1 + 32 * b.toNat) (.bool b)
  | int (k : IntKind) (n : Int) (p : Nat) (hp : (p : Int) = n + bias k) (hlt : p < 18446744073709551616) : WR f I ni (tagI k + 32 * p) (.int k n)
  | pnil : WR f I ni 10 (.pointer none)
  | ptr (b off : Nat) (F : FB) (hb : 0 < b) (hb2 : b < 16777216) (hf : f b = some F) (ho : off < 16777216) : WR f I ni (10 + 32 * (off + 16777216 * b)) (.pointer (some ⟨F.blk, F.base + off, none⟩))
  | snil : WR f I ni 11 (.slice none 0 0)
  | slice (b off len sz cap : Nat) (ex : Bool) (F : FB) (A : Addr) (c : Nat) (hb : 0 < b) (hb2 : b < 4194304) (hf : f b = some F) (ho : off < 4194304) (hlen : len < 524288) (hsz : sz < 256) (hc : len ≤ cap) (hcap : cap < 524288)
      (h1 : ex = true → c = cap) (h2 : ex = false → cap ≤ c ∧ F.base + off + c * sz ≤ F.size) (hA : c ≠ 0 → A = ⟨F.blk, F.base + off, none⟩) :
      WR f I ni (11 + 32 * (off + 4194304 * (b + 4194304 * (len + 524288 * (sz + 256 * (ex.toNat + 2 * cap)))))) (.slice (some A) len c)
  | str (q n : Nat) (s : ByteArray) (hn : s.data.toList.length = n) (hn2 : n < 1048576) (hq : q < 268435456) (hv : strAt I q n = beVal s.data.toList) (hi : n = 0 ∨ q + n ≤ 12 * ni) : WR f I ni (12 + 32 * (q + 268435456 * n)) (.string s)
  | mnil : WR f I ni 13 (.map none)
  | map (b : Nat) (F : FB) (hb : 0 < b) (hb2 : b < 16777216) (hf : f b = some F) : WR f I ni (13 + 32 * b) (.map (some F.blk))
  | func (fn b n : Nat) (cs : Array Value) (hn : cs.size = n) (hn2 : n < 16777216) (hfn : fn < 1048576) (hb : b < 16777216) (hi : b + n ≤ ni) (hv : ∀ i (h : i < cs.size), WR f I ni (cellAt I (b + i)) cs[i]) :
      WR f I ni (14 + 32 * (fn + 1048576 * (b + 16777216 * n))) (.func (.func fn) #[] cs)
  | nilFunc : WR f I ni 15 .nilFunc
  | iface (t b : Nat) (v : Value) (ht : t < 1048576) (hb : b < 16777216) (hi : b < ni) (hv : WR f I ni (cellAt I b) v) : WR f I ni (16 + 32 * (t + 1048576 * b)) (.iface t v)
  | nilIface : WR f I ni 17 .nilIface
  | agg (b n : Nat) (cs : Array Value) (hn : cs.size = n) (hone : ∀ i (h : i < cs.size), cs[i].oneCell' = true) (hn2 : n < 16777216) (hb : b < 16777216) (hi : b + n ≤ ni) (hv : ∀ i (h : i < cs.size), WR f I ni (cellAt I (b + i)) cs[i]) :
      WR f I ni (18 + 32 * (b + 16777216 * n)) (.agg cs)
  | tuple (b n : Nat) (cs : Array Value) (hn : cs.size = n) (hn2 : n < 16777216) (hb : b < 16777216) (hi : b + n ≤ ni) (hv : ∀ i (h : i < cs.size), WR f I ni (cellAt I (b + i)) cs[i]) :
      WR f I ni (19 + 32 * (b + 16777216 * n)) (.tuple cs)
def IExt (I ni I' ni' : Nat) : Prop := ni ≤ ni' ∧ ∀ j, j < 96 * ni → I'.testBit j = I.testBit j
theorem IExt.refl (I ni : Nat) : IExt I ni I ni := ⟨Nat.le_refl _, fun _ _ => rfl⟩
theorem IExt.trans {I ni I' ni' I'' ni'' : Nat} (h : IExt I ni I' ni') (h' : IExt I' ni' I'' ni'') : IExt I ni I'' ni'' :=
  ⟨Nat.le_trans h.1 h'.1, fun j hj => (h'.2 j (Nat.lt_of_lt_of_le hj (Nat.mul_le_mul_left 96 h.1))).trans (h.2 j hj)⟩
theorem IExt.cell {I ni I' ni' i : Nat} (h : IExt I ni I' ni') (hi : i < ni) : cellAt I' i = cellAt I i := by
  apply Nat.eq_of_testBit_eq
  intro j
  rw [bit_cell, bit_cell]
  by_cases hj : j < 96
  · rw [h.2 _ (by omega)]
  · simp [hj]
theorem strAt_def (I q n : Nat) : strAt I q n = (I >>> (8 * q)) % 2 ^ (8 * n) := rfl
theorem IExt.str {I ni I' ni' q n : Nat} (h : IExt I ni I' ni') (hi : n = 0 ∨ q + n ≤ 12 * ni) : strAt I' q n = strAt I q n := by
  apply Nat.eq_of_testBit_eq
  intro j
  rw [strAt_def, strAt_def, Nat.testBit_mod_two_pow, Nat.testBit_mod_two_pow, Nat.testBit_shiftRight, Nat.testBit_shiftRight]
  by_cases hj : j < 8 * n
  · rw [h.2 _ (by omega)]
  · simp [hj]
theorem iext_add {I ni r n : Nat} (_hI : I < 2 ^ (96 * ni)) : IExt I ni (addRow I ni r) (ni + n) := by
  refine ⟨by omega, fun j hj => ?_⟩
  rw [bit_add]
  have : ¬ 96 * ni ≤ j := by omega
  simp [this]
def FExt (f f' : Nat → Option FB) : Prop := ∀ b F, f b = some F → f' b = some F
theorem FExt.refl (f : Nat → Option FB) : FExt f f := fun _ _ h => h
theorem FExt.trans {f f' f'' : Nat → Option FB} (h : FExt f f') (h' : FExt f' f'') : FExt f f'' := fun b F e => h' b F (h b F e)
theorem WR.mono {f f' : Nat → Option FB} {I ni I' ni' w : Nat} {v : Value} (hf : FExt f f') (hI : IExt I ni I' ni') (h : WR f I ni w v) : WR f' I' ni' w v := by
  induction h with
  | undef => exact .undef
  | bool b => exact .bool b
  | int k n p hp hlt => exact .int k n p hp hlt
  | pnil => exact .pnil
  | ptr b off F hb hb2 h1 ho => exact .ptr b off F hb hb2 (hf _ _ h1) ho
  | snil => exact .snil
  | slice b off len sz cap ex F A c hb hb2 h1 ho hlen hsz hc hcap h3 h4 hA => exact .slice b off len sz cap ex F A c hb hb2 (hf _ _ h1) ho hlen hsz hc hcap h3 h4 hA
  | str q n s hn hn2 hq hv hi => exact .str q n s hn hn2 hq ((hI.str hi).trans hv) (hi.imp id fun h => Nat.le_trans h (Nat.mul_le_mul_left 12 hI.1))
  | mnil => exact .mnil
  | map b F hb hb2 h1 => exact .map b F hb hb2 (hf _ _ h1)
  | func fn b n cs hn hn2 hfn hb hi _ ih =>
    exact .func fn b n cs hn hn2 hfn hb (Nat.le_trans hi hI.1) fun i h => by
      rw [hI.cell (by omega)]; exact ih i h
  | nilFunc => exact .nilFunc
  | iface t b v ht hb hi _ ih => exact .iface t b v ht hb (Nat.lt_of_lt_of_le hi hI.1) (by rw [hI.cell hi]; exact ih)
  | nilIface => exact .nilIface
  | agg b n cs hn hone hn2 hb hi _ ih =>
    exact .agg b n cs hn hone hn2 hb (Nat.le_trans hi hI.1) fun i h => by
      rw [hI.cell (by omega)]; exact ih i h
  | tuple b n cs hn hn2 hb hi _ ih =>
    exact .tuple b n cs hn hn2 hb (Nat.le_trans hi hI.1) fun i h => by
      rw [hI.cell (by omega)]; exact ih i h
theorem tagI_lt (k : IntKind) : 2 ≤ tagI k ∧ tagI k ≤ 9 := by cases k <;> decide
theorem tagI_inj {k l : IntKind} (h : tagI k = tagI l) : k = l := by cases k <;> cases l <;> first | rfl | (simp [tagI] at h)
theorem WR.lt96 {f : Nat → Option FB} {I ni w : Nat} {v : Value} (h : WR f I ni w v) : w < 79228162514264337593543950336 := by
  cases h with
  | bool b => cases b <;> decide
  | int k n p => have := tagI_lt k; omega
  | slice b off len sz cap ex F A c => have : ex.toNat ≤ 1 := by { cases ex <;> decide }
                                       omega
  | _ => omega
section
variable {f : Nat → Option FB} {I ni w : Nat} {v : Value}
theorem WR.inv_bool (h : WR f I ni w v) (ht : w % 32 = 1) : ∃ b : Bool, v = .bool b ∧ w = 1 + 32 * b.toNat := by
  cases h with
  | bool b => exact ⟨b, rfl, rfl⟩
  | int k n p => have := tagI_lt k; omega
  | _ => omega
theorem WR.inv_int (k : IntKind) (h : WR f I ni w v) (ht : w % 32 = tagI k) : ∃ (n : Int) (p : Nat), v = .int k n ∧ w = tagI k + 32 * p ∧ (p : Int) = n + bias k ∧ p < 18446744073709551616 := by
  have hk := tagI_lt k
  cases h with
  | int k' n p hp hlt =>
    have hk' := tagI_lt k'
    obtain rfl : k' = k := tagI_inj (by omega)
    exact ⟨n, p, rfl, rfl, hp, hlt⟩
  | _ => omega
theorem WR.inv_ptr (h : WR f I ni w v) (ht : w % 32 = 10) : (w = 10 ∧ v = .pointer none) ∨ ∃ b off F, 0 < b ∧ b < 16777216 ∧ f b = some F ∧ off < 16777216 ∧ w = 10 + 32 * (off + 16777216 * b) ∧ v = .pointer (some ⟨F.blk, F.base + off, none⟩) := by
  cases h with
  | pnil => exact .inl ⟨rfl, rfl⟩
  | ptr b off F hb hb2 h1 ho => exact .inr ⟨b, off, F, hb, hb2, h1, ho, rfl, rfl⟩
  | int k n p => have := tagI_lt k; omega
  | _ => omega
theorem WR.inv_slice (h : WR f I ni w v) (ht : w % 32 = 11) : (w = 11 ∧ v = .slice none 0 0) ∨
    ∃ b off len sz cap ex F A c, 0 < b ∧ b < 4194304 ∧ f b = some F ∧ off < 4194304 ∧ len < 524288 ∧ sz < 256 ∧ len ≤ cap ∧ cap < 524288 ∧ (ex = true → c = cap) ∧ (ex = false → cap ≤ c ∧ F.base + off + c * sz ≤ F.size) ∧
      (c ≠ 0 → A = ⟨F.blk, F.base + off, none⟩) ∧ w = 11 + 32 * (off + 4194304 * (b + 4194304 * (len + 524288 * (sz + 256 * (Bool.toNat ex + 2 * cap))))) ∧ v = .slice (some A) len c := by
  cases h with
  | snil => exact .inl ⟨rfl, rfl⟩
  | slice b off len sz cap ex F A c hb hb2 h1 ho hlen hsz hc hcap h3 h4 hA => exact .inr ⟨b, off, len, sz, cap, ex, F, A, c, hb, hb2, h1, ho, hlen, hsz, hc, hcap, h3, h4, hA, rfl, rfl⟩
  | int k n p => have := tagI_lt k; omega
  | _ => omega
theorem WR.inv_str (h : WR f I ni w v) (ht : w % 32 = 12) : ∃ q n s, v = .string s ∧ s.data.toList.length = n ∧ n < 1048576 ∧ q < 268435456 ∧ strAt I q n = beVal s.data.toList ∧ (n = 0 ∨ q + n ≤ 12 * ni) ∧ w = 12 + 32 * (q + 268435456 * n) := by
  cases h with
  | str q n s hn hn2 hq hv hi => exact ⟨q, n, s, rfl, hn, hn2, hq, hv, hi, rfl⟩
  | int k n p => have := tagI_lt k; omega
  | _ => omega
theorem WR.inv_map (h : WR f I ni w v) (ht : w % 32 = 13) : (w = 13 ∧ v = .map none) ∨ ∃ b F, 0 < b ∧ b < 16777216 ∧ f b = some F ∧ w = 13 + 32 * b ∧ v = .map (some F.blk) := by
  cases h with
  | mnil => exact .inl ⟨rfl, rfl⟩
  | map b F hb hb2 h1 => exact .inr ⟨b, F, hb, hb2, h1, rfl, rfl⟩
  | int k n p => have := tagI_lt k; omega
  | _ => omega
theorem WR.inv_func (h : WR f I ni w v) (ht : w % 32 = 14) : ∃ (fn b n : Nat) (cs : Array Value), v = .func (.func fn) #[] cs ∧ cs.size = n ∧ n < 16777216 ∧ fn < 1048576 ∧ b < 16777216 ∧ b + n ≤ ni ∧ (∀ i (h : i < cs.size), WR f I ni (cellAt I (b + i)) cs[i]) ∧ w = 14 + 32 * (fn + 1048576 * (b + 16777216 * n)) := by
  cases h with
  | func fn b n cs hn hn2 hfn hb hi hv => exact ⟨fn, b, n, cs, rfl, hn, hn2, hfn, hb, hi, hv, rfl⟩
  | int k n p => have := tagI_lt k; omega
  | _ => omega
theorem WR.inv_nilFunc (h : WR f I ni w v) (ht : w % 32 = 15) : v = .nilFunc := by
  cases h with
  | nilFunc => rfl
  | int k n p => have := tagI_lt k; omega
  | _ => omega
theorem WR.inv_iface (h : WR f I ni w v) (ht : w % 32 = 16) : ∃ (t b : Nat) (x : Value), v = .iface t x ∧ t < 1048576 ∧ b < 16777216 ∧ b < ni ∧ WR f I ni (cellAt I b) x ∧ w = 16 + 32 * (t + 1048576 * b) := by
  cases h with
  | iface t b v ht' hb hi hv => exact ⟨t, b, v, rfl, ht', hb, hi, hv, rfl⟩
  | int k n p => have := tagI_lt k; omega
  | _ => omega
theorem WR.inv_nilIface (h : WR f I ni w v) (ht : w % 32 = 17) : v = .nilIface := by
  cases h with
  | nilIface => rfl
  | int k n p => have := tagI_lt k; omega
  | _ => omega
theorem WR.inv_agg (h : WR f I ni w v) (ht : w % 32 = 18) : ∃ b n cs, v = .agg cs ∧ cs.size = n ∧ (∀ i (h : i < cs.size), cs[i].oneCell' = true) ∧ n < 16777216 ∧ b < 16777216 ∧ b + n ≤ ni ∧ (∀ i (h : i < cs.size), WR f I ni (cellAt I (b + i)) cs[i]) ∧ w = 18 + 32 * (b + 16777216 * n) := by
  cases h with
  | agg b n cs hn hone hn2 hb hi hv => exact ⟨b, n, cs, rfl, hn, hone, hn2, hb, hi, hv, rfl⟩
  | int k n p => have := tagI_lt k; omega
  | _ => omega
theorem WR.inv_tuple (h : WR f I ni w v) (ht : w % 32 = 19) : ∃ b n cs, v = .tuple cs ∧ cs.size = n ∧ n < 16777216 ∧ b < 16777216 ∧ b + n ≤ ni ∧ (∀ i (h : i < cs.size), WR f I ni (cellAt I (b + i)) cs[i]) ∧ w = 19 + 32 * (b + 16777216 * n) := by
  cases h with
  | tuple b n cs hn hn2 hb hi hv => exact ⟨b, n, cs, rfl, hn, hn2, hb, hi, hv, rfl⟩
  | int k n p => have := tagI_lt k; omega
  | _ => omega
end
end Go.Proofs.YtpjhkpmmbeoghaaGreatDoor.Ev
namespace Go.Proofs.YtpjhkpmmbeoghaaGreatDoor.Ev
open Go
structure Cf where
  lay : Nat → Option Nat
  f : Nat → Option FB
  M : Nat
  nm : Nat
  I : Nat
  ni : Nat
  w : World
def hd (M b : Nat) : Nat := cellAt M (b - 1)
def CellsOk (c : Cf) (b : Nat) (F : FB) : Prop :=
  ∃ cs elem fr, c.w.heap[F.blk]? = some (.cells cs elem fr) ∧ (∀ i, i < cs.size → ¬ (fr.1 ≤ i ∧ i < fr.2)) ∧ cs.size = F.size ∧ F.base + hd c.M b / 1024 ≤ cs.size ∧ (hd c.M b / 4) % 256 = F.sz ∧
    ∀ i (_ : i < hd c.M b / 1024) (h : F.base + i < cs.size), WR c.f c.I c.ni (cellAt c.M (b + i)) cs[F.base + i] ∧ cs[F.base + i].oneCell' = true
def MapOk (c : Cf) (b : Nat) (F : FB) : Prop :=
  hd c.M b = 1027 ∧ ∃ es clock b' k, c.w.heap[F.blk]? = some (.map es clock) ∧ es.size = k ∧ cellAt c.M b = 18 + 32 * (b' + 16777216 * (2 * k)) ∧ b' < 16777216 ∧ b' + 2 * k ≤ c.ni ∧
    ∀ i (h : i < es.size), WR c.f c.I c.ni (cellAt c.I (b' + 2 * i)) es[i].key ∧ WR c.f c.I c.ni (cellAt c.I (b' + 2 * i + 1)) es[i].val
structure HR (c : Cf) : Prop where
  mlt : c.M < 2 ^ (96 * c.nm)
  ilt : c.I < 2 ^ (96 * c.ni)
  lay0 : ∀ b n, c.lay b = some n → 0 < b ∧ b + n ≤ c.nm
  apart : ∀ b n b' n', c.lay b = some n → c.lay b' = some n' → b < b' → b + n < b'
  dom : ∀ b F, c.f b = some F → ∃ n, c.lay b = some n
  hdr : ∀ b n, c.lay b = some n → hd c.M b = 0 ∨ hd c.M b / 1024 = n
  cells : ∀ b F, c.f b = some F → hd c.M b % 4 = 1 → CellsOk c b F
  maps : ∀ b F, c.f b = some F → hd c.M b % 4 = 3 → MapOk c b F
  lt : ∀ b F, c.f b = some F → F.blk < c.w.heap.size
  inj : ∀ b b' F F', c.f b = some F → c.f b' = some F' → hd c.M b ≠ 0 → hd c.M b' ≠ 0 → F.blk = F'.blk → b = b'
structure Ext (c c' : Cf) : Prop where
  lay : ∀ b n, c.lay b = some n → c'.lay b = some n
  layN : ∀ b n, c'.lay b = some n → c.lay b = some n ∨ c.nm < b
  f : FExt c.f c'.f
  fN : ∀ b F, c'.f b = some F → c.f b = some F ∨ c.nm < b
  I : IExt c.I c.ni c'.I c'.ni
  nm : c.nm ≤ c'.nm
  keep : ∀ b n, c.lay b = some n → c.f b = none → ∀ i, b - 1 ≤ i → i < b + n → cellAt c'.M i = cellAt c.M i
  tape : c'.w.tape = c.w.tape ∧ c'.w.os = c.w.os ∧ c'.w.output = c.w.output
  size : c.w.heap.size ≤ c'.w.heap.size
  frame : ∀ k, k < c.w.heap.size → (∀ b F, c.f b = some F → hd c.M b ≠ 0 → F.blk ≠ k) → c'.w.heap[k]? = c.w.heap[k]?
  img : ∀ b F, c'.f b = some F → hd c'.M b ≠ 0 → F.blk < c.w.heap.size → ∃ b0 F0, c.f b0 = some F0 ∧ hd c.M b0 ≠ 0 ∧ F0.blk = F.blk
theorem Ext.refl (c : Cf) : Ext c c :=
  ⟨fun _ _ h => h, fun _ _ h => .inl h, .refl _, fun _ _ h => .inl h, .refl _ _, Nat.le_refl _, fun _ _ _ _ _ _ _ => rfl, ⟨rfl, rfl, rfl⟩, Nat.le_refl _, fun _ _ _ => rfl, fun b F h1 h2 _ => ⟨b, F, h1, h2, rfl⟩⟩
theorem Ext.trans {c c' c'' : Cf} (hr : HR c) (h : Ext c c') (h' : Ext c' c'') : Ext c c'' where
  lay b n e := h'.lay b n (h.lay b n e)
  layN b n e := by
    rcases h'.layN b n e with h1 | h1
    · exact h.layN b n h1
    · exact .inr (Nat.lt_of_le_of_lt h.nm h1)
  f := h.f.trans h'.f
  fN b F e := by
    rcases h'.fN b F e with h1 | h1
    · exact h.fN b F h1
    · exact .inr (Nat.lt_of_le_of_lt h.nm h1)
  I := h.I.trans h'.I
  nm := Nat.le_trans h.nm h'.nm
  keep b n hl hf i h1 h2 := by
    have hb := hr.lay0 b n hl
    have hf' : c'.f b = none := by
      cases e : c'.f b with
      | none => rfl
      | some F =>
        rcases h.fN b F e with h3 | h3
        · rw [hf] at h3; cases h3
        · omega
    exact (h'.keep b n (h.lay b n hl) hf' i h1 h2).trans (h.keep b n hl hf i h1 h2)
  tape := ⟨h'.tape.1.trans h.tape.1, h'.tape.2.1.trans h.tape.2.1, h'.tape.2.2.trans h.tape.2.2⟩
  size := Nat.le_trans h.size h'.size
  frame k hk hn := by
    refine (h'.frame k (Nat.lt_of_lt_of_le hk h.size) fun b F e1 e2 e3 => ?_).trans (h.frame k hk hn)
    obtain ⟨b0, F0, h1, h2, h3⟩ := h.img b F e1 e2 (e3 ▸ hk)
    exact hn b0 F0 h1 h2 (h3.trans e3)
  img b F e1 e2 e3 := by
    obtain ⟨b0, F0, h1, h2, h3⟩ := h'.img b F e1 e2 (Nat.lt_of_lt_of_le e3 h.size)
    obtain ⟨b1, F1, h4, h5, h6⟩ := h.img b0 F0 h1 h2 (h3 ▸ e3)
    exact ⟨b1, F1, h4, h5, h6.trans h3⟩
theorem HR.growI {c : Cf} (h : HR c) {I' ni' : Nat} (hI : IExt c.I c.ni I' ni') (hlt : I' < 2 ^ (96 * ni')) : HR { c with I := I', ni := ni' } where
  mlt := h.mlt
  ilt := hlt
  lay0 := h.lay0
  apart := h.apart
  dom := h.dom
  hdr := h.hdr
  cells b F hf hk := by
    obtain ⟨cs, elem, fr, h1, h2, h3, h4, h5, h6⟩ := h.cells b F hf hk
    exact ⟨cs, elem, fr, h1, h2, h3, h4, h5, fun i hi hh => ⟨(h6 i hi hh).1.mono (.refl _) hI, (h6 i hi hh).2⟩⟩
  maps b F hf hk := by
    obtain ⟨h0, es, clock, b', k, h1, h2, h3, h4, h5, h6⟩ := h.maps b F hf hk
    refine ⟨h0, es, clock, b', k, h1, h2, h3, h4, Nat.le_trans h5 hI.1, fun i hi => ?_⟩
    obtain ⟨h7, h8⟩ := h6 i hi
    exact ⟨by show WR c.f I' ni' (cellAt I' _) _; rw [hI.cell (by omega)]; exact h7.mono (.refl _) hI, by show WR c.f I' ni' (cellAt I' _) _; rw [hI.cell (by omega)]; exact h8.mono (.refl _) hI⟩
  lt := h.lt
  inj := h.inj
theorem Ext.growI {c : Cf} {I' ni' : Nat} (hI : IExt c.I c.ni I' ni') : Ext c { c with I := I', ni := ni' } :=
  ⟨fun _ _ h => h, fun _ _ h => .inl h, .refl _, fun _ _ h => .inl h, hI, Nat.le_refl _, fun _ _ _ _ _ _ _ => rfl, ⟨rfl, rfl, rfl⟩, Nat.le_refl _, fun _ _ _ => rfl, fun b F h1 h2 _ => ⟨b, F, h1, h2, rfl⟩⟩
theorem HR.drew {c : Cf} (h : HR c) {w' : World} (hh : w'.heap = c.w.heap) : HR { c with w := w' } where
  mlt := h.mlt
  ilt := h.ilt
  lay0 := h.lay0
  apart := h.apart
  dom := h.dom
  hdr := h.hdr
  cells b F hf hk := by
    obtain ⟨cs, elem, fr, h1, h2⟩ := h.cells b F hf hk
    exact ⟨cs, elem, fr, by show w'.heap[_]? = _; rw [hh]; exact h1, h2⟩
  maps b F hf hk := by
    obtain ⟨h0, es, clock, b', k, h1, h2⟩ := h.maps b F hf hk
    exact ⟨h0, es, clock, b', k, by show w'.heap[_]? = _; rw [hh]; exact h1, h2⟩
  lt b F hf := by show _ < w'.heap.size; rw [hh]; exact h.lt b F hf
  inj := h.inj
theorem Ext.drew {c : Cf} {w' : World} (hh : w'.heap = c.w.heap) (ht : w'.tape = c.w.tape ∧ w'.os = c.w.os ∧ w'.output = c.w.output) : Ext c { c with w := w' } :=
  ⟨fun _ _ h => h, fun _ _ h => .inl h, .refl _, fun _ _ h => .inl h, .refl _ _, Nat.le_refl _, fun _ _ _ _ _ _ _ => rfl, ht, by show _ ≤ w'.heap.size; rw [hh]; exact Nat.le_refl _,
    fun k _ _ => by show w'.heap[k]? = _; rw [hh], fun b F h1 h2 _ => ⟨b, F, h1, h2, rfl⟩⟩
theorem HR.load {c : Cf} (h : HR c) {b : Nat} {F : FB} (hf : c.f b = some F) (hk : hd c.M b % 4 = 1) {off : Nat} (ho : off < hd c.M b / 1024) :
    ∃ v, c.w.cell? ⟨F.blk, F.base + off, none⟩ = some v ∧ WR c.f c.I c.ni (cellAt c.M (b + off)) v ∧ v.oneCell' = true := by
  obtain ⟨cs, elem, fr, h1, h2, h3, h4, h5, h6⟩ := h.cells b F hf hk
  have hlt : F.base + off < cs.size := by omega
  exact ⟨cs[F.base + off], by simp [World.cell?, h1, hlt], h6 off ho hlt⟩
theorem HR.disj {c : Cf} (h : HR c) {b n b' n' : Nat} (hb : c.lay b = some n) (hb' : c.lay b' = some n') (hne : b ≠ b') {i : Nat} (h1 : b - 1 ≤ i) (h2 : i < b + n) : ¬ (b' - 1 ≤ i ∧ i < b' + n') := by
  have a1 := h.lay0 b n hb
  have a2 := h.lay0 b' n' hb'
  rcases Nat.lt_or_gt_of_ne hne with h3 | h3
  · have := h.apart b n b' n' hb hb' h3; omega
  · have := h.apart b' n' b n hb' hb h3; omega
theorem HR.store {c : Cf} (h : HR c) {b : Nat} {F : FB} (hf : c.f b = some F) (hk : hd c.M b % 4 = 1) {off n r : Nat} (hn : off + n ≤ hd c.M b / 1024) (hr : r < 2 ^ (96 * n))
    {cs cs' : Array Value} {elem : TypeId} {fr : Nat × Nat} {w' : World} (hold : c.w.heap[F.blk]? = some (.cells cs elem fr)) (hw : w'.heap = c.w.heap.setIfInBounds F.blk (.cells cs' elem fr))
    (hs : cs'.size = cs.size) (hin : ∀ j, j < n → ∀ (h : F.base + off + j < cs'.size), WR c.f c.I c.ni (cellAt r j) cs'[F.base + off + j] ∧ cs'[F.base + off + j].oneCell' = true)
    (hout : ∀ i, ¬ (F.base + off ≤ i ∧ i < F.base + off + n) → cs'[i]? = cs[i]?) :
    HR { c with M := setRow c.M (b + off) n r, w := w' } := by
  obtain ⟨n0, hl⟩ := h.dom b F hf
  have hh0 := (h.hdr b n0 hl).resolve_left (by omega)
  have hl0 := h.lay0 b n0 hl
  have cellM : ∀ i, cellAt (setRow c.M (b + off) n r) i = if b + off ≤ i ∧ i < b + off + n then cellAt r (i - (b + off)) else cellAt c.M i := fun i => cell_set hr
  have hdM : ∀ b' n', c.lay b' = some n' → hd (setRow c.M (b + off) n r) b' = hd c.M b' := by
    intro b' n' hl'
    show cellAt _ _ = cellAt _ _
    rw [cellM, if_neg]
    intro hcon
    by_cases hbb : b = b'
    · subst hbb; omega
    · have := h.lay0 b' n' hl'
      exact h.disj hl hl' hbb (i := b' - 1) (by omega) (by omega) ⟨by omega, by omega⟩
  have cellO : ∀ b' n', c.lay b' = some n' → b' ≠ b → ∀ i, i < n' → cellAt (setRow c.M (b + off) n r) (b' + i) = cellAt c.M (b' + i) := by
    intro b' n' hl' hne i hi
    rw [cellM, if_neg]
    intro hcon
    exact h.disj hl hl' (Ne.symm hne) (i := b' + i) (by omega) (by omega) ⟨by omega, by omega⟩
  have hlt : F.blk < c.w.heap.size := h.lt b F hf
  refine ⟨set_lt h.mlt (by show b + off + n ≤ c.nm; omega) hr, h.ilt, h.lay0, h.apart, h.dom, fun b' n' hl' => ?_, fun b' F' hf' hk' => ?_, fun b' F' hf' hk' => ?_, fun b' F' hf' => ?_, fun b1 b2 F1 F2 e1 e2 e3 e4 e5 => ?_⟩
  · show hd (setRow c.M (b + off) n r) b' = 0 ∨ hd (setRow c.M (b + off) n r) b' / 1024 = n'
    rw [hdM b' n' hl']; exact h.hdr b' n' hl'
  · obtain ⟨n', hl'⟩ := h.dom b' F' hf'
    have e0 : hd (setRow c.M (b + off) n r) b' = hd c.M b' := hdM b' n' hl'
    have hk2 : hd c.M b' % 4 = 1 := by rw [← e0]; exact hk'
    obtain ⟨cs2, elem2, fr2, h1, h2, h3, h4, h5, h6⟩ := h.cells b' F' hf' hk2
    by_cases hbb : b' = b
    · subst hbb
      rw [hf] at hf'; cases hf'
      rw [hold] at h1; cases h1
      refine ⟨cs', elem, fr, ?_, fun i hi => h2 i (by omega), by omega, ?_, ?_, fun i hi hh => ?_⟩
      · show w'.heap[_]? = _; rw [hw]; simp [hlt]
      · show _ + hd (setRow c.M (b' + off) n r) b' / 1024 ≤ _; rw [e0]; omega
      · show (hd (setRow c.M (b' + off) n r) b' / 4) % 256 = _; rw [e0]; exact h5
      · have hi' : i < hd c.M b' / 1024 := by rw [← e0]; exact hi
        show WR c.f c.I c.ni (cellAt (setRow c.M (b' + off) n r) (b' + i)) _ ∧ _
        rw [cellM]
        split
        · rename_i hc
          have e1 : F.base + i = F.base + off + (i - off) := by omega
          have := hin (i - off) (by omega) (by omega)
          rw [show b' + i - (b' + off) = i - off by omega]
          simpa only [← e1] using this
        · rename_i hc
          have e1 := hout (F.base + i) (by omega)
          have := h6 i hi' (by omega)
          have e2 : cs'[F.base + i]'hh = cs[F.base + i] := by
            rw [Array.getElem?_eq_getElem hh, Array.getElem?_eq_getElem (by omega)] at e1
            exact Option.some.inj e1
          rw [e2]; exact this
    · have hne : F'.blk ≠ F.blk := fun e => hbb (h.inj b' b F' F hf' hf (by omega) (by omega) e)
      refine ⟨cs2, elem2, fr2, ?_, h2, h3, ?_, ?_, fun i hi hh => ?_⟩
      · show w'.heap[_]? = _; rw [hw, Array.getElem?_setIfInBounds_ne (Ne.symm hne)]; exact h1
      · show _ + hd (setRow c.M (b + off) n r) b' / 1024 ≤ _; rw [e0]; omega
      · show (hd (setRow c.M (b + off) n r) b' / 4) % 256 = _; rw [e0]; exact h5
      · have hi' : i < hd c.M b' / 1024 := by rw [← e0]; exact hi
        have hn' := (h.hdr b' n' hl').resolve_left (by omega)
        show WR c.f c.I c.ni (cellAt (setRow c.M (b + off) n r) (b' + i)) _ ∧ _
        rw [cellO b' n' hl' hbb i (by omega)]
        exact h6 i hi' hh
  · obtain ⟨n', hl'⟩ := h.dom b' F' hf'
    have e0 : hd (setRow c.M (b + off) n r) b' = hd c.M b' := hdM b' n' hl'
    have hk2 : hd c.M b' % 4 = 3 := by rw [← e0]; exact hk'
    obtain ⟨h0, es, clock, b2, k, h1, h2, h3, h4, h5, h6⟩ := h.maps b' F' hf' hk2
    have hbb : b' ≠ b := fun e => by subst e; omega
    have hne : F'.blk ≠ F.blk := fun e => hbb (h.inj b' b F' F hf' hf (by omega) (by omega) e)
    refine ⟨e0.trans h0, es, clock, b2, k, ?_, h2, ?_, h4, h5, h6⟩
    · show w'.heap[_]? = _; rw [hw, Array.getElem?_setIfInBounds_ne (Ne.symm hne)]; exact h1
    · show cellAt (setRow c.M (b + off) n r) b' = _
      rw [cellM, if_neg]
      · exact h3
      · intro hcon
        have hb' := h.lay0 b' n' hl'
        exact h.disj hl' hl hbb (i := b' - 1) (by omega) (by omega) ⟨by omega, by
          rcases Nat.lt_or_gt_of_ne hbb with h7 | h7
          · have := h.apart b' n' b n0 hl' hl h7; omega
          · have := h.apart b n0 b' n' hl hl' h7; omega⟩
  · show _ < w'.heap.size; rw [hw]; simpa using h.lt b' F' hf'
  · obtain ⟨n1, hl1⟩ := h.dom b1 F1 e1
    obtain ⟨n2, hl2⟩ := h.dom b2 F2 e2
    refine h.inj b1 b2 F1 F2 e1 e2 ?_ ?_ e5
    · rw [← hdM b1 n1 hl1]; exact e3
    · rw [← hdM b2 n2 hl2]; exact e4
end Go.Proofs.YtpjhkpmmbeoghaaGreatDoor.Ev
namespace Go.Proofs.YtpjhkpmmbeoghaaGreatDoor.Ev
open Go
theorem Ext.store {c : Cf} (h : HR c) {b : Nat} {F : FB} (hf : c.f b = some F) (hk : hd c.M b ≠ 0) {off n r : Nat} (hn : off + n ≤ hd c.M b / 1024) (hr : r < 2 ^ (96 * n))
    {ob : Obj} {w' : World} (hw : w'.heap = c.w.heap.setIfInBounds F.blk ob) (ht : w'.tape = c.w.tape ∧ w'.os = c.w.os ∧ w'.output = c.w.output) :
    Ext c { c with M := setRow c.M (b + off) n r, w := w' } := by
  obtain ⟨n0, hl⟩ := h.dom b F hf
  have hh0 := (h.hdr b n0 hl).resolve_left hk
  have hl0 := h.lay0 b n0 hl
  have cellM : ∀ i, cellAt (setRow c.M (b + off) n r) i = if b + off ≤ i ∧ i < b + off + n then cellAt r (i - (b + off)) else cellAt c.M i := fun i => cell_set hr
  refine ⟨fun _ _ h => h, fun _ _ h => .inl h, .refl _, fun _ _ h => .inl h, .refl _ _, Nat.le_refl _, fun b' n' hl' hf' i h1 h2 => ?_, ht, ?_, fun k hk' hno => ?_, fun b' F' e1 e2 e3 => ?_⟩
  · show cellAt (setRow c.M (b + off) n r) i = _
    rw [cellM, if_neg]
    intro hcon
    have hne : b' ≠ b := fun e => by subst e; rw [hf] at hf'; cases hf'
    exact h.disj hl' hl hne h1 h2 ⟨by omega, by omega⟩
  · show _ ≤ w'.heap.size; rw [hw]; simp
  · show w'.heap[k]? = _
    rw [hw, Array.getElem?_setIfInBounds_ne]
    exact fun e => hno b F hf hk e
  · refine ⟨b', F', e1, ?_, rfl⟩
    obtain ⟨n', hl'⟩ := h.dom b' F' e1
    have : hd (setRow c.M (b + off) n r) b' = hd c.M b' := by
      show cellAt _ _ = cellAt _ _
      rw [cellM, if_neg]
      intro hcon
      by_cases hbb : b = b'
      · subst hbb; omega
      · have := h.lay0 b' n' hl'
        exact h.disj hl hl' hbb (i := b' - 1) (by omega) (by omega) ⟨by omega, by omega⟩
    rw [← this]; exact e2
def setN {α : Type} (f : Nat → Option α) (b : Nat) (x : α) : Nat → Option α := fun y => if y = b then some x else f y
theorem setN_same {α : Type} (f : Nat → Option α) (b : Nat) (x : α) : setN f b x b = some x := by simp [setN]
theorem setN_ne {α : Type} (f : Nat → Option α) {b y : Nat} (x : α) (h : y ≠ b) : setN f b x y = f y := by simp [setN, h]
def Cf.grown (c : Cf) (hdw n r : Nat) (F : FB) (w' : World) : Cf :=
  { lay := setN c.lay (c.nm + 1) n, f := setN c.f (c.nm + 1) F, M := addRow c.M c.nm (addRow hdw 1 r), nm := c.nm + (1 + n), I := c.I, ni := c.ni, w := w' }
section
variable {c : Cf} {hdw n r : Nat} {F : FB} {w' : World}
theorem grown_cell (h : HR c) (hh : hdw < 2 ^ 96) (i : Nat) :
    cellAt (addRow c.M c.nm (addRow hdw 1 r)) i = if i < c.nm then cellAt c.M i else if i = c.nm then hdw else cellAt r (i - (c.nm + 1)) := by
  rw [cell_add h.mlt]
  split
  · rfl
  · rw [cell_add (by simpa using hh)]
    by_cases e : i = c.nm
    · subst e
      simp only [Nat.sub_self, if_pos (Nat.zero_lt_one), if_true]
      exact cell_self hh
    · rw [if_neg (by omega), if_neg e]
      congr 1
theorem grown_hd (h : HR c) (hh : hdw < 2 ^ 96) {b : Nat} (hb : b ≤ c.nm) (h0 : 0 < b) : hd (addRow c.M c.nm (addRow hdw 1 r)) b = hd c.M b := by
  show cellAt _ _ = cellAt _ _
  rw [grown_cell h hh, if_pos (by omega)]
theorem grown_hd' (h : HR c) (hh : hdw < 2 ^ 96) : hd (addRow c.M c.nm (addRow hdw 1 r)) (c.nm + 1) = hdw := by
  show cellAt _ _ = _
  rw [grown_cell h hh, if_neg (by omega), if_pos (by omega)]
theorem HR.grown (h : HR c) (hh : hdw < 2 ^ 96) (hn : hdw / 1024 = n) (hr : r < 2 ^ (96 * n))
    (hkeep : ∀ b F', c.f b = some F' → hd c.M b ≠ 0 → w'.heap[F'.blk]? = c.w.heap[F'.blk]?) (hsz : c.w.heap.size ≤ w'.heap.size) (hlt : F.blk < w'.heap.size)
    (hinj : ∀ b F', c.f b = some F' → hd c.M b ≠ 0 → F'.blk ≠ F.blk)
    (hc : hdw % 4 = 1 → CellsOk (c.grown hdw n r F w') (c.nm + 1) F) (hm : hdw % 4 = 3 → MapOk (c.grown hdw n r F w') (c.nm + 1) F) : HR (c.grown hdw n r F w') := by
  have hfx : FExt c.f (setN c.f (c.nm + 1) F) := by
    intro b F' e
    rw [setN_ne]
    · exact e
    · obtain ⟨n', hl'⟩ := h.dom b F' e
      have := h.lay0 b n' hl'
      omega
  have hle : ∀ b F', c.f b = some F' → b ≤ c.nm ∧ 0 < b := by
    intro b F' e
    obtain ⟨n', hl'⟩ := h.dom b F' e
    have := h.lay0 b n' hl'
    omega
  refine ⟨?_, h.ilt, fun b n' hl => ?_, fun b1 n1 b2 n2 e1 e2 h12 => ?_, fun b F' e => ?_, fun b n' hl => ?_, fun b F' e hk => ?_, fun b F' e hk => ?_, fun b F' e => ?_, fun b1 b2 F1 F2 e1 e2 e3 e4 e5 => ?_⟩
  · exact add_lt h.mlt (add_lt (by simpa using hh) hr)
  · simp only [Cf.grown, setN] at hl ⊢
    split at hl
    · cases hl; omega
    · have := h.lay0 b n' hl; omega
  · simp only [Cf.grown, setN] at e1 e2
    split at e1
    · split at e2
      · omega
      · have := h.lay0 b2 n2 e2; omega
    · split at e2
      · have := h.lay0 b1 n1 e1; omega
      · exact h.apart b1 n1 b2 n2 e1 e2 h12
  · simp only [Cf.grown, setN] at e ⊢
    split at e
    · rename_i hb; exact ⟨n, by simp [hb]⟩
    · rename_i hb
      obtain ⟨n', hl'⟩ := h.dom b F' e
      exact ⟨n', by simp [hb, hl']⟩
  · simp only [Cf.grown, setN] at hl ⊢
    split at hl
    · rename_i hb; cases hl; subst hb; rw [grown_hd' h hh]; exact .inr hn
    · have h0 := h.lay0 b n' hl
      rw [grown_hd h hh (by omega) (by omega)]; exact h.hdr b n' hl
  · by_cases hb : b = c.nm + 1
    · subst hb
      have : F' = F := by simpa [Cf.grown, setN] using e.symm
      subst this
      exact hc (by have := grown_hd' (r := r) h hh; simp only [Cf.grown] at hk; rw [this] at hk; exact hk)
    · have e' : c.f b = some F' := by simpa [Cf.grown, setN, hb] using e
      have hb0 := hle b F' e'
      have e0 : hd (c.grown hdw n r F w').M b = hd c.M b := grown_hd h hh hb0.1 hb0.2
      rw [e0] at hk
      obtain ⟨cs, elem, fr, h1, h2, h3, h4, h5, h6⟩ := h.cells b F' e' hk
      obtain ⟨n', hl'⟩ := h.dom b F' e'
      have hn' := (h.hdr b n' hl').resolve_left (by omega)
      have h0 := h.lay0 b n' hl'
      refine ⟨cs, elem, fr, ?_, h2, h3, by rw [e0]; exact h4, by rw [e0]; exact h5, fun i hi hx => ?_⟩
      · show w'.heap[_]? = _; rw [hkeep b F' e' (by omega)]; exact h1
      · rw [e0] at hi
        show WR (setN c.f (c.nm + 1) F) c.I c.ni (cellAt (addRow c.M c.nm (addRow hdw 1 r)) (b + i)) _ ∧ _
        rw [grown_cell h hh, if_pos (by omega)]
        exact ⟨(h6 i hi hx).1.mono hfx (.refl _ _), (h6 i hi hx).2⟩
  · by_cases hb : b = c.nm + 1
    · subst hb
      have : F' = F := by simpa [Cf.grown, setN] using e.symm
      subst this
      exact hm (by have := grown_hd' (r := r) h hh; simp only [Cf.grown] at hk; rw [this] at hk; exact hk)
    · have e' : c.f b = some F' := by simpa [Cf.grown, setN, hb] using e
      have hb0 := hle b F' e'
      have e0 : hd (c.grown hdw n r F w').M b = hd c.M b := grown_hd h hh hb0.1 hb0.2
      rw [e0] at hk
      obtain ⟨hz0, es, clock, b', k, h1, h2, h3, h4, h5, h6⟩ := h.maps b F' e' hk
      obtain ⟨n', hl'⟩ := h.dom b F' e'
      have hn' := (h.hdr b n' hl').resolve_left (by omega)
      have h0 := h.lay0 b n' hl'
      refine ⟨e0.trans hz0, es, clock, b', k, ?_, h2, ?_, h4, h5, fun i hi => ⟨(h6 i hi).1.mono hfx (.refl _ _), (h6 i hi).2.mono hfx (.refl _ _)⟩⟩
      · show w'.heap[_]? = _; rw [hkeep b F' e' (by omega)]; exact h1
      · show cellAt (addRow c.M c.nm (addRow hdw 1 r)) b = _
        by_cases hbn : b < c.nm
        · rw [grown_cell h hh, if_pos hbn]; exact h3
        · have hz : cellAt c.M b = 0 := cell_out h.mlt (by omega)
          rw [hz] at h3; omega
  · by_cases hb : b = c.nm + 1
    · subst hb
      have : F' = F := by simpa [Cf.grown, setN] using e.symm
      subst this; exact hlt
    · have e' : c.f b = some F' := by simpa [Cf.grown, setN, hb] using e
      exact Nat.lt_of_lt_of_le (h.lt b F' e') hsz
  · by_cases hb1 : b1 = c.nm + 1 <;> by_cases hb2 : b2 = c.nm + 1
    · omega
    · exfalso
      subst hb1
      have : F1 = F := by simpa [Cf.grown, setN] using e1.symm
      subst this
      have e' : c.f b2 = some F2 := by simpa [Cf.grown, setN, hb2] using e2
      have hb0 := hle b2 F2 e'
      have e0 : hd (c.grown hdw n r F1 w').M b2 = hd c.M b2 := grown_hd h hh hb0.1 hb0.2
      exact hinj b2 F2 e' (by rw [← e0]; exact e4) e5.symm
    · exfalso
      subst hb2
      have : F2 = F := by simpa [Cf.grown, setN] using e2.symm
      subst this
      have e' : c.f b1 = some F1 := by simpa [Cf.grown, setN, hb1] using e1
      have hb0 := hle b1 F1 e'
      have e0 : hd (c.grown hdw n r F2 w').M b1 = hd c.M b1 := grown_hd h hh hb0.1 hb0.2
      exact hinj b1 F1 e' (by rw [← e0]; exact e3) e5
    · have e1' : c.f b1 = some F1 := by simpa [Cf.grown, setN, hb1] using e1
      have e2' : c.f b2 = some F2 := by simpa [Cf.grown, setN, hb2] using e2
      have hc1 := hle b1 F1 e1'
      have hc2 := hle b2 F2 e2'
      have x1 : hd (c.grown hdw n r F w').M b1 = hd c.M b1 := grown_hd h hh hc1.1 hc1.2
      have x2 : hd (c.grown hdw n r F w').M b2 = hd c.M b2 := grown_hd h hh hc2.1 hc2.2
      exact h.inj b1 b2 F1 F2 e1' e2' (by rw [← x1]; exact e3) (by rw [← x2]; exact e4) e5
theorem Ext.grown (h : HR c) (hh : hdw < 2 ^ 96) (ht : w'.tape = c.w.tape ∧ w'.os = c.w.os ∧ w'.output = c.w.output) (hsz : c.w.heap.size ≤ w'.heap.size)
    (hframe : ∀ k, k < c.w.heap.size → w'.heap[k]? = c.w.heap[k]?) (hnew : c.w.heap.size ≤ F.blk) : Ext c (c.grown hdw n r F w') := by
  refine ⟨fun b n' e => ?_, fun b n' e => ?_, fun b F' e => ?_, fun b F' e => ?_, .refl _ _, by show c.nm ≤ c.nm + (1 + n); omega, fun b n' hl hf i h1 h2 => ?_, ht, hsz, fun k hk _ => hframe k hk, fun b F' e1 e2 e3 => ?_⟩
  · have := h.lay0 b n' e
    show setN c.lay (c.nm + 1) n b = _
    rw [setN_ne _ _ (by omega)]; exact e
  · simp only [Cf.grown, setN] at e
    split at e
    · exact .inr (by omega)
    · exact .inl e
  · obtain ⟨n', hl'⟩ := h.dom b F' e
    have := h.lay0 b n' hl'
    show setN c.f (c.nm + 1) F b = _
    rw [setN_ne _ _ (by omega)]; exact e
  · simp only [Cf.grown, setN] at e
    split at e
    · exact .inr (by omega)
    · exact .inl e
  · have := h.lay0 b n' hl
    show cellAt (addRow c.M c.nm (addRow hdw 1 r)) i = _
    rw [grown_cell h hh, if_pos (by omega)]
  · simp only [Cf.grown, setN] at e1
    split at e1
    · cases e1; omega
    · obtain ⟨n', hl'⟩ := h.dom b F' e1
      have h0 := h.lay0 b n' hl'
      have e0 : hd (c.grown hdw n r F w').M b = hd c.M b := grown_hd h hh (by omega) (by omega)
      exact ⟨b, F', e1, by rw [← e0]; exact e2, rfl⟩
theorem HR.allocMap (h : HR c) {clock : Nat} (w' : World) (hw : w'.heap = c.w.heap.push (.map #[] clock)) (ht : w'.tape = c.w.tape ∧ w'.os = c.w.os ∧ w'.output = c.w.output) :
    HR (c.grown (3 + 1024) 1 18 ⟨c.w.heap.size, 0, 0, 0⟩ w') ∧ Ext c (c.grown (3 + 1024) 1 18 ⟨c.w.heap.size, 0, 0, 0⟩ w') := by
  have hh : 3 + 1024 < 2 ^ 96 := by omega
  have hfr' : ∀ k, k < c.w.heap.size → w'.heap[k]? = c.w.heap[k]? := fun k hk => by rw [hw, Array.getElem?_push_lt hk, Array.getElem?_eq_getElem hk]
  refine ⟨h.grown hh (by omega) (by omega) (fun b F' e _ => hfr' _ (h.lt b F' e)) (by rw [hw]; simp) (by rw [hw]; simp) (fun b F' e _ => by have := h.lt b F' e; show _ ≠ c.w.heap.size; omega) (fun hx => by omega) (fun _ => ?_), .grown h hh ht (by rw [hw]; simp) hfr' (Nat.le_refl _)⟩
  refine ⟨grown_hd' h hh, #[], clock, 0, 0, ?_, rfl, ?_, by omega, by omega, fun i hi => absurd hi (by simp)⟩
  · show w'.heap[c.w.heap.size]? = _; rw [hw]; simp
  · show cellAt (addRow c.M c.nm (addRow _ 1 18)) (c.nm + 1) = _
    rw [grown_cell h hh, if_neg (by omega), if_neg (by omega), Nat.sub_self, cell_self (by omega)]
end
theorem HR.strike {c : Cf} (h : HR c) {b n : Nat} (hl : c.lay b = some n) : HR { c with M := setRow c.M (b - 1) 1 0 } := by
  have hl0 := h.lay0 b n hl
  have cellM : ∀ i, cellAt (setRow c.M (b - 1) 1 0) i = if b - 1 ≤ i ∧ i < b - 1 + 1 then cellAt 0 (i - (b - 1)) else cellAt c.M i := fun i => cell_set (by omega)
  have c0 : ∀ i, cellAt 0 i = 0 := fun i => by rw [cellAt_def]; simp
  have hdS : hd (setRow c.M (b - 1) 1 0) b = 0 := by show cellAt _ _ = _; rw [cellM, if_pos (by omega)]; exact c0 _
  have hdM : ∀ b' n', c.lay b' = some n' → b' ≠ b → hd (setRow c.M (b - 1) 1 0) b' = hd c.M b' := by
    intro b' n' hl' hne
    have := h.lay0 b' n' hl'
    show cellAt _ _ = cellAt _ _
    rw [cellM, if_neg (by omega)]
  have cellO : ∀ b' n', c.lay b' = some n' → b' ≠ b → ∀ i, i < n' → cellAt (setRow c.M (b - 1) 1 0) (b' + i) = cellAt c.M (b' + i) := by
    intro b' n' hl' hne i hi
    rw [cellM, if_neg]
    intro hcon
    have := h.lay0 b' n' hl'
    rcases Nat.lt_or_gt_of_ne hne with h3 | h3
    · have := h.apart b' n' b n hl' hl h3; omega
    · omega
  refine ⟨set_lt h.mlt (by show b - 1 + 1 ≤ c.nm; omega) (by omega), h.ilt, h.lay0, h.apart, h.dom, fun b' n' hl' => ?_, fun b' F' hf' hk' => ?_, fun b' F' hf' hk' => ?_, h.lt, fun b1 b2 F1 F2 e1 e2 e3 e4 e5 => ?_⟩
  · show hd (setRow c.M (b - 1) 1 0) b' = 0 ∨ hd (setRow c.M (b - 1) 1 0) b' / 1024 = n'
    by_cases e : b' = b
    · subst e; exact .inl hdS
    · rw [hdM b' n' hl' e]; exact h.hdr b' n' hl'
  · have hk2 : hd (setRow c.M (b - 1) 1 0) b' % 4 = 1 := hk'
    obtain ⟨n', hl'⟩ := h.dom b' F' hf'
    have hne : b' ≠ b := fun e => by subst e; rw [hdS] at hk2; omega
    have e0 := hdM b' n' hl' hne
    rw [e0] at hk2
    obtain ⟨cs, elem, fr, h1, h2, h3, h4, h5, h6⟩ := h.cells b' F' hf' hk2
    have hn' := (h.hdr b' n' hl').resolve_left (by omega)
    refine ⟨cs, elem, fr, h1, h2, h3, ?_, ?_, fun i hi hx => ?_⟩
    · show _ + hd (setRow c.M (b - 1) 1 0) b' / 1024 ≤ _; rw [e0]; exact h4
    · show (hd (setRow c.M (b - 1) 1 0) b' / 4) % 256 = _; rw [e0]; exact h5
    · have hi' : i < hd c.M b' / 1024 := by rw [← e0]; exact hi
      show WR c.f c.I c.ni (cellAt (setRow c.M (b - 1) 1 0) (b' + i)) _ ∧ _
      rw [cellO b' n' hl' hne i (by omega)]; exact h6 i hi' hx
  · have hk2 : hd (setRow c.M (b - 1) 1 0) b' % 4 = 3 := hk'
    obtain ⟨n', hl'⟩ := h.dom b' F' hf'
    have hne : b' ≠ b := fun e => by subst e; rw [hdS] at hk2; omega
    have e0 := hdM b' n' hl' hne
    rw [e0] at hk2
    obtain ⟨hz0, es, clock, b2, k, h1, h2, h3, h4, h5, h6⟩ := h.maps b' F' hf' hk2
    have hn' := (h.hdr b' n' hl').resolve_left (by omega)
    refine ⟨e0.trans hz0, es, clock, b2, k, h1, h2, ?_, h4, h5, h6⟩
    show cellAt (setRow c.M (b - 1) 1 0) b' = _
    rw [cellM, if_neg]
    · exact h3
    · intro hcon
      have := h.lay0 b' n' hl'
      have := h.apart b' n' b n hl' hl (by omega)
      omega
  · have x1 : hd (setRow c.M (b - 1) 1 0) b1 ≠ 0 := e3
    have x2 : hd (setRow c.M (b - 1) 1 0) b2 ≠ 0 := e4
    obtain ⟨n1, hl1⟩ := h.dom b1 F1 e1
    obtain ⟨n2, hl2⟩ := h.dom b2 F2 e2
    have y1 : b1 ≠ b := fun e => by subst e; exact x1 hdS
    have y2 : b2 ≠ b := fun e => by subst e; exact x2 hdS
    rw [hdM b1 n1 hl1 y1] at x1
    rw [hdM b2 n2 hl2 y2] at x2
    exact h.inj b1 b2 F1 F2 e1 e2 x1 x2 e5
end Go.Proofs.YtpjhkpmmbeoghaaGreatDoor.Ev
namespace Go.Proofs.YtpjhkpmmbeoghaaGreatDoor.Ev
open Go
inductive Res where
  | ok
  | bad (a b : Nat)
inductive Opd where
  | s (off : Nat)
  | k (w : Nat)
  | str (n x : Nat)
  | agg (n r : Nat)
  | bad
abbrev Fr := Nat → Nat
abbrev KV := Nat → Nat → Nat → Res
def hh0 : Nat := 0
def hh1 : Nat := hh0
def hh2 : Nat := hh1
def hh3 : Nat := hh2
def hh4 : Nat := hh3
def hh5 : Nat := hh4
def hh6 : Nat := hh5
def hh7 : Nat := hh6
def hh8 : Nat := hh7
def hh9 : Nat := hh8
def hh10 : Nat := hh9
def hh11 : Nat := hh10
def hh12 : Nat := hh11
def hh13 : Nat := hh12
def hh14 : Nat := hh13
def hh15 : Nat := hh14
def hh16 : Nat := hh15
def hh17 : Nat := hh16
def hh18 : Nat := hh17
def hh19 : Nat := hh18
def hh20 : Nat := hh19
def hh21 : Nat := hh20
def hh22 : Nat := hh21
def hh23 : Nat := hh22
def hh24 : Nat := hh23
def hh25 : Nat := hh24
def hh26 : Nat := hh25
def hh27 : Nat := hh26
def hh28 : Nat := hh27
def hh29 : Nat := hh28
def hh30 : Nat := hh29
def hh31 : Nat := hh30
def hh32 : Nat := hh31
def hh33 : Nat := hh32
def hh34 : Nat := hh33
def hh35 : Nat := hh34
def hh36 : Nat := hh35
def hh37 : Nat := hh36
def hh38 : Nat := hh37
def hh39 : Nat := hh38
def hh40 : Nat := hh39
noncomputable section
def iff (b : Bool) (x y : Res) : Res := @Bool.rec (fun _ => Res) y x b
def slot (E : Fr) (off : Nat) : Nat := (fun _ : Nat => E off) hh40
def fcell (E : Fr) (t : Nat) : Nat := (fun _ : Nat => E (96 * t)) hh40
def growK (I ni n r : Nat) (k : Nat → Nat → Res) : Res := iff (Nat.blt (Nat.add ni n) 16777216) (k (addRow I ni r) (Nat.add ni n)) (.bad 1 n)
def opdK (x : Opd) (E : Fr) (I ni : Nat) (k : KV) : Res :=
  (fun _ : Nat => @Opd.rec (fun _ => Fr → Nat → Nat → KV → Res)
    (fun off E I ni k => k (slot E off) I ni)
    (fun w _ I ni k => k w I ni)
    (fun n x _ I ni k => growK I ni (Nat.div (Nat.add n 11) 12) x fun I' ni' => k (Nat.add 12 (Nat.mul 32 (Nat.add (Nat.mul 12 ni) (Nat.mul 268435456 n)))) I' ni')
    (fun n r _ I ni k => growK I ni n r fun I' ni' => k (Nat.add 18 (Nat.mul 32 (Nat.add ni (Nat.mul 16777216 n)))) I' ni')
    (fun _ _ _ _ => .bad 2 0) x E I ni k) hh40
def rowOf (l : List Nat) : Nat := @List.rec Nat (fun _ => Nat) 0 (fun w _ r => Nat.add w (Nat.shiftLeft r 96)) l
def opdsK (l : List Opd) : Fr → Nat → Nat → (List Nat → Nat → Nat → Res) → Res :=
  @List.rec Opd (fun _ => Fr → Nat → Nat → (List Nat → Nat → Nat → Res) → Res) (fun _ I ni k => k [] I ni)
    (fun x _ ih E I ni k => opdK x E I ni fun w I ni => ih E I ni fun l I ni => k (w :: l) I ni) l
def tg (w t : Nat) : Bool := Nat.beq (Nat.mod w 32) t
end
def immW : Value → Option Nat
  | .bool b => some (1 + 32 * b.toNat)
  | .int k n => if (n + bias k).toNat < 18446744073709551616 ∧ 0 ≤ n + bias k then some (tagI k + 32 * (n + bias k).toNat) else none
  | .pointer none => some 10
  | .slice none 0 0 => some 11
  | .string s => if s.data.toList.isEmpty then some 12 else none
  | .map none => some 13
  | .nilFunc => some 15
  | .nilIface => some 17
  | .tuple vs => if vs.toList.isEmpty then some 0 else none
  | _ => none
def immRow : List Value → Option Nat
  | [] => some 0
  | v :: vs => match immW v, immRow vs, v.oneCell' with
    | some w, some r, true => some (w + r <<< 96)
    | _, _, _ => none
def lowOpd : Operand → Opd
  | .tmp t => .s (96 * t)
  | .const v => match immW v with
    | some w => .k w
    | none => match v with
      | .string s => if s.data.toList.length < 1048576 then .str s.data.toList.length (beVal s.data.toList) else .bad
      | .agg cs => match immRow cs.toList with
        | some r => .agg cs.size r
        | none => .bad
      | _ => .bad
  | .global _ => .bad
  | .func f => if f < 1048576 then .k (14 + 32 * f) else .bad
section
variable {f : Nat → Option FB} {I ni : Nat}
theorem immW_ok {v : Value} {w : Nat} (h : immW v = some w) : WR f I ni w v := by
  unfold immW at h
  split at h
  · cases h; exact .bool _
  · rename_i k n
    split at h
    · rename_i hh; cases h; exact .int k n _ (by omega) hh.1
    · cases h
  · cases h; exact .pnil
  · cases h; exact .snil
  · rename_i s
    split at h
    · rename_i hh
      cases h
      have hl : s.data.toList = [] := by simpa using hh
      exact .str 0 0 s (by simp [hl]) (by omega) (by omega) (by rw [strAt_def, hl]; simp [beVal, Nat.mod_one]) (.inl rfl)
    · cases h
  · cases h; exact .mnil
  · cases h; exact .nilFunc
  · cases h; exact .nilIface
  · rename_i vs
    split at h
    · rename_i hh
      cases h
      obtain ⟨l⟩ := vs
      have : l = [] := by simpa using hh
      subst this
      exact .undef
    · cases h
  · cases h
theorem WR.lt {w : Nat} {v : Value} (h : immW v = some w) : w < 2 ^ 96 := by
  unfold immW at h
  split at h
  · rename_i b; cases h; cases b <;> decide
  · rename_i k n
    split at h
    · rename_i hh; cases h; have := tagI_lt k; omega
    · cases h
  all_goals first | (cases h; omega) | (split at h <;> cases h; omega) | cases h
theorem immRow_ok : ∀ {vs : List Value} {r : Nat}, immRow vs = some r → r < 2 ^ (96 * vs.length) ∧ ∀ i (h : i < vs.length), WR f I ni (cellAt r i) vs[i] ∧ vs[i].oneCell' = true
  | [], r, h => by cases h; exact ⟨by simp, fun i h => absurd h (by simp)⟩
  | v :: vs, r, h => by
    simp only [immRow] at h
    split at h
    case h_2 => cases h
    rename_i w r' hw hr' hone
    have h := Option.some.inj h
    subst h
    obtain ⟨h1, h2⟩ := immRow_ok hr'
    have hlt := WR.lt hw
    have e : w + r' <<< 96 = addRow w 1 r' := by
      show _ = w ||| (r' <<< (96 * 1))
      rw [Nat.or_comm, Nat.shiftLeft_eq, Nat.mul_comm r', ← Nat.two_pow_add_eq_or_of_lt (i := 96) hlt]
      exact Nat.add_comm _ _
    have hlt' : w < 2 ^ (96 * 1) := by simpa using hlt
    refine ⟨?_, fun i hi => ?_⟩
    · rw [e]
      have := add_lt hlt' h1
      rw [show (v :: vs).length = 1 + vs.length by simp; omega]
      exact this
    · rw [e, cell_add hlt']
      cases i with
      | zero => simp only [Nat.zero_lt_one, if_true, List.getElem_cons_zero]; rw [cell_self hlt]; exact ⟨immW_ok hw, hone⟩
      | succ i =>
        rw [if_neg (by omega)]
        simp only [Nat.add_sub_cancel, List.getElem_cons_succ]
        exact h2 i (by simpa using hi)
end
theorem beVal_go (l : List UInt8) : ∀ a, l.foldl (fun a b => a * 256 + b.toNat) a < (a + 1) * 256 ^ l.length := by
  induction l with
  | nil => intro a; simp
  | cons b l ih =>
    intro a
    simp only [List.foldl_cons, List.length_cons]
    refine Nat.lt_of_lt_of_le (ih _) ?_
    rw [Nat.pow_succ, Nat.mul_comm (256 ^ l.length) 256, ← Nat.mul_assoc]
    have := b.toNat_lt
    exact Nat.mul_le_mul_right _ (by omega)
theorem beVal_lt (l : List UInt8) : beVal l < 2 ^ (8 * l.length) := by
  have := beVal_go l 0
  rw [Nat.pow_mul]
  simpa [beVal] using this
theorem iff_ok {b : Bool} {x y : Res} : iff b x y = .ok → (b = true ∧ x = .ok) ∨ (b = false ∧ y = .ok) := by
  cases b
  · exact fun h => .inr ⟨rfl, h⟩
  · exact fun h => .inl ⟨rfl, h⟩
theorem iff_bad {b : Bool} {x : Res} {m n : Nat} (h : iff b x (.bad m n) = .ok) : b = true ∧ x = .ok := by
  rcases iff_ok h with h | ⟨_, h⟩
  · exact h
  · cases h
theorem blt_iff {a b : Nat} : Nat.blt a b = true ↔ a < b := by
  show Nat.ble (a + 1) b = true ↔ _
  rw [Nat.ble_eq]; exact Iff.rfl
theorem growK_ok {I ni n r : Nat} {k : Nat → Nat → Res} (h : growK I ni n r k = .ok) : ni + n < 16777216 ∧ k (addRow I ni r) (ni + n) = .ok := by
  obtain ⟨h1, h2⟩ := iff_bad h
  exact ⟨blt_iff.1 h1, h2⟩
def OpR (f : Nat → Option FB) (I ni : Nat) (E : Fr) (a : Act) : Operand → Prop
  | .tmp t => WR f I ni (fcell E t) (a.tmps.getD t undef)
  | _ => True
theorem OpR.mono {f f' : Nat → Option FB} {I ni I' ni' : Nat} {E : Fr} {a : Act} (hf : FExt f f') (hI : IExt I ni I' ni') {x : Operand} (h : OpR f I ni E a x) : OpR f' I' ni' E a x := by
  cases x with
  | tmp t => exact WR.mono hf hI h
  | _ => trivial
def IB (I ni : Nat) : Prop := I < 2 ^ (96 * ni) ∧ ni < 16777216
structure IOk (I ni I' ni' : Nat) : Prop where
  ext : IExt I ni I' ni'
  lt : IB I' ni'
theorem IOk.refl {I ni : Nat} (h : IB I ni) : IOk I ni I ni := ⟨.refl _ _, h⟩
theorem IOk.trans {I ni I' ni' I'' ni'' : Nat} (h : IOk I ni I' ni') (h' : IOk I' ni' I'' ni'') : IOk I ni I'' ni'' := ⟨h.ext.trans h'.ext, h'.lt⟩
theorem IOk.grow {I ni r n : Nat} (h : IB I ni) (hr : r < 2 ^ (96 * n)) (hn : ni + n < 16777216) : IOk I ni (addRow I ni r) (ni + n) := ⟨iext_add h.1, add_lt h.1 hr, hn⟩
theorem strAt_add {I ni x n : Nat} (h : I < 2 ^ (96 * ni)) (hx : x < 2 ^ (8 * n)) : strAt (addRow I ni x) (12 * ni) n = x := by
  apply Nat.eq_of_testBit_eq
  intro j
  rw [strAt_def, Nat.testBit_mod_two_pow, Nat.testBit_shiftRight, bit_add, bit_of_lt h (by omega)]
  have h1 : 96 * ni ≤ 8 * (12 * ni) + j := by omega
  have h2 : 8 * (12 * ni) + j - 96 * ni = j := by omega
  by_cases hj : j < 8 * n
  · simp [hj, h1, h2]
  · simp [hj, bit_of_lt hx (j := j) (by omega)]
theorem agg_ok {f : Nat → Option FB} {I ni n r : Nat} {cs : Array Value} (hI : I < 2 ^ (96 * ni)) (_hr : r < 2 ^ (96 * n)) (hn : cs.size = n) (hb : ni + n < 16777216)
    (hv : ∀ i (h : i < cs.size), WR f I ni (cellAt r i) cs[i] ∧ cs[i].oneCell' = true) : WR f (addRow I ni r) (ni + n) (18 + 32 * (ni + 16777216 * n)) (.agg cs) :=
  .agg ni n cs hn (fun i h => (hv i h).2) (by omega) (by omega) (Nat.le_refl _) fun i hi => by
    rw [cell_add hI, if_neg (by omega), Nat.add_sub_cancel_left]
    exact (hv i hi).1.mono (.refl _) (iext_add hI)
theorem opdK_ok {f : Nat → Option FB} {I ni : Nat} {E : Fr} {a : Act} {x : Operand} {k : KV} (h : opdK (lowOpd x) E I ni k = .ok) (hx : OpR f I ni E a x) (hI : IB I ni) :
    ∃ w I' ni', k w I' ni' = .ok ∧ IOk I ni I' ni' ∧ WR f I' ni' w (a.eval x) := by
  cases x with
  | tmp t => exact ⟨_, _, _, h, .refl hI, hx⟩
  | global g => cases h
  | func g =>
    simp only [lowOpd] at h
    split at h
    · rename_i hg
      refine ⟨_, _, _, h, .refl hI, ?_⟩
      have := WR.func (f := f) (I := I) (ni := ni) g 0 0 #[] rfl (by omega) hg (by omega) (by omega) (fun i h => absurd h (by simp))
      exact this
    · cases h
  | const v =>
    simp only [lowOpd] at h
    split at h
    · rename_i w hw
      exact ⟨_, _, _, h, .refl hI, immW_ok hw⟩
    · split at h
      · rename_i s _
        split at h
        case isFalse => cases h
        rename_i hs
        have h' := growK_ok (k := fun I' ni' => k _ I' ni') h
        obtain ⟨h1, h2⟩ : ni + (s.data.toList.length + 11) / 12 < 16777216 ∧ k (12 + 32 * (12 * ni + 268435456 * s.data.toList.length)) (addRow I ni (beVal s.data.toList)) (ni + (s.data.toList.length + 11) / 12) = .ok := h'
        refine ⟨_, _, _, h2, .grow hI ?_ h1, ?_⟩
        · exact Nat.lt_of_lt_of_le (beVal_lt _) (Nat.pow_le_pow_right (by decide) (by omega))
        · refine WR.str (12 * ni) _ s rfl hs (by omega) (strAt_add hI.1 (beVal_lt _)) (.inr (by omega))
      · rename_i cs _
        split at h
        case h_2 => cases h
        rename_i r hr
        obtain ⟨h1, h2⟩ := growK_ok (k := fun I' ni' => k _ I' ni') h
        obtain ⟨h3, h4⟩ := immRow_ok (f := f) (I := I) (ni := ni) hr
        exact ⟨_, _, _, h2, .grow hI h3 h1, agg_ok hI.1 h3 rfl h1 fun i hi => by have := h4 i (by simpa using hi); rwa [Array.getElem_toList] at this⟩
      · cases h
end Go.Proofs.YtpjhkpmmbeoghaaGreatDoor.Ev
namespace Go.Proofs.YtpjhkpmmbeoghaaGreatDoor.Ev
open Go
noncomputable section
def decI (k : IntKind) (w : Nat) : Int := (Nat.div w 32 : Int) - (bias k : Int)
def encK (k : IntKind) (z : Int) (I ni : Nat) (kv : KV) : Res :=
  let p := z + (bias k : Int)
  iff (decide (0 ≤ p)) (iff (Nat.blt p.toNat 18446744073709551616) (kv (Nat.add (tagI k) (Nat.mul 32 p.toNat)) I ni) (.bad 3 0)) (.bad 3 1)
def op2 (x y : Opd) (E : Fr) (I ni : Nat) (k : Nat → Nat → Nat → Nat → Res) : Res := opdK x E I ni fun wx I ni => opdK y E I ni fun wy I ni => k wx wy I ni
def movK (x : Opd) : Fr → Nat → Nat → KV → Res := opdK x
def selB (b : Bool) (x y : Nat) : Nat := @Bool.rec (fun _ => Nat) y x b
def bw01 (b : Bool) : Nat := selB b 33 1
def pickK (c a b : Opd) (E : Fr) (I ni : Nat) (kv : KV) : Res := opdK c E I ni fun w I ni => opdK a E I ni fun wa I ni => opdK b E I ni fun wb I ni => iff (tg w 1) (kv (selB (Nat.beq w 33) wa wb) I ni) (.bad 4 w)
def addW (x y : Nat) : Nat := Nat.add (Nat.mod (Nat.add (Nat.add x y) 295147905179352825846) 590295810358705651712) 5
def subW (x y : Nat) : Nat := Nat.add (Nat.mod (Nat.sub (Nat.add x 885443715538058477568) y) 590295810358705651712) 5
def add64 (wx wy I ni : Nat) (kv : KV) : Res := iff (tg wx 5) (iff (tg wy 5) (kv (addW wx wy) I ni) (.bad 5 2)) (.bad 5 3)
def sub64 (wx wy I ni : Nat) (kv : KV) : Res := iff (tg wx 5) (iff (tg wy 5) (kv (subW wx wy) I ni) (.bad 6 2)) (.bad 6 3)
def iopV (op : BinOp) (k : IntKind) (x y : Int) : Option Int :=
  match op with
  | .add => some (k.wrap (x + y))
  | .sub => some (k.wrap (x - y))
  | .mul => some (k.wrap (x * y))
  | .quo => if y = 0 then none else some (k.wrap (x.tdiv y))
  | .rem => if y = 0 then none else some (x.tmod y)
  | .and => some (k.wrap ((BitVec.ofInt k.bits x &&& BitVec.ofInt k.bits y).toNat : Nat))
  | .or => some (k.wrap ((BitVec.ofInt k.bits x ||| BitVec.ofInt k.bits y).toNat : Nat))
  | .xor => some (k.wrap ((BitVec.ofInt k.bits x ^^^ BitVec.ofInt k.bits y).toNat : Nat))
  | .andNot => some (k.wrap ((BitVec.ofInt k.bits x &&& ~~~ BitVec.ofInt k.bits y).toNat : Nat))
  | _ => none
def shfV (op : BinOp) (k : IntKind) (x y : Int) : Option Int :=
  if y < 0 then none else
  match op with
  | .shl => some (k.wrap (x * 2 ^ (min y.toNat k.bits)))
  | .shr => some (x.fdiv (2 ^ (min y.toNat k.bits)))
  | _ => none
def optK (z : Option Int) (k : IntKind) (I ni : Nat) (kv : KV) : Res := @Option.rec Int (fun _ => Res) (.bad 7 0) (fun z => encK k z I ni kv) z
def iopK (op : BinOp) (k : IntKind) (x y : Opd) (E : Fr) (I ni : Nat) (kv : KV) : Res :=
  op2 x y E I ni fun wx wy I ni => iff (tg wx (tagI k)) (iff (tg wy (tagI k)) (optK (iopV op k (decI k wx) (decI k wy)) k I ni kv) (.bad 7 1)) (.bad 7 2)
def shfK (op : BinOp) (k yk : IntKind) (x y : Opd) (E : Fr) (I ni : Nat) (kv : KV) : Res :=
  op2 x y E I ni fun wx wy I ni => iff (tg wx (tagI k)) (iff (tg wy (tagI yk)) (optK (shfV op k (decI k wx) (decI yk wy)) k I ni kv) (.bad 7 3)) (.bad 7 4)
def boolK (b : Bool) (I ni : Nat) (kv : KV) : Res := kv (bw01 b) I ni
def ieqK (t : Nat) (neg : Bool) (x y : Opd) (E : Fr) (I ni : Nat) (kv : KV) : Res :=
  op2 x y E I ni fun wx wy I ni => iff (tg wx t) (iff (tg wy t) (boolK (@Bool.rec (fun _ => Bool) (Nat.beq wx wy) (not (Nat.beq wx wy)) neg) I ni kv) (.bad 8 0)) (.bad 8 1)
def iltK (t : Nat) (neg : Bool) (x y : Opd) (E : Fr) (I ni : Nat) (kv : KV) : Res :=
  op2 x y E I ni fun wx wy I ni => iff (tg wx t) (iff (tg wy t) (boolK (@Bool.rec (fun _ => Bool) (Nat.blt wx wy) (not (Nat.blt wx wy)) neg) I ni kv) (.bad 8 2)) (.bad 8 3)
end
section
variable {f : Nat → Option FB} {I ni : Nat} {E : Fr} {a : Act}
theorem op2_ok {x y : Operand} {k : Nat → Nat → Nat → Nat → Res} (h : op2 (lowOpd x) (lowOpd y) E I ni k = .ok) (hx : OpR f I ni E a x) (hy : OpR f I ni E a y) (hI : IB I ni) :
    ∃ wx wy I' ni', k wx wy I' ni' = .ok ∧ IOk I ni I' ni' ∧ WR f I' ni' wx (a.eval x) ∧ WR f I' ni' wy (a.eval y) := by
  obtain ⟨wx, I1, n1, h1, hi1, r1⟩ := opdK_ok h hx hI
  obtain ⟨wy, I2, n2, h2, hi2, r2⟩ := opdK_ok h1 (hy.mono (.refl _) hi1.ext) hi1.lt
  exact ⟨wx, wy, I2, n2, h2, hi1.trans hi2, r1.mono (.refl _) hi2.ext, r2⟩
theorem tg_ok {w t : Nat} (h : tg w t = true) : w % 32 = t := Nat.eq_of_beq_eq_true h
theorem wrap64_eq (n : Int) : IntKind.i64.wrap n = (n + 9223372036854775808) % 18446744073709551616 - 9223372036854775808 := by
  simp only [IntKind.wrap, IntKind.signed, IntKind.bits]
  simp only [Bool.true_and, decide_eq_true_eq, ge_iff_le]
  split <;> omega
theorem addW_eq (p q : Nat) : addW (5 + 32 * p) (5 + 32 * q) = 5 + 32 * ((p + q + 9223372036854775808) % 18446744073709551616) := by
  show (5 + 32 * p + (5 + 32 * q) + 295147905179352825846) % 590295810358705651712 + 5 = _
  have e : 5 + 32 * p + (5 + 32 * q) + 295147905179352825846 = 32 * (p + q + 9223372036854775808) := by omega
  rw [e, show (590295810358705651712 : Nat) = 32 * 18446744073709551616 from rfl, Nat.mul_mod_mul_left, Nat.add_comm]
theorem subW_eq (p q : Nat) (hq : q < 18446744073709551616) : subW (5 + 32 * p) (5 + 32 * q) = 5 + 32 * ((p + 27670116110564327424 - q) % 18446744073709551616) := by
  show (5 + 32 * p + 885443715538058477568 - (5 + 32 * q)) % 590295810358705651712 + 5 = _
  have e : 5 + 32 * p + 885443715538058477568 - (5 + 32 * q) = 32 * (p + 27670116110564327424 - q) := by omega
  rw [e, show (590295810358705651712 : Nat) = 32 * 18446744073709551616 from rfl, Nat.mul_mod_mul_left, Nat.add_comm]
theorem add64_ok {wx wy : Nat} {kv : KV} {u v : Value} (h : add64 wx wy I ni kv = .ok) (hx : WR f I ni wx u) (hy : WR f I ni wy v) :
    ∃ w m n, u = .int .i64 m ∧ v = .int .i64 n ∧ kv w I ni = .ok ∧ WR f I ni w (.int .i64 (IntKind.i64.wrap (m + n))) := by
  obtain ⟨h1, h⟩ := iff_bad h
  obtain ⟨h2, h⟩ := iff_bad h
  obtain ⟨m, p, rfl, hw, hp, hp2⟩ := hx.inv_int .i64 (tg_ok h1)
  obtain ⟨n, q, rfl, hw', hq, hq2⟩ := hy.inv_int .i64 (tg_ok h2)
  simp only [tagI, bias] at *
  refine ⟨_, m, n, rfl, rfl, h, ?_⟩
  rw [hw, hw', addW_eq]
  have h9 := WR.int (f := f) (I := I) (ni := ni) .i64 (IntKind.i64.wrap (m + n)) ((p + q + 9223372036854775808) % 18446744073709551616) (by rw [wrap64_eq]; simp only [bias]; omega) (by omega)
  simpa only [tagI] using h9
theorem sub64_ok {wx wy : Nat} {kv : KV} {u v : Value} (h : sub64 wx wy I ni kv = .ok) (hx : WR f I ni wx u) (hy : WR f I ni wy v) :
    ∃ w m n, u = .int .i64 m ∧ v = .int .i64 n ∧ kv w I ni = .ok ∧ WR f I ni w (.int .i64 (IntKind.i64.wrap (m - n))) := by
  obtain ⟨h1, h⟩ := iff_bad h
  obtain ⟨h2, h⟩ := iff_bad h
  obtain ⟨m, p, rfl, hw, hp, hp2⟩ := hx.inv_int .i64 (tg_ok h1)
  obtain ⟨n, q, rfl, hw', hq, hq2⟩ := hy.inv_int .i64 (tg_ok h2)
  simp only [tagI, bias] at *
  refine ⟨_, m, n, rfl, rfl, h, ?_⟩
  rw [hw, hw', subW_eq p q hq2]
  have h9 := WR.int (f := f) (I := I) (ni := ni) .i64 (IntKind.i64.wrap (m - n)) ((p + 27670116110564327424 - q) % 18446744073709551616) (by rw [wrap64_eq]; simp only [bias]; omega) (by omega)
  simpa only [tagI] using h9
theorem encK_ok {k : IntKind} {z : Int} {kv : KV} (h : encK k z I ni kv = .ok) : ∃ w, kv w I ni = .ok ∧ WR f I ni w (.int k z) := by
  obtain ⟨h1, h⟩ := iff_bad h
  obtain ⟨h2, h⟩ := iff_bad h
  have h1 : 0 ≤ z + (bias k : Int) := of_decide_eq_true h1
  have h2 := blt_iff.1 h2
  exact ⟨_, h, .int k z _ (by omega) h2⟩
theorem optK_ok {k : IntKind} {z : Option Int} {kv : KV} (h : optK z k I ni kv = .ok) : ∃ w n, z = some n ∧ kv w I ni = .ok ∧ WR f I ni w (.int k n) := by
  cases z with
  | none => cases h
  | some n =>
    obtain ⟨w, h1, h2⟩ := encK_ok (f := f) h
    exact ⟨w, n, rfl, h1, h2⟩
theorem decI_eq {k : IntKind} {n : Int} {p w : Nat} (hw : w = tagI k + 32 * p) (hp : (p : Int) = n + bias k) : decI k w = n := by
  have := tagI_lt k
  unfold decI
  have e : Nat.div w 32 = p := by show w / 32 = p; omega
  rw [e]; omega
theorem boolK_ok {b : Bool} {kv : KV} (h : boolK b I ni kv = .ok) : ∃ w, kv w I ni = .ok ∧ WR f I ni w (.bool b) := ⟨_, h, by cases b; exact .bool false; exact .bool true⟩
def PureOk (P : Program) (f : Nat → Option FB) (I ni : Nat) (kv : KV) (s : Sem Next) : Prop :=
  ∃ w I' ni' v, kv w I' ni' = .ok ∧ IOk I ni I' ni' ∧ WR f I' ni' w v ∧ ∀ W, s.run P W = .ok (.value v) W
variable {P : Program} {kv : KV}
theorem movK_ok {x : Operand} (h : movK (lowOpd x) E I ni kv = .ok) (hx : OpR f I ni E a x) (hI : IB I ni) : PureOk P f I ni kv (pure (.value (a.eval x))) := by
  obtain ⟨w, I', n', h1, h2, h3⟩ := opdK_ok h hx hI
  exact ⟨w, I', n', _, h1, h2, h3, fun W => rfl⟩
theorem WR.bool1 {w : Nat} {v : Value} (h : WR f I ni w v) (hw : w = 33) : v = .bool true := by
  obtain ⟨b, rfl, hb⟩ := h.inv_bool (by omega)
  cases b
  · simp at hb; omega
  · rfl
theorem WR.bool0 {w : Nat} {v : Value} (h : WR f I ni w v) (hw : w = 1) : v = .bool false := by
  obtain ⟨b, rfl, hb⟩ := h.inv_bool (by omega)
  cases b
  · rfl
  · simp at hb; omega
theorem pickK_ok {c x y : Operand} (h : pickK (lowOpd c) (lowOpd x) (lowOpd y) E I ni kv = .ok) (hc : OpR f I ni E a c) (hx : OpR f I ni E a x) (hy : OpR f I ni E a y) (hI : IB I ni) :
    PureOk P f I ni kv (do pure (.value (if ← asBool (a.eval c) then a.eval x else a.eval y))) := by
  obtain ⟨w, I', n', h1, h2, h3⟩ := opdK_ok h hc hI
  obtain ⟨wa, I1, n1, q1, q2, q3⟩ := opdK_ok h1 (hx.mono (.refl _) h2.ext) h2.lt
  obtain ⟨wb, I2, n2, r1, r2, r3⟩ := opdK_ok q1 ((hy.mono (.refl _) h2.ext).mono (.refl _) q2.ext) q2.lt
  obtain ⟨h4, h5⟩ := iff_bad r1
  obtain ⟨b, e, hw⟩ := h3.inv_bool (tg_ok h4)
  cases b with
  | true =>
    have hw : w = 33 := hw
    subst hw
    exact ⟨wa, I2, n2, _, h5, (h2.trans q2).trans r2, q3.mono (.refl _) r2.ext, fun W => by rw [e]; rfl⟩
  | false =>
    have hw : w = 1 := hw
    subst hw
    exact ⟨wb, I2, n2, _, h5, (h2.trans q2).trans r2, r3, fun W => by rw [e]; rfl⟩
theorem iopV_run {op : BinOp} {k : IntKind} {x y n : Int} (h : iopV op k x y = some n) (t : TypeId) (W : World) : (binOp op t (.int k x) (.int k y)).run P W = .ok (.int k n) W := by
  cases op <;> simp only [iopV] at h <;> first | (cases h; done) | (cases h; simp [binOp, Op.intArith, Op.intBits]; done) | skip
  · split at h <;> cases h
    rename_i hy
    simp [binOp, Op.intDiv, hy]
  · split at h <;> cases h
    rename_i hy
    simp [binOp, Op.intDiv, hy]
theorem shfV_run {op : BinOp} {k yk : IntKind} {x y n : Int} (h : shfV op k x y = some n) (t : TypeId) (W : World) : (binOp op t (.int k x) (.int yk y)).run P W = .ok (.int k n) W := by
  unfold shfV at h
  split at h
  case isTrue => cases h
  rename_i hy
  cases op <;> simp only at h <;> cases h <;> simp [binOp, Op.shift, hy]
end
end Go.Proofs.YtpjhkpmmbeoghaaGreatDoor.Ev
namespace Go.Proofs.YtpjhkpmmbeoghaaGreatDoor.Ev
open Go
section
variable {f : Nat → Option FB} {I ni : Nat} {E : Fr} {a : Act} {P : Program} {kv : KV}
theorem int_cmp {k : IntKind} {x y : Int} {wx wy : Nat} (hx : WR f I ni wx (.int k x)) (hy : WR f I ni wy (.int k y)) : (wx = wy ↔ x = y) ∧ (wx < wy ↔ x < y) := by
  cases hx with
  | int _ _ p hp _ =>
    cases hy with
    | int _ _ q hq _ => constructor <;> omega
theorem beq_iff' {x y : Nat} : Nat.beq x y = true ↔ x = y := ⟨Nat.eq_of_beq_eq_true, fun h => by subst h; exact Nat.beq_refl x⟩
theorem nbeq {x y : Nat} : Nat.beq x y = decide (x = y) := by
  rw [Bool.eq_iff_iff, beq_iff', decide_eq_true_iff]
theorem nblt {x y : Nat} : Nat.blt x y = decide (x < y) := by
  rw [Bool.eq_iff_iff, blt_iff, decide_eq_true_iff]
theorem ieqK_int {k : IntKind} {neg : Bool} {x y : Operand} (t : TypeId) (h : ieqK (tagI k) neg (lowOpd x) (lowOpd y) E I ni kv = .ok) (hx : OpR f I ni E a x) (hy : OpR f I ni E a y) (hI : IB I ni) :
    PureOk P f I ni kv (do let v ← binOp (if neg then .neq else .eql) t (a.eval x) (a.eval y); pure (.value v)) := by
  obtain ⟨wx, wy, I', n', h1, h2, h3, h4⟩ := op2_ok h hx hy hI
  obtain ⟨h5, h1⟩ := iff_bad h1
  obtain ⟨h6, h1⟩ := iff_bad h1
  obtain ⟨m, p, e1, -, -⟩ := h3.inv_int k (tg_ok h5)
  obtain ⟨n, q, e2, -, -⟩ := h4.inv_int k (tg_ok h6)
  obtain ⟨w, h7, h8⟩ := boolK_ok (f := f) h1
  rw [e1] at h3
  rw [e2] at h4
  have hc := (int_cmp h3 h4).1
  refine ⟨w, I', n', _, h7, h2, h8, fun W => ?_⟩
  cases neg
  · simp only [Bool.false_eq_true, if_false, e1, e2, nbeq]
    simp [binOp, Op.intCmp, hc]
    rw [Bool.eq_iff_iff]; simp
  · simp only [if_true, e1, e2, nbeq]
    simp [binOp, Op.intCmp, hc]
    rfl
theorem ieqK_bool {neg : Bool} {x y : Operand} {t : TypeId} (ht : P.underlying t = some .bool) (h : ieqK 1 neg (lowOpd x) (lowOpd y) E I ni kv = .ok) (hx : OpR f I ni E a x) (hy : OpR f I ni E a y) (hI : IB I ni) :
    PureOk P f I ni kv (do let v ← binOp (if neg then .neq else .eql) t (a.eval x) (a.eval y); pure (.value v)) := by
  obtain ⟨wx, wy, I', n', h1, h2, h3, h4⟩ := op2_ok h hx hy hI
  obtain ⟨h5, h1⟩ := iff_bad h1
  obtain ⟨h6, h1⟩ := iff_bad h1
  obtain ⟨m, e1, w1⟩ := h3.inv_bool (tg_ok h5)
  obtain ⟨n, e2, w2⟩ := h4.inv_bool (tg_ok h6)
  obtain ⟨w, h7, h8⟩ := boolK_ok (f := f) h1
  refine ⟨w, I', n', _, h7, h2, h8, fun W => ?_⟩
  subst w1 w2
  have hb := fun W => run_equal_bool (P := P) W t m n ht
  cases neg <;> cases m <;> cases n <;> simp [e1, e2, binOp, hb, nbeq]
def cmpOf : BinOp → Option (Bool × Bool)
  | .lss => some (false, false)
  | .gtr => some (true, false)
  | .leq => some (true, true)
  | .geq => some (false, true)
  | _ => none
theorem iltK_int {k : IntKind} {op : BinOp} {sw neg : Bool} (ho : cmpOf op = some (sw, neg)) {x y : Operand} (t : TypeId) (h : iltK (tagI k) neg (lowOpd (if sw then y else x)) (lowOpd (if sw then x else y)) E I ni kv = .ok)
    (hx : OpR f I ni E a x) (hy : OpR f I ni E a y) (hI : IB I ni) : PureOk P f I ni kv (do let v ← binOp op t (a.eval x) (a.eval y); pure (.value v)) := by
  obtain ⟨wx, wy, I', n', h1, h2, h3, h4⟩ := op2_ok (f := f) (a := a) h (by cases sw; exact hx; exact hy) (by cases sw; exact hy; exact hx) hI
  obtain ⟨h5, h1⟩ := iff_bad h1
  obtain ⟨h6, h1⟩ := iff_bad h1
  obtain ⟨m, p, e1, -, -⟩ := h3.inv_int k (tg_ok h5)
  obtain ⟨n, q, e2, -, -⟩ := h4.inv_int k (tg_ok h6)
  obtain ⟨w, h7, h8⟩ := boolK_ok (f := f) h1
  rw [e1] at h3
  rw [e2] at h4
  have hc := (int_cmp h3 h4).2
  refine ⟨w, I', n', _, h7, h2, h8, fun W => ?_⟩
  cases op <;> simp [cmpOf] at ho <;> obtain ⟨rfl, rfl⟩ := ho <;> simp only [Bool.false_eq_true, if_false, if_true] at e1 e2 <;> simp [e1, e2, binOp, Op.intCmp, nblt, hc] <;> rw [Bool.eq_iff_iff] <;> simp <;> omega
end
end Go.Proofs.YtpjhkpmmbeoghaaGreatDoor.Ev
namespace Go.Proofs.YtpjhkpmmbeoghaaGreatDoor.Ev
open Go
noncomputable section
def lenSK (x : Opd) (E : Fr) (I ni : Nat) (kv : KV) : Res :=
  opdK x E I ni fun w I ni => iff (tg w 11) (kv (Nat.add 295147905179352825861 (Nat.mul 32 (Nat.mod (Nat.div w 562949953421312) 524288))) I ni) (.bad 10 0)
def natK (w : Nat) (k : Nat → Res) : Res := iff (tg w 5) (iff (Nat.ble 295147905179352825861 w) (k (Nat.div (Nat.sub w 295147905179352825861) 32)) (.bad 11 0))
  (iff (Nat.ble 6 (Nat.mod w 32)) (iff (Nat.ble (Nat.mod w 32) 9) (k (Nat.div w 32)) (.bad 11 1)) (.bad 11 2))
def ptrW (b off : Nat) : Nat := Nat.add 10 (Nat.mul 32 (Nat.add off (Nat.mul 16777216 b)))
def ptrK (b off I ni : Nat) (kv : KV) : Res := iff (Nat.blt off 16777216) (kv (ptrW b off) I ni) (.bad 11 2)
def sOff (w : Nat) : Nat := Nat.mod (Nat.div w 32) 4194304
def sB (w : Nat) : Nat := Nat.mod (Nat.div w 134217728) 4194304
def sLen (w : Nat) : Nat := Nat.mod (Nat.div w 562949953421312) 524288
def sSz (w : Nat) : Nat := Nat.mod (Nat.div w 295147905179352825856) 256
def sEx (w : Nat) : Nat := Nat.mod (Nat.div w 75557863725914323419136) 2
def sCap (w : Nat) : Nat := Nat.div w 151115727451828646838272
def pOff (w : Nat) : Nat := Nat.mod (Nat.div w 32) 16777216
def pB (w : Nat) : Nat := Nat.div w 536870912
def iadrSK (sz : Nat) (x i : Opd) (E : Fr) (I ni : Nat) (kv : KV) : Res :=
  op2 x i E I ni fun w wi I ni => iff (tg w 11) (natK wi fun n => iff (Nat.blt n (sLen w)) (ptrK (sB w) (Nat.add (sOff w) (Nat.mul n sz)) I ni kv) (.bad 12 n)) (.bad 12 0)
def iadrAK (len sz : Nat) (x i : Opd) (E : Fr) (I ni : Nat) (kv : KV) : Res :=
  op2 x i E I ni fun w wi I ni => iff (tg w 10) (iff (Nat.blt 10 w) (natK wi fun n => iff (Nat.blt n len) (ptrK (pB w) (Nat.add (pOff w) (Nat.mul n sz)) I ni kv) (.bad 12 1)) (.bad 12 2)) (.bad 12 3)
def fadrK (off : Nat) (x : Opd) (E : Fr) (I ni : Nat) (kv : KV) : Res :=
  opdK x E I ni fun w I ni => iff (tg w 10) (iff (Nat.blt 10 w) (ptrK (pB w) (Nat.add (pOff w) off) I ni kv) (.bad 13 0)) (.bad 13 1)
def gB (w : Nat) : Nat := Nat.mod (Nat.div w 32) 16777216
def gN (w : Nat) : Nat := Nat.div w 536870912
def fld1K (t off : Nat) (x : Opd) (E : Fr) (I ni : Nat) (kv : KV) : Res :=
  opdK x E I ni fun w I ni => iff (tg w t) (iff (Nat.blt off (gN w)) (kv (cellAt I (Nat.add (gB w) off)) I ni) (.bad 14 0)) (.bad 14 1)
def aggW (b n : Nat) : Nat := Nat.add 18 (Nat.mul 32 (Nat.add b (Nat.mul 16777216 n)))
def fldNK (off n : Nat) (x : Opd) (E : Fr) (I ni : Nat) (kv : KV) : Res :=
  opdK x E I ni fun w I ni => iff (tg w 18) (iff (Nat.ble (Nat.add off n) (gN w)) (kv (aggW (Nat.add (gB w) off) n) I ni) (.bad 14 2)) (.bad 14 3)
def idx1K (len : Nat) (x i : Opd) (E : Fr) (I ni : Nat) (kv : KV) : Res :=
  op2 x i E I ni fun w wi I ni => iff (tg w 18) (natK wi fun n => iff (Nat.blt n len) (iff (Nat.blt n (gN w)) (kv (cellAt I (Nat.add (gB w) n)) I ni) (.bad 15 0)) (.bad 15 1)) (.bad 15 2)
def notK (x : Opd) (E : Fr) (I ni : Nat) (kv : KV) : Res :=
  opdK x E I ni fun w I ni => iff (tg w 1) (kv (selB (Nat.beq w 33) 1 33) I ni) (.bad 16 0)
def negK (k : IntKind) (x : Opd) (E : Fr) (I ni : Nat) (kv : KV) : Res :=
  opdK x E I ni fun w I ni => iff (tg w (tagI k)) (optK (iopV .sub k 0 (decI k w)) k I ni kv) (.bad 16 1)
def convK (s k : IntKind) (x : Opd) (E : Fr) (I ni : Nat) (kv : KV) : Res :=
  opdK x E I ni fun w I ni => iff (tg w (tagI s)) (encK k (k.wrap (decI s w)) I ni kv) (.bad 16 2)
def nilcK (x : Opd) (E : Fr) (I ni : Nat) (kv : KV) : Res :=
  opdK x E I ni fun w I ni => iff (or (and (tg w 10) (Nat.blt 10 w)) (or (tg w 14) (tg w 16))) (kv w I ni) (.bad 17 0)
def mkiK (t : Nat) (x : Opd) (E : Fr) (I ni : Nat) (kv : KV) : Res :=
  opdK x E I ni fun w I ni => iff (Nat.blt t 1048576) (growK I ni 1 (Nat.mod w 79228162514264337593543950336) fun I' ni' => kv (Nat.add 16 (Nat.mul 32 (Nat.add t (Nat.mul 1048576 ni)))) I' ni') (.bad 18 0)
def mkfK (fn n : Nat) (xs : List Opd) (E : Fr) (I ni : Nat) (kv : KV) : Res :=
  opdsK xs E I ni fun ws I ni => iff (Nat.blt fn 1048576) (growK I ni n (rowOf ws) fun I' ni' => kv (Nat.add 14 (Nat.mul 32 (Nat.add fn (Nat.mul 1048576 (Nat.add ni (Nat.mul 16777216 n)))))) I' ni') (.bad 18 1)
def minK (mx : Bool) (t : Nat) (x y : Opd) (E : Fr) (I ni : Nat) (kv : KV) : Res :=
  op2 x y E I ni fun wx wy I ni => iff (tg wx t) (iff (tg wy t) (kv (selB (@Bool.rec (fun _ => Bool) (Nat.blt wy wx) (Nat.blt wx wy) mx) wy wx) I ni) (.bad 19 0)) (.bad 19 1)
end
section
variable {f : Nat → Option FB} {I ni : Nat} {E : Fr} {a : Act} {P : Program} {kv : KV}
theorem lenSK_ok {x : Operand} {t e : TypeId} {ty : TypeId} (ht : P.underlying t = some (.slice e)) (h : lenSK (lowOpd x) E I ni kv = .ok) (hx : OpR f I ni E a x) (hI : IB I ni) :
    PureOk P f I ni kv (do let v ← Builtin.len_ #[t] ty #[a.eval x]; pure (.value v)) := by
  obtain ⟨w, I', n', h1, h2, h3⟩ := opdK_ok h hx hI
  obtain ⟨h4, h1⟩ := iff_bad h1
  rcases h3.inv_slice (tg_ok h4) with ⟨hw, e1⟩ | ⟨b, off, len, sz, cap, ex, F, A, c, hb, hb2, hf, ho, hlen, hsz, hc, hcap, q1, q2, q3, hw, e1⟩
  · subst hw
    refine ⟨_, _, _, .int .i64 (0 : Nat), h1, h2, ?_, fun W => ?_⟩
    · exact .int .i64 0 9223372036854775808 (by simp [bias]) (by omega)
    · rw [e1]; simp [Builtin.len_, run_underlying ht, goInt]
  · have e2 : (w / 562949953421312) % 524288 = len := by rw [hw]; omega
    refine ⟨_, _, _, .int .i64 (len : Nat), h1, h2, ?_, fun W => ?_⟩
    · have := WR.int (f := f) (I := I') (ni := n') .i64 (len : Nat) (9223372036854775808 + len) (by simp [bias]; omega) (by omega)
      have e3 : tagI .i64 + 32 * (9223372036854775808 + len) = 295147905179352825861 + 32 * ((w / 562949953421312) % 524288) := by rw [e2]; simp only [tagI]; omega
      rw [e3] at this
      exact this
    · rw [e1]; simp [Builtin.len_, run_underlying ht, goInt]
theorem natK_ok {w : Nat} {v : Value} {k : Nat → Res} (h : natK w k = .ok) (hv : WR f I ni w v) : ∃ (kd : IntKind) (n : Nat), v = .int kd n ∧ k n = .ok := by
  rcases iff_ok h with ⟨h1, h⟩ | ⟨h1, h⟩
  · obtain ⟨h2, h⟩ := iff_bad h
    have h2 : 295147905179352825861 ≤ w := Nat.le_of_ble_eq_true h2
    obtain ⟨m, p, e1, hw, hp, -⟩ := hv.inv_int .i64 (tg_ok h1)
    simp only [tagI, bias] at hw hp
    have e2 : Nat.div (Nat.sub w 295147905179352825861) 32 = p - 9223372036854775808 := by show (w - 295147905179352825861) / 32 = _; omega
    rw [e2] at h
    refine ⟨.i64, p - 9223372036854775808, ?_, h⟩
    rw [e1]; congr 1; omega
  · obtain ⟨h2, h⟩ := iff_bad h
    obtain ⟨h3, h⟩ := iff_bad h
    have h2 : 6 ≤ w % 32 := Nat.le_of_ble_eq_true h2
    have h3 : w % 32 ≤ 9 := Nat.le_of_ble_eq_true h3
    have hk : ∃ kd : IntKind, w % 32 = tagI kd ∧ bias kd = 0 := by
      rcases (by omega : w % 32 = 6 ∨ w % 32 = 7 ∨ w % 32 = 8 ∨ w % 32 = 9) with e | e | e | e
      · exact ⟨.u8, e, rfl⟩
      · exact ⟨.u16, e, rfl⟩
      · exact ⟨.u32, e, rfl⟩
      · exact ⟨.u64, e, rfl⟩
    obtain ⟨kd, hk, hb⟩ := hk
    obtain ⟨m, p, e1, hw, hp, -⟩ := hv.inv_int kd hk
    have ht := tagI_lt kd
    have e2 : Nat.div w 32 = p := by show w / 32 = _; omega
    rw [e2] at h
    rw [hb] at hp
    exact ⟨kd, p, by rw [e1]; congr 1; omega, h⟩
theorem ptrK_ok {b off : Nat} {F : FB} (h : ptrK b off I ni kv = .ok) (hb : 0 < b) (hb2 : b < 16777216) (hf : f b = some F) : ∃ w, kv w I ni = .ok ∧ WR f I ni w (.pointer (some ⟨F.blk, F.base + off, none⟩)) := by
  obtain ⟨h1, h⟩ := iff_bad h
  exact ⟨_, h, .ptr b off F hb hb2 hf (blt_iff.1 h1)⟩
theorem add_none (blk o n : Nat) : (⟨blk, o, none⟩ : Addr).add n = ⟨blk, o + n, none⟩ := by
  unfold Addr.add
  split
  · rename_i h; subst h; rfl
  · rfl
theorem sW {off b len sz cap w : Nat} {ex : Bool} (hw : w = 11 + 32 * (off + 4194304 * (b + 4194304 * (len + 524288 * (sz + 256 * (Bool.toNat ex + 2 * cap)))))) (ho : off < 4194304) (hb : b < 4194304) (hl : len < 524288) (hs : sz < 256) :
    sOff w = off ∧ sB w = b ∧ sLen w = len ∧ sSz w = sz ∧ sEx w = ex.toNat ∧ sCap w = cap := by
  have hx : ex.toNat ≤ 1 := by cases ex <;> decide
  generalize ex.toNat = x at *
  refine ⟨?_, ?_, ?_, ?_, ?_, ?_⟩
  · show (w / 32) % 4194304 = _; omega
  · show (w / 134217728) % 4194304 = _; omega
  · show (w / 562949953421312) % 524288 = _; omega
  · show (w / 295147905179352825856) % 256 = _; omega
  · show (w / 75557863725914323419136) % 2 = _; omega
  · show w / 151115727451828646838272 = _; omega
theorem iadrSK_ok {x i : Operand} {t e : TypeId} {ie : TypeInfo} (ht : P.underlying t = some (.slice e)) (he : P.info? e = some ie) (h : iadrSK ie.size (lowOpd x) (lowOpd i) E I ni kv = .ok)
    (hx : OpR f I ni E a x) (hi : OpR f I ni E a i) (hI : IB I ni) : PureOk P f I ni kv (do let v ← Instr.indexAt t (a.eval x) (a.eval i); pure (.value v)) := by
  obtain ⟨w, wi, I', n', h1, h2, h3, h4⟩ := op2_ok h hx hi hI
  obtain ⟨h5, h1⟩ := iff_bad h1
  obtain ⟨kd, n, e2, h1⟩ := natK_ok h1 h4
  obtain ⟨h6, h1⟩ := iff_bad h1
  have h6 := blt_iff.1 h6
  rcases h3.inv_slice (tg_ok h5) with ⟨hw, e1⟩ | ⟨b, off, len, sz, cap, ex, F, A, c, hb, hb2, hf, ho, hlen, hsz, hc, hcap, q1, q2, q3, hw, e1⟩
  · subst hw; exact absurd h6 (by show ¬ n < (11 / 562949953421312) % 524288; omega)
  · obtain ⟨f1, f2, f3, -, -, -⟩ := sW hw ho hb2 hlen hsz
    rw [f3] at h6
    rw [f1, f2] at h1
    obtain ⟨w', h7, h8⟩ := ptrK_ok h1 hb (by omega) hf
    have hcc : c ≠ 0 := by
      cases ex
      · have := q2 rfl; omega
      · have := q1 rfl; omega
    obtain rfl := q3 hcc
    have h8 : WR f I' n' w' (.pointer (some ⟨F.blk, F.base + (off + n * ie.size), none⟩)) := h8
    refine ⟨w', _, _, _, h7, h2, h8, fun W => ?_⟩
    rw [e1, e2]
    simp [Instr.indexAt, asIntOf, run_underlying ht, h6, Go.sizeOf, typeInfo, he, add_none, Nat.add_assoc]
theorem iadrAK_ok {x i : Operand} {t e : TypeId} {len : Nat} {ie : TypeInfo} (ht : P.underlying t = some (.array len e)) (he : P.info? e = some ie) (h : iadrAK len ie.size (lowOpd x) (lowOpd i) E I ni kv = .ok)
    (hx : OpR f I ni E a x) (hi : OpR f I ni E a i) (hI : IB I ni) : PureOk P f I ni kv (do let v ← Instr.indexAt t (a.eval x) (a.eval i); pure (.value v)) := by
  obtain ⟨w, wi, I', n', h1, h2, h3, h4⟩ := op2_ok h hx hi hI
  obtain ⟨h5, h1⟩ := iff_bad h1
  obtain ⟨h5', h1⟩ := iff_bad h1
  have h5' := blt_iff.1 h5'
  obtain ⟨kd, n, e2, h1⟩ := natK_ok h1 h4
  obtain ⟨h6, h1⟩ := iff_bad h1
  have h6 := blt_iff.1 h6
  rcases h3.inv_ptr (tg_ok h5) with ⟨hw, e1⟩ | ⟨b, off, F, hb, hb2, hf, ho, hw, e1⟩
  · omega
  · have f1 : pOff w = off := by show (w / 32) % 16777216 = _; omega
    have f2 : pB w = b := by show w / 536870912 = _; omega
    rw [f1, f2] at h1
    obtain ⟨w', h7, h8⟩ := ptrK_ok h1 hb (by omega) hf
    have h8 : WR f I' n' w' (.pointer (some ⟨F.blk, F.base + (off + n * ie.size), none⟩)) := h8
    refine ⟨w', _, _, _, h7, h2, h8, fun W => ?_⟩
    rw [e1, e2]
    simp [Instr.indexAt, Instr.sureAddr, asIntOf, run_underlying ht, h6, Go.sizeOf, typeInfo, he, add_none, Nat.add_assoc]
theorem fadrK_ok {x : Operand} {s : TypeId} {fields : Array Field} {fi : Field} {j : Nat} {ie : TypeInfo} (ht : P.underlying s = some (.struct fields)) (hj : fields[j]? = some fi) (he : P.info? fi.type = some ie) (hz : ie.size ≠ 0)
    (h : fadrK fi.offset (lowOpd x) E I ni kv = .ok) (hx : OpR f I ni E a x) (hI : IB I ni) : PureOk P f I ni kv (do let v ← Instr.fieldAt s (a.eval x) j; pure (.value v)) := by
  obtain ⟨w, I', n', h1, h2, h3⟩ := opdK_ok h hx hI
  obtain ⟨h5, h1⟩ := iff_bad h1
  obtain ⟨h5', h1⟩ := iff_bad h1
  have h5' := blt_iff.1 h5'
  rcases h3.inv_ptr (tg_ok h5) with ⟨hw, e1⟩ | ⟨b, off, F, hb, hb2, hf, ho, hw, e1⟩
  · omega
  · have f1 : pOff w = off := by show (w / 32) % 16777216 = _; omega
    have f2 : pB w = b := by show w / 536870912 = _; omega
    rw [f1, f2] at h1
    obtain ⟨w', h7, h8⟩ := ptrK_ok h1 hb (by omega) hf
    have h8 : WR f I' n' w' (.pointer (some ⟨F.blk, F.base + (off + fi.offset), none⟩)) := h8
    refine ⟨w', _, _, _, h7, h2, h8, fun W => ?_⟩
    rw [e1]
    simp [Instr.fieldAt, Instr.sureAddr, run_underlying ht, hj, fieldPlace, Go.sizeOf, typeInfo, he, hz, add_none, Nat.add_assoc]
theorem gW {b n w t : Nat} (hw : w = t + 32 * (b + 16777216 * n)) (ht : t < 32) (hb : b < 16777216) : gB w = b ∧ gN w = n :=
  ⟨by show (w / 32) % 16777216 = _; omega, by show w / 536870912 = _; omega⟩
def aggD : TypeDesc → Bool
  | .struct _ | .array _ _ => true
  | _ => false
theorem run_isAgg_no {t : TypeId} {d : TypeDesc} (h : P.underlying t = some d) (hd : aggD d = false) (W : World) : (isAgg t).run P W = .ok false W := by
  simp only [isAgg, Sem.run_bind, run_underlying h, Result.andThen_ok]
  cases d <;> first | rfl | (simp [aggD] at hd)
theorem run_isAgg_yes {t : TypeId} {d : TypeDesc} (h : P.underlying t = some d) (hd : aggD d = true) (W : World) : (isAgg t).run P W = .ok true W := by
  simp only [isAgg, Sem.run_bind, run_underlying h, Result.andThen_ok]
  cases d <;> first | rfl | (simp [aggD] at hd)
theorem fld1K_ok {x : Operand} {s : TypeId} {fields : Array Field} {fi : Field} {j : Nat} {d : TypeDesc} (ht : P.underlying s = some (.struct fields)) (hj : fields[j]? = some fi) (hd : P.underlying fi.type = some d)
    (hd' : aggD d = false) (h : fld1K 18 fi.offset (lowOpd x) E I ni kv = .ok) (hx : OpR f I ni E a x) (hI : IB I ni) :
    PureOk P f I ni kv (do let v ← Instr.field s (a.eval x) j; pure (.value v)) := by
  obtain ⟨w, I', n', h1, h2, h3⟩ := opdK_ok h hx hI
  obtain ⟨h5, h1⟩ := iff_bad h1
  obtain ⟨h6, h1⟩ := iff_bad h1
  have h6 := blt_iff.1 h6
  obtain ⟨b, n, cs, e1, hn, hone, hn2, hb, hi, hv, hw⟩ := h3.inv_agg (tg_ok h5)
  obtain ⟨g1, g2⟩ := gW hw (by omega) hb
  rw [g2] at h6
  rw [g1] at h1
  have hlt : fi.offset < cs.size := by omega
  refine ⟨_, _, _, cs[fi.offset], h1, h2, hv _ hlt, fun W => ?_⟩
  rw [e1]
  simp [Instr.field, run_underlying ht, hj, asAgg, part, run_isAgg_no hd hd', hlt]
theorem sub_agg {cs : Array Value} {b n off m : Nat} (hn : cs.size = n) (hone : ∀ i (h : i < cs.size), cs[i].oneCell' = true) (hv : ∀ i (h : i < cs.size), WR f I ni (cellAt I (b + i)) cs[i]) (hb : b + n ≤ ni) (hb2 : b + off < 16777216) (hn2 : n < 16777216) (hm : off + m ≤ n) :
    WR f I ni (aggW (b + off) m) (.agg (cs.extract off (off + m))) := by
  refine .agg (b + off) m _ (by simp; omega) (fun i hi => by rw [Array.getElem_extract]; exact hone _ _) (by omega) hb2 (by omega) fun i hi => ?_
  have hi' : i < m := by simp at hi; omega
  rw [Array.getElem_extract, Nat.add_assoc]
  exact hv (off + i) (by omega)
theorem fldNK_ok {x : Operand} {s : TypeId} {fields : Array Field} {fi : Field} {j : Nat} {d : TypeDesc} {ie : TypeInfo} (ht : P.underlying s = some (.struct fields)) (hj : fields[j]? = some fi) (hd : P.underlying fi.type = some d)
    (hd' : aggD d = true) (he : P.info? fi.type = some ie) (h : fldNK fi.offset ie.size (lowOpd x) E I ni kv = .ok) (hx : OpR f I ni E a x) (hI : IB I ni) :
    PureOk P f I ni kv (do let v ← Instr.field s (a.eval x) j; pure (.value v)) := by
  obtain ⟨w, I', n', h1, h2, h3⟩ := opdK_ok h hx hI
  obtain ⟨h5, h1⟩ := iff_bad h1
  obtain ⟨h6, h1⟩ := iff_bad h1
  have h6 : fi.offset + ie.size ≤ gN w := Nat.le_of_ble_eq_true h6
  obtain ⟨b, n, cs, e1, hn, hone, hn2, hb, hi, hv, hw⟩ := h3.inv_agg (tg_ok h5)
  obtain ⟨g1, g2⟩ := gW hw (by omega) hb
  rw [g2] at h6
  rw [g1] at h1
  refine ⟨_, _, _, .agg (cs.extract fi.offset (fi.offset + ie.size)), h1, h2, ?_, fun W => ?_⟩
  · exact sub_agg hn hone hv hi (by have := h2.lt.2; omega) hn2 h6
  · rw [e1]
    simp [Instr.field, run_underlying ht, hj, asAgg, part, run_isAgg_yes hd hd', Go.sizeOf, typeInfo, he]
end
end Go.Proofs.YtpjhkpmmbeoghaaGreatDoor.Ev
namespace Go.Proofs.YtpjhkpmmbeoghaaGreatDoor.Ev
open Go
noncomputable section
def slW (off b len sz ex cap : Nat) : Nat := Nat.add 11 (Nat.mul 32 (Nat.add off (Nat.mul 4194304 (Nat.add b (Nat.mul 4194304 (Nat.add len (Nat.mul 524288 (Nat.add sz (Nat.mul 256 (Nat.add ex (Nat.mul 2 cap)))))))))))
def bndK (x : Option Opd) (d : Nat) (E : Fr) (I ni : Nat) (k : Nat → Nat → Nat → Res) : Res :=
  @Option.rec Opd (fun _ => Res) (k d I ni) (fun x => opdK x E I ni fun w I ni => natK w fun n => k n I ni) x
def slcW (sz w l h m : Nat) (ex : Nat) (I ni : Nat) (kv : KV) : Res :=
  iff (Nat.beq w 11) (kv 11 I ni)
    (iff (Nat.beq (sSz w) sz) (iff (Nat.blt (Nat.add (sOff w) (Nat.mul l sz)) 4194304) (kv (slW (Nat.add (sOff w) (Nat.mul l sz)) (sB w) (Nat.sub h l) sz ex (Nat.sub m l)) I ni) (.bad 20 0)) (.bad 20 1))
def slcK (sz : Nat) (x : Opd) (lo hi mx : Option Opd) (E : Fr) (I ni : Nat) (kv : KV) : Res :=
  opdK x E I ni fun w I ni => iff (tg w 11) (bndK mx (sCap w) E I ni fun m I ni => bndK hi (sLen w) E I ni fun h I ni => bndK lo 0 E I ni fun l I ni =>
    iff (Nat.ble l h) (iff (Nat.ble h m) (iff (Nat.ble m (sCap w))
      (slcW sz w l h m (@Option.rec Opd (fun _ => Nat) (sEx w) (fun _ => 1) mx) I ni kv)
      (.bad 20 4)) (.bad 20 5)) (.bad 20 6)) (.bad 20 7)
def nilqK (neg : Bool) (z t : Nat) (x : Opd) (E : Fr) (I ni : Nat) (kv : KV) : Res :=
  opdK x E I ni fun w I ni => iff (or (Nat.beq w z) (tg w t)) (boolK (@Bool.rec (fun _ => Bool) neg (not neg) (Nat.beq w z)) I ni kv) (.bad 21 0)
end
section
variable {f : Nat → Option FB} {I ni : Nat} {E : Fr} {a : Act} {P : Program} {kv : KV}
theorem notK_ok {x : Operand} (h : notK (lowOpd x) E I ni kv = .ok) (hx : OpR f I ni E a x) (hI : IB I ni) : PureOk P f I ni kv (do let v ← Op.unary .not (a.eval x); pure (.value v)) := by
  obtain ⟨w, I', n', h1, h2, h3⟩ := opdK_ok h hx hI
  obtain ⟨h4, h5⟩ := iff_bad h1
  obtain ⟨b, e, hw⟩ := h3.inv_bool (tg_ok h4)
  cases b with
  | true =>
    have hw : w = 33 := hw
    subst hw
    exact ⟨1, I', n', .bool false, h5, h2, .bool false, fun W => by rw [e]; rfl⟩
  | false =>
    have hw : w = 1 := hw
    subst hw
    exact ⟨33, I', n', .bool true, h5, h2, .bool true, fun W => by rw [e]; rfl⟩
theorem negK_ok {k : IntKind} {x : Operand} (h : negK k (lowOpd x) E I ni kv = .ok) (hx : OpR f I ni E a x) (hI : IB I ni) : PureOk P f I ni kv (do let v ← Op.unary .neg (a.eval x); pure (.value v)) := by
  obtain ⟨w, I', n', h1, h2, h3⟩ := opdK_ok h hx hI
  obtain ⟨h4, h1⟩ := iff_bad h1
  obtain ⟨m, p, e1, hw, hp, -⟩ := h3.inv_int k (tg_ok h4)
  obtain ⟨w', n, h5, h6, h7⟩ := optK_ok (f := f) h1
  rw [decI_eq hw hp] at h5
  refine ⟨w', I', n', _, h6, h2, h7, fun W => ?_⟩
  cases h5
  rw [e1]
  simp [Op.unary, Op.intArith]
theorem convK_ok {s k : IntKind} {src dst : TypeId} {ds : TypeDesc} (hs : P.underlying src = some ds) (hd : P.underlying dst = some (.int k)) {x : Operand} (h : convK s k (lowOpd x) E I ni kv = .ok) (hx : OpR f I ni E a x) (hI : IB I ni) :
    PureOk P f I ni kv (do let v ← convert src dst (a.eval x); pure (.value v)) := by
  obtain ⟨w, I', n', h1, h2, h3⟩ := opdK_ok h hx hI
  obtain ⟨h4, h1⟩ := iff_bad h1
  obtain ⟨m, p, e1, hw, hp, -⟩ := h3.inv_int s (tg_ok h4)
  obtain ⟨w', h6, h7⟩ := encK_ok (f := f) h1
  rw [decI_eq hw hp] at h7
  refine ⟨w', I', n', _, h6, h2, h7, fun W => ?_⟩
  rw [e1]
  simp [convert, run_underlying hs, run_underlying hd, Conv.intToInt]
theorem nilcK_ok {x : Operand} (h : nilcK (lowOpd x) E I ni kv = .ok) (hx : OpR f I ni E a x) (hI : IB I ni) (o : Oper) (ho : o.op = .nilCheck x) : PureOk P f I ni kv (execOp a.eval o) := by
  obtain ⟨w, I', n', h1, h2, h3⟩ := opdK_ok h hx hI
  have hgo : kv w I' n' = .ok ∧ ((w % 32 = 10 ∧ 10 < w) ∨ w % 32 = 14 ∨ w % 32 = 16) := by
    obtain ⟨h4, h5⟩ := iff_bad h1
    refine ⟨h5, ?_⟩
    rcases Bool.or_eq_true_iff.1 h4 with h6 | h6
    · obtain ⟨h7, h8⟩ := Bool.and_eq_true_iff.1 h6
      exact .inl ⟨tg_ok h7, blt_iff.1 h8⟩
    · exact .inr ((Bool.or_eq_true_iff.1 h6).imp tg_ok tg_ok)
  refine ⟨w, I', n', _, hgo.1, h2, h3, fun W => ?_⟩
  simp only [execOp, ho]
  rcases hgo.2 with ⟨t, h4⟩ | t | t
  · rcases h3.inv_ptr t with ⟨hw, e1⟩ | ⟨b, off, F, hb, hb2, hf, hoo, hw, e1⟩
    · omega
    · rw [e1]; rfl
  · obtain ⟨fn, b, n, cs, e1, -⟩ := h3.inv_func t
    rw [e1]; rfl
  · obtain ⟨t, b, v, e1, -⟩ := h3.inv_iface t
    rw [e1]; rfl
theorem WR.cell96 {w : Nat} {v : Value} (h : WR f I ni w v) : WR f I ni (Nat.mod w 79228162514264337593543950336) v := by
  have : Nat.mod w 79228162514264337593543950336 = w := Nat.mod_eq_of_lt h.lt96
  rw [this]; exact h
end
end Go.Proofs.YtpjhkpmmbeoghaaGreatDoor.Ev
namespace Go.Proofs.YtpjhkpmmbeoghaaGreatDoor.Ev
open Go
section
variable {f : Nat → Option FB} {I ni : Nat} {E : Fr} {a : Act} {P : Program} {kv : KV}
theorem opdsK_ok : ∀ {xs : List Operand} {I ni : Nat} {k : List Nat → Nat → Nat → Res}, opdsK (xs.map lowOpd) E I ni k = .ok → (∀ x ∈ xs, OpR f I ni E a x) → IB I ni →
    ∃ ws I' ni', k ws I' ni' = .ok ∧ IOk I ni I' ni' ∧ ws.length = xs.length ∧ ∀ i (h : i < ws.length) (h' : i < xs.length), WR f I' ni' ws[i] (a.eval xs[i])
  | [], I, ni, k, h, _, hI => ⟨[], I, ni, h, .refl hI, rfl, fun i h => absurd h (by simp)⟩
  | x :: xs, I, ni, k, h, hx, hI => by
    obtain ⟨w, I1, n1, h1, i1, r1⟩ := opdK_ok (k := fun w I ni => opdsK (xs.map lowOpd) E I ni fun l I ni => k (w :: l) I ni) h (hx x (by simp)) hI
    obtain ⟨ws, I2, n2, h2, i2, hl, r2⟩ := opdsK_ok h1 (fun y hy => (hx y (by simp [hy])).mono (.refl _) i1.ext) i1.lt
    refine ⟨w :: ws, I2, n2, h2, i1.trans i2, by simp [hl], fun i hi hi' => ?_⟩
    cases i with
    | zero => exact r1.mono (.refl _) i2.ext
    | succ i => exact r2 i (by simpa using hi) (by simpa using hi')
theorem rowOf_cons (w : Nat) (l : List Nat) : rowOf (w :: l) = w + (rowOf l) <<< 96 := rfl
theorem rowOf_ok : ∀ {l : List Nat}, (∀ w ∈ l, w < 79228162514264337593543950336) → rowOf l < 2 ^ (96 * l.length) ∧ ∀ i (h : i < l.length), cellAt (rowOf l) i = l[i]
  | [], _ => ⟨by simp [rowOf], fun i h => absurd h (by simp)⟩
  | w :: l, hl => by
    obtain ⟨h1, h2⟩ := rowOf_ok (l := l) fun x hx => hl x (by simp [hx])
    have hlt : w < 2 ^ 96 := hl w (by simp)
    have hlt' : w < 2 ^ (96 * 1) := by simpa using hlt
    have e : w + rowOf l <<< 96 = addRow w 1 (rowOf l) := by
      show _ = w ||| (rowOf l <<< (96 * 1))
      rw [Nat.or_comm, Nat.shiftLeft_eq, Nat.mul_comm (rowOf l), ← Nat.two_pow_add_eq_or_of_lt (i := 96) hlt]
      exact Nat.add_comm _ _
    rw [rowOf_cons, e]
    refine ⟨?_, fun i hi => ?_⟩
    · have := add_lt hlt' h1
      rw [show (w :: l).length = 1 + l.length by simp; omega]
      exact this
    · rw [cell_add hlt']
      cases i with
      | zero => simp only [Nat.zero_lt_one, if_true, List.getElem_cons_zero]; exact cell_self hlt
      | succ i =>
        rw [if_neg (by omega)]
        simp only [Nat.add_sub_cancel, List.getElem_cons_succ]
        exact h2 i (by simpa using hi)
theorem mkiK_ok {t : TypeId} {x : Operand} {d : TypeDesc} (ht : P.underlying t = some d) (hd : ∀ ms, d ≠ .interface ms) (h : mkiK t (lowOpd x) E I ni kv = .ok) (hx : OpR f I ni E a x) (hI : IB I ni) :
    PureOk P f I ni kv (do let v ← Instr.makeInterface t (a.eval x); pure (.value v)) := by
  obtain ⟨w, I', n', h1, h2, h3⟩ := opdK_ok h hx hI
  obtain ⟨h4, h1⟩ := iff_bad h1
  obtain ⟨h5, h1⟩ := growK_ok (k := fun I'' ni'' => kv _ I'' ni'') h1
  have hlt : Nat.mod w 79228162514264337593543950336 < 2 ^ (96 * 1) := Nat.mod_lt _ (by decide)
  refine ⟨_, _, _, .iface t (a.eval x), h1, h2.trans (.grow h2.lt hlt h5), ?_, fun W => ?_⟩
  · refine .iface t n' _ (blt_iff.1 h4) (by omega) (by omega) ?_
    rw [cell_add h2.lt.1, if_neg (by omega), Nat.sub_self, cell_self (by simpa using hlt)]
    exact h3.cell96.mono (.refl _) (iext_add h2.lt.1)
  · simp only [Instr.makeInterface, Sem.run_bind, run_underlying ht, Result.andThen_ok]
    cases d <;> first | rfl | exact absurd rfl (hd _)
theorem mkfK_ok {fn : Nat} {xs : List Operand} (h : mkfK fn xs.length (xs.map lowOpd) E I ni kv = .ok) (hx : ∀ x ∈ xs, OpR f I ni E a x) (hI : IB I ni) :
    PureOk P f I ni kv (do let v ← Instr.makeFunc (.func fn) #[] (xs.map a.eval).toArray; pure (.value v)) := by
  obtain ⟨ws, I', n', h1, h2, hl, h3⟩ := opdsK_ok h hx hI
  obtain ⟨h4, h1⟩ := iff_bad h1
  obtain ⟨h5, h1⟩ := growK_ok (k := fun I'' ni'' => kv _ I'' ni'') h1
  obtain ⟨h6, h7⟩ := rowOf_ok (l := ws) fun w hw => by
    obtain ⟨i, hi, rfl⟩ := List.getElem_of_mem hw
    exact (h3 i hi (by omega)).lt96
  rw [hl] at h6
  refine ⟨_, _, _, .func (.func fn) #[] (xs.map a.eval).toArray, h1, h2.trans (.grow h2.lt h6 h5), ?_, fun W => rfl⟩
  refine .func fn n' xs.length _ (by simp) (by omega) (blt_iff.1 h4) (by omega) (Nat.le_refl _) fun i hi => ?_
  have hi' : i < xs.length := by simpa using hi
  rw [cell_add h2.lt.1, if_neg (by omega), Nat.add_sub_cancel_left, h7 i (by omega)]
  simp only [List.getElem_toArray, List.getElem_map]
  exact (h3 i (by omega) hi').mono (.refl _) (iext_add h2.lt.1)
theorem extK_ok {x : Operand} {j : Nat} (h : fld1K 19 j (lowOpd x) E I ni kv = .ok) (hx : OpR f I ni E a x) (hI : IB I ni) :
    PureOk P f I ni kv (do let v ← Instr.extract (a.eval x) j; pure (.value v)) := by
  obtain ⟨w, I', n', h1, h2, h3⟩ := opdK_ok h hx hI
  obtain ⟨h5, h1⟩ := iff_bad h1
  obtain ⟨h6, h1⟩ := iff_bad h1
  have h6 := blt_iff.1 h6
  obtain ⟨b, n, cs, e1, hn, hn2, hb, hi, hv, hw⟩ := h3.inv_tuple (tg_ok h5)
  obtain ⟨g1, g2⟩ := gW hw (by omega) hb
  rw [g2] at h6
  rw [g1] at h1
  have hlt : j < cs.size := by omega
  refine ⟨_, _, _, cs[j], h1, h2, hv _ hlt, fun W => ?_⟩
  rw [e1]
  simp [Instr.extract, hlt]
theorem idx1K_ok {x i : Operand} {t e : TypeId} {len : Nat} {d : TypeDesc} {ie : TypeInfo} (ht : P.underlying t = some (.array len e)) (he : P.info? e = some ie) (hs : ie.size = 1) (hd : P.underlying e = some d) (hd' : aggD d = false)
    (h : idx1K len (lowOpd x) (lowOpd i) E I ni kv = .ok) (hx : OpR f I ni E a x) (hi : OpR f I ni E a i) (hI : IB I ni) : PureOk P f I ni kv (do let v ← Instr.index t (a.eval x) (a.eval i); pure (.value v)) := by
  obtain ⟨w, wi, I', n', h1, h2, h3, h4⟩ := op2_ok h hx hi hI
  obtain ⟨h5, h1⟩ := iff_bad h1
  obtain ⟨kd, n, e2, h1⟩ := natK_ok h1 h4
  obtain ⟨h6, h1⟩ := iff_bad h1
  have h6 := blt_iff.1 h6
  obtain ⟨h7, h1⟩ := iff_bad h1
  have h7 := blt_iff.1 h7
  obtain ⟨b, m, cs, e1, hn, hone, hn2, hb, hi', hv, hw⟩ := h3.inv_agg (tg_ok h5)
  obtain ⟨g1, g2⟩ := gW hw (by omega) hb
  rw [g2] at h7
  rw [g1] at h1
  have hlt : n < cs.size := by omega
  refine ⟨_, _, _, cs[n], h1, h2, hv _ hlt, fun W => ?_⟩
  rw [e1, e2]
  simp [Instr.index, asIntOf, run_underlying ht, h6, Go.sizeOf, typeInfo, he, hs, part, run_isAgg_no hd hd', hlt]
theorem minK_ok {mx : Bool} {k : IntKind} {x y : Operand} {ts : Array TypeId} {t : TypeId} (h : minK mx (tagI k) (lowOpd x) (lowOpd y) E I ni kv = .ok) (hx : OpR f I ni E a x) (hy : OpR f I ni E a y) (hI : IB I ni) :
    PureOk P f I ni kv (do let v ← (if mx then Builtin.max_ ts t #[a.eval x, a.eval y] else Builtin.min_ ts t #[a.eval x, a.eval y]); pure (.value v)) := by
  obtain ⟨wx, wy, I', n', h1, h2, h3, h4⟩ := op2_ok h hx hy hI
  obtain ⟨h5, h1⟩ := iff_bad h1
  obtain ⟨h6, h1⟩ := iff_bad h1
  obtain ⟨m, p, e1, -, -⟩ := h3.inv_int k (tg_ok h5)
  obtain ⟨n, q, e2, -, -⟩ := h4.inv_int k (tg_ok h6)
  rw [e1] at h3
  rw [e2] at h4
  have c1 := (int_cmp h3 h4).2
  have c2 := (int_cmp h4 h3).2
  cases mx
  · have h1 : kv (selB (Nat.blt wy wx) wy wx) I' n' = .ok := h1
    cases h7 : Nat.blt wy wx with
    | true =>
      rw [h7] at h1
      have h8 := c2.1 (blt_iff.1 h7)
      exact ⟨wy, I', n', .int k n, h1, h2, h4, fun W => by simp [e1, e2, Builtin.min_, Builtin.min2, h8]⟩
    | false =>
      rw [h7] at h1
      have h8 : ¬ n < m := fun hc => by have := blt_iff.2 (c2.2 hc); rw [this] at h7; cases h7
      exact ⟨wx, I', n', .int k m, h1, h2, h3, fun W => by simp [e1, e2, Builtin.min_, Builtin.min2, h8]⟩
  · have h1 : kv (selB (Nat.blt wx wy) wy wx) I' n' = .ok := h1
    cases h7 : Nat.blt wx wy with
    | true =>
      rw [h7] at h1
      have h8 := c1.1 (blt_iff.1 h7)
      exact ⟨wy, I', n', .int k n, h1, h2, h4, fun W => by simp [e1, e2, Builtin.max_, Builtin.max2, h8]⟩
    | false =>
      rw [h7] at h1
      have h8 : ¬ m < n := fun hc => by have := blt_iff.2 (c1.2 hc); rw [this] at h7; cases h7
      exact ⟨wx, I', n', .int k m, h1, h2, h3, fun W => by simp [e1, e2, Builtin.max_, Builtin.max2, h8]⟩
end
end Go.Proofs.YtpjhkpmmbeoghaaGreatDoor.Ev
namespace Go.Proofs.YtpjhkpmmbeoghaaGreatDoor.Ev
open Go
noncomputable section
def partK (sz w I : Nat) (k : Nat → Res) : Res :=
  iff (tg w 18) (iff (Nat.beq (gN w) sz) (k (rowAt I (gB w) sz)) (.bad 22 0)) (iff (Nat.beq sz 1) (iff (Nat.blt 0 w) (iff (not (tg w 19)) (k w) (.bad 22 3)) (.bad 22 4)) (.bad 22 1))
def fillK (n : Nat) (l : List (Nat × Nat × Opd)) : Fr → Nat → Nat → Nat → (Nat → Nat → Nat → Res) → Res :=
  @List.rec (Nat × Nat × Opd) (fun _ => Fr → Nat → Nat → Nat → (Nat → Nat → Nat → Res) → Res) (fun _ I ni r k => k r I ni)
    (fun p _ ih E I ni r k => @Prod.rec Nat (Nat × Opd) (fun _ => Res) (fun off q => @Prod.rec Nat Opd (fun _ => Res) (fun sz x => opdK x E I ni fun w I ni => partK sz w I fun y => iff (Nat.ble (Nat.add off sz) n) (ih E I ni (setRow r off sz y) k) (.bad 22 2)) q) p) l
def buildK (n r : Nat) (l : List (Nat × Nat × Opd)) (E : Fr) (I ni : Nat) (kv : KV) : Res :=
  fillK n l E I ni r fun r I ni => growK I ni n r fun I' ni' => kv (Nat.add 18 (Nat.mul 32 (Nat.add ni (Nat.mul 16777216 n)))) I' ni'
end
structure RowR (f : Nat → Option FB) (I ni r : Nat) (cs : Array Value) : Prop where
  lt : r < 2 ^ (96 * cs.size)
  wr : ∀ i (h : i < cs.size), WR f I ni (cellAt r i) cs[i]
  one : ∀ i (h : i < cs.size), cs[i].oneCell' = true
section
variable {f : Nat → Option FB} {I ni : Nat} {E : Fr} {a : Act} {P : Program} {kv : KV}
theorem RowR.mono {f' : Nat → Option FB} {I' ni' r : Nat} {cs : Array Value} (hf : FExt f f') (hI : IExt I ni I' ni') (h : RowR f I ni r cs) : RowR f' I' ni' r cs := ⟨h.lt, fun i hi => (h.wr i hi).mono hf hI, h.one⟩
theorem partK_ok {sz w : Nat} {v : Value} {k : Nat → Res} (h : partK sz w I k = .ok) (hv : WR f I ni w v) : ∃ r, k r = .ok ∧ v.cells.size = sz ∧ RowR f I ni r v.cells := by
  rcases iff_ok h with ⟨h1, h⟩ | ⟨h1, h⟩
  · obtain ⟨h2, h⟩ := iff_bad h
    obtain ⟨b, n, cs, e1, hn, hone, hn2, hb, hi, hr, hw⟩ := hv.inv_agg (tg_ok h1)
    obtain ⟨g1, g2⟩ := gW hw (by omega) hb
    have h2 := Nat.eq_of_beq_eq_true h2
    rw [g2] at h2
    rw [g1] at h
    subst e1
    have e3 : cs.size = sz := by omega
    refine ⟨_, h, e3, ?_, fun i hi' => ?_, hone⟩
    · show rowAt I b sz < 2 ^ (96 * cs.size); rw [e3]; exact row_lt _ _ _
    · rw [cell_row (by have : i < cs.size := hi'; omega)]; exact hr i hi'
  · obtain ⟨h2, h⟩ := iff_bad h
    have h2 := Nat.eq_of_beq_eq_true h2
    obtain ⟨h3, h⟩ := iff_bad h
    have h3 := blt_iff.1 h3
    obtain ⟨h4, h⟩ := iff_bad h
    have hc : v.cells = #[v] ∧ v.oneCell' = true := by
      cases hv with
      | agg b n cs => exfalso; have : tg (18 + 32 * (b + 16777216 * n)) 18 = true := beq_iff'.2 (by show _ % 32 = _; omega); rw [this] at h1; cases h1
      | tuple b n cs => exfalso; have : tg (19 + 32 * (b + 16777216 * n)) 19 = true := beq_iff'.2 (by show _ % 32 = _; omega); rw [this] at h4; cases h4
      | undef => exact absurd h3 (by omega)
      | _ => exact ⟨rfl, rfl⟩
    obtain ⟨hc, hone⟩ := hc
    have hlt := hv.lt96
    refine ⟨w, h, by rw [hc]; exact h2.symm, ?_, fun i hi => ?_, fun i hi => ?_⟩
    · rw [hc]; exact hlt
    · have hi0 : i = 0 := by rw [hc] at hi; simp at hi; omega
      subst hi0
      rw [cell_self hlt]
      simpa [hc] using hv
    · have hi0 : i = 0 := by rw [hc] at hi; simp at hi; omega
      subst hi0
      simpa [hc] using hone
theorem fold_set (off : Nat) : ∀ (vs : List Value) (k : Nat) (cs : Array Value), off + k + vs.length ≤ cs.size →
    let r := (vs.zipIdx k).foldl (fun cs (c, j) => cs.setIfInBounds (off + j) c) cs
    r.size = cs.size ∧ (∀ j (h : j < vs.length), r[off + k + j]? = some vs[j]) ∧ (∀ i, ¬ (off + k ≤ i ∧ i < off + k + vs.length) → r[i]? = cs[i]?)
  | [], k, cs, _ => ⟨rfl, fun j h => absurd h (by simp), fun i _ => rfl⟩
  | v :: vs, k, cs, h => by
    simp only [List.zipIdx_cons, List.foldl_cons]
    have h' : off + (k + 1) + vs.length ≤ (cs.setIfInBounds (off + k) v).size := by simp at h ⊢; omega
    obtain ⟨h1, h2, h3⟩ := fold_set off vs (k + 1) (cs.setIfInBounds (off + k) v) h'
    simp only [List.length_cons] at h
    refine ⟨by rw [h1]; simp, fun j hj => ?_, fun i hi => ?_⟩
    · cases j with
      | zero =>
        rw [h3 _ (by omega)]
        have : off + k < cs.size := by omega
        simp [this]
      | succ j =>
        have := h2 j (by simpa using hj)
        rw [show off + k + (j + 1) = off + (k + 1) + j by omega, this]
        rfl
    · simp only [List.length_cons] at hi
      rw [h3 i (by omega), Array.getElem?_setIfInBounds_ne (by omega)]
theorem RowR.set {r y off : Nat} {cs vs : Array Value} (h : RowR f I ni r cs) (hy : RowR f I ni y vs) (hb : off + vs.size ≤ cs.size) :
    RowR f I ni (setRow r off vs.size y) (vs.zipIdx.foldl (fun cs (c, j) => cs.setIfInBounds (off + j) c) cs) ∧ (vs.zipIdx.foldl (fun cs (c, j) => cs.setIfInBounds (off + j) c) cs).size = cs.size := by
  have e : vs.zipIdx.foldl (fun cs (c, j) => cs.setIfInBounds (off + j) c) cs = (vs.toList.zipIdx 0).foldl (fun cs (c, j) => cs.setIfInBounds (off + j) c) cs := by
    rw [← Array.foldl_toList, Array.toList_zipIdx]
  rw [e]
  obtain ⟨h1, h2, h3⟩ := fold_set off vs.toList 0 cs (by simpa using hb)
  refine ⟨⟨?_, fun i hi => ?_, fun i hi => ?_⟩, h1⟩
  · rw [h1]; exact set_lt h.lt hb hy.lt
  · rw [cell_set hy.lt]
    by_cases hc : off ≤ i ∧ i < off + vs.size
    · rw [if_pos hc]
      have h4 := h2 (i - off) (by simp; omega)
      rw [show off + 0 + (i - off) = i by omega, Array.getElem?_eq_getElem hi] at h4
      rw [Option.some.inj h4, Array.getElem_toList]
      exact hy.wr _ _
    · rw [if_neg hc]
      have h4 := h3 i (by simpa using hc)
      have hi' : i < cs.size := by omega
      rw [Array.getElem?_eq_getElem hi, Array.getElem?_eq_getElem hi'] at h4
      rw [Option.some.inj h4]
      exact h.wr i hi'
  · by_cases hc : off ≤ i ∧ i < off + vs.size
    · have h4 := h2 (i - off) (by simp; omega)
      rw [show off + 0 + (i - off) = i by omega, Array.getElem?_eq_getElem hi] at h4
      rw [Option.some.inj h4, Array.getElem_toList]
      exact hy.one _ _
    · have h4 := h3 i (by simpa using hc)
      have hi' : i < cs.size := by omega
      rw [Array.getElem?_eq_getElem hi, Array.getElem?_eq_getElem hi'] at h4
      rw [Option.some.inj h4]
      exact h.one i hi'
def lowParts (place : Nat → Option (Nat × Nat)) : List (Nat × Operand) → Option (List (Nat × Nat × Opd))
  | [] => some []
  | (i, x) :: l => match place i, lowParts place l with
    | some (off, sz), some r => some ((off, sz, lowOpd x) :: r)
    | _, _ => none
theorem fillK_ok {place : Nat → Option (Nat × Nat)} {n : Nat} : ∀ {l : List (Nat × Operand)} {ps : List (Nat × Nat × Opd)} {I ni r : Nat} {cs : Array Value} {k : Nat → Nat → Nat → Res}, lowParts place l = some ps →
    fillK n ps E I ni r k = .ok → (∀ p ∈ l, OpR f I ni E a p.2) → IB I ni → RowR f I ni r cs → cs.size = n →
    ∃ r' I' ni' cs', k r' I' ni' = .ok ∧ IOk I ni I' ni' ∧ RowR f I' ni' r' cs' ∧ cs'.size = n ∧ Instr.fill place cs (l.map fun p => (p.1, a.eval p.2)) = some cs'
  | [], ps, I, ni, r, cs, k, hp, h, _, hI, hr, hn => by
    cases hp
    exact ⟨r, I, ni, cs, h, .refl hI, hr, hn, rfl⟩
  | (i, x) :: l, ps, I, ni, r, cs, k, hp, h, hx, hI, hr, hn => by
    simp only [lowParts] at hp
    split at hp
    case h_2 => cases hp
    rename_i off sz ps' hpl hl
    cases hp
    obtain ⟨w, I1, n1, h1, i1, r1⟩ := opdK_ok (k := fun w I ni => partK sz w I fun y => iff (Nat.ble (Nat.add off sz) n) (fillK n ps' E I ni (setRow r off sz y) k) (.bad 22 2)) h (hx (i, x) (by simp)) hI
    obtain ⟨y, h2, hs, hy⟩ := partK_ok h1 r1
    obtain ⟨h3, h2⟩ := iff_bad h2
    have h3 : off + sz ≤ n := Nat.le_of_ble_eq_true h3
    subst hs
    obtain ⟨hr2, hn2⟩ := (hr.mono (.refl _) i1.ext).set hy (off := off) (by omega)
    obtain ⟨r', I2, n2, cs', h4, i2, hr3, hn3, hf⟩ := fillK_ok hl h2 (fun p hp => (hx p (by simp [hp])).mono (.refl _) i1.ext) i1.lt hr2 (by omega)
    refine ⟨r', I2, n2, cs', h4, i1.trans i2, hr3, hn3, ?_⟩
    simp only [List.map_cons, Instr.fill, hpl]
    rw [if_neg (by simp; omega)]
    exact hf
theorem RowR.agg {r n : Nat} {cs : Array Value} (h : RowR f I ni r cs) (hI : IB I ni) (hn : cs.size = n) (hb : ni + n < 16777216) :
    IOk I ni (addRow I ni r) (ni + n) ∧ WR f (addRow I ni r) (ni + n) (18 + 32 * (ni + 16777216 * n)) (.agg cs) := by
  subst hn
  exact ⟨.grow hI h.lt hb, agg_ok hI.1 h.lt rfl hb fun i hi => ⟨h.wr i hi, h.one i hi⟩⟩
def zeroRow (P : Program) (t : TypeId) : Option (Nat × Nat) :=
  match P.info? t with
  | some i => match i.zero with
    | some z => match immRow z.cells.toList with
      | some r => some (z.cells.size, r)
      | none => none
    | none => none
  | none => none
theorem zeroRow_ok {t : TypeId} {n r : Nat} (h : zeroRow P t = some (n, r)) : ∃ i z, P.info? t = some i ∧ i.zero = some z ∧ z.cells.size = n ∧ ∀ {f I ni}, RowR f I ni r z.cells := by
  unfold zeroRow at h
  split at h
  case h_2 => cases h
  rename_i i hi
  split at h
  case h_2 => cases h
  rename_i z hz
  split at h
  case h_2 => cases h
  rename_i r' hr
  cases h
  refine ⟨i, z, hi, hz, rfl, fun {f I ni} => ?_⟩
  obtain ⟨h1, h2⟩ := immRow_ok (f := f) (I := I) (ni := ni) hr
  exact ⟨by simpa using h1, fun i hi => by have := (h2 i (by simpa using hi)).1; rwa [Array.getElem_toList] at this, fun i hi => by have := (h2 i (by simpa using hi)).2; rwa [Array.getElem_toList] at this⟩
def placeOf (P : Program) (t : TypeId) : Option (Nat → Option (Nat × Nat)) :=
  match P.underlying t with
  | some (.array _ e) => match P.info? e with
    | some ie => some fun i => some (i * ie.size, ie.size)
    | none => none
  | some (.struct fields) => match fields.toList.mapM (fun f => (P.info? f.type).map fun i => (f.offset, i.size)) with
    | some places => some fun i => places[i]?
    | none => none
  | _ => none
theorem buildK_ok {t : TypeId} {n r : Nat} {pl : Nat → Option (Nat × Nat)} {l : List (Nat × Operand)} {ps : List (Nat × Nat × Opd)} (hz : zeroRow P t = some (n, r)) (hp : placeOf P t = some pl) (hl : lowParts pl l = some ps)
    (h : buildK n r ps E I ni kv = .ok) (hx : ∀ p ∈ l, OpR f I ni E a p.2) (hI : IB I ni) : PureOk P f I ni kv (do let v ← Instr.build t (l.map fun p => (p.1, a.eval p.2)).toArray; pure (.value v)) := by
  obtain ⟨i, z, hi, hz', hs, hr⟩ := zeroRow_ok hz
  obtain ⟨r', I', n', cs', h1, h2, h3, h4, h5⟩ := fillK_ok hl h hx hI hr hs
  obtain ⟨h6, h1⟩ := growK_ok (k := fun I'' ni'' => kv _ I'' ni'') h1
  obtain ⟨h7, h8⟩ := h3.agg h2.lt h4 h6
  refine ⟨_, _, _, _, h1, h2.trans h7, h8, fun W => ?_⟩
  have hb : P.built t (l.map fun p => (p.1, a.eval p.2)).toArray.toList = some cs' := by
    unfold Program.built
    unfold placeOf at hp
    rw [hi]
    split at hp
    · rename_i e hu
      split at hp
      case h_2 => cases hp
      rename_i ie hie
      cases hp
      simp only [hu, hz', hie]
      exact h5
    · rename_i fields hu
      split at hp
      case h_2 => cases hp
      rename_i places hpl
      cases hp
      simp only [hu, hz', hpl]
      simpa using h5
    · cases hp
  simp only [Sem.run_bind, run_build W t _ cs' hb, Result.andThen_ok, Sem.run_pure]
end
end Go.Proofs.YtpjhkpmmbeoghaaGreatDoor.Ev
namespace Go.Proofs.YtpjhkpmmbeoghaaGreatDoor.Ev
open Go
noncomputable section
def strW (q n : Nat) : Nat := Nat.add 12 (Nat.mul 32 (Nat.add q (Nat.mul 268435456 n)))
def tQ (w : Nat) : Nat := Nat.mod (Nat.div w 32) 268435456
def tN (w : Nat) : Nat := Nat.div w 8589934592
def seqK (neg : Bool) (x y : Opd) (E : Fr) (I ni : Nat) (kv : KV) : Res :=
  op2 x y E I ni fun wx wy I ni => iff (tg wx 12) (iff (tg wy 12)
    (boolK (@Bool.rec (fun _ => Bool) (and (Nat.beq (tN wx) (tN wy)) (Nat.beq (strAt I (tQ wx) (tN wx)) (strAt I (tQ wy) (tN wy)))) (not (and (Nat.beq (tN wx) (tN wy)) (Nat.beq (strAt I (tQ wx) (tN wx)) (strAt I (tQ wy) (tN wy))))) neg) I ni kv) (.bad 23 0)) (.bad 23 1)
def lenTK (x : Opd) (E : Fr) (I ni : Nat) (kv : KV) : Res :=
  opdK x E I ni fun w I ni => iff (tg w 12) (kv (Nat.add 295147905179352825861 (Nat.mul 32 (tN w))) I ni) (.bad 23 2)
end
section
variable {f : Nat → Option FB} {I ni : Nat} {E : Fr} {a : Act} {P : Program} {kv : KV}
theorem bndK_ok {x : Option Operand} {d : Nat} {k : Nat → Nat → Nat → Res} (h : bndK (x.map lowOpd) d E I ni k = .ok) (hx : ∀ y, x = some y → OpR f I ni E a y) (hI : IB I ni) :
    ∃ n I' ni', k n I' ni' = .ok ∧ IOk I ni I' ni' ∧ ((x = none ∧ n = d) ∨ ∃ y kd, x = some y ∧ a.eval y = .int kd (n : Nat)) := by
  cases x with
  | none => exact ⟨d, I, ni, h, .refl hI, .inl ⟨rfl, rfl⟩⟩
  | some y =>
    obtain ⟨w, I', n', h1, h2, h3⟩ := opdK_ok (k := fun w I ni => natK w fun n => k n I ni) h (hx y rfl) hI
    obtain ⟨kd, n, e1, h4⟩ := natK_ok h1 h3
    exact ⟨n, I', n', h4, h2, .inr ⟨y, kd, rfl, e1⟩⟩
theorem run_bound (kd : IntKind) (n y : Nat) (c : BoundsCode) (h : n ≤ y) (W : World) : (Instr.sliceBound (.int kd (n : Nat)) y c).run P W = .ok n W := by
  simp [Instr.sliceBound, asIntOf, h]
theorem slW_eq (off b len sz ex cap : Nat) : slW off b len sz ex cap = 11 + 32 * (off + 4194304 * (b + 4194304 * (len + 524288 * (sz + 256 * (ex + 2 * cap))))) := rfl
theorem run_bounds {lo hi mx : Option Operand} {len c l hh m k : Nat} (hc : k ≤ c) (hm : (mx = none ∧ m = k) ∨ ∃ y kd, mx = some y ∧ a.eval y = .int kd (m : Nat)) (hh' : (hi = none ∧ hh = len) ∨ ∃ y kd, hi = some y ∧ a.eval y = .int kd (hh : Nat))
    (hl : (lo = none ∧ l = 0) ∨ ∃ y kd, lo = some y ∧ a.eval y = .int kd (l : Nat)) (b1 : l ≤ hh) (b2 : hh ≤ m) (b3 : m ≤ k) (hno : mx.isSome = true → hi.isSome = true) (W : World) :
    (Instr.sliceBounds true len c (lo.map a.eval) (hi.map a.eval) (mx.map a.eval)).run P W = .ok (l, hh, if mx.isSome then m else c) W := by
  have x1 : m ≤ c := by omega
  have x2 : hh ≤ c := by omega
  rcases hm with ⟨rfl, rfl⟩ | ⟨y, k1, rfl, em⟩ <;> rcases hh' with ⟨rfl, rfl⟩ | ⟨y2, k2, rfl, eh⟩ <;> rcases hl with ⟨rfl, rfl⟩ | ⟨y3, k3, rfl, el⟩ <;>
    first
    | (simp at hno; done)
    | simp [Instr.sliceBounds, *, run_bound]
theorem slcK_ok {x : Operand} {lo hi mx : Option Operand} {t e : TypeId} {ie : TypeInfo} (ht : P.underlying t = some (.slice e)) (he : P.info? e = some ie) (hno : mx.isSome = true → hi.isSome = true)
    (h : slcK ie.size (lowOpd x) (lo.map lowOpd) (hi.map lowOpd) (mx.map lowOpd) E I ni kv = .ok) (hx : OpR f I ni E a x) (hlo : ∀ y, lo = some y → OpR f I ni E a y) (hhi : ∀ y, hi = some y → OpR f I ni E a y) (hmx : ∀ y, mx = some y → OpR f I ni E a y) (hI : IB I ni) :
    PureOk P f I ni kv (do let v ← Instr.sliceAt t (a.eval x) (lo.map a.eval) (hi.map a.eval) (mx.map a.eval); pure (.value v)) := by
  obtain ⟨w, I1, n1, h, i1, r1⟩ := opdK_ok h hx hI
  obtain ⟨h5, h⟩ := iff_bad h
  obtain ⟨m, I2, n2, h, i2, rm⟩ := bndK_ok (f := f) (a := a) h (fun y hy => (hmx y hy).mono (.refl _) i1.ext) i1.lt
  obtain ⟨hh, I3, n3, h, i3, rh⟩ := bndK_ok (f := f) (a := a) h (fun y hy => (hhi y hy).mono (.refl _) (i1.trans i2).ext) i2.lt
  obtain ⟨l, I4, n4, h, i4, rl⟩ := bndK_ok (f := f) (a := a) h (fun y hy => (hlo y hy).mono (.refl _) ((i1.trans i2).trans i3).ext) i3.lt
  obtain ⟨b1, h⟩ := iff_bad h
  obtain ⟨b2, h⟩ := iff_bad h
  obtain ⟨b3, h⟩ := iff_bad h
  have b1 : l ≤ hh := Nat.le_of_ble_eq_true b1
  have b2 : hh ≤ m := Nat.le_of_ble_eq_true b2
  have b3 : m ≤ sCap w := Nat.le_of_ble_eq_true b3
  have hI4 := ((i1.trans i2).trans i3).trans i4
  have r4 := r1.mono (.refl _) ((i2.trans i3).trans i4).ext
  have hrun : ∀ W, (Instr.sliceAt t (a.eval x) (lo.map a.eval) (hi.map a.eval) (mx.map a.eval)).run P W = (Instr.slice t (a.eval x) (lo.map a.eval) (hi.map a.eval) (mx.map a.eval)).run P W := fun W => by
    simp only [Instr.sliceAt, Sem.run_bind, run_underlying ht, Result.andThen_ok]
  rcases r4.inv_slice (tg_ok h5) with ⟨hw, e1⟩ | ⟨b, off, len, sz, cap, ex, F, A, c, hb, hb2, hf, ho, hlen, hsz, hc, hcap, q1, q2, q3, hw, e1⟩
  · subst hw
    have z1 : sCap 11 = 0 := by decide
    have z2 : sLen 11 = 0 := by decide
    rw [z1] at b3 rm
    rw [z2] at rh
    obtain rfl : m = 0 := by omega
    obtain rfl : hh = 0 := by omega
    obtain rfl : l = 0 := by omega
    have hk : kv 11 I4 n4 = .ok := by
      cases mx with
      | none => exact ((iff_ok h).resolve_right fun hh => by cases hh.1).2
      | some y => exact ((iff_ok h).resolve_right fun hh => by cases hh.1).2
    refine ⟨11, I4, n4, .slice none 0 0, hk, hI4, .snil, fun W => ?_⟩
    have hb := run_bounds (P := P) (a := a) (lo := lo) (hi := hi) (mx := mx) (Nat.le_refl 0) rm rh rl (by omega) (by omega) (by omega) hno W
    simp only [Sem.run_bind, hrun]
    rw [e1]
    simp only [Instr.slice, Sem.run_bind, run_underlying ht, Result.andThen_ok, hb, Go.sizeOf, typeInfo, run_program, he, Sem.run_pure]
    simp
  · obtain ⟨f1, f2, f3, f4, f5, f6⟩ := sW hw ho hb2 hlen hsz
    rw [f6] at b3 rm
    rw [f3] at rh
    have hcc : cap ≤ c := by
      cases ex
      · exact (q2 rfl).1
      · exact Nat.le_of_eq (q1 rfl).symm
    have hne : Nat.beq w 11 = false := by
      rw [nbeq]; simp; omega
    have hbd := run_bounds (P := P) (a := a) (lo := lo) (hi := hi) (mx := mx) (len := len) (k := cap) hcc rm rh rl b1 b2 b3 hno
    have hnew : ∃ (exn : Bool), kv (slW (off + l * ie.size) b (hh - l) ie.size exn.toNat (m - l)) I4 n4 = .ok ∧ off + l * ie.size < 4194304 ∧ sz = ie.size ∧
        (exn = true → (if mx.isSome then m else c) = m) ∧ (exn = false → mx = none ∧ ex = false ∧ m = cap) := by
      cases mx with
      | none =>
        obtain ⟨-, h⟩ := (iff_ok h).resolve_left fun hx => by have := hx.1; rw [hne] at this; cases this
        obtain ⟨h6, h⟩ := iff_bad h
        obtain ⟨h7, h⟩ := iff_bad h
        have hm : m = cap := by rcases rm with ⟨-, rfl⟩ | ⟨y, _, hy, -⟩; rfl; cases hy
        rw [f4] at h6
        rw [f1] at h7 h
        rw [f2, f5] at h
        exact ⟨ex, h, blt_iff.1 h7, Nat.eq_of_beq_eq_true h6, fun hx => by simp [hm, q1 hx], fun hx => ⟨rfl, hx, hm⟩⟩
      | some y =>
        obtain ⟨-, h⟩ := (iff_ok h).resolve_left fun hx => by have := hx.1; rw [hne] at this; cases this
        obtain ⟨h6, h⟩ := iff_bad h
        obtain ⟨h7, h⟩ := iff_bad h
        rw [f4] at h6
        rw [f1] at h7 h
        rw [f2] at h
        exact ⟨true, h, blt_iff.1 h7, Nat.eq_of_beq_eq_true h6, fun _ => by simp, fun hx => by cases hx⟩
    obtain ⟨exn, hk, hoff, hszz, x1, x2⟩ := hnew
    generalize hC : (if mx.isSome then m else c) = C at *
    have hCc : C ≤ c := by subst hC; split <;> omega
    refine ⟨_, I4, n4, .slice (if C = l then some A else (some A).map (·.add (l * ie.size))) (hh - l) (C - l), hk, hI4, ?_, fun W => ?_⟩
    · have hA : (if C = l then some A else (some A).map (·.add (l * ie.size))) = some (if C = l then A else A.add (l * ie.size)) := by split <;> rfl
      rw [hA, slW_eq]
      refine .slice b (off + l * ie.size) (hh - l) ie.size (m - l) exn F _ (C - l) hb hb2 hf hoff (by omega) (by omega) (by omega) (by omega) (fun hx => by rw [x1 hx]) (fun hx => ?_) fun hz => ?_
      · obtain ⟨rfl, rfl, rfl⟩ := x2 hx
        obtain ⟨q4, q5⟩ := q2 rfl
        have hCe : C = c := by rw [← hC]; rfl
        subst hCe
        refine ⟨by omega, ?_⟩
        rw [hszz] at q5
        have : (C - l) * ie.size + l * ie.size = C * ie.size := by rw [← Nat.add_mul, Nat.sub_add_cancel (by omega)]
        omega
      · rw [if_neg (by omega), q3 (by omega), add_none, Nat.add_assoc]
    · simp only [Sem.run_bind, hrun]
      rw [e1]
      simp only [Instr.slice, Sem.run_bind, run_underlying ht, Result.andThen_ok, hbd, hC, Go.sizeOf, typeInfo, run_program, he, Sem.run_pure]
theorem beVal_inj : ∀ (l l' : List UInt8), l.length = l'.length → beVal l = beVal l' → l = l' := by
  have key : ∀ (l l' : List UInt8) (a b : Nat), l.length = l'.length → l.foldl (fun a b => a * 256 + b.toNat) a = l'.foldl (fun a b => a * 256 + b.toNat) b → a = b ∧ l = l' := by
    intro l
    induction l with
    | nil => intro l' a b hl h; cases l' with | nil => exact ⟨h, rfl⟩ | cons => simp at hl
    | cons x l ih =>
      intro l' a b hl h
      cases l' with
      | nil => simp at hl
      | cons y l' =>
        obtain ⟨h1, h2⟩ := ih l' _ _ (by simpa using hl) h
        have h1 : a * 256 + x.toNat = b * 256 + y.toNat := h1
        have hx := x.toNat_lt
        have hy := y.toNat_lt
        have h3 : x.toNat = y.toNat := by omega
        refine ⟨by omega, ?_⟩
        rw [UInt8.toNat_inj.1 h3, h2]
  exact fun l l' hl h => (key l l' 0 0 hl h).2
theorem tW {q n w : Nat} (hw : w = 12 + 32 * (q + 268435456 * n)) (hq : q < 268435456) : tQ w = q ∧ tN w = n :=
  ⟨by show (w / 32) % 268435456 = _; omega, by show w / 8589934592 = _; omega⟩
theorem ba_toList (s : ByteArray) : s.toList = s.data.toList := by
  exact ByteArray.toList_eq s
theorem seqK_ok {neg : Bool} {x y : Operand} (t : TypeId) (h : seqK neg (lowOpd x) (lowOpd y) E I ni kv = .ok) (hx : OpR f I ni E a x) (hy : OpR f I ni E a y) (hI : IB I ni) :
    PureOk P f I ni kv (do let v ← binOp (if neg then .neq else .eql) t (a.eval x) (a.eval y); pure (.value v)) := by
  obtain ⟨wx, wy, I', n', h1, h2, h3, h4⟩ := op2_ok h hx hy hI
  obtain ⟨h5, h1⟩ := iff_bad h1
  obtain ⟨h6, h1⟩ := iff_bad h1
  obtain ⟨q, n, s, e1, l1, l2, l3, v1, l4, hw1⟩ := h3.inv_str (tg_ok h5)
  obtain ⟨q', m, s', e2, l1', l2', l3', v2, l4', hw2⟩ := h4.inv_str (tg_ok h6)
  obtain ⟨a1, a2⟩ := tW hw1 l3
  obtain ⟨a3, a4⟩ := tW hw2 l3'
  obtain ⟨w, h7, h8⟩ := boolK_ok (f := f) h1
  rw [a1, a2, a3, a4, v1, v2] at h8
  have hb : (Nat.beq n m && Nat.beq (beVal s.data.toList) (beVal s'.data.toList)) = (s.toList == s'.toList) := by
    rw [nbeq, nbeq, Bool.eq_iff_iff, ba_toList, ba_toList]
    simp only [Bool.and_eq_true, decide_eq_true_eq, beq_iff_eq]
    constructor
    · rintro ⟨e3, e4⟩; exact beVal_inj _ _ (by omega) e4
    · intro e3; rw [← l1, ← l1', e3]; exact ⟨rfl, rfl⟩
  rw [hb] at h8
  refine ⟨w, I', n', _, h7, h2, h8, fun W => ?_⟩
  cases neg
  · simp [e1, e2, binOp, Op.stringOp]
  · simp [e1, e2, binOp, Op.stringOp]
theorem lenTK_ok {x : Operand} {t ty : TypeId} (ht : P.underlying t = some .string) (h : lenTK (lowOpd x) E I ni kv = .ok) (hx : OpR f I ni E a x) (hI : IB I ni) :
    PureOk P f I ni kv (do let v ← Builtin.len_ #[t] ty #[a.eval x]; pure (.value v)) := by
  obtain ⟨w, I', n', h1, h2, h3⟩ := opdK_ok h hx hI
  obtain ⟨h4, h1⟩ := iff_bad h1
  obtain ⟨q, n, s, e1, l1, l2, l3, v1, l4, hw1⟩ := h3.inv_str (tg_ok h4)
  obtain ⟨a1, a2⟩ := tW hw1 l3
  rw [a2] at h1
  refine ⟨_, _, _, .int .i64 (n : Nat), h1, h2, ?_, fun W => ?_⟩
  · have := WR.int (f := f) (I := I') (ni := n') .i64 (n : Nat) (9223372036854775808 + n) (by simp [bias]; omega) (by omega)
    have e3 : tagI .i64 + 32 * (9223372036854775808 + n) = 295147905179352825861 + 32 * n := by simp only [tagI]; omega
    rw [e3] at this
    exact this
  · rw [e1]
    have : s.size = n := by rw [← l1]; simp
    simp [Builtin.len_, run_underlying ht, goInt, this]
end
end Go.Proofs.YtpjhkpmmbeoghaaGreatDoor.Ev
namespace Go.Proofs.YtpjhkpmmbeoghaaGreatDoor.Ev
open Go
abbrev KF := Nat → Nat → Nat → Nat → Nat → Res
noncomputable section
def hdW (M b : Nat) : Nat := cellAt M (Nat.sub b 1)
def inK (M b off n : Nat) (k : Res) : Res := iff (Nat.beq (Nat.mod (hdW M b) 4) 1) (iff (Nat.ble (Nat.add off n) (Nat.div (hdW M b) 1024)) k (.bad 30 0)) (.bad 30 1)
def ptrIn (w : Nat) (k : Res) : Res := iff (tg w 10) (iff (Nat.blt 10 w) k (.bad 31 0)) (.bad 31 1)
def load1K (x : Opd) (E : Fr) (M I ni : Nat) (kv : KV) : Res :=
  opdK x E I ni fun w I ni => ptrIn w (inK M (pB w) (pOff w) 1 (kv (cellAt M (Nat.add (pB w) (pOff w))) I ni))
def loadNK (n : Nat) (x : Opd) (E : Fr) (M I ni : Nat) (kv : KV) : Res :=
  opdK x E I ni fun w I ni => ptrIn w (inK M (pB w) (pOff w) n (growK I ni n (rowAt M (Nat.add (pB w) (pOff w)) n) fun I' ni' => kv (Nat.add 18 (Nat.mul 32 (Nat.add ni (Nat.mul 16777216 n)))) I' ni'))
def storeK (n : Nat) (x v : Opd) (E : Fr) (M nm I ni : Nat) (kf : KF) : Res :=
  op2 x v E I ni fun w wv I ni => ptrIn w (inK M (pB w) (pOff w) n (partK n wv I fun r => kf 0 (setRow M (Nat.add (pB w) (pOff w)) n r) nm I ni))
def allocK (n r M nm : Nat) (k : Nat → Nat → Nat → Res) : Res :=
  iff (Nat.blt (Nat.add nm (Nat.add 1 n)) 4194304) (k (Nat.add nm 1) (addRow M nm (addRow (Nat.add 1 (Nat.mul 1024 n)) 1 r)) (Nat.add nm (Nat.add 1 n))) (.bad 32 n)
def newK (n r M nm I ni : Nat) (kf : KF) : Res := allocK n r M nm fun b M nm => kf (ptrW b 0) M nm I ni
def boxK (n : Nat) (x : Opd) (E : Fr) (M nm I ni : Nat) (kf : KF) : Res := opdK x E I ni fun w I ni => partK n w I fun r => newK n r M nm I ni kf
end
section
variable {E : Fr} {a : Act} {P : Program}
def StepOk (P : Program) (c : Cf) (kf : KF) (s : Sem Next) : Prop :=
  ∃ word v c', kf word c'.M c'.nm c'.I c'.ni = .ok ∧ HR c' ∧ IB c'.I c'.ni ∧ Ext c c' ∧ WR c'.f c'.I c'.ni word v ∧ (s.run P c.w = .ok (.value v) c'.w ∨ (s.run P c.w = .ok .skip c'.w ∧ v = undef))
theorem PureOk.step {c : Cf} {kf : KF} {s : Sem Next} (hr : HR c) (h : PureOk P c.f c.I c.ni (fun w I ni => kf w c.M c.nm I ni) s) : StepOk P c kf s := by
  obtain ⟨w, I', n', v, h1, h2, h3, h4⟩ := h
  exact ⟨w, v, { c with I := I', ni := n' }, h1, hr.growI h2.ext h2.lt.1, h2.lt, .growI h2.ext, h3, .inl (h4 _)⟩
def ReadOk (P : Program) (c : Cf) (kv : KV) (s : Sem Next) : Prop :=
  ∃ w I' ni' v, kv w I' ni' = .ok ∧ IOk c.I c.ni I' ni' ∧ WR c.f I' ni' w v ∧ s.run P c.w = .ok (.value v) c.w
theorem ReadOk.step {c : Cf} {kf : KF} {s : Sem Next} (hr : HR c) (h : ReadOk P c (fun w I ni => kf w c.M c.nm I ni) s) : StepOk P c kf s := by
  obtain ⟨w, I', n', v, h1, h2, h3, h4⟩ := h
  exact ⟨w, v, { c with I := I', ni := n' }, h1, hr.growI h2.ext h2.lt.1, h2.lt, .growI h2.ext, h3, .inl h4⟩
theorem ptrIn_ok {f : Nat → Option FB} {I ni w : Nat} {v : Value} {k : Res} (h : ptrIn w k = .ok) (hv : WR f I ni w v) :
    ∃ b off F, 0 < b ∧ b < 16777216 ∧ f b = some F ∧ off < 16777216 ∧ pB w = b ∧ pOff w = off ∧ v = .pointer (some ⟨F.blk, F.base + off, none⟩) ∧ k = .ok := by
  obtain ⟨h1, h⟩ := iff_bad h
  obtain ⟨h2, h⟩ := iff_bad h
  have h2 := blt_iff.1 h2
  rcases hv.inv_ptr (tg_ok h1) with ⟨hw, e1⟩ | ⟨b, off, F, hb, hb2, hf, ho, hw, e1⟩
  · omega
  · exact ⟨b, off, F, hb, hb2, hf, ho, by show w / 536870912 = _; omega, by show (w / 32) % 16777216 = _; omega, e1, h⟩
theorem inK_ok {M b off n : Nat} {k : Res} (h : inK M b off n k = .ok) : hd M b % 4 = 1 ∧ off + n ≤ hd M b / 1024 ∧ k = .ok := by
  obtain ⟨h1, h⟩ := iff_bad h
  obtain ⟨h2, h⟩ := iff_bad h
  exact ⟨Nat.eq_of_beq_eq_true h1, Nat.le_of_ble_eq_true h2, h⟩
theorem HR.row {c : Cf} (h : HR c) {b : Nat} {F : FB} (hf : c.f b = some F) (hk : hd c.M b % 4 = 1) {off n : Nat} (ho : off + n ≤ hd c.M b / 1024) :
    ∃ cs : Array Value, cs.size = n ∧ RowR c.f c.I c.ni (rowAt c.M (b + off) n) cs ∧ c.w.there F.blk (F.base + off) n ∧ ∀ j (hj : j < cs.size), c.w.cell? ⟨F.blk, F.base + off + j, none⟩ = some cs[j] := by
  obtain ⟨bs, elem, fr, h1, h2, h3, h4, h5, h6⟩ := h.cells b F hf hk
  have hsz : (bs.extract (F.base + off) (F.base + off + n)).size = n := by simp; omega
  refine ⟨bs.extract (F.base + off) (F.base + off + n), hsz, ⟨by rw [hsz]; exact row_lt _ _ _, fun i hi => ?_, fun i hi => ?_⟩, fun j hj => ⟨?_, ?_⟩, fun j hj => ?_⟩
  · have hi' : i < n := by omega
    rw [cell_row hi', Array.getElem_extract]
    have h7 := (h6 (off + i) (by omega) (by omega)).1
    rw [show b + off + i = b + (off + i) by omega]
    simpa only [Nat.add_assoc] using h7
  · rw [Array.getElem_extract]
    have h7 := (h6 (off + i) (by omega) (by omega)).2
    simpa only [Nat.add_assoc] using h7
  · have : F.base + off + j < bs.size := by omega
    simp [World.cell?, h1, this]
  · have h8 := h2 (F.base + off + j) (by omega)
    simp only [World.frozen?, h1]
    rw [Bool.and_eq_false_iff]
    simp only [decide_eq_false_iff_not]
    omega
  · have hj' : j < n := by omega
    have : F.base + off + j < bs.size := by omega
    rw [Array.getElem_extract]
    simp [World.cell?, h1, this]
theorem load1K_ok {c : Cf} {kv : KV} {x : Operand} {t : TypeId} {d : TypeDesc} (hr : HR c) (ht : P.underlying t = some d) (hd' : aggD d = false) (h : load1K (lowOpd x) E c.M c.I c.ni kv = .ok) (hx : OpR c.f c.I c.ni E a x) (hI : IB c.I c.ni) :
    ReadOk P c kv (do let v ← Instr.loadAt t (a.eval x); pure (.value v)) := by
  obtain ⟨w, I', n', h1, h2, h3⟩ := opdK_ok h hx hI
  obtain ⟨b, off, F, hb, hb2, hf, ho, e1, e2, e3, h1⟩ := ptrIn_ok h1 h3
  rw [e1, e2] at h1
  obtain ⟨h4, h5, h1⟩ := inK_ok h1
  obtain ⟨v, h6, h7, h8⟩ := hr.load hf h4 (off := off) (by omega)
  refine ⟨_, I', n', v, h1, h2, h7.mono (.refl _) h2.ext, ?_⟩
  rw [e3]
  simp [Instr.loadAt, Instr.sureAddr, loadVar, run_isAgg_no ht hd', h6]
theorem loadNK_ok {c : Cf} {kv : KV} {x : Operand} {t : TypeId} {d : TypeDesc} {i : TypeInfo} (hr : HR c) (ht : P.underlying t = some d) (hd' : aggD d = true) (hi : P.info? t = some i) (h : loadNK i.size (lowOpd x) E c.M c.I c.ni kv = .ok)
    (hx : OpR c.f c.I c.ni E a x) (hI : IB c.I c.ni) : ReadOk P c kv (do let v ← Instr.loadAt t (a.eval x); pure (.value v)) := by
  obtain ⟨w, I', n', h1, h2, h3⟩ := opdK_ok h hx hI
  obtain ⟨b, off, F, hb, hb2, hf, ho, e1, e2, e3, h1⟩ := ptrIn_ok h1 h3
  rw [e1, e2] at h1
  obtain ⟨h4, h5, h1⟩ := inK_ok h1
  obtain ⟨cs, hs, hrow, hth, hcell⟩ := hr.row hf h4 h5
  obtain ⟨h6, h1⟩ := growK_ok (k := fun I'' ni'' => kv _ I'' ni'') h1
  obtain ⟨h7, h8⟩ := (hrow.mono (.refl _) h2.ext).agg h2.lt hs h6
  refine ⟨_, _, _, .agg cs, h1, h2.trans h7, h8, ?_⟩
  rw [e3]
  have hrun := run_loadVar_mid (P := P) c.w F.blk (F.base + off) t cs.toList d (fun j v hv => by
    obtain ⟨hj, rfl⟩ := List.getElem?_eq_some_iff.1 hv
    rw [Array.getElem_toList]
    exact hcell j (by simpa using hj)) ht (by cases d <;> simp_all [aggD, TypeDesc.isRow]) (by simp [hi, hs])
  simp only [Instr.loadAt, Instr.sureAddr, Sem.run_bind, Sem.run_pure, Result.andThen_ok, hrun]
theorem setCells_heap (b : Nat) {elem : TypeId} {fr : Nat × Nat} : ∀ (vs : List Value) (o : Nat) (w : World) (cs : Array Value), w.heap[b]? = some (.cells cs elem fr) → o + vs.length ≤ cs.size →
    ∃ cs', (w.setCells b o vs).heap = w.heap.setIfInBounds b (.cells cs' elem fr) ∧ cs'.size = cs.size ∧ (∀ j (h : j < vs.length), cs'[o + j]? = some vs[j]) ∧ (∀ i, ¬ (o ≤ i ∧ i < o + vs.length) → cs'[i]? = cs[i]?)
  | [], o, w, cs, hw, _ => by
    refine ⟨cs, ?_, rfl, fun j h => absurd h (by simp), fun _ _ => rfl⟩
    obtain ⟨hlt, he⟩ := Array.getElem?_eq_some_iff.1 hw
    show w.heap = _
    apply Array.ext
    · simp
    · intro i h1 h2
      rw [Array.getElem_setIfInBounds]
      split
      · rename_i e; subst e; exact he
      · rfl
  | v :: vs, o, w, cs, hw, hl => by
    simp only [List.length_cons] at hl
    have hlt := (Array.getElem?_eq_some_iff.1 hw).1
    have h1 : (w.setCell ⟨b, o, none⟩ v).heap = w.heap.setIfInBounds b (.cells (cs.setIfInBounds o v) elem fr) := by
      obtain ⟨hlt, he⟩ := Array.getElem?_eq_some_iff.1 hw
      simp only [World.setCell]
      apply Array.ext
      · simp
      · intro i h1 h2
        have hi : i < w.heap.size := by simpa using h1
        rw [Array.getElem_modify, Array.getElem_setIfInBounds hi]
        by_cases e : b = i
        · subst e; simp [he]
        · simp [e]
    have hw' : (w.setCell ⟨b, o, none⟩ v).heap[b]? = some (.cells (cs.setIfInBounds o v) elem fr) := by rw [h1]; simp [hlt]
    obtain ⟨cs', h2, h3, h4, h5⟩ := setCells_heap b vs (o + 1) _ _ hw' (by simp; omega)
    refine ⟨cs', ?_, by rw [h3]; simp, fun j hj => ?_, fun i hi => ?_⟩
    · rw [World.setCells, h2, h1, Array.setIfInBounds_setIfInBounds]
    · cases j with
      | zero =>
        rw [h5 _ (by omega)]
        have : o < cs.size := by omega
        simp [this]
      | succ j =>
        have := h4 j (by simpa using hj)
        rw [show o + (j + 1) = o + 1 + j by omega, this]
        rfl
    · simp only [List.length_cons] at hi
      rw [h5 i (by omega), Array.getElem?_setIfInBounds_ne (by omega)]
theorem setCells_rest (b : Nat) : ∀ (vs : List Value) (o : Nat) (w : World), (w.setCells b o vs).tape = w.tape ∧ (w.setCells b o vs).os = w.os ∧ (w.setCells b o vs).output = w.output
  | [], _, _ => ⟨rfl, rfl, rfl⟩
  | _ :: vs, o, w => by rw [World.setCells]; exact setCells_rest b vs (o + 1) _
theorem HR.put {c : Cf} (h : HR c) {b : Nat} {F : FB} (hf : c.f b = some F) (hk : hd c.M b % 4 = 1) {off r : Nat} {vs : Array Value} (ho : off + vs.size ≤ hd c.M b / 1024) (hrow : RowR c.f c.I c.ni r vs) :
    (storeCells ⟨F.blk, F.base + off, none⟩ vs.toList).run P c.w = .ok () (c.w.setCells F.blk (F.base + off) vs.toList) ∧
    HR { c with M := setRow c.M (b + off) vs.size r, w := c.w.setCells F.blk (F.base + off) vs.toList } ∧ Ext c { c with M := setRow c.M (b + off) vs.size r, w := c.w.setCells F.blk (F.base + off) vs.toList } := by
  obtain ⟨bs, elem, fr, h1, h2, h3, h4, h5, h6⟩ := h.cells b F hf hk
  obtain ⟨-, -, -, hth, -⟩ := h.row hf hk ho
  obtain ⟨cs', q1, q2, q3, q4⟩ := setCells_heap F.blk vs.toList (F.base + off) c.w bs h1 (by simp; omega)
  have hrest := setCells_rest F.blk vs.toList (F.base + off) c.w
  have hst := run_storeCells_cells (P := P) F.blk (F.base + off) vs.toList 0 c.w (fun j hj => by simpa using (hth j (by simpa using hj)).1) (fun j hj => by simpa using (hth j (by simpa using hj)).2) (fun v hv => by
    obtain ⟨i, hi, rfl⟩ := List.getElem_of_mem hv
    rw [Array.getElem_toList]
    exact hrow.one i (by simpa using hi))
  refine ⟨hst, h.store hf hk ho hrow.lt h1 q1 q2 (fun j hj hh => ?_) (fun i hi => q4 i (by simpa using hi)), .store h hf (by omega) ho hrow.lt q1 hrest⟩
  have := q3 j (by simpa using hj)
  rw [Array.getElem?_eq_getElem hh] at this
  rw [Option.some.inj this, Array.getElem_toList]
  exact ⟨hrow.wr j hj, hrow.one j hj⟩
theorem storeK_ok {c : Cf} {kf : KF} {x y : Operand} {t : TypeId} {i : TypeInfo} (hr : HR c) (hi : P.info? t = some i) (h : storeK i.size (lowOpd x) (lowOpd y) E c.M c.nm c.I c.ni kf = .ok)
    (hx : OpR c.f c.I c.ni E a x) (hy : OpR c.f c.I c.ni E a y) (hI : IB c.I c.ni) : StepOk P c kf (do Instr.storeAt t (a.eval x) (a.eval y); pure .skip) := by
  obtain ⟨w, wv, I', n', h1, h2, h3, h4⟩ := op2_ok h hx hy hI
  obtain ⟨b, off, F, hb, hb2, hf, ho, e1, e2, e3, h1⟩ := ptrIn_ok h1 h3
  rw [e1, e2] at h1
  obtain ⟨h5, h6, h1⟩ := inK_ok h1
  obtain ⟨r, h1, hs, hrow⟩ := partK_ok h1 h4
  have hr1 := hr.growI h2.ext h2.lt.1
  rw [← hs] at h6 h1
  obtain ⟨q1, q2, q3⟩ := hr1.put (P := P) hf h5 h6 hrow
  refine ⟨0, undef, _, h1, q2, h2.lt, (Ext.growI h2.ext).trans hr q3, .undef, .inr ⟨?_, rfl⟩⟩
  rw [e3]
  simp only [Instr.storeAt, Instr.sureAddr, Sem.run_bind, Sem.run_pure, Result.andThen_ok, storeVar, Go.sizeOf, typeInfo, run_program, hi, hs]
  simp only [ne_eq, not_true_eq_false, if_false]
  rw [q1]
  rfl
end
end Go.Proofs.YtpjhkpmmbeoghaaGreatDoor.Ev
namespace Go.Proofs.YtpjhkpmmbeoghaaGreatDoor.Ev
open Go
section
variable {E : Fr} {a : Act} {P : Program}
theorem HR.newRow {c : Cf} (h : HR c) {n r : Nat} (hn : c.nm + (1 + n) < 4194304) {cs vs : Array Value} {elem : TypeId} (hrow : RowR c.f c.I c.ni r vs) (hvs : vs.size = n) (hcs : n ≤ cs.size) (hpre : ∀ i, i < n → cs[i]? = vs[i]?)
    (w' : World) {g : Nat} (hg : c.w.heap.size ≤ g) (hw : w'.heap[g]? = some (.cells cs elem (0, 0))) (hsz : c.w.heap.size ≤ w'.heap.size) (hfr : ∀ k, k < c.w.heap.size → w'.heap[k]? = c.w.heap[k]?) (ht : w'.tape = c.w.tape ∧ w'.os = c.w.os ∧ w'.output = c.w.output) :
    HR (c.grown (1 + 1024 * n) n r ⟨g, 0, cs.size, 0⟩ w') ∧ Ext c (c.grown (1 + 1024 * n) n r ⟨g, 0, cs.size, 0⟩ w') := by
  have hh : 1 + 1024 * n < 2 ^ 96 := by omega
  subst hvs
  have hfx : FExt c.f (setN c.f (c.nm + 1) ⟨g, 0, cs.size, 0⟩) := by
    intro b F' e
    rw [setN_ne]
    · exact e
    · obtain ⟨n', hl'⟩ := h.dom b F' e
      have := h.lay0 b n' hl'
      omega
  refine ⟨h.grown hh (by omega) hrow.lt (fun b F' e _ => hfr _ (h.lt b F' e)) hsz (Array.getElem?_eq_some_iff.1 hw).1 (fun b F' e _ => by have := h.lt b F' e; show _ ≠ g; omega) (fun _ => ?_) (fun hx => by omega), .grown h hh ht hsz hfr hg⟩
  have e0 : hd (c.grown (1 + 1024 * vs.size) vs.size r ⟨g, 0, cs.size, 0⟩ w').M (c.nm + 1) = 1 + 1024 * vs.size := grown_hd' h hh
  refine ⟨cs, elem, (0, 0), hw, fun i _ => by simp, rfl, ?_, ?_, fun i hi hx => ?_⟩
  · rw [e0]; show 0 + _ ≤ _; omega
  · rw [e0]; show _ = 0; omega
  · rw [e0] at hi
    have hi' : i < vs.size := by omega
    show WR (setN c.f (c.nm + 1) _) c.I c.ni (cellAt (addRow c.M c.nm (addRow _ 1 r)) (c.nm + 1 + i)) (cs[0 + i]'hx) ∧ (cs[0 + i]'hx).oneCell' = true
    rw [grown_cell h hh, if_neg (by omega), if_neg (by omega), show c.nm + 1 + i - (c.nm + 1) = i by omega]
    have e1 : cs[0 + i]'hx = vs[i] := by
      have := hpre i hi'
      rw [Array.getElem?_eq_getElem (by omega), Array.getElem?_eq_getElem hi'] at this
      simpa only [Nat.zero_add] using Option.some.inj this
    rw [e1]
    exact ⟨(hrow.wr i hi').mono hfx (.refl _ _), hrow.one i hi'⟩
theorem allocK_ok {n r M nm : Nat} {k : Nat → Nat → Nat → Res} (h : allocK n r M nm k = .ok) : nm + (1 + n) < 4194304 ∧ k (nm + 1) (addRow M nm (addRow (1 + 1024 * n) 1 r)) (nm + (1 + n)) = .ok := by
  obtain ⟨h1, h⟩ := iff_bad h
  exact ⟨blt_iff.1 h1, h⟩
theorem newK_ok {c : Cf} (h : HR c) {kf : KF} {n r : Nat} (hk : newK n r c.M c.nm c.I c.ni kf = .ok) {vs : Array Value} (t : TypeId) (hrow : RowR c.f c.I c.ni r vs) (hvs : vs.size = n) :
    ∃ c' w, kf w c'.M c'.nm c'.I c'.ni = .ok ∧ HR c' ∧ Ext c c' ∧ c'.I = c.I ∧ c'.ni = c.ni ∧ c'.w = { c.w with heap := c.w.heap.push (.cells vs t) } ∧ WR c'.f c'.I c'.ni w (.pointer (some ⟨c.w.heap.size, 0, none⟩)) := by
  obtain ⟨h1, hk⟩ := allocK_ok hk
  obtain ⟨h2, h3⟩ := h.newRow h1 hrow hvs (cs := vs) (by omega) (fun _ _ => rfl) { c.w with heap := c.w.heap.push (.cells vs t) } (Nat.le_refl _) (by simp; rfl) (by simp) (fun k hk => by
    show (c.w.heap.push _)[k]? = _; rw [Array.getElem?_push_lt hk, Array.getElem?_eq_getElem hk]) ⟨rfl, rfl, rfl⟩
  refine ⟨_, _, hk, h2, h3, rfl, rfl, rfl, ?_⟩
  exact .ptr (c.nm + 1) 0 ⟨c.w.heap.size, 0, vs.size, 0⟩ (by omega) (by omega) (setN_same _ _ _) (by omega)
theorem allocVar_ok {c : Cf} {kf : KF} {t : TypeId} {n r : Nat} (hr : HR c) (hz : zeroRow P t = some (n, r)) (h : newK n r c.M c.nm c.I c.ni kf = .ok) (hI : IB c.I c.ni) : StepOk P c kf (do let v ← Instr.alloc t true (.tuple #[]); pure (.value v)) := by
  obtain ⟨i, z, hi, hz', hs, hrow⟩ := zeroRow_ok hz
  obtain ⟨c', w, h1, h2, h3, e1, e2, e3, h4⟩ := newK_ok hr h t hrow hs
  refine ⟨w, _, c', h1, h2, by rw [e1, e2]; exact hI, h3, h4, .inl ?_⟩
  rw [e3]
  simp [Instr.alloc, zeroValue, typeInfo, hi, hz', newVar, Go.newRow]
theorem boxK_ok {c : Cf} {kf : KF} {t : TypeId} {n : Nat} {x : Operand} (hr : HR c) (h : boxK n (lowOpd x) E c.M c.nm c.I c.ni kf = .ok) (hx : OpR c.f c.I c.ni E a x) (hI : IB c.I c.ni) : StepOk P c kf (do let v ← Instr.box t (a.eval x); pure (.value v)) := by
  obtain ⟨w, I', n', h1, h2, h3⟩ := opdK_ok h hx hI
  obtain ⟨r, h1, hs, hrow⟩ := partK_ok h1 h3
  have hr1 := hr.growI h2.ext h2.lt.1
  obtain ⟨c', w', h4, h5, h6, e1, e2, e3, h7⟩ := newK_ok hr1 h1 t hrow hs
  refine ⟨w', _, c', h4, h5, by rw [e1, e2]; exact h2.lt, (Ext.growI h2.ext).trans hr h6, h7, .inl ?_⟩
  rw [e3]
  simp [Instr.box, newVar, Go.newRow]
end
noncomputable section
def repRow (s r n : Nat) : Nat := Nat.mul r (Nat.div (Nat.sub (Nat.pow 2 (Nat.mul (Nat.mul 96 s) n)) 1) (Nat.sub (Nat.pow 2 (Nat.mul 96 s)) 1))
end
theorem rep_succ (s r n : Nat) (hs : 0 < s) : repRow s r (n + 1) = r + 2 ^ (96 * s) * repRow s r n := by
  show r * ((2 ^ (96 * s * (n + 1)) - 1) / (2 ^ (96 * s) - 1)) = r + 2 ^ (96 * s) * (r * ((2 ^ (96 * s * n) - 1) / (2 ^ (96 * s) - 1)))
  have hb : 2 ≤ 2 ^ (96 * s) := by
    calc 2 = 2 ^ 1 := rfl
      _ ≤ 2 ^ (96 * s) := Nat.pow_le_pow_right (by decide) (by omega)
  generalize hB : 2 ^ (96 * s) = B at *
  have e1 : 2 ^ (96 * s * (n + 1)) = B ^ (n + 1) := by rw [Nat.pow_mul, hB]
  have e2 : 2 ^ (96 * s * n) = B ^ n := by rw [Nat.pow_mul, hB]
  rw [e1, e2]
  have stp : ∀ m q, B ^ m - 1 = (B - 1) * q → B ^ (m + 1) - 1 = (B - 1) * (1 + B * q) := fun m q hq => by
    have hp : 1 ≤ B ^ m := Nat.one_le_pow _ _ (by omega)
    have : B ^ m = (B - 1) * q + 1 := by omega
    rw [Nat.pow_succ, this, Nat.mul_add, Nat.mul_one, Nat.add_mul, Nat.one_mul]
    have : (B - 1) * q * B = (B - 1) * (B * q) := by rw [Nat.mul_assoc, Nat.mul_comm q B]
    rw [this]
    generalize (B - 1) * (B * q) = z
    omega
  have hd : ∀ m, ∃ q, B ^ m - 1 = (B - 1) * q := fun m => by
    induction m with
    | zero => exact ⟨0, by simp⟩
    | succ m ih => obtain ⟨q, hq⟩ := ih; exact ⟨_, stp m q hq⟩
  obtain ⟨q, hq⟩ := hd n
  have hB1 : 0 < B - 1 := by omega
  have e3 := stp n q hq
  rw [e3, hq, Nat.mul_div_cancel_left _ hB1, Nat.mul_div_cancel_left _ hB1, Nat.mul_add, Nat.mul_one]
  congr 1
  rw [← Nat.mul_assoc, ← Nat.mul_assoc, Nat.mul_comm r B]
theorem rep_zero (s r : Nat) : repRow s r 0 = 0 := by
  show r * ((2 ^ (96 * s * 0) - 1) / _) = 0
  simp
end Go.Proofs.YtpjhkpmmbeoghaaGreatDoor.Ev
namespace Go.Proofs.YtpjhkpmmbeoghaaGreatDoor.Ev
open Go
noncomputable section
def mkSlK (s r : Nat) (l c : Opd) (E : Fr) (M nm I ni : Nat) (kf : KF) : Res :=
  op2 l c E I ni fun wl wc I ni => natK wl fun l => natK wc fun c => iff (Nat.ble l c) (iff (Nat.blt c 524288) (allocK (Nat.mul c s) (repRow s r c) M nm fun b M nm => kf (slW 0 b l s 1 c) M nm I ni) (.bad 40 0)) (.bad 40 1)
def bldSK (len s r : Nat) (ps : List (Nat × Nat × Opd)) (E : Fr) (M nm I ni : Nat) (kf : KF) : Res :=
  fillK (Nat.mul len s) ps E I ni (repRow s r len) fun r I ni => allocK (Nat.mul len s) r M nm fun b M nm => kf (slW 0 b len s 1 len) M nm I ni
end
section
variable {f : Nat → Option FB} {I ni : Nat} {E : Fr} {a : Act} {P : Program}
theorem heap_alloc_oldE (w : World) (o : Obj) (k : Nat) (h : k < w.heap.size) : (w.alloc o).heap[k]? = w.heap[k]? := by
  show (w.heap.push o)[k]? = w.heap[k]?
  rw [Array.getElem?_push_lt h, Array.getElem?_eq_getElem h]
theorem rep_ok {s r : Nat} {z : Array Value} (hs : 0 < s) (hz : z.size = s) (h : RowR f I ni r z) : ∀ n, RowR f I ni (repRow s r n) (madeCells z (n * s))
  | 0 => by
    have e : madeCells z (0 * s) = #[] := by simp [madeCells]
    rw [rep_zero, e]
    exact ⟨by simp, fun i hi => absurd hi (by simp), fun i hi => absurd hi (by simp)⟩
  | n + 1 => by
    have ih := rep_ok hs hz h n
    have hlt : r < 2 ^ (96 * s) := by have := h.lt; rw [hz] at this; exact this
    have e : repRow s r (n + 1) = addRow r s (repRow s r n) := by
      rw [rep_succ s r n hs]
      show _ = r ||| (repRow s r n <<< (96 * s))
      rw [Nat.or_comm, Nat.shiftLeft_eq, Nat.mul_comm (repRow s r n), ← Nat.two_pow_add_eq_or_of_lt (i := 96 * s) hlt]
      exact Nat.add_comm _ _
    have hsz : (madeCells z ((n + 1) * s)).size = (n + 1) * s := size_madeCells _ _
    have hsz' : (madeCells z (n * s)).size = n * s := size_madeCells _ _
    have hlt2 := ih.lt
    rw [hsz'] at hlt2
    have key : ∀ i (hi : i < (madeCells z ((n + 1) * s)).size), ∃ (hm : i % s < z.size), (madeCells z ((n + 1) * s))[i] = z[i % s] := fun i hi => by
      have hm : i % s < z.size := by rw [hz]; exact Nat.mod_lt _ hs
      refine ⟨hm, ?_⟩
      simp only [madeCells, Array.getElem_map, Array.getElem_range, hz]
      exact getElem!_pos z (i % s) hm
    refine ⟨?_, fun i hi => ?_, fun i hi => ?_⟩
    · rw [hsz, e, show (n + 1) * s = s + n * s by rw [Nat.add_mul]; omega]
      exact add_lt hlt hlt2
    · obtain ⟨hm, hk⟩ := key i hi
      rw [hk, e, cell_add hlt]
      split
      · rename_i hi'
        have : i % s = i := Nat.mod_eq_of_lt hi'
        simp only [this]
        exact h.wr i (by omega)
      · rename_i hi'
        have hi2 : i - s < (madeCells z (n * s)).size := by rw [hsz] at hi; rw [hsz', ]; rw [Nat.add_mul] at hi; omega
        have := ih.wr (i - s) hi2
        have e2 : (madeCells z (n * s))[i - s] = z[i % s] := by
          simp only [madeCells, Array.getElem_map, Array.getElem_range, hz]
          have : (i - s) % s = i % s := by rw [← Nat.mod_eq_sub_mod (by omega)]
          rw [this]
          exact getElem!_pos z (i % s) hm
        rw [e2] at this
        exact this
    · obtain ⟨hm, hk⟩ := key i hi
      rw [hk]
      exact h.one _ _
theorem slWR {c : Cf} {n r g b len sz cap : Nat} {ex : Bool} {w' : World} (cs : Array Value) (hn : c.nm + (1 + n) < 4194304) (hb : b = c.nm + 1) (hl : len < 524288) (hs : sz < 256) (hc : len ≤ cap) (hcap : cap < 524288) (cc : Nat) (h1 : ex = true → cc = cap) (h2 : ex = false → cap ≤ cc ∧ cc * sz ≤ cs.size) :
    WR (c.grown (1 + 1024 * n) n r ⟨g, 0, cs.size, 0⟩ w').f (c.grown (1 + 1024 * n) n r ⟨g, 0, cs.size, 0⟩ w').I (c.grown (1 + 1024 * n) n r ⟨g, 0, cs.size, 0⟩ w').ni (slW 0 b len sz ex.toNat cap) (.slice (some ⟨g, 0, none⟩) len cc) := by
  subst hb
  rw [slW_eq]
  exact .slice (c.nm + 1) 0 len sz cap ex ⟨g, 0, cs.size, 0⟩ ⟨g, 0, none⟩ cc (by omega) (by omega) (setN_same _ _ _) (by omega) hl hs hc hcap h1 (fun h => by simpa using h2 h) fun _ => rfl
theorem mkSlK_ok {c : Cf} {kf : KF} {t e : TypeId} {ie : TypeInfo} {s r : Nat} {l cc : Operand} (hr : HR c) (ht : P.underlying t = some (.slice e)) (he : P.info? e = some ie) (hz : zeroRow P e = some (s, r)) (hs : 0 < s) (hs2 : s < 256) (hsz : ie.size = s) (hby : ie.bytes < 1048576)
    (h : mkSlK s r (lowOpd l) (lowOpd cc) E c.M c.nm c.I c.ni kf = .ok) (hl : OpR c.f c.I c.ni E a l) (hc : OpR c.f c.I c.ni E a cc) (hI : IB c.I c.ni) : StepOk P c kf (do let v ← Instr.makeSlice t (a.eval l) (a.eval cc); pure (.value v)) := by
  obtain ⟨wl, wc, I', n', h1, h2, h3, h4⟩ := op2_ok h hl hc hI
  obtain ⟨kl, m, e1, h1⟩ := natK_ok h1 h3
  obtain ⟨kd, n, e2, h1⟩ := natK_ok h1 h4
  obtain ⟨h5, h1⟩ := iff_bad h1
  obtain ⟨h6, h1⟩ := iff_bad h1
  have h5 : m ≤ n := Nat.le_of_ble_eq_true h5
  have h6 := blt_iff.1 h6
  obtain ⟨h7, h1⟩ := allocK_ok h1
  obtain ⟨i, z, hi, hz', hzs, hrow⟩ := zeroRow_ok hz
  rw [he] at hi; cases hi
  have hr1 := hr.growI h2.ext h2.lt.1
  have hmade := rep_ok (f := c.f) (I := I') (ni := n') hs hzs hrow n
  have h7 : c.nm + (1 + n * s) < 4194304 := h7
  have hb1 : ie.bytes * n < 1048576 * 524288 := Nat.mul_lt_mul'' hby h6
  have hrun := run_make (P := P) c.w t e ie z ht he hz' kl kd (m : Nat) (n : Nat) (by omega) (by omega) (by rw [← Int.natCast_mul]; omega) (by omega)
  simp only [Int.toNat_natCast, hsz] at hrun
  obtain ⟨q1, q2⟩ := hr1.newRow h7 hmade (size_madeCells _ _) (cs := madeCells z.cells (n * s)) (by rw [size_madeCells]; omega) (fun _ _ => rfl) (c.w.alloc (.cells (madeCells z.cells (n * s)) e)) (elem := e) (Nat.le_refl _) (heap_alloc_new _ _) (by simp) (fun k hk => heap_alloc_oldE _ _ k hk) ⟨rfl, rfl, rfl⟩
  refine ⟨_, .slice (some ⟨c.w.heap.size, 0, none⟩) m n, _, h1, q1, h2.lt, (Ext.growI h2.ext).trans hr q2, ?_, .inl ?_⟩
  · exact slWR (c := { c with I := I', ni := n' }) (g := c.w.heap.size) (r := repRow s r n) (w' := c.w.alloc (.cells (madeCells z.cells (n * s)) e)) (ex := true) (madeCells z.cells (n * s)) h7 rfl (by omega) hs2 h5 h6 n (fun _ => rfl) (fun h => by cases h)
  · rw [e1, e2]
    simp only [Sem.run_bind, hrun, Result.andThen_ok, Sem.run_pure]
    rfl
theorem bldSK_ok {c : Cf} {kf : KF} {t e : TypeId} {ie : TypeInfo} {s r len : Nat} {l : List (Nat × Operand)} {ps : List (Nat × Nat × Opd)} (hr : HR c) (ht : P.underlying t = some (.slice e)) (he : P.info? e = some ie) (hz : zeroRow P e = some (s, r)) (hs : 0 < s) (hs2 : s < 256) (hsz : ie.size = s) (hlen : len < 65536)
    (hl : lowParts (fun i => some (i * s, s)) l = some ps) (h : bldSK len s r ps E c.M c.nm c.I c.ni kf = .ok) (hx : ∀ p ∈ l, OpR c.f c.I c.ni E a p.2) (hI : IB c.I c.ni) :
    StepOk P c kf (do let v ← Instr.buildSlice t len (l.map fun p => (p.1, a.eval p.2)).toArray; pure (.value v)) := by
  obtain ⟨i, z, hi, hz', hzs, hrow⟩ := zeroRow_ok hz
  rw [he] at hi; cases hi
  have hmade := rep_ok (f := c.f) (I := c.I) (ni := c.ni) hs hzs hrow len
  obtain ⟨r', I', n', cs', h1, h2, h3, h4, h5⟩ := fillK_ok hl h hx hI hmade (size_madeCells _ _)
  obtain ⟨h7, h1⟩ := allocK_ok h1
  have hr1 := hr.growI h2.ext h2.lt.1
  have h7 : c.nm + (1 + len * s) < 4194304 := h7
  have hls : len * s < 65536 * 256 := Nat.mul_lt_mul'' hlen hs2
  have hrun : (Instr.buildSlice t len (l.map fun p => (p.1, a.eval p.2)).toArray).run P c.w = .ok (.slice (some ⟨c.w.heap.size, 0, none⟩) len len) (c.w.alloc (.cells cs' e)) := by
    have hf : Instr.fill (fun i => some (i * ie.size, ie.size)) ((Array.range (len * ie.size)).map (z.cells[· % z.cells.size]!)) (l.map fun p => (p.1, a.eval p.2)) = some cs' := by rw [hsz]; exact h5
    by_cases h0 : len * ie.size = 0
    · rw [h0] at hf
      have hf' : Instr.fill (fun i => some (i * ie.size, ie.size)) #[] (l.map fun p => (p.1, a.eval p.2)) = some cs' := by simpa [Array.range_zero'] using hf
      simp [Instr.buildSlice, run_underlying ht, Go.sizeOf, typeInfo, he, h0, hf', Go.newRow, Array.range_zero']
    · exact run_buildSlice (P := P) c.w t e len _ cs' ie z ht he hz' (by rw [hsz]; omega) h0 hf
  obtain ⟨q1, q2⟩ := hr1.newRow h7 h3 h4 (cs := cs') (by rw [h4]; exact Nat.le_refl _) (fun _ _ => rfl) (c.w.alloc (.cells cs' e)) (elem := e) (Nat.le_refl _) (heap_alloc_new _ _) (by simp) (fun k hk => heap_alloc_oldE _ _ k hk) ⟨rfl, rfl, rfl⟩
  refine ⟨_, .slice (some ⟨c.w.heap.size, 0, none⟩) len len, _, h1, q1, h2.lt, (Ext.growI h2.ext).trans hr q2, ?_, .inl ?_⟩
  · exact slWR (c := { c with I := I', ni := n' }) (g := c.w.heap.size) (r := r') (w' := c.w.alloc (.cells cs' e)) (ex := true) cs' h7 rfl (by omega) hs2 (Nat.le_refl _) (by omega) len (fun _ => rfl) (fun h => by cases h)
  · simp only [Sem.run_bind, hrun, Result.andThen_ok, Sem.run_pure]
    rfl
end
end Go.Proofs.YtpjhkpmmbeoghaaGreatDoor.Ev
namespace Go.Proofs.YtpjhkpmmbeoghaaGreatDoor.Ev
open Go
noncomputable section
def appW (s w wy M nm I ni : Nat) (kf : KF) : Res :=
  iff (tg w 11) (iff (tg wy 11)
    (iff (Nat.beq (sLen wy) 0) (kf w M nm I ni)
      (inK M (sB wy) (sOff wy) (Nat.mul (sLen wy) s)
        (iff (Nat.blt (Nat.add (sLen w) (sLen wy)) 524288)
          (iff (Nat.beq w 11)
            (allocK (Nat.mul (sLen wy) s) (rowAt M (Nat.add (sB wy) (sOff wy)) (Nat.mul (sLen wy) s)) M nm fun b M nm => kf (slW 0 b (sLen wy) s 0 (sLen wy)) M nm I ni)
            (iff (Nat.beq (sSz w) s)
              (iff (Nat.ble (Nat.add (sLen w) (sLen wy)) (sCap w))
                (inK M (sB w) (Nat.add (sOff w) (Nat.mul (sLen w) s)) (Nat.mul (sLen wy) s)
                  (kf (slW (sOff w) (sB w) (Nat.add (sLen w) (sLen wy)) s (sEx w) (sCap w))
                    (setRow M (Nat.add (sB w) (Nat.add (sOff w) (Nat.mul (sLen w) s))) (Nat.mul (sLen wy) s) (rowAt M (Nat.add (sB wy) (sOff wy)) (Nat.mul (sLen wy) s))) nm I ni))
                (inK M (sB w) (sOff w) (Nat.mul (sLen w) s)
                  (allocK (Nat.mul (Nat.add (sLen w) (sLen wy)) s) (addRow (rowAt M (Nat.add (sB w) (sOff w)) (Nat.mul (sLen w) s)) (Nat.mul (sLen w) s) (rowAt M (Nat.add (sB wy) (sOff wy)) (Nat.mul (sLen wy) s)))
                    (@Nat.rec (fun _ => Nat) (setRow M (Nat.sub (sB w) 1) 1 0) (fun _ _ => M) (sEx w)) nm fun b M nm => kf (slW 0 b (Nat.add (sLen w) (sLen wy)) s 0 (Nat.add (sLen w) (sLen wy))) M nm I ni)))
              (.bad 41 0)))
          (.bad 41 1))))
    (.bad 41 2)) (.bad 41 3)
def appK (s : Nat) (x y : Opd) (E : Fr) (M nm I ni : Nat) (kf : KF) : Res :=
  op2 x y E I ni fun w wy I ni => appW s w wy M nm I ni kf
end
section
variable {f : Nat → Option FB} {I ni : Nat} {E : Fr} {a : Act} {P : Program}
theorem RowR.append {r1 r2 : Nat} {v1 v2 : Array Value} (h1 : RowR f I ni r1 v1) (h2 : RowR f I ni r2 v2) : RowR f I ni (addRow r1 v1.size r2) (v1 ++ v2) := by
  refine ⟨by rw [Array.size_append]; exact add_lt h1.lt h2.lt, fun i hi => ?_, fun i hi => ?_⟩
  · rw [cell_add h1.lt]
    rw [Array.size_append] at hi
    by_cases h : i < v1.size
    · rw [if_pos h, Array.getElem_append_left h]; exact h1.wr i h
    · rw [if_neg h, Array.getElem_append_right (by omega)]; exact h2.wr _ _
  · rw [Array.size_append] at hi
    by_cases h : i < v1.size
    · rw [Array.getElem_append_left h]; exact h1.one i h
    · rw [Array.getElem_append_right (by omega)]; exact h2.one _ _
theorem slice_view {w : Nat} {v : Value} (h : WR f I ni w v) (ht : tg w 11 = true) : (w = 11 ∧ v = .slice none 0 0 ∧ sLen w = 0) ∨
    ∃ (ex : Bool) (F : FB) (A : Addr) (c : Nat), w ≠ 11 ∧ 0 < sB w ∧ sB w < 4194304 ∧ f (sB w) = some F ∧ sOff w < 4194304 ∧ sLen w < 524288 ∧ sSz w < 256 ∧ sLen w ≤ sCap w ∧ sCap w < 524288 ∧ (ex = true → c = sCap w) ∧ (ex = false → sCap w ≤ c ∧ F.base + sOff w + c * sSz w ≤ F.size) ∧
      (c ≠ 0 → A = ⟨F.blk, F.base + sOff w, none⟩) ∧ sEx w = ex.toNat ∧ v = .slice (some A) (sLen w) c := by
  rcases h.inv_slice (tg_ok ht) with ⟨hw, e1⟩ | ⟨b, off, len, sz, cap, ex, F, A, c, hb, hb2, hf, ho, hlen, hsz, hc, hcap, q1, q2, q3, hw, e1⟩
  · subst hw; exact .inl ⟨rfl, e1, by decide⟩
  · obtain ⟨f1, f2, f3, f4, f5, f6⟩ := sW hw ho hb2 hlen hsz
    refine .inr ⟨ex, F, A, c, by omega, ?_⟩
    rw [f1, f2, f3, f4, f5, f6]
    exact ⟨hb, hb2, hf, ho, hlen, hsz, hc, hcap, q1, q2, q3, rfl, e1⟩
theorem cells_of {c : Cf} {F : FB} {o n : Nat} {cs : Array Value} (hs : cs.size = n) (hcell : ∀ j (hj : j < cs.size), c.w.cell? ⟨F.blk, o + j, none⟩ = some cs[j]) : ∀ j u, cs.toList[j]? = some u → c.w.cell? ((⟨F.blk, o, none⟩ : Addr).add j) = some u := by
  intro j u hu
  obtain ⟨hj, rfl⟩ := List.getElem?_eq_some_iff.1 hu
  rw [add_none, Array.getElem_toList]
  exact hcell j (by simpa using hj)
theorem ones_of {r : Nat} {cs : Array Value} (h : RowR f I ni r cs) : ∀ u ∈ cs.toList, u.oneCell' = true := by
  intro u hu
  obtain ⟨i, hi, rfl⟩ := List.getElem_of_mem hu
  rw [Array.getElem_toList]
  exact h.one i (by simpa using hi)
theorem HR.grownRow {c : Cf} (h : HR c) {N s r : Nat} {vs : Array Value} (hn : c.nm + (1 + N * s) < 4194304) (hs : 0 < s) (hs2 : s < 256) (hN : N < 524288) (hrow : RowR c.f c.I c.ni r vs) (hvs : vs.size = N * s) {e : TypeId} {v' : Value} {w' : World} (hN0 : 0 < N)
    (hown : w'.ownsRow c.w.heap.size e s v' N vs.toList) (hg : c.w.grownBy w' none) :
    ∃ g size, HR (c.grown (1 + 1024 * (N * s)) (N * s) r ⟨g, 0, size, 0⟩ w') ∧ Ext c (c.grown (1 + 1024 * (N * s)) (N * s) r ⟨g, 0, size, 0⟩ w') ∧
      WR (c.grown (1 + 1024 * (N * s)) (N * s) r ⟨g, 0, size, 0⟩ w').f c.I c.ni (slW 0 (c.nm + 1) N s 0 N) v' := by
  obtain ⟨hl, hor⟩ := hown
  rcases hor with ⟨-, h0⟩ | ⟨g, cap, cur, rfl, hgs, hcur, h1, h2, h3, h4⟩
  · omega
  have hle : N * s ≤ cap * s := Nat.mul_le_mul_right _ h1
  obtain ⟨q1, q2⟩ := h.newRow hn hrow hvs (cs := cur) (by omega) (fun i hi => by
    have : cur.toList[i]? = vs.toList[i]? := by rw [← h4, List.getElem?_take_of_lt hi]
    simpa using this) w' hgs hcur hg.size (fun k hk => hg.block k hk (by simp)) ⟨hg.tape, hg.os, hg.output⟩
  exact ⟨g, cur.size, q1, q2, slWR (c := c) (ex := false) cur hn rfl hN hs2 (Nat.le_refl _) hN cap (fun h => by cases h) fun _ => ⟨h1, by omega⟩⟩
theorem run_append_none {t ty e : TypeId} {i : TypeInfo} (ht : P.underlying t = some (.slice e)) (hi : P.info? e = some i) (A : Option Addr) (n c : Nat) (hA : A = none → n = 0 ∧ c = 0) (hn : n ≤ c) (B : Option Addr) (cb : Nat) (W : World) :
    (Builtin.append_ #[t, t] ty #[.slice A n c, .slice B 0 cb]).run P W = .ok (.slice A n c) W := by
  have hfc : (Builtin.firstCells i.size 0 (.slice B 0 cb)).run P W = .ok #[] W := by
    cases B <;> simp [Builtin.firstCells, loadCells, loadCellsFrom]
  cases A <;> simp [Builtin.append_, run_underlying ht, Go.sizeOf, typeInfo, hi, Builtin.lenOf, hn, hfc, storeCells]
end
end Go.Proofs.YtpjhkpmmbeoghaaGreatDoor.Ev
namespace Go.Proofs.YtpjhkpmmbeoghaaGreatDoor.Ev
open Go
theorem Ext.strike {c : Cf} (h : HR c) {b : Nat} {F : FB} (hf : c.f b = some F) : Ext c { c with M := setRow c.M (b - 1) 1 0 } := by
  obtain ⟨n, hl⟩ := h.dom b F hf
  have hl0 := h.lay0 b n hl
  have cellM : ∀ i, cellAt (setRow c.M (b - 1) 1 0) i = if b - 1 ≤ i ∧ i < b - 1 + 1 then cellAt 0 (i - (b - 1)) else cellAt c.M i := fun i => cell_set (by omega)
  refine ⟨fun _ _ h => h, fun _ _ h => .inl h, .refl _, fun _ _ h => .inl h, .refl _ _, Nat.le_refl _, fun b' n' hl' hf' i h1 h2 => ?_, ⟨rfl, rfl, rfl⟩, Nat.le_refl _, fun _ _ _ => rfl, fun b' F' e1 e2 _ => ⟨b', F', e1, ?_, rfl⟩⟩
  · show cellAt (setRow c.M (b - 1) 1 0) i = _
    rw [cellM, if_neg]
    intro hcon
    have hne : b' ≠ b := fun e => by subst e; rw [hf] at hf'; cases hf'
    exact h.disj hl' hl hne h1 h2 ⟨by omega, by omega⟩
  · have e2 : hd (setRow c.M (b - 1) 1 0) b' ≠ 0 := e2
    intro h0
    apply e2
    show cellAt _ _ = 0
    rw [cellM]
    split
    · rw [cellAt_def]; simp
    · exact h0
theorem Ext.grown2 {c : Cf} {hdw n r M1 : Nat} {F : FB} {w' : World} (h : HR c) (hs : Ext c { c with M := M1 }) (h1 : HR { c with M := M1 }) (hh : hdw < 2 ^ 96) (ht : w'.tape = c.w.tape ∧ w'.os = c.w.os ∧ w'.output = c.w.output) (hsz : c.w.heap.size ≤ w'.heap.size)
    (hframe : ∀ k, k < c.w.heap.size → (∀ b F, c.f b = some F → hd c.M b ≠ 0 → F.blk ≠ k) → w'.heap[k]? = c.w.heap[k]?) (hnew : F.blk < c.w.heap.size → ∃ b0 F0, c.f b0 = some F0 ∧ hd c.M b0 ≠ 0 ∧ F0.blk = F.blk) :
    Ext c (({ c with M := M1 } : Cf).grown hdw n r F w') := by
  refine ⟨fun b n' e => ?_, fun b n' e => ?_, fun b F' e => ?_, fun b F' e => ?_, .refl _ _, by show c.nm ≤ c.nm + (1 + n); omega, fun b n' hl hf i q1 q2 => ?_, ht, hsz, hframe, fun b F' e1 e2 e3 => ?_⟩
  · have := h.lay0 b n' e
    show setN c.lay (c.nm + 1) n b = _
    rw [setN_ne _ _ (by omega)]; exact e
  · simp only [Cf.grown, setN] at e
    split at e
    · exact .inr (by omega)
    · exact .inl e
  · obtain ⟨n', hl'⟩ := h.dom b F' e
    have := h.lay0 b n' hl'
    show setN c.f (c.nm + 1) F b = _
    rw [setN_ne _ _ (by omega)]; exact e
  · simp only [Cf.grown, setN] at e
    split at e
    · exact .inr (by omega)
    · exact .inl e
  · have := h.lay0 b n' hl
    have e1 := grown_cell (r := r) h1 hh i
    rw [if_pos (show i < c.nm by omega)] at e1
    exact e1.trans (hs.keep b n' hl hf i q1 q2)
  · simp only [Cf.grown, setN] at e1
    split at e1
    · cases e1; exact hnew e3
    · obtain ⟨n', hl'⟩ := h.dom b F' e1
      have h0 := h.lay0 b n' hl'
      have e0 := grown_hd (hdw := hdw) (r := r) h1 hh (b := b) (show b ≤ c.nm by omega) (by omega)
      have e2 : hd (addRow M1 c.nm (addRow hdw 1 r)) b ≠ 0 := e2
      rw [e0] at e2
      exact hs.img b F' e1 e2 e3
section
variable {E : Fr} {a : Act} {P : Program}
theorem HR.moved {c : Cf} (h : HR c) {b off n1 N r1 r2 : Nat} {F : FB} {cs1 cs2 : Array Value} (hf : c.f b = some F) (hk : hd c.M b % 4 = 1) (hn : c.nm + (1 + N) < 4194304) (h1 : off + n1 ≤ hd c.M b / 1024) (hs1 : cs1.size = n1) (hrow1 : RowR c.f c.I c.ni r1 cs1)
    (hc1 : ∀ j (hj : j < cs1.size), c.w.cell? ⟨F.blk, F.base + off + j, none⟩ = some cs1[j]) (hrow2 : RowR c.f c.I c.ni r2 cs2) (hN : N = n1 + cs2.size) (hend : F.base + off + N ≤ F.size) :
    let w' := c.w.setCells F.blk (F.base + off + n1) cs2.toList
    HR (({ c with M := setRow c.M (b - 1) 1 0 } : Cf).grown (1 + 1024 * N) N (addRow r1 n1 r2) ⟨F.blk, F.base + off, F.size, 0⟩ w') ∧
    Ext c (({ c with M := setRow c.M (b - 1) 1 0 } : Cf).grown (1 + 1024 * N) N (addRow r1 n1 r2) ⟨F.blk, F.base + off, F.size, 0⟩ w') := by
  intro w'
  obtain ⟨n0, hl⟩ := h.dom b F hf
  have hl0 := h.lay0 b n0 hl
  have hst := h.strike hl
  have hex := Ext.strike h hf
  have hh : 1 + 1024 * N < 2 ^ 96 := by omega
  obtain ⟨bs, elem, fr, g1, g2, g3, g4, g5, g6⟩ := h.cells b F hf hk
  have hblk := h.lt b F hf
  obtain ⟨cs', q1, q2, q3, q4⟩ := setCells_heap F.blk cs2.toList (F.base + off + n1) c.w bs g1 (by simp; omega)
  have hrest := setCells_rest F.blk cs2.toList (F.base + off + n1) c.w
  have hdS : hd (setRow c.M (b - 1) 1 0) b = 0 := by
    show cellAt _ _ = _
    rw [cell_set (by omega), if_pos (by omega), cellAt_def]; simp
  have hlive : ∀ b' F', c.f b' = some F' → hd (setRow c.M (b - 1) 1 0) b' ≠ 0 → hd c.M b' ≠ 0 ∧ F'.blk ≠ F.blk := by
    intro b' F' e1 e2
    have hne : b' ≠ b := fun e => by subst e; exact e2 hdS
    obtain ⟨n', hl'⟩ := h.dom b' F' e1
    have hl0' := h.lay0 b' n' hl'
    have e3 : hd (setRow c.M (b - 1) 1 0) b' = hd c.M b' := by
      show cellAt _ _ = cellAt _ _
      rw [cell_set (by omega), if_neg (by omega)]
    rw [e3] at e2
    exact ⟨e2, fun e => hne (h.inj b' b F' F e1 hf e2 (by omega) e)⟩
  have hrow := hrow1.append hrow2
  rw [hs1] at hrow
  have hsz : (cs1 ++ cs2).size = N := by rw [Array.size_append]; omega
  have hfx : FExt c.f (setN c.f (c.nm + 1) ⟨F.blk, F.base + off, F.size, 0⟩) := by
    intro b' F' e
    rw [setN_ne]
    · exact e
    · obtain ⟨n', hl'⟩ := h.dom b' F' e
      have := h.lay0 b' n' hl'
      omega
  have hwheap : w'.heap.size = c.w.heap.size := by show (c.w.setCells _ _ _).heap.size = _; rw [q1]; simp
  constructor
  · refine HR.grown hst hh (by omega) (by rw [← hsz]; exact hrow.lt) (fun b' F' e1 e2 => ?_) (by show c.w.heap.size ≤ _; rw [hwheap]; exact Nat.le_refl _) (by show F.blk < _; rw [hwheap]; exact hblk) (fun b' F' e1 e2 => (hlive b' F' e1 e2).2) (fun _ => ?_) (fun hx => by omega)
    · show (c.w.setCells _ _ _).heap[_]? = _
      rw [q1, Array.getElem?_setIfInBounds_ne (Ne.symm (hlive b' F' e1 e2).2)]
    · have e0 := grown_hd' (r := addRow r1 n1 r2) hst hh
      refine ⟨cs', elem, fr, ?_, fun i hi => g2 i (by omega), by show _ = F.size; omega, ?_, ?_, fun i hi hx => ?_⟩
      · show (c.w.setCells _ _ _).heap[F.blk]? = _; rw [q1]; simp [hblk]
      · show F.base + off + hd (addRow _ _ _) _ / 1024 ≤ _; rw [e0]; omega
      · show (hd (addRow _ _ _) _ / 4) % 256 = 0; rw [e0]; omega
      · have hi' : i < N := by
          have : i < hd (addRow (setRow c.M (b - 1) 1 0) c.nm (addRow (1 + 1024 * N) 1 (addRow r1 n1 r2))) (c.nm + 1) / 1024 := hi
          rw [e0] at this; omega
        have e1 := grown_cell (r := addRow r1 n1 r2) hst hh (c.nm + 1 + i)
        rw [if_neg (show ¬ c.nm + 1 + i < c.nm by omega), if_neg (show ¬ c.nm + 1 + i = c.nm by omega), show c.nm + 1 + i - (c.nm + 1) = i by omega] at e1
        have e2 : cs'[F.base + off + i]'hx = (cs1 ++ cs2)[i]'(by omega) := by
          have hgo : cs'[F.base + off + i]? = (cs1 ++ cs2)[i]? := by
            by_cases hi1 : i < n1
            · rw [q4 _ (by omega), Array.getElem?_append_left (by omega)]
              have := hc1 i (by omega)
              simp only [World.cell?, g1] at this
              simp only [Option.isSome_none, Bool.false_eq_true, if_false] at this
              rw [this, Array.getElem?_eq_getElem]
            · rw [Array.getElem?_append_right (by omega)]
              have h5 := q3 (i - n1) (by simp; omega)
              rw [show F.base + off + n1 + (i - n1) = F.base + off + i by omega] at h5
              rw [h5, hs1, Array.getElem?_eq_getElem (by omega), Array.getElem_toList]
          rw [Array.getElem?_eq_getElem hx, Array.getElem?_eq_getElem (by omega)] at hgo
          exact Option.some.inj hgo
        show WR (setN c.f (c.nm + 1) _) c.I c.ni (cellAt (addRow (setRow c.M (b - 1) 1 0) c.nm (addRow (1 + 1024 * N) 1 (addRow r1 n1 r2))) (c.nm + 1 + i)) (cs'[F.base + off + i]'hx) ∧ (cs'[F.base + off + i]'hx).oneCell' = true
        rw [e2, e1]
        exact ⟨(hrow.wr i (by omega)).mono hfx (.refl _ _), hrow.one i (by omega)⟩
  · refine Ext.grown2 h hex hst hh hrest (by rw [hwheap]; exact Nat.le_refl _) (fun k hk hno => ?_) (fun _ => ⟨b, F, hf, by omega, rfl⟩)
    show (c.w.setCells _ _ _).heap[_]? = _
    rw [q1, Array.getElem?_setIfInBounds_ne (hno b F hf (by omega))]
end
end Go.Proofs.YtpjhkpmmbeoghaaGreatDoor.Ev
namespace Go.Proofs.YtpjhkpmmbeoghaaGreatDoor.Ev
open Go
section
variable {E : Fr} {a : Act} {P : Program}
theorem appK_ok {c : Cf} {kf : KF} {t ty e : TypeId} {ie : TypeInfo} {s r0 : Nat} {x y : Operand} (hr : HR c) (ht : P.underlying t = some (.slice e)) (he : P.info? e = some ie) (hz : zeroRow P e = some (s, r0)) (hs : 0 < s) (hs2 : s < 256) (hsz : ie.size = s) (hby : ie.bytes < 134217728)
    (h : appK s (lowOpd x) (lowOpd y) E c.M c.nm c.I c.ni kf = .ok) (hx : OpR c.f c.I c.ni E a x) (hy : OpR c.f c.I c.ni E a y) (hI : IB c.I c.ni) : StepOk P c kf (do let v ← Builtin.append_ #[t, t] ty #[a.eval x, a.eval y]; pure (.value v)) := by
  obtain ⟨w, wy, I', n', h1, h2, h3, h4⟩ := op2_ok h hx hy hI
  obtain ⟨t1, h1⟩ := iff_bad h1
  obtain ⟨t2, h1⟩ := iff_bad h1
  have hr1 := hr.growI h2.ext h2.lt.1
  have hx1 : Ext c { c with I := I', ni := n' } := Ext.growI h2.ext
  obtain ⟨i0, z, hi0, hz', hzs, -⟩ := zeroRow_ok hz
  rw [he] at hi0; cases hi0
  have vx := slice_view h3 t1
  have vy := slice_view h4 t2
  rcases iff_ok h1 with ⟨t3, h1⟩ | ⟨t3, h1⟩
  · 
    have hm : sLen wy = 0 := Nat.eq_of_beq_eq_true t3
    refine ⟨w, a.eval x, { c with I := I', ni := n' }, h1, hr1, h2.lt, hx1, h3, .inl ?_⟩
    have hye : ∃ B cb, a.eval y = .slice B 0 cb := by
      rcases vy with ⟨-, e1, -⟩ | ⟨ex, F, A, cc, -, -, -, -, -, -, -, -, -, -, -, -, -, e1⟩
      · exact ⟨none, 0, e1⟩
      · rw [hm] at e1; exact ⟨some A, cc, e1⟩
    obtain ⟨B, cb, ey⟩ := hye
    rcases vx with ⟨-, e1, -⟩ | ⟨ex, F, A, cc, -, -, -, -, -, -, -, hc, -, q1, q2, -, -, e1⟩
    · have := run_append_none (ty := ty) ht he none 0 0 (fun _ => ⟨rfl, rfl⟩) (Nat.le_refl _) B cb c.w
      rw [ey, e1]; simp only [Sem.run_bind, this, Result.andThen_ok, Sem.run_pure]
    · have hcc : sLen w ≤ cc := by
        cases ex
        · have := (q2 rfl).1; omega
        · have := q1 rfl; omega
      have := run_append_none (ty := ty) ht he (some A) (sLen w) cc (fun h => by cases h) hcc B cb c.w
      rw [ey, e1]; simp only [Sem.run_bind, this, Result.andThen_ok, Sem.run_pure]
  have hm : sLen wy ≠ 0 := fun h0 => by rw [h0] at t3; cases t3
  rcases vy with ⟨-, -, e0⟩ | ⟨exy, Fy, Ay, cy, -, hby0, hby1, hfy, hoy, hly, hsy, hcy, -, q1, q2, q3, -, ey⟩
  · exact absurd e0 hm
  have hcy0 : cy ≠ 0 := by
    cases exy
    · have := (q2 rfl).1; omega
    · have := q1 rfl; omega
  obtain rfl := q3 hcy0
  obtain ⟨hky, hiny, h1⟩ := inK_ok h1
  obtain ⟨t5, h1⟩ := iff_bad h1
  have t5 : sLen w + sLen wy < 524288 := blt_iff.1 t5
  have hiny : sOff wy + sLen wy * s ≤ hd c.M (sB wy) / 1024 := hiny
  obtain ⟨cs2, hs2c, hrow2, hth2, hcell2⟩ := hr1.row hfy hky hiny
  have hnews := cells_of (c := { c with I := I', ni := n' }) hs2c hcell2
  have hbytes : (sLen w + sLen wy) * ie.bytes ≤ 140737488355328 := by
    have : (sLen w + sLen wy) * ie.bytes < 524288 * 134217728 := Nat.mul_lt_mul'' t5 hby
    omega
  have hmax : sLen w + sLen wy ≤ maxLen := by simp only [maxLen]; omega
  have hl2 : cs2.toList.length = sLen wy * s := by simpa using hs2c
  rcases vx with ⟨hw, e1, e0⟩ | ⟨ex, F, A, cc, hw, hb0, hb1, hf, ho, hl, hsw, hc, hcap, p1, p2, p3, p4, e1⟩
  · 
    subst hw
    obtain ⟨-, h1⟩ := (iff_ok h1).resolve_right fun hh => by cases hh.1
    obtain ⟨h7, h1⟩ := allocK_ok h1
    rw [e0, Nat.zero_add] at hbytes hmax
    obtain ⟨v', w', hrun, hown, hg, -⟩ := run_append_own (P := P) c.w c.w.heap.size t ty e ie z s ie.bytes ht he hz' hsz rfl hzs hs (.slice none 0 0) 0 [] (World.ownsRow_nil c.w _ e s) _ (sLen wy) cy cs2.toList hl2 hnews (ones_of hrow2) (by rw [Nat.zero_add]; exact hmax) (by rw [Nat.zero_add]; exact hbytes) (Nat.le_refl _)
    rw [Nat.zero_add, List.nil_append] at hown
    obtain ⟨g, size, r1, r2, r3⟩ := hr1.grownRow h7 hs hs2 (by omega) hrow2 hs2c (by omega) hown hg
    refine ⟨_, v', _, h1, r1, h2.lt, hx1.trans hr r2, r3, .inl ?_⟩
    rw [ey, e1]; simp only [Sem.run_bind, hrun, Result.andThen_ok, Sem.run_pure]
    rfl
  obtain ⟨-, h1⟩ := (iff_ok h1).resolve_left fun hh => hw (Nat.eq_of_beq_eq_true hh.1)
  obtain ⟨t6, h1⟩ := iff_bad h1
  have t6 : sSz w = s := Nat.eq_of_beq_eq_true t6
  have hcap' : sCap w ≤ cc := by
    cases ex
    · exact (p2 rfl).1
    · exact Nat.le_of_eq (p1 rfl).symm
  rcases iff_ok h1 with ⟨t7, h1⟩ | ⟨t7, h1⟩
  · 
    have t7 : sLen w + sLen wy ≤ sCap w := Nat.le_of_ble_eq_true t7
    obtain ⟨hk, hin, h1⟩ := inK_ok h1
    have hin : sOff w + sLen w * s + sLen wy * s ≤ hd c.M (sB w) / 1024 := hin
    obtain rfl := p3 (by omega)
    obtain ⟨-, g2, g3⟩ := hr1.put (P := P) (off := sOff w + sLen w * s) hf hk (by rw [hs2c]; exact hin) hrow2
    obtain ⟨-, -, -, hth, -⟩ := hr1.row hf hk hin
    rw [hs2c] at g2 g3
    have hrun := run_append_room_cells (P := P) c.w t ty e ie ht he F.blk (F.base + sOff w) (sLen w) cc ⟨Fy.blk, Fy.base + sOff wy, none⟩ (sLen wy) cy cs2.toList (by rw [hl2, hsz]) hnews (ones_of hrow2) (by omega)
      (fun j hj => by have := (hth j (by omega)).1; rw [hsz]; simpa only [Nat.add_assoc] using this) (fun j hj => by have := (hth j (by omega)).2; rw [hsz]; simpa only [Nat.add_assoc] using this)
    refine ⟨_, .slice (some ⟨F.blk, F.base + sOff w, none⟩) (sLen w + sLen wy) cc, _, h1, g2, h2.lt, hx1.trans hr g3, ?_, .inl ?_⟩
    · have hwr := WR.slice (f := c.f) (I := I') (ni := n') (sB w) (sOff w) (sLen w + sLen wy) s (sCap w) ex F ⟨F.blk, F.base + sOff w, none⟩ cc hb0 hb1 hf ho t5 hs2 t7 hcap p1 (fun hx => by have := p2 hx; rw [t6] at this; exact this) fun _ => rfl
      rw [← slW_eq, ← p4] at hwr
      exact hwr
    · rw [ey, e1]; simp only [Sem.run_bind, hrun, Result.andThen_ok, Sem.run_pure]
      simp only [hsz, Nat.add_assoc]
  · 
    have t7 : ¬ sLen w + sLen wy ≤ sCap w := fun h0 => by rw [show Nat.ble (Nat.add (sLen w) (sLen wy)) (sCap w) = true from Nat.ble_eq_true_of_le h0] at t7; cases t7
    obtain ⟨hk, hin, h1⟩ := inK_ok h1
    have hin : sOff w + sLen w * s ≤ hd c.M (sB w) / 1024 := hin
    obtain ⟨cs1, hs1c, hrow1, hth1, hcell1⟩ := hr1.row hf hk hin
    obtain ⟨h7, h1⟩ := allocK_ok h1
    have h7 : c.nm + (1 + (sLen w + sLen wy) * s) < 4194304 := h7
    have hrow := hrow1.append hrow2
    rw [hs1c] at hrow
    have hsum : (sLen w + sLen wy) * s = sLen w * s + sLen wy * s := Nat.add_mul _ _ _
    have hszs : (cs1 ++ cs2).size = (sLen w + sLen wy) * s := by rw [Array.size_append]; omega
    have hl1 : cs1.toList.length = sLen w * s := by simpa using hs1c
    obtain ⟨nn, hlay⟩ := hr1.dom _ _ hf
    by_cases hroom : sLen w + sLen wy ≤ cc
    · 
      have hex : ex = false := by
        cases ex
        · rfl
        · have := p1 rfl; omega
      subst hex
      obtain rfl := p3 (by omega)
      obtain ⟨q4, q5⟩ := p2 rfl
      rw [t6] at q5
      have hM : (@Nat.rec (fun _ => Nat) (setRow c.M (Nat.sub (sB w) 1) 1 0) (fun _ _ => c.M) (sEx w)) = setRow c.M (sB w - 1) 1 0 := by rw [p4]; rfl
      rw [hM] at h1
      have hcs : (sLen w + sLen wy) * s ≤ cc * s := Nat.mul_le_mul_right _ hroom
      obtain ⟨g1, g2⟩ := hr1.moved (N := (sLen w + sLen wy) * s) hf hk h7 hin hs1c hrow1 hcell1 hrow2 (by omega) (by omega)
      have hend : ∀ j, j < cs2.size → ∃ u, c.w.cell? ⟨F.blk, F.base + sOff w + sLen w * s + j, none⟩ = some u ∧ c.w.frozen? ⟨F.blk, F.base + sOff w + sLen w * s + j, none⟩ = false := by
        intro j hj
        obtain ⟨bs, elem, fr, u1, u2, u3, u4, u5, u6⟩ := hr.cells _ _ hf hk
        have hlt : F.base + sOff w + sLen w * s + j < bs.size := by omega
        refine ⟨bs[F.base + sOff w + sLen w * s + j], by simp [World.cell?, u1, hlt], ?_⟩
        have h8 := u2 _ hlt
        simp only [World.frozen?, u1]
        rw [Bool.and_eq_false_iff]
        simp only [decide_eq_false_iff_not]
        omega
      have hrun := run_append_room_cells (P := P) c.w t ty e ie ht he F.blk (F.base + sOff w) (sLen w) cc ⟨Fy.blk, Fy.base + sOff wy, none⟩ (sLen wy) cy cs2.toList (by rw [hl2, hsz]) hnews (ones_of hrow2) hroom
        (fun j hj => by obtain ⟨u, h5, -⟩ := hend j (by simpa using hj); rw [hsz, h5]; rfl) (fun j hj => by obtain ⟨u, -, h5⟩ := hend j (by simpa using hj); rw [hsz, h5])
      refine ⟨_, .slice (some ⟨F.blk, F.base + sOff w, none⟩) (sLen w + sLen wy) cc, _, h1, g1, h2.lt, hx1.trans hr g2, ?_, .inl ?_⟩
      · have hwr := WR.slice (f := setN c.f (c.nm + 1) ⟨F.blk, F.base + sOff w, F.size, 0⟩) (I := I') (ni := n') (c.nm + 1) 0 (sLen w + sLen wy) s (sLen w + sLen wy) false ⟨F.blk, F.base + sOff w, F.size, 0⟩ ⟨F.blk, F.base + sOff w, none⟩ cc (by omega) (by omega) (setN_same _ _ _) (by omega) t5 hs2 (Nat.le_refl _) t5 (fun h => by cases h) (fun _ => ⟨hroom, q5⟩) fun _ => rfl
        rw [← slW_eq] at hwr
        exact hwr
      · rw [ey, e1]; simp only [Sem.run_bind, hrun, Result.andThen_ok, Sem.run_pure]
        rw [hsz]
        rfl
    · have holds : ∀ j u, cs1.toList[j]? = some u → c.w.cell? (A.add j) = some u := by
        by_cases hc0 : cc = 0
        · intro j u hu
          have : cs1.toList.length = 0 := by rw [hl1, show sLen w = 0 by omega, Nat.zero_mul]
          rw [List.eq_nil_of_length_eq_zero this] at hu
          cases hu
        · obtain rfl := p3 hc0
          exact cells_of (c := { c with I := I', ni := n' }) hs1c hcell1
      obtain ⟨v', w', hrun, hown, hg⟩ := run_append_arg_grows (P := P) c.w t ty e ie z s ie.bytes ht he hz' hsz rfl hzs hs A (sLen w) cc cs1.toList hl1 holds ⟨Fy.blk, Fy.base + sOff wy, none⟩ (sLen wy) cy cs2.toList hl2 hnews (by omega) hmax hbytes
      rw [← Array.toList_append] at hown
      have hrun' : (do let v ← Builtin.append_ #[t, t] ty #[a.eval x, a.eval y]; pure (Next.value v) : Sem Next).run P c.w = .ok (.value v') w' := by
        rw [ey, e1]; simp only [Sem.run_bind, hrun, Result.andThen_ok, Sem.run_pure]
      cases ex
      · have hM : (@Nat.rec (fun _ => Nat) (setRow c.M (Nat.sub (sB w) 1) 1 0) (fun _ _ => c.M) (sEx w)) = setRow c.M (sB w - 1) 1 0 := by rw [p4]; rfl
        rw [hM] at h1
        have hstr := hr1.strike hlay
        obtain ⟨g, size, r1, r2, r3⟩ := hstr.grownRow h7 hs hs2 t5 hrow hszs (by omega) hown hg
        exact ⟨_, v', _, h1, r1, h2.lt, hx1.trans hr ((Ext.strike hr1 hf).trans hr1 r2), r3, .inl hrun'⟩
      · have hM : (@Nat.rec (fun _ => Nat) (setRow c.M (Nat.sub (sB w) 1) 1 0) (fun _ _ => c.M) (sEx w)) = c.M := by rw [p4]; rfl
        rw [hM] at h1
        obtain ⟨g, size, r1, r2, r3⟩ := hr1.grownRow h7 hs hs2 t5 hrow hszs (by omega) hown hg
        exact ⟨_, v', _, h1, r1, h2.lt, hx1.trans hr r2, r3, .inl hrun'⟩
end
end Go.Proofs.YtpjhkpmmbeoghaaGreatDoor.Ev
namespace Go.Proofs.YtpjhkpmmbeoghaaGreatDoor.Ev
open Go
def zeroW (P : Program) (t : TypeId) : Option (Bool × Nat × Nat) :=
  match P.info? t with
  | some i => match i.zero with
    | some (.agg cs) => (immRow cs.toList).map fun r => (true, cs.size, r)
    | some z => (immW z).map fun w => (false, 1, w)
    | none => none
  | none => none
inductive KK where
  | word (t : Nat)
  | str
  | row (n t : Nat)
noncomputable section
def keyEq (q : KK) (I a b : Nat) : Bool :=
  @KK.rec (fun _ => Bool) (fun _ => Nat.beq a b) (and (Nat.beq (tN a) (tN b)) (Nat.beq (strAt I (tQ a) (tN a)) (strAt I (tQ b) (tN b))))
    (fun n _ => Nat.beq (rowAt I (gB a) n) (rowAt I (gB b) n)) q
def tagsK (t I n b : Nat) (k : Res) : Res := @Nat.rec (fun _ => Nat → Res) (fun _ => k) (fun _ ih b => iff (tg (cellAt I b) t) (ih (Nat.add b 1)) (.bad 80 0)) n b
def keyTag (q : KK) (I w : Nat) (k : Res) : Res :=
  @KK.rec (fun _ => Res) (fun t => iff (tg w t) k (.bad 80 3)) (iff (tg w 12) k (.bad 80 1)) (fun n t => iff (tg w 18) (iff (Nat.beq (gN w) n) (tagsK t I n (gB w) k) (.bad 80 4)) (.bad 80 2)) q
def findK (q : KK) (I key : Nat) (k b : Nat) (yes : Nat → Res) (no : Res) : Res :=
  @Nat.rec (fun _ => Nat → Res) (fun _ => no) (fun _ ih b => keyTag q I (cellAt I b) (iff (keyEq q I (cellAt I b) key) (yes b) (ih (Nat.add b 2)))) k b
def slcTK (x : Opd) (lo hi : Option Opd) (E : Fr) (I ni : Nat) (kv : KV) : Res :=
  opdK x E I ni fun w I ni => iff (tg w 12) (bndK hi (tN w) E I ni fun h I ni => bndK lo 0 E I ni fun l I ni => iff (Nat.ble l h) (iff (Nat.ble h (tN w)) (iff (Nat.blt (Nat.add (tQ w) (Nat.sub (tN w) h)) 268435456)
    (kv (strW (Nat.add (tQ w) (Nat.sub (tN w) h)) (Nat.sub h l)) I ni) (.bad 99 0)) (.bad 99 1)) (.bad 99 2)) (.bad 99 3)
def catTK (x y : Opd) (E : Fr) (I ni : Nat) (kv : KV) : Res :=
  op2 x y E I ni fun wx wy I ni => iff (tg wx 12) (iff (tg wy 12) (iff (Nat.blt (Nat.add (tN wx) (tN wy)) 1048576)
    (growK I ni (Nat.div (Nat.add (Nat.add (tN wx) (tN wy)) 11) 12) (Nat.add (Nat.mul (strAt I (tQ wx) (tN wx)) (Nat.pow 2 (Nat.mul 8 (tN wy)))) (strAt I (tQ wy) (tN wy)))
      fun I' ni' => kv (strW (Nat.mul 12 ni) (Nat.add (tN wx) (tN wy))) I' ni') (.bad 100 0)) (.bad 100 1)) (.bad 100 2)
def aeqK (q : KK) (neg : Bool) (x y : Opd) (E : Fr) (I ni : Nat) (kv : KV) : Res :=
  op2 x y E I ni fun wx wy I ni => keyTag q I wx (keyTag q I wy (boolK (@Bool.rec (fun _ => Bool) (keyEq q I wx wy) (not (keyEq q I wx wy)) neg) I ni kv))
def mapIn (M w : Nat) (k : Nat → Nat → Res) : Res :=
  iff (Nat.beq (hdW M (Nat.div w 32)) 1027) (k (gB (cellAt M (Nat.div w 32))) (Nat.div (gN (cellAt M (Nat.div w 32))) 2)) (.bad 81 0)
def tupW (b n : Nat) : Nat := Nat.add 19 (Nat.mul 32 (Nat.add b (Nat.mul 16777216 n)))
def okK (com : Bool) (v yes I ni : Nat) (kv : KV) : Res :=
  @Bool.rec (fun _ => Res) (kv v I ni) (growK I ni 2 (rowOf [v, yes]) fun I' ni' => kv (tupW ni 2) I' ni') com
def zerK (agg : Bool) (n r I ni : Nat) (k : KV) : Res :=
  @Bool.rec (fun _ => Res) (k r I ni) (growK I ni n r fun I' ni' => k (aggW ni n) I' ni') agg
def lookW (q : KK) (com agg : Bool) (n r w wk M I ni : Nat) (kv : KV) : Res :=
  iff (tg w 13) (keyTag q I wk
    (iff (Nat.beq w 13) (zerK agg n r I ni fun z I ni => okK com z 1 I ni kv)
      (mapIn M w fun b k => findK q I wk k b (fun b => okK com (cellAt I (Nat.add b 1)) 33 I ni kv) (zerK agg n r I ni fun z I ni => okK com z 1 I ni kv)))) (.bad 82 0)
def lookK (q : KK) (com agg : Bool) (n r : Nat) (x key : Opd) (E : Fr) (M I ni : Nat) (kv : KV) : Res :=
  op2 x key E I ni fun w wk I ni => lookW q com agg n r w wk M I ni kv
def updW (q : KK) (w wk wv M nm I ni : Nat) (kf : KF) : Res :=
  iff (tg w 13) (iff (Nat.blt 13 w) (keyTag q I wk
    (mapIn M w fun b k => findK q I wk k b
      (fun b' => growK I ni (Nat.mul 2 k) (setRow (rowAt I b (Nat.mul 2 k)) (Nat.add (Nat.sub b' b) 1) 1 wv) fun I' ni' => kf 0 (setRow M (Nat.div w 32) 1 (aggW ni (Nat.mul 2 k))) nm I' ni')
      (growK I ni (Nat.mul 2 (Nat.add k 1)) (addRow (rowAt I b (Nat.mul 2 k)) (Nat.mul 2 k) (rowOf [wk, wv])) fun I' ni' => kf 0 (setRow M (Nat.div w 32) 1 (aggW ni (Nat.mul 2 (Nat.add k 1)))) nm I' ni')))
    (.bad 83 0)) (.bad 83 1)
def updK (q : KK) (x key v : Opd) (E : Fr) (M nm I ni : Nat) (kf : KF) : Res :=
  op2 x key E I ni fun w wk I ni => opdK v E I ni fun wv I ni => updW q w wk wv M nm I ni kf
def mkMapK (M nm I ni : Nat) (kf : KF) : Res :=
  iff (Nat.blt (Nat.add nm 2) 4194304) (kf (Nat.add 13 (Nat.mul 32 (Nat.add nm 1))) (addRow M nm (addRow 1027 1 18)) (Nat.add nm 2) I ni) (.bad 84 0)
def mkMapHK (x : Opd) (E : Fr) (M nm I ni : Nat) (kf : KF) : Res :=
  opdK x E I ni fun w I ni => iff (Nat.ble 2 (Nat.mod w 32)) (iff (Nat.ble (Nat.mod w 32) 9) (mkMapK M nm I ni kf) (.bad 84 1)) (.bad 84 2)
def lenMW (w M I ni : Nat) (kv : KV) : Res :=
  iff (tg w 13) (iff (Nat.beq w 13) (kv 295147905179352825861 I ni) (mapIn M w fun _ k => kv (Nat.add 295147905179352825861 (Nat.mul 32 k)) I ni)) (.bad 85 0)
def lenMK (x : Opd) (E : Fr) (M I ni : Nat) (kv : KV) : Res :=
  opdK x E I ni fun w I ni => lenMW w M I ni kv
def bytesK (M n b acc : Nat) (k : Nat → Res) : Res :=
  @Nat.rec (fun _ => Nat → Nat → Res) (fun _ acc => k acc) (fun _ ih b acc => iff (tg (cellAt M b) 6) (ih (Nat.add b 1) (Nat.add (Nat.mul acc 256) (Nat.mod (Nat.div (cellAt M b) 32) 256))) (.bad 86 0)) n b acc
def strOfW (w M I ni : Nat) (kv : KV) : Res :=
  iff (tg w 11) (iff (Nat.beq (sLen w) 0) (kv 12 I ni)
    (inK M (sB w) (sOff w) (sLen w) (bytesK M (sLen w) (Nat.add (sB w) (sOff w)) 0 fun y => growK I ni (Nat.div (Nat.add (sLen w) 11) 12) y fun I' ni' => kv (strW (Nat.mul 12 ni) (sLen w)) I' ni'))) (.bad 86 1)
def strOfK (x : Opd) (E : Fr) (M I ni : Nat) (kv : KV) : Res :=
  opdK x E I ni fun w I ni => strOfW w M I ni kv
def byteRow (n y acc : Nat) : Nat := @Nat.rec (fun _ => Nat → Nat → Nat) (fun _ acc => acc) (fun _ ih y acc => ih (Nat.div y 256) (Nat.add (Nat.shiftLeft acc 96) (Nat.add 6 (Nat.mul 32 (Nat.mod y 256))))) n y acc
def toBytesK (x : Opd) (E : Fr) (M nm I ni : Nat) (kf : KF) : Res :=
  opdK x E I ni fun w I ni => iff (tg w 12) (iff (Nat.blt (tN w) 524288) (allocK (tN w) (byteRow (tN w) (strAt I (tQ w) (tN w)) 0) M nm fun b M nm => kf (slW 0 b (tN w) 1 0 (tN w)) M nm I ni) (.bad 87 1)) (.bad 87 0)
def copyW (s w wy M nm I ni : Nat) (kf : KF) : Res :=
  iff (tg w 11) (iff (tg wy 11)
    (let n := @Bool.rec (fun _ => Nat) (sLen wy) (sLen w) (Nat.blt (sLen w) (sLen wy))
     iff (Nat.beq n 0) (kf 295147905179352825861 M nm I ni)
      (inK M (sB wy) (sOff wy) (Nat.mul n s) (inK M (sB w) (sOff w) (Nat.mul n s)
        (kf (Nat.add 295147905179352825861 (Nat.mul 32 n)) (setRow M (Nat.add (sB w) (sOff w)) (Nat.mul n s) (rowAt M (Nat.add (sB wy) (sOff wy)) (Nat.mul n s))) nm I ni)))) (.bad 88 0)) (.bad 88 1)
def copyK (s : Nat) (x y : Opd) (E : Fr) (M nm I ni : Nat) (kf : KF) : Res :=
  op2 x y E I ni fun w wy I ni => copyW s w wy M nm I ni kf
def clearW (s r w M nm I ni : Nat) (kf : KF) : Res :=
  iff (tg w 11) (iff (Nat.beq (sLen w) 0) (kf 0 M nm I ni)
    (inK M (sB w) (sOff w) (Nat.mul (sLen w) s) (kf 0 (setRow M (Nat.add (sB w) (sOff w)) (Nat.mul (sLen w) s) (repRow s r (sLen w))) nm I ni))) (.bad 89 0)
def clearK (s r : Nat) (x : Opd) (E : Fr) (M nm I ni : Nat) (kf : KF) : Res :=
  opdK x E I ni fun w I ni => clearW s r w M nm I ni kf
def slpK (len sz : Nat) (x : Opd) (lo hi : Option Opd) (E : Fr) (I ni : Nat) (kv : KV) : Res :=
  opdK x E I ni fun w I ni => iff (tg w 10) (iff (Nat.blt 10 w) (bndK hi len E I ni fun h I ni => bndK lo 0 E I ni fun l I ni =>
    iff (Nat.ble l h) (iff (Nat.ble h len) (iff (Nat.blt len 524288) (iff (Nat.blt (pB w) 4194304) (iff (Nat.blt (Nat.add (pOff w) (Nat.mul l sz)) 4194304)
      (kv (slW (Nat.add (pOff w) (Nat.mul l sz)) (pB w) (Nat.sub h l) sz 1 (Nat.sub len l)) I ni) (.bad 90 0)) (.bad 90 1)) (.bad 90 2)) (.bad 90 3)) (.bad 90 4)) (.bad 90 5)) (.bad 90 6)
def idxTK (x i : Opd) (E : Fr) (I ni : Nat) (kv : KV) : Res :=
  op2 x i E I ni fun w wi I ni => iff (tg w 12) (natK wi fun n => iff (Nat.blt n (tN w)) (kv (Nat.add 6 (Nat.mul 32 (Nat.mod (Nat.shiftRight (strAt I (tQ w) (tN w)) (Nat.mul 8 (Nat.sub (Nat.sub (tN w) 1) n))) 256))) I ni) (.bad 91 0)) (.bad 91 1)
def peqK (neg : Bool) (x y : Opd) (E : Fr) (I ni : Nat) (kv : KV) : Res :=
  op2 x y E I ni fun wx wy I ni => iff (tg wx 10) (iff (Nat.blt 10 wx) (iff (Nat.beq wx wy) (boolK (not neg) I ni kv) (.bad 92 0)) (.bad 92 1)) (.bad 92 2)
def capSW (w I ni : Nat) (kv : KV) : Res :=
  iff (tg w 11) (iff (Nat.beq w 11) (kv 295147905179352825861 I ni) (iff (Nat.beq (sEx w) 1) (kv (Nat.add 295147905179352825861 (Nat.mul 32 (sCap w))) I ni) (.bad 93 0))) (.bad 93 1)
def capSK (x : Opd) (E : Fr) (I ni : Nat) (kv : KV) : Res :=
  opdK x E I ni fun w I ni => capSW w I ni kv
def appTW (w wy M nm I ni : Nat) (kf : KF) : Res :=
  iff (tg w 11) (iff (tg wy 12)
    (iff (Nat.beq (tN wy) 0) (kf w M nm I ni)
        (iff (Nat.blt (Nat.add (sLen w) (tN wy)) 524288)
          (iff (Nat.beq w 11)
            (allocK (tN wy) (byteRow (tN wy) (strAt I (tQ wy) (tN wy)) 0) M nm fun b M nm => kf (slW 0 b (tN wy) 1 0 (tN wy)) M nm I ni)
            (iff (Nat.beq (sSz w) 1)
              (iff (Nat.ble (Nat.add (sLen w) (tN wy)) (sCap w))
                (inK M (sB w) (Nat.add (sOff w) (sLen w)) (tN wy)
                  (kf (slW (sOff w) (sB w) (Nat.add (sLen w) (tN wy)) 1 (sEx w) (sCap w))
                    (setRow M (Nat.add (sB w) (Nat.add (sOff w) (sLen w))) (tN wy) (byteRow (tN wy) (strAt I (tQ wy) (tN wy)) 0)) nm I ni))
                (inK M (sB w) (sOff w) (sLen w)
                  (allocK (Nat.add (sLen w) (tN wy)) (addRow (rowAt M (Nat.add (sB w) (sOff w)) (sLen w)) (sLen w) (byteRow (tN wy) (strAt I (tQ wy) (tN wy)) 0))
                    (@Nat.rec (fun _ => Nat) (setRow M (Nat.sub (sB w) 1) 1 0) (fun _ _ => M) (sEx w)) nm fun b M nm => kf (slW 0 b (Nat.add (sLen w) (tN wy)) 1 0 (Nat.add (sLen w) (tN wy))) M nm I ni)))
              (.bad 94 0)))
          (.bad 94 1)))
    (.bad 94 2)) (.bad 94 3)
def appTK (x y : Opd) (E : Fr) (M nm I ni : Nat) (kf : KF) : Res :=
  op2 x y E I ni fun w wy I ni => appTW w wy M nm I ni kf
end
end Go.Proofs.YtpjhkpmmbeoghaaGreatDoor.Ev
namespace Go.Proofs.YtpjhkpmmbeoghaaGreatDoor.Ev
open Go
section
variable {f : Nat → Option FB} {I ni : Nat} {E : Fr} {a : Act} {P : Program} {kv : KV}
theorem nilqK_ok {neg : Bool} {z t : Nat} {x y : Operand} {ty : TypeId} (h : nilqK neg z t (lowOpd x) E I ni kv = .ok) (hx : OpR f I ni E a x) (hI : IB I ni)
    (hz : ∀ {I' ni' w v}, WR f I' ni' w v → w = z → ∀ W, (do eqGuard (if neg then .neq else .eql) ty x y v (a.eval y); binOp (if neg then .neq else .eql) ty v (a.eval y) : Sem Value).run P W = .ok (.bool (!neg)) W)
    (ht : ∀ {I' ni' w v}, WR f I' ni' w v → w % 32 = t → w ≠ z → ∀ W, (do eqGuard (if neg then .neq else .eql) ty x y v (a.eval y); binOp (if neg then .neq else .eql) ty v (a.eval y) : Sem Value).run P W = .ok (.bool neg) W) :
    PureOk P f I ni kv (do let v ← (do eqGuard (if neg then .neq else .eql) ty x y (a.eval x) (a.eval y); binOp (if neg then .neq else .eql) ty (a.eval x) (a.eval y)); pure (.value v)) := by
  obtain ⟨w, I', n', h1, h2, h3⟩ := opdK_ok h hx hI
  obtain ⟨h7, h1⟩ := iff_bad h1
  cases h4 : Nat.beq w z with
  | true =>
    rw [h4] at h1
    obtain ⟨w', h5, h6⟩ := boolK_ok (f := f) h1
    refine ⟨w', I', n', _, h5, h2, h6, fun W => ?_⟩
    have := hz h3 (Nat.eq_of_beq_eq_true h4) W
    rw [Sem.run_bind, this]; rfl
  | false =>
    rw [h4] at h1 h7
    obtain ⟨w', h5, h6⟩ := boolK_ok (f := f) h1
    refine ⟨w', I', n', _, h5, h2, h6, fun W => ?_⟩
    have := ht h3 (tg_ok (by simpa using h7)) (fun e => by rw [e, Nat.beq_refl] at h4; cases h4) W
    rw [Sem.run_bind, this]; rfl
theorem equalIn_fn (d : Nat) (ty : TypeId) {ps rs : Array TypeId} {vr : Bool} (h : P.underlying ty = some (.func ps rs vr)) (v : Value) (hv : v = .nilFunc ∨ ∃ fn a b, v = .func fn a b) (W : World) :
    (Op.equalIn (d + 1) ty v .nilFunc).run P W = .ok (match v with | .nilFunc => true | _ => false) W := by
  rcases hv with rfl | ⟨fn, a, b, rfl⟩ <;> simp [Op.equalIn, run_underlying h]
theorem equal_fn (ty : TypeId) {ps rs : Array TypeId} {vr : Bool} (h : P.underlying ty = some (.func ps rs vr)) (v : Value) (hv : v = .nilFunc ∨ ∃ fn a b, v = .func fn a b) (W : World) :
    (Op.equal ty v .nilFunc).run P W = .ok (match v with | .nilFunc => true | _ => false) W := equalIn_fn 9999 ty h v hv W
theorem equalIn_iface (d : Nat) (ty : TypeId) {ms : Array (String × TypeId)} (h : P.underlying ty = some (.interface ms)) (v : Value) (hv : v = .nilIface ∨ ∃ t b, v = .iface t b) (W : World) :
    (Op.equalIn (d + 1) ty v .nilIface).run P W = .ok (match v with | .nilIface => true | _ => false) W := by
  rcases hv with rfl | ⟨t, b, rfl⟩ <;> simp [Op.equalIn, run_underlying h]
theorem equal_iface (ty : TypeId) {ms : Array (String × TypeId)} (h : P.underlying ty = some (.interface ms)) (v : Value) (hv : v = .nilIface ∨ ∃ t b, v = .iface t b) (W : World) :
    (Op.equal ty v .nilIface).run P W = .ok (match v with | .nilIface => true | _ => false) W := equalIn_iface 9999 ty h v hv W
theorem equalIn_same (d : Nat) (ty : TypeId) {e : TypeId} {ie : TypeInfo} (ht : P.underlying ty = some (.pointer e)) (he : P.info? e = some ie) (_hs : ie.size ≠ 0) (A : Addr) (W : World) : (Op.equalIn (d + 1) ty (.pointer (some A)) (.pointer (some A))).run P W = .ok true W := by
  simp [Op.equalIn, run_underlying ht, Go.sizeOf, typeInfo, he, sameAddr]
theorem pointee_of {ty e : TypeId} (h : P.underlying ty = some (.pointer e)) : P.underlying ty = some (.pointer (P.pointee ty)) := by
  have : P.pointee ty = e := by unfold Program.pointee; rw [h]
  rw [this]; exact h
theorem eq_run {neg : Bool} {ty : TypeId} {x y : Operand} {v u : Value} {r : Bool} (W : World) (hg : (eqGuard (if neg then .neq else .eql) ty x y v u).run P W = .ok () W) (hb : (binOp (if neg then .neq else .eql) ty v u) = (do let b ← Op.equal ty v u; pure (.bool (if neg then !b else b))))
    (he : (Op.equal ty v u).run P W = .ok r W) : (do eqGuard (if neg then .neq else .eql) ty x y v u; binOp (if neg then .neq else .eql) ty v u : Sem Value).run P W = .ok (.bool (if neg then !r else r)) W := by
  rw [Sem.run_bind, hg, Result.andThen_ok, hb, Sem.run_bind, he]; rfl
theorem peqK_ok {neg : Bool} {x y : Operand} {ty e : TypeId} {ie : TypeInfo} (ht : P.underlying ty = some (.pointer e)) (he : P.info? e = some ie) (hs : ie.size ≠ 0) (h : peqK neg (lowOpd x) (lowOpd y) E I ni kv = .ok) (hx : OpR f I ni E a x) (hy : OpR f I ni E a y) (hI : IB I ni) :
    PureOk P f I ni kv (do let v ← (do eqGuard (if neg then .neq else .eql) ty x y (a.eval x) (a.eval y); binOp (if neg then .neq else .eql) ty (a.eval x) (a.eval y)); pure (.value v)) := by
  obtain ⟨wx, wy, I', n', h1, h2, h3, h4⟩ := op2_ok h hx hy hI
  obtain ⟨h5, h1⟩ := iff_bad h1
  obtain ⟨h6, h1⟩ := iff_bad h1
  obtain ⟨h7, h1⟩ := iff_bad h1
  have h6 := blt_iff.1 h6
  have h4 : WR f I' n' wx (a.eval y) := Nat.eq_of_beq_eq_true h7 ▸ h4
  obtain ⟨w', h8, h9⟩ := boolK_ok (f := f) (b := !neg) h1
  rcases h3.inv_ptr (tg_ok h5) with ⟨hw, -⟩ | ⟨b, off, F, hb, hb2, hf, ho, hw, e1⟩
  · omega
  rcases h4.inv_ptr (tg_ok h5) with ⟨hw', -⟩ | ⟨b', off', F', hb', hb2', hf', ho', hw', e2⟩
  · omega
  obtain rfl : b = b' := by omega
  obtain rfl : off = off' := by omega
  rw [hf] at hf'
  cases hf'
  refine ⟨w', I', n', _, h8, h2, h9, fun W => ?_⟩
  have hq : (Op.equal ty (.pointer (some ⟨F.blk, F.base + off, none⟩)) (.pointer (some ⟨F.blk, F.base + off, none⟩))).run P W = .ok true W := equalIn_same 9999 ty ht he hs _ W
  have := eq_run (P := P) (neg := neg) (x := x) (y := y) W (by cases neg <;> rfl) (by cases neg <;> rfl) hq
  rw [e1, e2, Sem.run_bind, this]
  cases neg <;> rfl
end
end Go.Proofs.YtpjhkpmmbeoghaaGreatDoor.Ev
namespace Go.Proofs.YtpjhkpmmbeoghaaGreatDoor.Ev
open Go
abbrev Parts := List (Nat × Nat × Opd)
inductive In where
  | mov (x : Opd)
  | pick (c a b : Opd)
  | add (x y : Opd)
  | sub (x y : Opd)
  | iop (op : BinOp) (k : IntKind) (x y : Opd)
  | shf (op : BinOp) (k yk : IntKind) (x y : Opd)
  | ieq (t : Nat) (neg : Bool) (x y : Opd)
  | ilt (t : Nat) (neg : Bool) (x y : Opd)
  | seq (neg : Bool) (x y : Opd)
  | nilq (neg : Bool) (z t : Nat) (x : Opd)
  | not (x : Opd)
  | neg (k : IntKind) (x : Opd)
  | conv (s k : IntKind) (x : Opd)
  | len (x : Opd)
  | lenT (x : Opd)
  | iadrS (sz : Nat) (x i : Opd)
  | iadrA (len sz : Nat) (x i : Opd)
  | fadr (off : Nat) (x : Opd)
  | fld1 (t off : Nat) (x : Opd)
  | fldN (off n : Nat) (x : Opd)
  | idx1 (len : Nat) (x i : Opd)
  | slc (sz : Nat) (x : Opd) (lo hi mx : Option Opd)
  | nilc (x : Opd)
  | mki (t : Nat) (x : Opd)
  | mkf (fn n : Nat) (xs : List Opd)
  | min (mx : Bool) (t : Nat) (x y : Opd)
  | bld (n r : Nat) (ps : Parts)
  | load1 (x : Opd)
  | loadN (n : Nat) (x : Opd)
  | alloc (n r : Nat)
  | box (n : Nat) (x : Opd)
  | mkSl (s r : Nat) (l c : Opd)
  | bldS (len s r : Nat) (ps : Parts)
  | store (n : Nat) (x v : Opd)
  | app (s : Nat) (x y : Opd)
  | look (q : KK) (com agg : Bool) (n r : Nat) (x key : Opd)
  | upd (q : KK) (x key v : Opd)
  | mkMap
  | mkMapH (x : Opd)
  | lenM (x : Opd)
  | strOf (x : Opd)
  | toBytes (x : Opd)
  | copy (s : Nat) (x y : Opd)
  | clear (s r : Nat) (x : Opd)
  | slp (len sz : Nat) (x : Opd) (lo hi : Option Opd)
  | idxT (x i : Opd)
  | peq (neg : Bool) (x y : Opd)
  | aeq (q : KK) (neg : Bool) (x y : Opd)
  | slcT (x : Opd) (lo hi : Option Opd)
  | catT (x y : Opd)
  | capS (x : Opd)
  | appT (x y : Opd)
  | inv (name : String) (x : Opd) (xs : List Opd)
  | call (f : Nat) (xs : List Opd)
  | callv (x : Opd) (xs : List Opd)
  | bad (n : Nat)
def methOf (P : Program) (name : String) (t : TypeId) : Option Nat :=
  match P.underlying t, P.info? t with
  | some (.pointer _), some i => match i.methods.find? (·.name == name) with
    | some m => match m.path.toList, m.func with
      | [], some (f, true) => match P.funcs[f]? with
        | some fn => if fn.body.isSome && fn.name != "runtime.NumGoroutine" then some f else none
        | none => none
      | _, _ => none
    | none => none
  | _, _ => none
abbrev CallT := Nat → List Nat → Nat → Nat → Nat → Nat → KF → Res
abbrev StepT := Fr → Nat → Nat → Nat → Nat → KF → Res
noncomputable section
def pureS (g : Fr → Nat → Nat → KV → Res) (E : Fr) (M nm I ni : Nat) (kf : KF) : Res := (fun _ : Nat => g E I ni fun w I ni => kf w M nm I ni) hh40
def readS (g : Fr → Nat → Nat → Nat → KV → Res) (E : Fr) (M nm I ni : Nat) (kf : KF) : Res := (fun _ : Nat => g E M I ni fun w I ni => kf w M nm I ni) hh40
def callS (call : CallT) (f : Nat) (xs : List Opd) (E : Fr) (M nm I ni : Nat) (kf : KF) : Res := opdsK xs E I ni fun ws I ni => call f ws M nm I ni kf
def wordsOf (I b n : Nat) : List Nat := @Nat.rec (fun _ => Nat → List Nat) (fun _ => []) (fun _ ih b => cellAt I b :: ih (Nat.add b 1)) n b
def callvS (call : CallT) (x : Opd) (xs : List Opd) (E : Fr) (M nm I ni : Nat) (kf : KF) : Res :=
  opdK x E I ni fun w I ni => iff (tg w 14) (opdsK xs E I ni fun ws I ni =>
    call (Nat.mod (Nat.div w 32) 1048576) (List.append ws (wordsOf I (Nat.mod (Nat.div w 33554432) 16777216) (Nat.div w 562949953421312))) M nm I ni kf) (.bad 50 0)
def invS (P : Program) (call : CallT) (name : String) (x : Opd) (xs : List Opd) (E : Fr) (M nm I ni : Nat) (kf : KF) : Res :=
  opdK x E I ni fun w I ni => iff (tg w 16) (opdsK xs E I ni fun ws I ni =>
    @Option.rec Nat (fun _ => Res) (.bad 52 w) (fun f => call f (cellAt I (Nat.div w 33554432) :: ws) M nm I ni kf) (methOf P name (Nat.mod (Nat.div w 32) 1048576))) (.bad 50 1)
def stepK (P : Program) (call : CallT) (i : In) : StepT :=
  @In.rec (fun _ => StepT)
    (fun x => pureS (opdK x))
    (fun c a b => pureS (pickK c a b))
    (fun x y => pureS fun E I ni kv => op2 x y E I ni fun wx wy I ni => add64 wx wy I ni kv)
    (fun x y => pureS fun E I ni kv => op2 x y E I ni fun wx wy I ni => sub64 wx wy I ni kv)
    (fun op k x y => pureS (iopK op k x y))
    (fun op k yk x y => pureS (shfK op k yk x y))
    (fun t neg x y => pureS (ieqK t neg x y))
    (fun t neg x y => pureS (iltK t neg x y))
    (fun neg x y => pureS (seqK neg x y))
    (fun neg z t x => pureS (nilqK neg z t x))
    (fun x => pureS (notK x))
    (fun k x => pureS (negK k x))
    (fun s k x => pureS (convK s k x))
    (fun x => pureS (lenSK x))
    (fun x => pureS (lenTK x))
    (fun sz x i => pureS (iadrSK sz x i))
    (fun len sz x i => pureS (iadrAK len sz x i))
    (fun off x => pureS (fadrK off x))
    (fun t off x => pureS (fld1K t off x))
    (fun off n x => pureS (fldNK off n x))
    (fun len x i => pureS (idx1K len x i))
    (fun sz x lo hi mx => pureS (slcK sz x lo hi mx))
    (fun x => pureS (nilcK x))
    (fun t x => pureS (mkiK t x))
    (fun fn n xs => pureS (mkfK fn n xs))
    (fun mx t x y => pureS (minK mx t x y))
    (fun n r ps => pureS (buildK n r ps))
    (fun x => readS (load1K x))
    (fun n x => readS (loadNK n x))
    (fun n r _ M nm I ni kf => newK n r M nm I ni kf)
    (fun n x => boxK n x)
    (fun s r l c => mkSlK s r l c)
    (fun len s r ps => bldSK len s r ps)
    (fun n x v => storeK n x v)
    (fun s x y => appK s x y)
    (fun q com agg n r x key => readS (lookK q com agg n r x key))
    (fun q x key v => updK q x key v)
    (fun _ M nm I ni kf => mkMapK M nm I ni kf)
    (fun x => mkMapHK x)
    (fun x => readS (lenMK x))
    (fun x => readS (strOfK x))
    (fun x => toBytesK x)
    (fun s x y => copyK s x y)
    (fun s r x => clearK s r x)
    (fun len sz x lo hi => pureS (slpK len sz x lo hi))
    (fun x i => pureS (idxTK x i))
    (fun neg x y => pureS (peqK neg x y))
    (fun q neg x y => pureS (aeqK q neg x y))
    (fun x lo hi => pureS (slcTK x lo hi))
    (fun x y => pureS (catTK x y))
    (fun x => pureS (capSK x))
    (fun x y => appTK x y)
    (fun name x xs => invS P call name x xs)
    (fun f xs => callS call f xs)
    (fun x xs => callvS call x xs)
    (fun n _ _ _ _ _ _ => .bad 51 n) i
end
def szOf (P : Program) (t : TypeId) : Option Nat := (P.info? t).map (·.size)
def nilWord : TypeDesc → Operand → Option (Nat × Nat)
  | .pointer _, .const (.pointer none) => some (10, 10)
  | .slice _, .const (.slice none 0 0) => some (11, 11)
  | .map _ _, .const (.map none) => some (13, 13)
  | .func _ _ _, .const .nilFunc => some (15, 14)
  | .interface _, .const .nilIface => some (17, 16)
  | _, _ => none
def keyKind (P : Program) (t : TypeId) : Option KK :=
  match P.underlying t with
  | some (.int k) => some (.word (tagI k))
  | some .bool => some (.word 1)
  | some .string => some .str
  | some (.array n e) => match P.underlying e, szOf P e with
    | some (.int k), some 1 => some (.row n (tagI k))
    | _, _ => none
  | _ => none
def isI64 (P : Program) (t : TypeId) : Bool := match P.underlying t with | some (.int .i64) => true | _ => false
def i64At (P : Program) (i : Nat) (f : Field) : Bool := f.name != "_" && f.offset == i && isI64 P f.type
def flatK (P : Program) (t : TypeId) : Option KK :=
  if P.eqGuardType P.depth t then none else
  match P.underlying t with
  | some (.array n e) => match P.underlying e, szOf P e with
    | some (.int k), some 1 => some (.row n (tagI k))
    | _, _ => none
  | some (.struct fields) => if P.stoodInHeld t then none else match fields.toList with
    | [a, b, c] => if i64At P 0 a && i64At P 1 b && i64At P 2 c then some (.row 3 5) else none
    | _ => none
  | _ => none
def lowBin (P : Program) (op : BinOp) (t : TypeId) (x y : Operand) (yt : TypeId) : In :=
  match P.underlying t with
  | some (.int k) => match op with
    | .add => match k with | .i64 => .add (lowOpd x) (lowOpd y) | k => .iop .add k (lowOpd x) (lowOpd y)
    | .sub => match k with | .i64 => .sub (lowOpd x) (lowOpd y) | k => .iop .sub k (lowOpd x) (lowOpd y)
    | .eql => .ieq (tagI k) false (lowOpd x) (lowOpd y)
    | .neq => .ieq (tagI k) true (lowOpd x) (lowOpd y)
    | .lss => .ilt (tagI k) false (lowOpd x) (lowOpd y)
    | .gtr => .ilt (tagI k) false (lowOpd y) (lowOpd x)
    | .leq => .ilt (tagI k) true (lowOpd y) (lowOpd x)
    | .geq => .ilt (tagI k) true (lowOpd x) (lowOpd y)
    | .shl => match P.underlying yt with | some (.int yk) => .shf .shl k yk (lowOpd x) (lowOpd y) | _ => .bad 1
    | .shr => match P.underlying yt with | some (.int yk) => .shf .shr k yk (lowOpd x) (lowOpd y) | _ => .bad 1
    | op => .iop op k (lowOpd x) (lowOpd y)
  | some .bool => match op with
    | .eql => .ieq 1 false (lowOpd x) (lowOpd y)
    | .neq => .ieq 1 true (lowOpd x) (lowOpd y)
    | _ => .bad 2
  | some .string => match op with
    | .eql => .seq false (lowOpd x) (lowOpd y)
    | .neq => .seq true (lowOpd x) (lowOpd y)
    | .add => .catT (lowOpd x) (lowOpd y)
    | _ => .bad 3
  | some d => match op, nilWord d y with
    | .eql, some (z, t) => .nilq false z t (lowOpd x)
    | .neq, some (z, t) => .nilq true z t (lowOpd x)
    | .eql, none => match d with | .pointer e => (match szOf P e with | some (_ + 1) => .peq false (lowOpd x) (lowOpd y) | _ => .bad 4) | .array _ _ => (match flatK P t with | some q => .aeq q false (lowOpd x) (lowOpd y) | none => .bad 4) | .struct _ => (match flatK P t with | some q => .aeq q false (lowOpd x) (lowOpd y) | none => .bad 4) | _ => .bad 4
    | .neq, none => match d with | .pointer e => (match szOf P e with | some (_ + 1) => .peq true (lowOpd x) (lowOpd y) | _ => .bad 4) | .array _ _ => (match flatK P t with | some q => .aeq q true (lowOpd x) (lowOpd y) | none => .bad 4) | .struct _ => (match flatK P t with | some q => .aeq q true (lowOpd x) (lowOpd y) | none => .bad 4) | _ => .bad 4
    | _, _ => .bad 4
  | none => .bad 5
def lowCall (P : Program) (o : Oper) (c : Call) : In :=
  match c.callee with
  | .value (.func f) => match P.funcs[f]? with
    | some fn => if fn.body.isSome && fn.name != "runtime.NumGoroutine" then .call f (c.args.toList.map lowOpd) else .bad 10
    | none => .bad 11
  | .value x => .callv (lowOpd x) (c.args.toList.map lowOpd)
  | .invoke x name => .inv name (lowOpd x) (c.args.toList.map lowOpd)
  | .builtin b => match b, c.args.toList, c.argTypes.toList with
    | .len, [x], [t] => match P.underlying t with
      | some (.slice _) => .len (lowOpd x)
      | some .string => .lenT (lowOpd x)
      | some (.map _ _) => .lenM (lowOpd x)
      | _ => .bad 13
    | .append, [x, y], [t, u] => if t = u then match P.underlying t with
        | some (.slice e) => match P.info? e, zeroRow P e with
          | some ie, some (s, _) => if 0 < s ∧ s < 256 ∧ ie.size = s ∧ ie.bytes < 134217728 then .app s (lowOpd x) (lowOpd y) else .bad 14
          | _, _ => .bad 15
        | _ => .bad 16
      else match P.underlying t, P.underlying u with
        | some (.slice e), some .string => match P.info? e with
          | some ie => match ie.zero with
            | some (.int .u8 0) => if ie.size = 1 ∧ ie.bytes = 1 then .appT (lowOpd x) (lowOpd y) else .bad 17
            | _ => .bad 17
          | none => .bad 17
        | _, _ => .bad 17
    | .copy, [x, y], [t, u] => match P.underlying t, P.underlying u with
      | some (.slice e), some (.slice _) => match szOf P e with | some n => if n = 0 then .bad 17 else .copy n (lowOpd x) (lowOpd y) | none => .bad 17
      | _, _ => .bad 17
    | .clear, [x], [t] => match P.underlying t with
      | some (.slice e) => match zeroRow P e with | some (s, r) => if s = 0 then .bad 17 else .clear s r (lowOpd x) | none => .bad 17
      | _ => .bad 17
    | .min, [x, y], _ => match P.underlying o.type with | some (.int k) => .min false (tagI k) (lowOpd x) (lowOpd y) | _ => .bad 18
    | .max, [x, y], _ => match P.underlying o.type with | some (.int k) => .min true (tagI k) (lowOpd x) (lowOpd y) | _ => .bad 18
    | _, _, _ => .bad 19
def lowOp (P : Program) (o : Oper) : In :=
  match o.op with
  | .move x | .assign x => .mov (lowOpd x)
  | .pick c a b => .pick (lowOpd c) (lowOpd a) (lowOpd b)
  | .alloc t => match zeroRow P t with | some (n, r) => .alloc n r | none => .bad 20
  | .box t x => match szOf P t with | some n => .box n (lowOpd x) | none => .bad 21
  | .build t ps => match zeroRow P t, placeOf P t with
    | some (n, r), some pl => match lowParts pl ps.toList with | some l => .bld n r l | none => .bad 22
    | _, _ => .bad 23
  | .buildSlice t len ps => match P.underlying t with
    | some (.slice e) => match P.info? e, zeroRow P e with
      | some ie, some (s, r) => if 0 < s ∧ s < 256 ∧ ie.size = s ∧ len < 65536 then match lowParts (fun i => some (i * s, s)) ps.toList with | some l => .bldS len s r l | none => .bad 24 else .bad 25
      | _, _ => .bad 26
    | _ => .bad 27
  | .load t x => match P.underlying t with
    | some d => if aggD d then match szOf P t with | some n => .loadN n (lowOpd x) | none => .bad 28 else .load1 (lowOpd x)
    | none => .bad 29
  | .store t x v => match szOf P t with | some n => .store n (lowOpd x) (lowOpd v) | none => .bad 30
  | .nilCheck x => .nilc (lowOpd x)
  | .binOp op t x y yt => lowBin P op t x y yt
  | .unOp op t x => match op with
    | .not => .not (lowOpd x)
    | .neg => match P.underlying t with | some (.int k) => .neg k (lowOpd x) | _ => .bad 31
    | _ => .bad 32
  | .convert s d x => match P.underlying s, P.underlying d with
    | some (.int ks), some (.int k) => .conv ks k (lowOpd x)
    | some (.slice e), some .string => match P.underlying e with | some (.int .u8) => .strOf (lowOpd x) | _ => .bad 33
    | some .string, some (.slice e) => match P.underlying e with | some (.int .u8) => .toBytes (lowOpd x) | _ => .bad 33
    | _, _ => .bad 33
  | .makeInterface t x => match P.underlying t with | some (.interface _) => .bad 34 | some _ => .mki t (lowOpd x) | none => .bad 34
  | .makeFunc (.func f) first captured => if first.toList.isEmpty then .mkf f captured.toList.length (captured.toList.map lowOpd) else .bad 35
  | .makeSlice t l c => match P.underlying t with
    | some (.slice e) => match P.info? e, zeroRow P e with
      | some ie, some (s, r) => if 0 < s ∧ s < 256 ∧ ie.size = s ∧ ie.bytes < 1048576 then .mkSl s r (lowOpd l) (lowOpd c) else .bad 36
      | _, _ => .bad 37
    | _ => .bad 38
  | .slice t x lo hi mx => match P.underlying t with
    | some (.slice e) => match P.info? e with
      | some ie => if mx.isSome && hi.isNone then .bad 39 else .slc ie.size (lowOpd x) (lo.map lowOpd) (hi.map lowOpd) (mx.map lowOpd)
      | none => .bad 40
    | some (.array n e) => match szOf P e with
      | some sz => if mx.isSome then .bad 41 else if sz < 256 then .slp n sz (lowOpd x) (lo.map lowOpd) (hi.map lowOpd) else .bad 41
      | none => .bad 41
    | some .string => if mx.isSome then .bad 41 else .slcT (lowOpd x) (lo.map lowOpd) (hi.map lowOpd)
    | _ => .bad 41
  | .fieldAddr s x j => match P.underlying s with
    | some (.struct fields) => match fields[j]? with
      | some fi => match szOf P fi.type with | some n => if n = 0 then .bad 42 else .fadr fi.offset (lowOpd x) | none => .bad 43
      | none => .bad 44
    | _ => .bad 45
  | .field s x j => match P.underlying s with
    | some (.struct fields) => match fields[j]? with
      | some fi => match P.underlying fi.type with
        | some d => if aggD d then match szOf P fi.type with | some n => .fldN fi.offset n (lowOpd x) | none => .bad 46 else .fld1 18 fi.offset (lowOpd x)
        | none => .bad 47
      | none => .bad 48
    | _ => .bad 49
  | .indexAddr t x i => match P.underlying t with
    | some (.slice e) => match szOf P e with | some n => .iadrS n (lowOpd x) (lowOpd i) | none => .bad 50
    | some (.array len e) => match szOf P e with | some n => .iadrA len n (lowOpd x) (lowOpd i) | none => .bad 51
    | _ => .bad 52
  | .index t x i => match P.underlying t with
    | some (.array len e) => match szOf P e, P.underlying e with
      | some 1, some d => if aggD d then .bad 53 else .idx1 len (lowOpd x) (lowOpd i)
      | _, _ => .bad 54
    | some .string => .idxT (lowOpd x) (lowOpd i)
    | _ => .bad 55
  | .makeMap t r => match r, P.underlying t with
    | none, _ => .mkMap
    | some x, some (.map _ _) => .mkMapH (lowOpd x)
    | _, _ => .bad 57
  | .lookup t x i com => match P.underlying t with
    | some (.map k e) => match keyKind P k, zeroW P e with
      | some q, some (agg, n, r) => .look q com agg n r (lowOpd x) (lowOpd i)
      | _, _ => .bad 58
    | _ => .bad 59
  | .mapUpdate t m k x | .insert t m k x => match P.underlying t with
    | some (.map kt _) => match keyKind P kt with | some q => .upd q (lowOpd m) (lowOpd k) (lowOpd x) | none => .bad 60
    | _ => .bad 61
  | .extract x j => .fld1 19 j (lowOpd x)
  | .call c => lowCall P o c
  | _ => .bad 99
end Go.Proofs.YtpjhkpmmbeoghaaGreatDoor.Ev
namespace Go.Proofs.YtpjhkpmmbeoghaaGreatDoor.Ev
open Go
inductive RI where
  | plain (off : Nat) (i : In)
  | none (i : In)
  | guarded (g want off : Nat) (i : In)
  | guardedNone (g want : Nat) (i : In)
inductive RV where
  | slot (off : Nat)
  | cell (off : Nat)
  | cells (off n : Nat)
inductive RR where
  | one (off : Nat)
  | many (n : Nat) (offs : List Nat)
  | gen (n : Nat) (l : List RV)
  | bad
abbrev KN := Fr → Nat → Nat → Nat → Nat → Res
abbrev KX := Nat → KN
abbrev CodeT := Fr → Nat → Nat → Nat → Nat → KN → KX → Res
noncomputable section
def putS (E : Fr) (off w : Nat) : Fr := (fun (_ : Nat) (o : Nat) => @Bool.rec (fun _ => Nat) (E o) w (Nat.beq o off)) hh40
def frOf (ws : List Nat) : Fr := (fun _ : Nat => @List.rec Nat (fun _ => Fr) (fun _ => 0) (fun w _ ih o => @Bool.rec (fun _ => Nat) (ih (Nat.sub o 96)) w (Nat.beq o 0)) ws) hh40
def riK (P : Program) (call : CallT) (x : RI) (E : Fr) (M nm I ni : Nat) (kn : KN) : Res :=
  @RI.rec (fun _ => Fr → Nat → Nat → Nat → Nat → KN → Res)
    (fun off i E M nm I ni kn => stepK P call i E M nm I ni fun w M nm I ni => kn (putS E off w) M nm I ni)
    (fun i E M nm I ni kn => stepK P call i E M nm I ni fun _ M nm I ni => kn E M nm I ni)
    (fun g want off i E M nm I ni kn => iff (Nat.beq (slot E g) want) (stepK P call i E M nm I ni fun w M nm I ni => kn (putS E off w) M nm I ni) (kn (putS E off 0) M nm I ni))
    (fun g want i E M nm I ni kn => iff (Nat.beq (slot E g) want) (stepK P call i E M nm I ni fun _ M nm I ni => kn E M nm I ni) (kn E M nm I ni)) x E M nm I ni kn
def regK (P : Program) (call : CallT) (l : List RI) : Fr → Nat → Nat → Nat → Nat → KN → Res :=
  @List.rec RI (fun _ => Fr → Nat → Nat → Nat → Nat → KN → Res) (fun E M nm I ni kn => kn E M nm I ni) (fun x _ ih E M nm I ni kn => riK P call x E M nm I ni fun E M nm I ni => ih E M nm I ni kn) l
end
def lowRI (P : Program) (nt : Nat) (ops : Array Oper) (o : Oper) : RI :=
  let g : Option (Nat × Nat) := match o.guard with
    | none => none
    | some (j, want) => match (ops[j]?).bind (·.dst) with
      | some t => some (96 * t, if want then 33 else 1)
      | none => some (0, 2)
  match g, o.dst with
  | none, some d => if d < nt then .plain (96 * d) (lowOp P o) else .none (.bad 90)
  | none, none => .none (lowOp P o)
  | some (g, w), some d => if w = 2 then .none (.bad 91) else if d < nt then .guarded g w (96 * d) (lowOp P o) else .none (.bad 90)
  | some (g, w), none => if w = 2 then .none (.bad 91) else .guardedNone g w (lowOp P o)
def clsI : In → Nat
  | .load1 _ | .loadN _ _ | .look .. | .strOf _ => 1
  | .alloc .. | .box .. | .mkSl .. | .bldS .. | .mkMap | .mkMapH _ => 2
  | .store .. | .app .. | .appT .. | .toBytes _ | .lenM _ | .upd .. | .copy .. | .clear .. | .inv .. | .call .. | .callv .. | .bad _ => 3
  | _ => 0
inductive FlS where
  | load (off n : Nat)
  | str (off : Nat)
  | map (off : Nat)
  | bad
structure DI where
  ri : RI
  w : Bool
  fl : List (Option (Nat × Nat) × FlS)
def guardOf (ops : Array Oper) (o : Oper) : Option (Nat × Nat) :=
  match o.guard with
  | none => none
  | some (j, want) => match (ops[j]?).bind (·.dst) with
    | some t => some (96 * t, if want then 33 else 1)
    | none => none
def lowFS (P : Program) (o : Oper) : FlS :=
  match lowOp P o with
  | .load1 (.s off) => .load off 1
  | .loadN n (.s off) => .load off n
  | .strOf (.s off) => .str off
  | .look _ _ _ _ _ (.s off) _ => .map off
  | _ => .bad
def eagerGo (b : Array Nat) (w : Nat → Bool) (n : Nat) : Nat → Nat → List Nat
  | 0, _ => []
  | k + 1, taken =>
    match (List.range n).find? (fun i => !taken.testBit i && !w i && (b.getD i 0) &&& taken == b.getD i 0) with
    | some i => i :: eagerGo b w n k (taken ||| 2 ^ i)
    | none => match (List.range n).find? (fun i => !taken.testBit i && (b.getD i 0) &&& taken == b.getD i 0) with
      | some i => i :: eagerGo b w n k (taken ||| 2 ^ i)
      | none => []
def wOf (P : Program) (ops : Array Oper) (i : Nat) : Bool := match ops[i]? with | some o => clsI (lowOp P o) == 3 | none => true
def rOf (P : Program) (ops : Array Oper) (i : Nat) : Bool := match ops[i]? with | some o => clsI (lowOp P o) == 1 | none => true
def eager (P : Program) (ops : Array Oper) : List Nat := eagerGo (Region.before ops) (wOf P ops) ops.size ops.size 0
def floats (P : Program) (ops : Array Oper) (ahead : List Nat) (i : Nat) : List (Option (Nat × Nat) × FlS) :=
  (ahead.filter fun r => rOf P ops r && !((Region.before ops).getD i 0).testBit r).filterMap fun r => match ops[r]? with | some o => some (guardOf ops o, lowFS P o) | none => none
def lowDI (P : Program) (nt : Nat) (ops : Array Oper) : List Nat → List Nat → List DI
  | _, [] => []
  | ahead, i :: l => match ops[i]? with
    | some o => ⟨lowRI P nt ops o, wOf P ops i, if wOf P ops i then floats P ops ahead i else []⟩ :: lowDI P nt ops (ahead ++ [i]) l
    | none => lowDI P nt ops ahead l
def drawOk (P : Program) (ops : Array Oper) : Bool :=
  let b := Region.before ops
  let l := eager P ops
  let ds := ops.toList.filterMap (·.dst)
  ((List.range ops.size).all fun i => l.contains i && decide (b.getD i 0 < 2 ^ ops.size) && !(b.getD i 0).testBit i) &&
  ((List.range ops.size).all fun j => !rOf P ops j || match ops[j]? with
    | some o => (o.looksAt ops).all fun t => (List.range ops.size).all fun i => match ops[i]? with
      | some oi => oi.dst != some t || (b.getD j 0).testBit i
      | none => true
    | none => true) && decide (l.Nodup) && l.all (· < ops.size) && decide (ds.Nodup) &&
  ((List.range ops.size).all fun j => match ops[j]? with
    | some o => (o.looksAt ops).all fun t => (List.range ops.size).all fun i => match ops[i]? with
      | some oi => oi.dst != some t || i == j || (b.getD j 0).testBit i || (b.getD i 0).testBit j
      | none => true
    | none => true) &&
  ((List.range l.length).all fun q => (List.range q).all fun p => match l[p]?, l[q]? with
    | some i, some j => (!wOf P ops i || (b.getD j 0).testBit i) && !(b.getD i 0).testBit j
    | _, _ => false)
def lowReg (P : Program) (nt : Nat) (ops : Array Oper) : List RI := ops.toList.map (lowRI P nt ops)
def lowRV (P : Program) : ResultVar → Option RV
  | .tmp t => some (.slot (96 * t))
  | .cell t ty => match P.underlying ty with
    | some d => if aggD d then (szOf P ty).map (.cells (96 * t)) else some (.cell (96 * t))
    | none => none
def lowRes (P : Program) (rs : Array ResultVar) : RR :=
  match rs.toList with
  | [.tmp t] => .one (96 * t)
  | l => match l.mapM (fun | .tmp t => some (96 * t) | .cell .. => none) with
    | some offs => .many offs.length offs
    | none => match l.mapM (lowRV P) with
      | some l => .gen l.length l
      | none => .bad
inductive FI where
  | none
  | some (c : Code) (nt : Nat) (r : RR)
def funInfo (P : Program) (f : Nat) : FI :=
  match P.funcs[f]? with
  | .some fn => match fn.body with
    | .some c => .some c fn.ntmps (lowRes P fn.results)
    | .none => .none
  | .none => .none
noncomputable section
def slotsOf (E : Fr) (l : List Nat) : List Nat := @List.rec Nat (fun _ => List Nat) [] (fun o _ r => slot E o :: r) l
def rvsK (l : List RV) (E : Fr) (M I ni : Nat) (k : List Nat → Nat → Nat → Res) : Res :=
  @List.rec RV (fun _ => Nat → Nat → (List Nat → Nat → Nat → Res) → Res) (fun I ni k => k [] I ni)
    (fun v _ ih I ni k => @RV.rec (fun _ => Res) (fun off => ih I ni fun ws I ni => k (slot E off :: ws) I ni)
      (fun off => load1K (.s off) E M I ni fun w I ni => ih I ni fun ws I ni => k (w :: ws) I ni)
      (fun off n => loadNK n (.s off) E M I ni fun w I ni => ih I ni fun ws I ni => k (w :: ws) I ni) v) l I ni k
def fltK (x : Option (Nat × Nat) × FlS) (E : Fr) (M M' : Nat) (k : Res) : Res :=
  @Prod.rec (Option (Nat × Nat)) FlS (fun _ => Res) (fun g s =>
    let go : Res := @FlS.rec (fun _ => Res)
      (fun off n => ptrIn (slot E off) (inK M' (pB (slot E off)) (pOff (slot E off)) n (iff (Nat.beq (rowAt M' (Nat.add (pB (slot E off)) (pOff (slot E off))) n) (rowAt M (Nat.add (pB (slot E off)) (pOff (slot E off))) n)) k (.bad 75 0))))
      (fun off => iff (tg (slot E off) 11) (iff (Nat.beq (sLen (slot E off)) 0) k (inK M' (sB (slot E off)) (sOff (slot E off)) (sLen (slot E off))
        (iff (Nat.beq (rowAt M' (Nat.add (sB (slot E off)) (sOff (slot E off))) (sLen (slot E off))) (rowAt M (Nat.add (sB (slot E off)) (sOff (slot E off))) (sLen (slot E off)))) k (.bad 75 1)))) (.bad 75 2))
      (fun off => iff (Nat.beq (slot E off) 13) k (iff (tg (slot E off) 13) (iff (Nat.beq (hdW M' (Nat.div (slot E off) 32)) 1027) (iff (Nat.beq (cellAt M' (Nat.div (slot E off) 32)) (cellAt M (Nat.div (slot E off) 32))) k (.bad 75 4)) (.bad 75 5)) (.bad 75 6)))
      (.bad 75 3) s
    @Option.rec (Nat × Nat) (fun _ => Res) go (fun gw => @Prod.rec Nat Nat (fun _ => Res) (fun g want => iff (Nat.beq (slot E g) want) go k) gw) g) x
def fltsK (l : List (Option (Nat × Nat) × FlS)) (E : Fr) (M M' : Nat) (k : Res) : Res := @List.rec (Option (Nat × Nat) × FlS) (fun _ => Res) k (fun x _ ih => fltK x E M M' ih) l
def diK (P : Program) (call : CallT) (x : DI) (E : Fr) (M nm I ni : Nat) (kn : KN) : Res :=
  @DI.rec (fun _ => Res) (fun ri w fl => @Bool.rec (fun _ => Res) (riK P call ri E M nm I ni kn) (riK P call ri E M nm I ni fun E' M' nm' I' ni' => fltsK fl E M M' (kn E' M' nm' I' ni')) w) x
def regDK (P : Program) (call : CallT) (l : List DI) : Fr → Nat → Nat → Nat → Nat → KN → Res :=
  @List.rec DI (fun _ => Fr → Nat → Nat → Nat → Nat → KN → Res) (fun E M nm I ni kn => kn E M nm I ni) (fun x _ ih E M nm I ni kn => diK P call x E M nm I ni fun E M nm I ni => ih E M nm I ni kn) l
def retK (r : RR) (E : Fr) (M nm I ni : Nat) (kf : KF) : Res :=
  @RR.rec (fun _ => Fr → Nat → Nat → Nat → Nat → KF → Res)
    (fun off E M nm I ni kf => kf (slot E off) M nm I ni)
    (fun n offs E M nm I ni kf => growK I ni n (rowOf (slotsOf E offs)) fun I' ni' => kf (Nat.add 19 (Nat.mul 32 (Nat.add ni (Nat.mul 16777216 n)))) M nm I' ni')
    (fun n l E M nm I ni kf => rvsK l E M I ni fun ws I ni => @List.rec Nat (fun _ => Res) (.bad 60 1) (fun w ws' _ => @List.rec Nat (fun _ => Res) (kf w M nm I ni)
      (fun _ _ _ => growK I ni n (rowOf ws) fun I' ni' => kf (Nat.add 19 (Nat.mul 32 (Nat.add ni (Nat.mul 16777216 n)))) M nm I' ni') ws') ws)
    (fun _ _ _ _ _ _ => .bad 60 0) r E M nm I ni kf
def condK (c : Opd) (E : Fr) (M nm I ni : Nat) (x y : CodeT) (kn : KN) (kx : KX) : Res :=
  opdK c E I ni fun w _ _ => iff (Nat.beq w 33) (x E M nm I ni kn kx) (iff (Nat.beq w 1) (y E M nm I ni kn kx) (.bad 63 w))
def backK (bw : Nat) (f : Opd) (ps : List Nat) (E : Fr) (M nm I ni : Nat) (ia ib : CodeT) (kn : KN) : Res :=
  opdK f E I ni fun w I ni => iff (tg w 14) (iff (and (Nat.beq (Nat.mod (Nat.div w 32) 1048576) bw) (Nat.beq (Nat.div w 562949953421312) 1))
    (let q := cellAt I (Nat.mod (Nat.div w 33554432) 16777216)
     ptrIn q (inK M (pB q) (pOff q) 1
      (let s := cellAt M (Nat.add (pB q) (pOff q))
       iff (tg s 11) (@Nat.rec (fun _ => Nat → Nat → Nat → Nat → Res) (fun M nm I ni => kn E M nm I ni)
        (fun m ih M nm I ni => inK M (pB q) (pOff q) 1 (iff (Nat.beq (cellAt M (Nat.add (pB q) (pOff q))) s) (inK M (sB s) (Nat.add (sOff s) m) 1
          (let v := cellAt M (Nat.add (sB s) (Nat.add (sOff s) m))
           @List.rec Nat (fun _ => Res) (.bad 74 0) (fun p ps' _ => @List.rec Nat (fun _ => Res) (.bad 74 1) (fun p' _ _ =>
            ia (putS (putS E (Nat.mul 96 p) (Nat.add 295147905179352825861 (Nat.mul 32 m))) (Nat.mul 96 p') v) M nm I ni (fun E M nm I ni => ib E M nm I ni (fun _ M nm I ni => ih M nm I ni) (fun x _ _ _ _ _ => .bad 74 x)) (fun x _ _ _ _ _ => .bad 74 x)) ps') ps)) (.bad 74 2))) (sLen s) M nm I ni) (.bad 74 3)))) (.bad 74 4)) (.bad 74 5)
def noRF (c : Code) : Bool :=
  @Code.rec (fun _ => Bool) true (fun _ _ _ => true) (fun _ _ a b => and a b) (fun _ _ _ a b => and a b) (fun _ _ a => a) (fun _ a => a) (fun _ _ _ _ _ _ => false) (fun _ => true) (fun _ a => a) (fun _ => true) (fun _ => true) true (fun _ => true) c
def psOk (nt : Nat) (ps : List Nat) : Bool := and (Nat.beq (List.length ps) 2) (@List.rec Nat (fun _ => Bool) true (fun p _ ih => and (Nat.blt p nt) ih) ps)
inductive RG where
  | one (x : RI)
  | grp (g want : Nat) (l : List (Option Nat × In))
  | fl (x : DI)
def asG : RI → Option (Nat × Nat × Option Nat × In)
  | .guarded g w off i => some (g, w, some off, i)
  | .guardedNone g w i => some (g, w, none, i)
  | _ => none
def consG (x : RI) (gl : List RG) : List RG :=
  match asG x with
  | none => .one x :: gl
  | some (g, w, d, i) => match gl with
    | .grp g' w' l' :: r => if g = g' ∧ w = w' ∧ d ≠ some g then .grp g w ((d, i) :: l') :: r else .grp g w [(d, i)] :: .grp g' w' l' :: r
    | r => .grp g w [(d, i)] :: r
def groupL (l : List RI) : List RG := @List.rec RI (fun _ => List RG) [] (fun x _ ih => consG x ih) l
def groupD (l : List DI) : List RG := @List.rec DI (fun _ => List RG) [] (fun x _ ih => match x.fl with | [] => consG x.ri ih | _ => .fl x :: ih) l
def putO (E : Fr) (d : Option Nat) (w : Nat) : Fr := @Option.rec Nat (fun _ => Fr) E (fun off => putS E off w) d
def zeroO (l : List (Option Nat × In)) (E : Fr) : Fr := @List.rec (Option Nat × In) (fun _ => Fr → Fr) (fun E => E) (fun p _ ih E => ih (putO E p.1 0)) l E
def grpK (P : Program) (call : CallT) (l : List (Option Nat × In)) : Fr → Nat → Nat → Nat → Nat → KN → Res :=
  @List.rec (Option Nat × In) (fun _ => Fr → Nat → Nat → Nat → Nat → KN → Res) (fun E M nm I ni kn => kn E M nm I ni) (fun p _ ih E M nm I ni kn => stepK P call p.2 E M nm I ni fun w M nm I ni => ih (putO E p.1 w) M nm I ni kn) l
def rgK (P : Program) (call : CallT) (x : RG) (E : Fr) (M nm I ni : Nat) (kn : KN) : Res :=
  @RG.rec (fun _ => Res) (fun x => riK P call x E M nm I ni kn) (fun g want l => iff (Nat.beq (slot E g) want) (grpK P call l E M nm I ni kn) (kn (zeroO l E) M nm I ni)) (fun x => diK P call x E M nm I ni kn) x
def regG (P : Program) (call : CallT) (l : List RG) : Fr → Nat → Nat → Nat → Nat → KN → Res :=
  @List.rec RG (fun _ => Fr → Nat → Nat → Nat → Nat → KN → Res) (fun E M nm I ni kn => kn E M nm I ni) (fun x _ ih E M nm I ni kn => rgK P call x E M nm I ni fun E M nm I ni => ih E M nm I ni kn) l
theorem asG_eq {x : RI} {g w : Nat} {d : Option Nat} {i : In} (h : asG x = some (g, w, d, i)) (P : Program) (call : CallT) (E : Fr) (M nm I ni : Nat) (kn : KN) :
    riK P call x E M nm I ni kn = iff (Nat.beq (slot E g) w) (stepK P call i E M nm I ni fun v M nm I ni => kn (putO E d v) M nm I ni) (kn (putO E d 0) M nm I ni) := by
  cases x with
  | plain => cases h
  | none => cases h
  | guarded g' w' off i' => cases h; rfl
  | guardedNone g' w' i' => cases h; rfl
theorem slot_putO (E : Fr) {d : Option Nat} {g : Nat} (h : d ≠ some g) (v : Nat) : slot (putO E d v) g = slot E g := by
  cases d with
  | none => rfl
  | some off =>
    show @Bool.rec (fun _ => Nat) (E g) v (Nat.beq g off) = E g
    cases hb : Nat.beq g off with
    | false => rfl
    | true => exact absurd (by rw [Nat.eq_of_beq_eq_true hb]) h
theorem consG_eq (P : Program) (call : CallT) (x : RI) (gl : List RG) (E : Fr) (M nm I ni : Nat) (kn : KN) :
    regG P call (consG x gl) E M nm I ni kn = riK P call x E M nm I ni fun E M nm I ni => regG P call gl E M nm I ni kn := by
  unfold consG
  cases ha : asG x with
  | none => rfl
  | some q =>
    obtain ⟨g, w, d, i⟩ := q
    rw [asG_eq ha]
    simp only
    split
    · rename_i g' w' l' r
      split
      · rename_i hc
        obtain ⟨rfl, rfl, hd⟩ := hc
        show iff (Nat.beq (slot E g) w) (stepK P call i E M nm I ni fun v M nm I ni => grpK P call l' (putO E d v) M nm I ni fun E M nm I ni => regG P call r E M nm I ni kn) (regG P call r (zeroO l' (putO E d 0)) M nm I ni kn) =
          iff (Nat.beq (slot E g) w) (stepK P call i E M nm I ni fun v M nm I ni => iff (Nat.beq (slot (putO E d v) g) w) (grpK P call l' (putO E d v) M nm I ni fun E M nm I ni => regG P call r E M nm I ni kn) (regG P call r (zeroO l' (putO E d v)) M nm I ni kn))
            (iff (Nat.beq (slot (putO E d 0) g) w) (grpK P call l' (putO E d 0) M nm I ni fun E M nm I ni => regG P call r E M nm I ni kn) (regG P call r (zeroO l' (putO E d 0)) M nm I ni kn))
        simp only [slot_putO E hd]
        cases Nat.beq (slot E g) w <;> rfl
      · rfl
    · rfl
theorem regG_eq (P : Program) (call : CallT) : ∀ (l : List RI) (E : Fr) (M nm I ni : Nat) (kn : KN), regG P call (groupL l) E M nm I ni kn = regK P call l E M nm I ni kn
  | [], _, _, _, _, _, _ => rfl
  | x :: l, E, M, nm, I, ni, kn => by
    have e : groupL (x :: l) = consG x (groupL l) := rfl
    rw [e, consG_eq]
    have hf : (fun E M nm I ni => regG P call (groupL l) E M nm I ni kn) = fun E M nm I ni => regK P call l E M nm I ni kn := by
      funext E M nm I ni; exact regG_eq P call l E M nm I ni kn
    rw [hf]; rfl
theorem regGD_eq (P : Program) (call : CallT) : ∀ (l : List DI) (E : Fr) (M nm I ni : Nat) (kn : KN), regG P call (groupD l) E M nm I ni kn = regDK P call l E M nm I ni kn
  | [], _, _, _, _, _, _ => rfl
  | ⟨ri, w, fl⟩ :: l, E, M, nm, I, ni, kn => by
    have hf : (fun E M nm I ni => regG P call (groupD l) E M nm I ni kn) = fun E M nm I ni => regDK P call l E M nm I ni kn := by
      funext E M nm I ni; exact regGD_eq P call l E M nm I ni kn
    cases fl with
    | nil =>
      have e : groupD (⟨ri, w, []⟩ :: l) = consG ri (groupD l) := rfl
      rw [e, consG_eq, hf]
      cases w <;> rfl
    | cons y ys =>
      have e : regG P call (groupD (⟨ri, w, y :: ys⟩ :: l)) E M nm I ni kn = diK P call ⟨ri, w, y :: ys⟩ E M nm I ni fun E M nm I ni => regG P call (groupD l) E M nm I ni kn := rfl
      rw [e, hf]; rfl
def LF : Nat := 1000000
def loopK (ib : CodeT) (kx : KX) (m : Nat) : KN := @Nat.rec (fun _ => KN) (fun _ _ _ _ _ => .bad 73 0) (fun _ ih E M nm I ni => ib E M nm I ni ih kx) m
def codeK (P : Program) (bw : Nat) (call : CallT) (nt : Nat) (c : Code) : CodeT :=
  @Code.rec (fun _ => CodeT)
    (fun E M nm I ni kn _ => kn E M nm I ni)
    (fun _ ops d E M nm I ni kn _ => @Bool.rec (fun _ => Res) (regG P call (groupL (lowReg P nt ops)) E M nm I ni kn)
      (iff (drawOk P ops) (regG P call (groupD (lowDI P nt ops [] (eager P ops))) E M nm I ni kn) (.bad 76 0)) d)
    (fun _ _ ia ib E M nm I ni kn kx => ia E M nm I ni (fun E M nm I ni => ib E M nm I ni kn kx) kx)
    (fun c _ _ ia ib E M nm I ni kn kx => condK (lowOpd c) E M nm I ni ia ib kn kx)
    (fun id _ ib E M nm I ni kn kx => ib E M nm I ni kn fun x E M nm I ni => iff (Nat.beq x (Nat.succ id)) (kn E M nm I ni) (kx x E M nm I ni))
    (fun _ ib E M nm I ni _ kx => loopK ib kx LF E M nm I ni)
    (fun f ps a b ia ib E M nm I ni kn _ => iff (and (psOk nt ps.toList) (and (noRF a) (noRF b))) (backK bw (lowOpd f) ps.toList E M nm I ni ia ib kn) (.bad 77 0))
    (fun id E M nm I ni _ kx => kx (Nat.succ id) E M nm I ni)
    (fun _ ib E M nm I ni kn kx => ib E M nm I ni kn kx)
    (fun _ E M nm I ni kn _ => kn E M nm I ni)
    (fun l _ _ _ _ _ _ _ => .bad 71 l)
    (fun E M nm I ni _ kx => kx 0 E M nm I ni)
    (fun _ _ _ _ _ _ _ _ => .bad 72 0) c
def callW (P : Program) (bw : Nat) (call : CallT) (f : Nat) (ws : List Nat) (M nm I ni : Nat) (kf : KF) : Res :=
  @FI.rec (fun _ => List Nat → Nat → Nat → Nat → Nat → KF → Res) (fun _ _ _ _ _ _ => .bad 61 f)
    (fun c nt r ws M nm I ni kf => iff (Nat.ble (List.length ws) nt) (codeK P bw call nt c (frOf ws) M nm I ni (fun E M nm I ni => retK r E M nm I ni kf) (fun x E M nm I ni => iff (Nat.beq x 0) (retK r E M nm I ni kf) (.bad 62 f))) (.bad 64 f)) (funInfo P f) ws M nm I ni kf
def evF (P : Program) (bw fuel : Nat) : CallT := @Nat.rec (fun _ => CallT) (fun f _ _ _ _ _ _ => .bad 73 f) (fun _ ih => callW P bw ih) fuel
end
end Go.Proofs.YtpjhkpmmbeoghaaGreatDoor.Ev
