/- Part 3 of a verified evaluator, and what it reckons of the player. -/
import Derived.Test.YtpjhkpmmbeoghaaGreatDoorK02
import Derived.WalkKit
import Derived.OwnWalk
import Derived.BigRegion
import Derived.Lib.BytesEntry
import Derived.Lib.Bytealg
import Derived.Laws.Externs
import Derived.Lib.Join
import Derived.Lib.Repeat
import Derived.Lib.ItoaNum
import Derived.Shelf.Strings.Builder1
import Derived.Shelf.Strings.Builder2
import Derived.Shelf.Strings.OnBuilder
import Derived.Shelf.Small.Bits
import Derived.Shelf.Strings.BuilderF
import Derived.Shelf.Utf8.RuneCount
import Derived.Shelf.Strconv.Itoa0
import Derived.Shelf.Strconv.Itoa1
import Derived.Shelf.LaysM
import Derived.Shelf.Strconv.Itoa2
import Derived.Shelf.Strconv.Itoa3
import Derived.Shelf.Strings.Search1
import Derived.Shelf.Strings.Search2
import Derived.Shelf.Strings.Search3
import Derived.Shelf.Strings.Cut
import Derived.Shelf.Strings.Count
import Derived.Shelf.Strings.Shaped
import Derived.Shelf.Sort.Plain
import Derived.Shelf.Strings.Prefix
import Derived.Shelf.Strings.Split
import Derived.Shelf.Strings.SplitShaped
import Derived.Shelf.Unicode.Decode
import Derived.Shelf.Strings.RuneCount
import Derived.Shelf.Strings.Explode
import Derived.Shelf.Bits.Mul64
import Derived.Shelf.Strings.Repeat
import Derived.Shelf.Unicode.DecodeSlow
import Derived.Shelf.Unicode.DecodeAny
import Derived.Shelf.Slices.Turned
import Derived.Shelf.Slices.Reverse
import Derived.Ground.Names2Prog
import Derived.Shelf.Slices.Clone
import Derived.Shelf.Slices.CompactI
import Derived.Shelf.Slices.SearchI
import Derived.Shelf.Slices.Cells
import Derived.Shelf.Slices.In.SortNone
import Derived.Shelf.Slices.Empties
import Derived.Ground.SlgnProg
import Derived.Shelf.SlicesE.Clone
import Derived.Test.YtpjhkpmmbeoghaaGreatDoorProg
import Derived.Deep.LoopGhost
import Derived.IntWalk
import Derived.Lib.Builder
import Derived.Lib.AppendStr
import Derived.Lib.AppendZeros
import Derived.BigQuiet
import Derived.Deep.QuietTactic
import Derived.Lib.AppendIntMem
import Derived.WalkSmall
import Derived.Test.YtpjhkpmmbeoghaaGreatDoorChecked
set_option linter.unusedVariables false
set_option linter.unusedSimpArgs false
set_option linter.unusedSectionVars false
namespace Go.Proofs.YtpjhkpmmbeoghaaGreatDoor.Ev
open Go
theorem fok0 {P : Program} {bw f : Nat} {F : CallT → Nat → Nat → Nat → Nat → KF → Res} (h : ∀ call  M nm I ni kf, callW P bw call f [] M nm I ni kf = F call  M nm I ni kf) : FOkS P bw f (fun call => un0 (F call )) := fun call ws M nm I ni =>
  match ws with
  | [] => .inl fun kf => (h call  M nm I ni kf).symm
  | _ :: _ => .inr fun _ h => by cases h
theorem fok1 {P : Program} {bw f : Nat} {F : CallT → Nat → Nat → Nat → Nat → Nat → KF → Res} (h : ∀ call a0 M nm I ni kf, callW P bw call f [a0] M nm I ni kf = F call a0 M nm I ni kf) : FOkS P bw f (fun call => unS fun a0 => un0 (F call a0)) := fun call ws M nm I ni =>
  match ws with
  | [] => .inr fun _ h => by cases h
  | [a0] => .inl fun kf => (h call a0 M nm I ni kf).symm
  | _ :: _ :: _ => .inr fun _ h => by cases h
theorem fok2 {P : Program} {bw f : Nat} {F : CallT → Nat → Nat → Nat → Nat → Nat → Nat → KF → Res} (h : ∀ call a0 a1 M nm I ni kf, callW P bw call f [a0, a1] M nm I ni kf = F call a0 a1 M nm I ni kf) : FOkS P bw f (fun call => unS fun a0 => unS fun a1 => un0 (F call a0 a1)) := fun call ws M nm I ni =>
  match ws with
  | [] => .inr fun _ h => by cases h
  | [_] => .inr fun _ h => by cases h
  | [a0, a1] => .inl fun kf => (h call a0 a1 M nm I ni kf).symm
  | _ :: _ :: _ :: _ => .inr fun _ h => by cases h
theorem fok3 {P : Program} {bw f : Nat} {F : CallT → Nat → Nat → Nat → Nat → Nat → Nat → Nat → KF → Res} (h : ∀ call a0 a1 a2 M nm I ni kf, callW P bw call f [a0, a1, a2] M nm I ni kf = F call a0 a1 a2 M nm I ni kf) : FOkS P bw f (fun call => unS fun a0 => unS fun a1 => unS fun a2 => un0 (F call a0 a1 a2)) := fun call ws M nm I ni =>
  match ws with
  | [] => .inr fun _ h => by cases h
  | [_] => .inr fun _ h => by cases h
  | [_, _] => .inr fun _ h => by cases h
  | [a0, a1, a2] => .inl fun kf => (h call a0 a1 a2 M nm I ni kf).symm
  | _ :: _ :: _ :: _ :: _ => .inr fun _ h => by cases h
theorem fok4 {P : Program} {bw f : Nat} {F : CallT → Nat → Nat → Nat → Nat → Nat → Nat → Nat → Nat → KF → Res} (h : ∀ call a0 a1 a2 a3 M nm I ni kf, callW P bw call f [a0, a1, a2, a3] M nm I ni kf = F call a0 a1 a2 a3 M nm I ni kf) : FOkS P bw f (fun call => unS fun a0 => unS fun a1 => unS fun a2 => unS fun a3 => un0 (F call a0 a1 a2 a3)) := fun call ws M nm I ni =>
  match ws with
  | [] => .inr fun _ h => by cases h
  | [_] => .inr fun _ h => by cases h
  | [_, _] => .inr fun _ h => by cases h
  | [_, _, _] => .inr fun _ h => by cases h
  | [a0, a1, a2, a3] => .inl fun kf => (h call a0 a1 a2 a3 M nm I ni kf).symm
  | _ :: _ :: _ :: _ :: _ :: _ => .inr fun _ h => by cases h
theorem fok5 {P : Program} {bw f : Nat} {F : CallT → Nat → Nat → Nat → Nat → Nat → Nat → Nat → Nat → Nat → KF → Res} (h : ∀ call a0 a1 a2 a3 a4 M nm I ni kf, callW P bw call f [a0, a1, a2, a3, a4] M nm I ni kf = F call a0 a1 a2 a3 a4 M nm I ni kf) : FOkS P bw f (fun call => unS fun a0 => unS fun a1 => unS fun a2 => unS fun a3 => unS fun a4 => un0 (F call a0 a1 a2 a3 a4)) := fun call ws M nm I ni =>
  match ws with
  | [] => .inr fun _ h => by cases h
  | [_] => .inr fun _ h => by cases h
  | [_, _] => .inr fun _ h => by cases h
  | [_, _, _] => .inr fun _ h => by cases h
  | [_, _, _, _] => .inr fun _ h => by cases h
  | [a0, a1, a2, a3, a4] => .inl fun kf => (h call a0 a1 a2 a3 a4 M nm I ni kf).symm
  | _ :: _ :: _ :: _ :: _ :: _ :: _ => .inr fun _ h => by cases h
noncomputable section
def tkk (n t : Nat) (k : Nat → Res) : Res := k (tk n t)
end
end Go.Proofs.YtpjhkpmmbeoghaaGreatDoor.Ev
namespace Go.Proofs.YtpjhkpmmbeoghaaGreatDoor.Ev
open Go
abbrev GT := CallT → List Nat → Nat → Nat → Nat → Nat → KF → Res
inductive FBox where
  | mk (g : GT)
noncomputable section
def nb : FBox := .mk fun _ _ _ _ _ _ _ => .bad 61 0
def look (l : List (Nat × FBox)) (f : Nat) : FBox := @List.rec (Nat × FBox) (fun _ => FBox) nb (fun p _ ih => @Bool.rec (fun _ => FBox) ih p.2 (Nat.beq f p.1)) l
def isOk (r : Res) : Bool := @Res.rec (fun _ => Bool) true (fun _ _ => false) r
def stepS (tab : Nat → FBox) (call : CallT) (f : Nat) (ws : List Nat) (M nm I ni : Nat) (kf : KF) : Res := @FBox.rec (fun _ => Res) (fun g => g call ws M nm I ni kf) (tab f)
def evS (tab : Nat → FBox) (fuel : Nat) : CallT := @Nat.rec (fun _ => CallT) (fun f _ _ _ _ _ _ => .bad 73 f) (fun _ ih => stepS tab ih) fuel
end
section
variable {P : Program} {bw : Nat}
theorem isOk_ok {r : Res} (h : isOk r = true) : r = .ok := by
  cases r with
  | ok => rfl
  | bad => cases h
end
end Go.Proofs.YtpjhkpmmbeoghaaGreatDoor.Ev
set_option linter.unusedVariables false
namespace Go.Proofs.YtpjhkpmmbeoghaaGreatDoor.Ev
open Go
abbrev CpK := Nat → Nat → Nat → Nat → Nat → List Nat → Res
abbrev CpT := Nat → Nat → Nat → Nat → Nat → List Nat → CpK → Res
noncomputable section
def plainW (w : Nat) : Bool := or (and (Nat.blt 0 (Nat.mod w 32)) (Nat.blt (Nat.mod w 32) 10)) (or (Nat.beq w 11) (or (Nat.beq w 10) (or (Nat.beq w 13) (or (Nat.beq w 15) (Nat.beq w 17)))))
def plainR (n b M : Nat) : Bool := @Nat.rec (fun _ => Bool) true (fun i ih => and (plainW (cellAt M (Nat.add b i))) ih) n
def memN (b : Nat) (l : List Nat) : Bool := @List.rec Nat (fun _ => Bool) false (fun x _ ih => or (Nat.beq b x) ih) l
def bLen (M b : Nat) : Nat := Nat.div (hd M b) 1024
def layB (Ms b x r M nm I ni : Nat) (us : List Nat) (k : CpK) : Res :=
  iff (memN b us) (.bad 80 0) (iff (Nat.blt (Nat.add nm (Nat.add 1 (bLen Ms b))) 4194304)
    (k (Nat.sub (Nat.add x (Nat.mul 134217728 (Nat.add nm 1))) (Nat.mul 134217728 b)) (addRow M nm (addRow (hd Ms b) 1 r)) (Nat.add nm (Nat.add 1 (bLen Ms b))) I ni (b :: us)) (.bad 80 1))
def cpCells (g : CpT) (Mc n : Nat) : Nat → Nat → Nat → Nat → Nat → List Nat → (List Nat → Nat → Nat → Nat → Nat → List Nat → Res) → Res :=
  @Nat.rec (fun _ => Nat → Nat → Nat → Nat → Nat → List Nat → (List Nat → Nat → Nat → Nat → Nat → List Nat → Res) → Res) (fun _ M nm I ni us k => k [] M nm I ni us)
    (fun _ ih q M nm I ni us k => g (cellAt Mc q) M nm I ni us fun w M nm I ni us => ih (Nat.add q 1) M nm I ni us fun ws M nm I ni us => k (w :: ws) M nm I ni us) n
def cpSl (kp : Bool) (Ms lo : Nat) (g : CpT) (x M nm I ni : Nat) (us : List Nat) (k : CpK) : Res :=
  iff (Nat.ble (sB x) lo) (@Bool.rec (fun _ => Res) (.bad 81 0) (k x M nm I ni us) kp)
    (iff (Nat.beq (Nat.mod (hd Ms (sB x)) 4) 1)
      (iff (plainR (bLen Ms (sB x)) (sB x) Ms) (layB Ms (sB x) x (rowAt Ms (sB x) (bLen Ms (sB x))) M nm I ni us k)
        (cpCells g Ms (bLen Ms (sB x)) (sB x) M nm I ni us fun ws M nm I ni us => layB Ms (sB x) x (rowOf ws) M nm I ni us k)) (.bad 81 1))
def cpAg (t Is : Nat) (g : CpT) (x M nm I ni : Nat) (us : List Nat) (k : CpK) : Res :=
  cpCells g Is (gN x) (gB x) M nm I ni us fun ws M nm I ni us => growK I ni (gN x) (rowOf ws) fun I' ni' => k (Nat.add t (Nat.mul 32 (Nat.add ni (Nat.mul 16777216 (gN x))))) M nm I' ni' us
def cpW (kp : Bool) (Is Ms lo d : Nat) : CpT :=
  @Nat.rec (fun _ => CpT) (fun x M nm I ni us k => iff (plainW x) (k x M nm I ni us) (.bad 82 0))
    (fun _ ih x M nm I ni us k => iff (plainW x) (k x M nm I ni us) (iff (tg x 11) (cpSl kp Ms lo ih x M nm I ni us k) (iff (tg x 18) (cpAg 18 Is ih x M nm I ni us k) (iff (tg x 19) (cpAg 19 Is ih x M nm I ni us k) (.bad 82 1))))) d
end
section
variable {f f' : Nat → Option FB} {I I' ni ni' w : Nat} {v : Value}
theorem plainW_iff : plainW w = true → (0 < w % 32 ∧ w % 32 < 10) ∨ w = 11 ∨ w = 10 ∨ w = 13 ∨ w = 15 ∨ w = 17 := by
  intro h
  simp only [plainW, Bool.or_eq_true, Bool.and_eq_true] at h
  rcases h with h | h | h | h | h | h
  · exact .inl ⟨blt_iff.1 h.1, blt_iff.1 h.2⟩
  · exact .inr (.inl (Nat.eq_of_beq_eq_true h))
  · exact .inr (.inr (.inl (Nat.eq_of_beq_eq_true h)))
  · exact .inr (.inr (.inr (.inl (Nat.eq_of_beq_eq_true h))))
  · exact .inr (.inr (.inr (.inr (.inl (Nat.eq_of_beq_eq_true h)))))
  · exact .inr (.inr (.inr (.inr (.inr (Nat.eq_of_beq_eq_true h)))))
theorem WR.plain (h : WR f I ni w v) (hp : plainW w = true) : WR f' I' ni' w v := by
  have hpp := plainW_iff hp
  clear hp
  cases h with
  | bool b => exact .bool b
  | int k n p hp hlt => exact .int k n p hp hlt
  | pnil => exact .pnil
  | snil => exact .snil
  | mnil => exact .mnil
  | nilFunc => exact .nilFunc
  | nilIface => exact .nilIface
  | _ => omega
theorem plainR_ok {b M : Nat} : ∀ {n : Nat}, plainR n b M = true → ∀ i, i < n → plainW (cellAt M (b + i)) = true
  | 0, _, i, hi => absurd hi (by omega)
  | n + 1, h, i, hi => by
    have h : and (plainW (cellAt M (Nat.add b n))) (plainR n b M) = true := h
    simp only [Bool.and_eq_true] at h
    rcases Nat.lt_succ_iff_lt_or_eq.1 hi with h1 | rfl
    · exact plainR_ok h.2 i h1
    · exact h.1
theorem memN_ok {b : Nat} : ∀ {l : List Nat}, memN b l = false → b ∉ l
  | [], _ => by simp
  | x :: l, h => by
    have h : or (Nat.beq b x) (memN b l) = false := h
    simp only [Bool.or_eq_false_iff] at h
    intro hm
    rcases List.mem_cons.1 hm with rfl | hm
    · rw [Nat.beq_refl] at h; cases h.1
    · exact memN_ok h.2 hm
theorem iff_not {b : Bool} {x : Res} {m n : Nat} (h : iff b (.bad m n) x = .ok) : b = false ∧ x = .ok := by
  rcases iff_ok h with ⟨_, h⟩ | h
  · cases h
  · exact h
def Ren (cs cd : Cf) (x x' : Nat) : Prop := (plainW x = true ∧ x' = x) ∨
  ∃ b b' off len sz cap : Nat, ∃ (ex : Bool) (F : FB), x = 11 + 32 * (off + 4194304 * (b + 4194304 * (len + 524288 * (sz + 256 * (ex.toNat + 2 * cap))))) ∧ x' = 11 + 32 * (off + 4194304 * (b' + 4194304 * (len + 524288 * (sz + 256 * (ex.toNat + 2 * cap))))) ∧
    0 < b ∧ b < 4194304 ∧ off < 4194304 ∧ len < 524288 ∧ sz < 256 ∧ cap < 524288 ∧ 0 < b' ∧ b' < 4194304 ∧ cs.f b = some F ∧ cd.f b' = some F
theorem Ren.mono {cs cd cd' : Cf} {x x' : Nat} (h : Ren cs cd x x') (hf : FExt cd.f cd'.f) : Ren cs cd' x x' := by
  rcases h with h | ⟨b, b', off, len, sz, cap, ex, F, h1, h2, h3, h4, h5, h6, h7, h8, h9, h10, h11, h12⟩
  · exact .inl h
  · exact .inr ⟨b, b', off, len, sz, cap, ex, F, h1, h2, h3, h4, h5, h6, h7, h8, h9, h10, h11, hf _ _ h12⟩
end
structure Gr (cs cd cd' : Cf) (lo : Nat) : Prop where
  lay : ∀ b n, cd.lay b = some n → cd'.lay b = some n
  layN : ∀ b n, cd'.lay b = some n → cd.lay b = some n ∨ cd.nm < b
  f : FExt cd.f cd'.f
  fN : ∀ b F, cd'.f b = some F → cd.f b = some F ∨ cd.nm < b ∧ ∃ b0, lo < b0 ∧ cs.f b0 = some F ∧ hd cs.M b0 % 4 = 1 ∧ hd cd'.M b = hd cs.M b0 ∧ b + hd cs.M b0 / 1024 ≤ cd'.nm ∧
    ∀ i, i < hd cs.M b0 / 1024 → Ren cs cd' (cellAt cs.M (b0 + i)) (cellAt cd'.M (b + i))
  I : IExt cd.I cd.ni cd'.I cd'.ni
  nm : cd.nm ≤ cd'.nm
  cell : ∀ i, i < cd.nm → cellAt cd'.M i = cellAt cd.M i
  w : cd'.w = cd.w
theorem Gr.refl (cs cd : Cf) (lo : Nat) : Gr cs cd cd lo := ⟨fun _ _ h => h, fun _ _ h => .inl h, .refl _, fun _ _ h => .inl h, .refl _ _, Nat.le_refl _, fun _ _ => rfl, rfl⟩
theorem Gr.trans {cs c1 c2 c3 : Cf} {lo : Nat} (h : Gr cs c1 c2 lo) (h' : Gr cs c2 c3 lo) : Gr cs c1 c3 lo where
  lay b n e := h'.lay b n (h.lay b n e)
  layN b n e := by
    rcases h'.layN b n e with h1 | h1
    · exact h.layN b n h1
    · exact .inr (Nat.lt_of_le_of_lt h.nm h1)
  f := h.f.trans h'.f
  fN b F e := by
    rcases h'.fN b F e with h1 | ⟨h1, h2⟩
    · rcases h.fN b F h1 with h3 | ⟨h3, b0, q1, q2, q3, q4, q5, q6⟩
      · exact .inl h3
      · refine .inr ⟨h3, b0, q1, q2, q3, ?_, Nat.le_trans q5 h'.nm, fun i hi => ?_⟩
        · exact (h'.cell _ (by omega)).trans q4
        · rw [h'.cell _ (by omega)]; exact (q6 i hi).mono h'.f
    · exact .inr ⟨Nat.lt_of_le_of_lt h.nm h1, h2⟩
  I := h.I.trans h'.I
  nm := Nat.le_trans h.nm h'.nm
  cell i hi := (h'.cell i (Nat.lt_of_lt_of_le hi h.nm)).trans (h.cell i hi)
  w := h'.w.trans h.w
theorem Gr.growI (cs cd : Cf) (lo : Nat) {I' ni' : Nat} (hI : IExt cd.I cd.ni I' ni') : Gr cs cd { cd with I := I', ni := ni' } lo := ⟨fun _ _ h => h, fun _ _ h => .inl h, .refl _, fun _ _ h => .inl h, hI, Nat.le_refl _, fun _ _ => rfl, rfl⟩
structure Cp (kp : Bool) (cs cd : Cf) (lo : Nat) (us : List Nat) : Prop where
  hs : HR cs
  hd : HR cd
  w : cd.w = cs.w
  ib : IB cd.I cd.ni
  used : ∀ bd Fd, cd.f bd = some Fd → Ev.hd cd.M bd ≠ 0 → ∀ b F, cs.f b = some F → Ev.hd cs.M b ≠ 0 → Fd.blk = F.blk → b ≤ lo ∨ b ∈ us
  same : kp = true → ∀ b F, b ≤ lo → cs.f b = some F → cd.f b = some F
theorem Cp.growI {kp : Bool} {cs cd : Cf} {lo : Nat} {us : List Nat} (h : Cp kp cs cd lo us) {I' ni' : Nat} (hI : IOk cd.I cd.ni I' ni') : Cp kp cs { cd with I := I', ni := ni' } lo us :=
  ⟨h.hs, h.hd.growI hI.ext hI.lt.1, h.w, hI.lt, h.used, h.same⟩
section
variable {kp : Bool} {cs : Cf} {lo : Nat}
theorem Gr.wr {cd cd' : Cf} (h : Gr cs cd cd' lo) {w : Nat} {v : Value} (hw : WR cd.f cd.I cd.ni w v) : WR cd'.f cd'.I cd'.ni w v := hw.mono h.f h.I
def CpOk (kp : Bool) (cs : Cf) (lo : Nat) (g : CpT) : Prop := ∀ (cd : Cf) (us : List Nat) (x : Nat) (v : Value) (k : CpK), Cp kp cs cd lo us → WR cs.f cs.I cs.ni x v → g x cd.M cd.nm cd.I cd.ni us k = .ok →
  ∃ x' cd' us', k x' cd'.M cd'.nm cd'.I cd'.ni us' = .ok ∧ Cp kp cs cd' lo us' ∧ Gr cs cd cd' lo ∧ WR cd'.f cd'.I cd'.ni x' v ∧ (v.oneCell' = true → Ren cs cd' x x')
theorem layB_ok {cd : Cf} {us : List Nat} (h : Cp kp cs cd lo us) {b off len sz cap r : Nat} {ex : Bool} {F : FB} {A : Addr} {c : Nat} {k : CpK} (q1 : 0 < b) (q2 : b < 4194304) (q3 : cs.f b = some F) (q4 : off < 4194304) (q5 : len < 524288) (q6 : sz < 256) (q7 : len ≤ cap) (q8 : cap < 524288)
    (q9 : ex = true → c = cap) (q10 : ex = false → cap ≤ c ∧ F.base + off + c * sz ≤ F.size) (q11 : c ≠ 0 → A = ⟨F.blk, F.base + off, none⟩) (h2 : hd cs.M b % 4 = 1) (h3a : lo < b)
    (hrow : r < 2 ^ (96 * (hd cs.M b / 1024))) (hcl : ∀ i, i < hd cs.M b / 1024 → ∀ v, WR cs.f cs.I cs.ni (cellAt cs.M (b + i)) v → v.oneCell' = true → WR cd.f cd.I cd.ni (cellAt r i) v ∧ Ren cs cd (cellAt cs.M (b + i)) (cellAt r i))
    (hr : layB cs.M b (11 + 32 * (off + 4194304 * (b + 4194304 * (len + 524288 * (sz + 256 * (ex.toNat + 2 * cap)))))) r cd.M cd.nm cd.I cd.ni us k = .ok) :
    ∃ x' cd' us', k x' cd'.M cd'.nm cd'.I cd'.ni us' = .ok ∧ Cp kp cs cd' lo us' ∧ Gr cs cd cd' lo ∧ WR cd'.f cd'.I cd'.ni x' (.slice (some A) len c) ∧ Ren cs cd' (11 + 32 * (off + 4194304 * (b + 4194304 * (len + 524288 * (sz + 256 * (ex.toNat + 2 * cap)))))) x' := by
  obtain ⟨h3, hr⟩ := iff_not hr
  obtain ⟨h5, hr⟩ := iff_bad hr
  have h5 : cd.nm + (1 + hd cs.M b / 1024) < 4194304 := blt_iff.1 h5
  have h3b := memN_ok h3
  obtain ⟨n0, hl⟩ := h.hs.dom b F q3
  have hn0 := (h.hs.hdr b n0 hl).resolve_left (by omega)
  have hhd : hd cs.M b < 2 ^ 96 := cell_lt _ _
  obtain ⟨ce, elem, fr, e1, e2, e3, e4, e5, e6⟩ := h.hs.cells b F q3 h2
  have hFlt : F.blk < cd.w.heap.size := by rw [h.w]; exact h.hs.lt b F q3
  have hinj : ∀ bd Fd, cd.f bd = some Fd → hd cd.M bd ≠ 0 → Fd.blk ≠ F.blk := fun bd Fd g1 g2 g3 => by
    rcases h.used bd Fd g1 g2 b F q3 (by omega) g3 with g | g
    · omega
    · exact h3b g
  have hcell := fun i => grown_cell (c := cd) (r := r) h.hd hhd i
  have hcin : ∀ i, i < hd cs.M b / 1024 → cellAt (addRow cd.M cd.nm (addRow (hd cs.M b) 1 r)) (cd.nm + 1 + i) = cellAt r i := fun i hi => by
    rw [hcell, if_neg (by omega), if_neg (by omega), show cd.nm + 1 + i - (cd.nm + 1) = i by omega]
  have hfx : FExt cd.f (setN cd.f (cd.nm + 1) F) := fun b' F' e => by
    obtain ⟨n', hl'⟩ := h.hd.dom b' F' e
    have := h.hd.lay0 b' n' hl'
    rw [setN_ne _ _ (by omega)]; exact e
  have hgr : HR (cd.grown (hd cs.M b) (hd cs.M b / 1024) r F cd.w) := by
    refine h.hd.grown hhd rfl hrow (fun _ _ _ _ => rfl) (Nat.le_refl _) hFlt hinj (fun _ => ?_) (fun e => by omega)
    have eh : hd (cd.grown (hd cs.M b) (hd cs.M b / 1024) r F cd.w).M (cd.nm + 1) = hd cs.M b := grown_hd' h.hd hhd
    refine ⟨ce, elem, fr, by show cd.w.heap[_]? = _; rw [h.w]; exact e1, e2, e3, by rw [eh]; exact e4, by rw [eh]; exact e5, fun i hi hlt => ?_⟩
    rw [eh] at hi
    refine ⟨?_, (e6 i hi hlt).2⟩
    have ec : cellAt (cd.grown (hd cs.M b) (hd cs.M b / 1024) r F cd.w).M (cd.nm + 1 + i) = cellAt r i := hcin i hi
    rw [ec]
    exact (hcl i hi _ (e6 i hi hlt).1 (e6 i hi hlt).2).1.mono hfx (.refl _ _)
  have hxx : ∀ z : Nat, z = 11 + 32 * (off + 4194304 * (b + 4194304 * (len + 524288 * (sz + 256 * (ex.toNat + 2 * cap))))) → z + 134217728 * (cd.nm + 1) - 134217728 * b = 11 + 32 * (off + 4194304 * (cd.nm + 1 + 4194304 * (len + 524288 * (sz + 256 * (ex.toNat + 2 * cap))))) := fun z hz => by omega
  have hx' := hxx _ rfl
  refine ⟨_, cd.grown (hd cs.M b) (hd cs.M b / 1024) r F cd.w, b :: us, hr, ⟨h.hs, hgr, h.w, h.ib, fun bd Fd g1 g2 b2 F2 g3 g4 g5 => ?_, fun hk b2 F2 g1 g2 => hfx _ _ (h.same hk b2 F2 g1 g2)⟩, ⟨fun b' n' e => ?_, fun b' n' e => ?_, hfx, fun b' F' e => ?_, .refl _ _, ?_, fun i hi => ?_, rfl⟩, ?_, ?_⟩
  · by_cases hbd : bd = cd.nm + 1
    · subst hbd
      have : Fd = F := by simpa [Cf.grown, setN] using g1.symm
      subst this
      have := h.hs.inj b b2 Fd F2 q3 g3 (by omega) g4 g5
      exact .inr (by simp [this])
    · have g1' : cd.f bd = some Fd := by simpa [Cf.grown, setN, hbd] using g1
      obtain ⟨n', hl'⟩ := h.hd.dom bd Fd g1'
      have hz := h.hd.lay0 bd n' hl'
      have g2' : hd cd.M bd ≠ 0 := by
        rw [← grown_hd (r := r) h.hd hhd (by omega) hz.1]; exact g2
      rcases h.used bd Fd g1' g2' b2 F2 g3 g4 g5 with g | g
      · exact .inl g
      · exact .inr (List.mem_cons_of_mem _ g)
  · have := h.hd.lay0 b' n' e
    show setN cd.lay (cd.nm + 1) _ b' = _
    rw [setN_ne _ _ (by omega)]; exact e
  · simp only [Cf.grown, setN] at e
    split at e
    · exact .inr (by omega)
    · exact .inl e
  · by_cases hbd : b' = cd.nm + 1
    · subst hbd
      have : F' = F := by simpa [Cf.grown, setN] using e.symm
      subst this
      refine .inr ⟨by omega, b, h3a, q3, h2, grown_hd' h.hd hhd, ?_, fun i hi => ?_⟩
      · show _ ≤ cd.nm + (1 + hd cs.M b / 1024); omega
      · have ec : cellAt (cd.grown (hd cs.M b) (hd cs.M b / 1024) r F' cd.w).M (cd.nm + 1 + i) = cellAt r i := hcin i hi
        rw [ec]
        exact ((hcl i hi _ (e6 i hi (by omega)).1 (e6 i hi (by omega)).2).2).mono hfx
    · exact .inl (by simpa [Cf.grown, setN, hbd] using e)
  · show cd.nm ≤ cd.nm + (1 + hd cs.M b / 1024); omega
  · exact (hcell i).trans (if_pos hi)
  · refine Eq.mp (congrArg (fun z => WR (setN cd.f (cd.nm + 1) F) cd.I cd.ni z _) hx'.symm) ?_
    exact .slice (cd.nm + 1) off len sz cap ex F A c (by omega) (by omega) (setN_same _ _ _) q4 q5 q6 q7 q8 q9 q10 q11
  · refine .inr ⟨b, cd.nm + 1, off, len, sz, cap, ex, F, rfl, hx', q1, q2, q4, q5, q6, q8, by omega, by omega, q3, setN_same _ _ _⟩
theorem cpCells_ok {g : CpT} (hg : CpOk kp cs lo g) {Mc : Nat} : ∀ (n : Nat) {q : Nat} {vs : List Value} {cd : Cf} {us : List Nat} (_ : Cp kp cs cd lo us) (_ : vs.length = n) (_ : ∀ i (h : i < vs.length), WR cs.f cs.I cs.ni (cellAt Mc (q + i)) vs[i])
    {k : List Nat → Nat → Nat → Nat → Nat → List Nat → Res} (_ : cpCells g Mc n q cd.M cd.nm cd.I cd.ni us k = .ok),
    ∃ ws cd' us', k ws cd'.M cd'.nm cd'.I cd'.ni us' = .ok ∧ Cp kp cs cd' lo us' ∧ Gr cs cd cd' lo ∧ ws.length = n ∧ ∀ i (h : i < ws.length) (h' : i < vs.length), WR cd'.f cd'.I cd'.ni ws[i] vs[i] ∧ (vs[i].oneCell' = true → Ren cs cd' (cellAt Mc (q + i)) ws[i])
  | 0, q, vs, cd, us, h, hl, hv, k, hr => ⟨[], cd, us, hr, h, .refl _ _ _, rfl, fun i hi => absurd hi (by simp)⟩
  | n + 1, q, [], cd, us, h, hl, hv, k, hr => by simp at hl
  | n + 1, q, v :: vs, cd, us, h, hl, hv, k, hr => by
    obtain ⟨x', c1, us1, hr1, h1, g1, w1, r1⟩ := hg cd us _ v (fun w M nm I ni us => cpCells g Mc n (Nat.add q 1) M nm I ni us fun ws M nm I ni us => k (w :: ws) M nm I ni us) h (hv 0 (by simp)) hr
    obtain ⟨ws, c2, us2, hr2, h2, g2, e2, w2⟩ := cpCells_ok hg n h1 (q := q + 1) (vs := vs) (by simpa using hl) (fun i hi => by
      have := hv (i + 1) (by simpa using hi)
      rw [show q + 1 + i = q + (i + 1) by omega]; exact this) hr1
    refine ⟨x' :: ws, c2, us2, hr2, h2, g1.trans g2, by simp [e2], fun i hi hi' => ?_⟩
    cases i with
    | zero => exact ⟨g2.wr w1, fun ho => (r1 ho).mono g2.f⟩
    | succ i =>
      have := w2 i (by simpa using hi) (by simpa using hi')
      rw [show q + 1 + i = q + (i + 1) by omega] at this
      exact this
theorem row_words {f : Nat → Option FB} {I ni : Nat} {ws : List Nat} {vs : List Value} (hl : ws.length = vs.length) (hw : ∀ i (h : i < ws.length) (h' : i < vs.length), WR f I ni ws[i] vs[i]) :
    rowOf ws < 2 ^ (96 * ws.length) ∧ ∀ i (h : i < ws.length), cellAt (rowOf ws) i = ws[i] :=
  rowOf_ok fun w hm => by
    obtain ⟨i, hi, rfl⟩ := List.getElem_of_mem hm
    exact (hw i hi (by omega)).lt96
theorem cpSl_ok {g : CpT} (hg : CpOk kp cs lo g) {cd : Cf} {us : List Nat} (h : Cp kp cs cd lo us) {x : Nat} {v : Value} (hx : WR cs.f cs.I cs.ni x v) (ht : x % 32 = 11) (hne : x ≠ 11) {k : CpK} (hr : cpSl kp cs.M lo g x cd.M cd.nm cd.I cd.ni us k = .ok) :
    ∃ x' cd' us', k x' cd'.M cd'.nm cd'.I cd'.ni us' = .ok ∧ Cp kp cs cd' lo us' ∧ Gr cs cd cd' lo ∧ WR cd'.f cd'.I cd'.ni x' v ∧ (v.oneCell' = true → Ren cs cd' x x') := by
  rcases hx.inv_slice ht with ⟨rfl, rfl⟩ | ⟨b, off, len, sz, cap, ex, F, A, c, q1, q2, q3, q4, q5, q6, q7, q8, q9, q10, q11, rfl, rfl⟩
  · exact absurd rfl hne
  have hb : sB (11 + 32 * (off + 4194304 * (b + 4194304 * (len + 524288 * (sz + 256 * (ex.toNat + 2 * cap)))))) = b := by
    show ((11 + 32 * (off + 4194304 * (b + 4194304 * (len + 524288 * (sz + 256 * (ex.toNat + 2 * cap)))))) / 134217728) % 4194304 = b
    omega
  unfold cpSl at hr
  rw [hb] at hr
  rcases iff_ok hr with ⟨h1, hr⟩ | ⟨h1, hr⟩
  · have h1 : b ≤ lo := Nat.le_of_ble_eq_true h1
    cases kp with
    | false => cases hr
    | true =>
      have hfd := h.same rfl b F h1 q3
      exact ⟨_, cd, us, hr, h, .refl _ _ _, .slice b off len sz cap ex F A c q1 q2 hfd q4 q5 q6 q7 q8 q9 q10 q11, fun _ => .inr ⟨b, b, off, len, sz, cap, ex, F, rfl, rfl, q1, q2, q4, q5, q6, q8, q1, q2, q3, hfd⟩⟩
  have h1 : lo < b := by
    have : ¬ b ≤ lo := fun e => by rw [Nat.ble_eq_true_of_le e] at h1; cases h1
    omega
  obtain ⟨h2, hr⟩ := iff_bad hr
  have h2 : hd cs.M b % 4 = 1 := Nat.eq_of_beq_eq_true h2
  rcases iff_ok hr with ⟨h3, hr⟩ | ⟨-, hr⟩
  · have h4 := plainR_ok h3
    obtain ⟨x', cd', us', p1, p2, p3, p4, p5⟩ := layB_ok h q1 q2 q3 q4 q5 q6 q7 q8 q9 q10 q11 h2 h1 (row_lt _ _ _) (fun i hi v hv _ => by
      rw [cell_row hi]
      exact ⟨hv.plain (h4 i hi), .inl ⟨h4 i hi, rfl⟩⟩) hr
    exact ⟨x', cd', us', p1, p2, p3, p4, fun _ => p5⟩
  · obtain ⟨ce, elem, fr, e1, e2, e3, e4, e5, e6⟩ := h.hs.cells b F q3 h2
    have hlen : (ce.toList.drop F.base |>.take (hd cs.M b / 1024)).length = hd cs.M b / 1024 := by simp; omega
    obtain ⟨ws, c1, us1, r1, r2, r3, r4, r5⟩ := cpCells_ok hg (hd cs.M b / 1024) h (q := b) (Mc := cs.M) (vs := ce.toList.drop F.base |>.take (hd cs.M b / 1024)) hlen (fun i hi => by
      have hi' : i < hd cs.M b / 1024 := by omega
      have := (e6 i hi' (by omega)).1
      simpa using this) (k := fun ws M nm I ni us => layB cs.M b (11 + 32 * (off + 4194304 * (b + 4194304 * (len + 524288 * (sz + 256 * (ex.toNat + 2 * cap)))))) (rowOf ws) M nm I ni us k) hr
    obtain ⟨s1, s2⟩ := row_words (hl := r4.trans hlen.symm) (fun i hi hi' => (r5 i hi hi').1)
    rw [r4] at s1
    obtain ⟨x', cd', us', p1, p2, p3, p4, p5⟩ := layB_ok r2 q1 q2 q3 q4 q5 q6 q7 q8 q9 q10 q11 h2 h1 s1 (fun i hi v hv ho => by
      have hi' : i < ws.length := by omega
      rw [s2 i hi']
      have := r5 i hi' (by omega)
      have hre := this.2 (by
        have := (e6 i hi (by omega)).2
        simpa using this)
      refine ⟨?_, hre⟩
      rcases hre with ⟨z1, z2⟩ | ⟨b2, b2', off2, len2, sz2, cap2, ex2, F2, z1, z2, z3, z4, z5, z6, z7, z8, z9, z10, z11, z12⟩
      · rw [z2]; exact hv.plain z1
      · rw [z2]
        rw [z1] at hv
        have hx2 : ex2.toNat ≤ 1 := by cases ex2 <;> decide
        rcases hv.inv_slice (by omega) with ⟨y, -⟩ | ⟨b3, off3, len3, sz3, cap3, ex3, F3, A3, c3, y1, y2, y3, y4, y5, y6, y7, y8, y9, y10, y11, y12, rfl⟩
        · omega
        · have hx3 : ex3.toNat ≤ 1 := by cases ex3 <;> decide
          obtain rfl : b2 = b3 := by omega
          obtain rfl : off2 = off3 := by omega
          obtain rfl : len2 = len3 := by omega
          obtain rfl : sz2 = sz3 := by omega
          have ee : ex2.toNat = ex3.toNat := by omega
          obtain rfl : cap2 = cap3 := by omega
          obtain rfl : ex2 = ex3 := by cases ex2 <;> cases ex3 <;> first | rfl | cases ee
          rw [z11] at y3
          obtain rfl := Option.some.inj y3
          exact .slice b2' off2 len2 sz2 cap2 ex2 F2 A3 c3 z9 z10 z12 y4 y5 y6 y7 y8 y9 y10 y11) r1
    exact ⟨x', cd', us', p1, p2, r3.trans p3, p4, fun _ => p5⟩
theorem cpAg_ok {g : CpT} (hg : CpOk kp cs lo g) {cd : Cf} {us : List Nat} (h : Cp kp cs cd lo us) {x t : Nat} {v : Value} (hx : WR cs.f cs.I cs.ni x v) (ht : x % 32 = t) (ht2 : t = 18 ∨ t = 19) {k : CpK} (hr : cpAg t cs.I g x cd.M cd.nm cd.I cd.ni us k = .ok) :
    ∃ x' cd' us', k x' cd'.M cd'.nm cd'.I cd'.ni us' = .ok ∧ Cp kp cs cd' lo us' ∧ Gr cs cd cd' lo ∧ WR cd'.f cd'.I cd'.ni x' v ∧ (v.oneCell' = true → Ren cs cd' x x') := by
  have hall : ∃ b n vs, vs.size = n ∧ n < 16777216 ∧ b < 16777216 ∧ (∀ i (h : i < vs.size), WR cs.f cs.I cs.ni (cellAt cs.I (b + i)) vs[i]) ∧ x = t + 32 * (b + 16777216 * n) ∧
      ((t = 18 ∧ v = .agg vs ∧ ∀ i (h : i < vs.size), vs[i].oneCell' = true) ∨ (t = 19 ∧ v = .tuple vs)) := by
    rcases ht2 with rfl | rfl
    · obtain ⟨b, n, vs, rfl, q1, q2, q3, q4, q5, q6, rfl⟩ := hx.inv_agg ht
      exact ⟨b, n, vs, q1, q3, q4, q6, rfl, .inl ⟨rfl, rfl, q2⟩⟩
    · obtain ⟨b, n, vs, rfl, q1, q3, q4, q5, q6, rfl⟩ := hx.inv_tuple ht
      exact ⟨b, n, vs, q1, q3, q4, q6, rfl, .inr ⟨rfl, rfl⟩⟩
  obtain ⟨b, n, vs, q1, q2, q3, q4, q5, q6⟩ := hall
  have eb : gB x = b := by rw [q5]; show ((t + 32 * (b + 16777216 * n)) / 32) % 16777216 = b; rcases ht2 with rfl | rfl <;> omega
  have en : gN x = n := by rw [q5]; show (t + 32 * (b + 16777216 * n)) / 536870912 = n; rcases ht2 with rfl | rfl <;> omega
  unfold cpAg at hr
  rw [eb, en] at hr
  obtain ⟨ws, c1, us1, r1, r2, r3, r4, r5⟩ := cpCells_ok hg n h (q := b) (Mc := cs.I) (vs := vs.toList) (by simpa using q1) (fun i hi => by simpa using q4 i (by simpa using hi))
    (k := fun ws M nm I ni us => growK I ni n (rowOf ws) fun I' ni' => k (Nat.add t (Nat.mul 32 (Nat.add ni (Nat.mul 16777216 n)))) M nm I' ni' us) hr
  obtain ⟨h4, hr2⟩ := growK_ok r1
  obtain ⟨s1, s2⟩ := row_words (vs := vs.toList) (by simp [r4, q1]) (fun i hi hi' => (r5 i hi hi').1)
  rw [r4] at s1
  have io : IOk c1.I c1.ni (addRow c1.I c1.ni (rowOf ws)) (c1.ni + n) := .grow r2.ib s1 h4
  have hcells : ∀ i (h : i < vs.size), WR c1.f (addRow c1.I c1.ni (rowOf ws)) (c1.ni + n) (cellAt (addRow c1.I c1.ni (rowOf ws)) (c1.ni + i)) vs[i] := fun i hi => by
    have hi' : i < ws.length := by omega
    rw [cell_add r2.ib.1, if_neg (by omega), Nat.add_sub_cancel_left, s2 i hi']
    have := (r5 i hi' (by simpa using hi)).1
    exact (by simpa using this : WR c1.f c1.I c1.ni ws[i] vs[i]).mono (.refl _) io.ext
  refine ⟨_, { c1 with I := addRow c1.I c1.ni (rowOf ws), ni := c1.ni + n }, us1, hr2, r2.growI io, r3.trans (.growI _ _ _ io.ext), ?_, fun ho => ?_⟩
  · rcases q6 with ⟨rfl, rfl, q7⟩ | ⟨rfl, rfl⟩
    · exact .agg c1.ni n vs q1 q7 q2 (by omega) (Nat.le_refl _) hcells
    · exact .tuple c1.ni n vs q1 q2 (by omega) (Nat.le_refl _) hcells
  · rcases q6 with ⟨rfl, rfl, q7⟩ | ⟨rfl, rfl⟩ <;> cases ho
theorem cpW_ok : ∀ d, CpOk kp cs lo (cpW kp cs.I cs.M lo d)
  | 0 => fun cd us x v k h hx hr => by
    obtain ⟨h1, hr⟩ := iff_bad hr
    exact ⟨x, cd, us, hr, h, .refl _ _ _, hx.plain h1, fun _ => .inl ⟨h1, rfl⟩⟩
  | d + 1 => fun cd us x v k h hx hr => by
    rcases iff_ok hr with ⟨h1, hr⟩ | ⟨h0, hr⟩
    · exact ⟨x, cd, us, hr, h, .refl _ _ _, hx.plain h1, fun _ => .inl ⟨h1, rfl⟩⟩
    rcases iff_ok hr with ⟨h1, hr⟩ | ⟨-, hr⟩
    · refine cpSl_ok (cpW_ok d) h hx (Nat.eq_of_beq_eq_true h1) (fun e => ?_) hr
      subst e
      exact absurd h0 (by decide)
    rcases iff_ok hr with ⟨h1, hr⟩ | ⟨-, hr⟩
    · exact cpAg_ok (cpW_ok d) h hx (Nat.eq_of_beq_eq_true h1) (.inl rfl) hr
    obtain ⟨h1, hr⟩ := iff_bad hr
    exact cpAg_ok (cpW_ok d) h hx (Nat.eq_of_beq_eq_true h1) (.inr rfl) hr
end
end Go.Proofs.YtpjhkpmmbeoghaaGreatDoor.Ev
set_option linter.unusedVariables false
namespace Go.Proofs.YtpjhkpmmbeoghaaGreatDoor.Ev
open Go
noncomputable section
def dropT (d : Nat) (g : List Nat → Nat → Nat → Nat → Nat → KF → Res) (ws : List Nat) (M nm I ni : Nat) (kf : KF) : Res :=
  g ws M nm I ni fun w M' nm' I' ni' => iff (Nat.beq nm' nm) (kf w M' nm' I' ni') (iff (Nat.beq (rowAt M' 0 nm) M) (cpW true I' M' nm d w M nm I ni [] fun w M nm I ni _ => kf w M nm I ni) (kf w M' nm' I' ni'))
end
theorem WR.cutF {g f : Nat → Option FB} {I ni w : Nat} {u v : Value} (h1 : WR g I ni w u) (hf : FExt g f) (h : WR f I ni w v) : WR g I ni w v := by
  induction h generalizing u with
  | undef => exact .undef
  | bool b => exact .bool b
  | int k n p hp hlt => exact .int k n p hp hlt
  | pnil => exact .pnil
  | ptr b off F hb hb2 hfb ho =>
    rcases h1.inv_ptr (by omega) with ⟨q, -⟩ | ⟨b', off', F', q1, q2, q3, q4, q5, -⟩
    · omega
    · obtain rfl : b = b' := by omega
      obtain rfl : off = off' := by omega
      rw [hf _ _ q3] at hfb
      obtain rfl := Option.some.inj hfb
      exact .ptr b off F' hb hb2 q3 ho
  | snil => exact .snil
  | slice b off len sz cap ex F A c hb hb2 hff ho hlen hsz hc hcap h3 h4 hA =>
    have hx : ex.toNat ≤ 1 := by cases ex <;> decide
    rcases h1.inv_slice (by omega) with ⟨q, -⟩ | ⟨b', off', len', sz', cap', ex', F', A', c', q1, q2, q3, q4, q5, q6, q7, q8, q9, q10, q11, q12, -⟩
    · omega
    · have hx' : ex'.toNat ≤ 1 := by cases ex' <;> decide
      obtain rfl : b = b' := by omega
      rw [hf _ _ q3] at hff
      obtain rfl := Option.some.inj hff
      exact .slice b off len sz cap ex F' A c hb hb2 q3 ho hlen hsz hc hcap h3 h4 hA
  | str q n s hn hn2 hq hv hi => exact .str q n s hn hn2 hq hv hi
  | mnil => exact .mnil
  | map b F hb hb2 hfb =>
    rcases h1.inv_map (by omega) with ⟨q, -⟩ | ⟨b', F', q1, q2, q3, q4, -⟩
    · omega
    · obtain rfl : b = b' := by omega
      rw [hf _ _ q3] at hfb
      obtain rfl := Option.some.inj hfb
      exact .map b F' hb hb2 q3
  | func fn b n cs hn hn2 hfn hb hi hv ih =>
    obtain ⟨fn', b', n', cs', -, hn', hn2', hfn', hb', hi', hv', hw⟩ := h1.inv_func (by omega)
    obtain rfl : b = b' := by omega
    obtain rfl : n = n' := by omega
    exact .func fn b n cs hn hn2 hfn hb hi fun i h => ih i h (hv' i (by omega))
  | nilFunc => exact .nilFunc
  | iface t b v ht hb hi hv ih =>
    obtain ⟨t', b', x, -, q1, q2, q3, q4, q5⟩ := h1.inv_iface (by omega)
    obtain rfl : b = b' := by omega
    exact .iface t b v ht hb hi (ih q4)
  | nilIface => exact .nilIface
  | agg b n cs hn hone hn2 hb hi hv ih =>
    obtain ⟨b', n', cs', -, hn', -, hn2', hb', hi', hv', hw⟩ := h1.inv_agg (by omega)
    obtain rfl : b = b' := by omega
    obtain rfl : n = n' := by omega
    exact .agg b n cs hn hone hn2 hb hi fun i h => ih i h (hv' i (by omega))
  | tuple b n cs hn hn2 hb hi hv ih =>
    obtain ⟨b', n', cs', -, hn', hn2', hb', hi', hv', hw⟩ := h1.inv_tuple (by omega)
    obtain rfl : b = b' := by omega
    obtain rfl : n = n' := by omega
    exact .tuple b n cs hn hn2 hb hi fun i h => ih i h (hv' i (by omega))
theorem WR.cut2 {g f : Nat → Option FB} {I ni I' ni' w : Nat} {u v : Value} (h1 : WR g I ni w u) (hf : FExt g f) (hI : IExt I ni I' ni') (h : WR f I' ni' w v) : WR g I ni w v := h1.cutF hf (h1.cutI hI h)
theorem HR.back {c c' : Cf} (h : HR c) (h' : HR c') (hf : FExt c.f c'.f) (hI : IExt c.I c.ni c'.I c'.ni) (hcell : ∀ i, i < c.nm → cellAt c'.M i = cellAt c.M i) (hsz : c.w.heap.size ≤ c'.w.heap.size) : HR { c with w := c'.w } where
  mlt := h.mlt
  ilt := h.ilt
  lay0 := h.lay0
  apart := h.apart
  dom := h.dom
  hdr := h.hdr
  cells b F hb hk := by
    have hk : hd c.M b % 4 = 1 := hk
    obtain ⟨n, hl⟩ := h.dom b F hb
    have h0 := h.lay0 b n hl
    have hn := (h.hdr b n hl).resolve_left (by omega)
    have eh : hd c'.M b = hd c.M b := hcell _ (by omega)
    obtain ⟨cs, elem, fr, e1, e2, e3, e4, e5, e6⟩ := h.cells b F hb hk
    obtain ⟨cs', elem', fr', g1, g2, g3, g4, g5, g6⟩ := h'.cells b F (hf b F hb) (by rw [eh]; exact hk)
    rw [eh] at g4 g5
    refine ⟨cs', elem', fr', g1, g2, g3, g4, g5, fun i hi hlt => ?_⟩
    have hi : i < hd c.M b / 1024 := hi
    have g7 := g6 i (by rw [eh]; exact hi) hlt
    rw [hcell _ (by omega)] at g7
    exact ⟨(e6 i hi (by omega)).1.cut2 hf hI g7.1, g7.2⟩
  maps b F hb hk := by
    have hk : hd c.M b % 4 = 3 := hk
    obtain ⟨n, hl⟩ := h.dom b F hb
    have h0 := h.lay0 b n hl
    have hn := (h.hdr b n hl).resolve_left (by omega)
    have eh : hd c'.M b = hd c.M b := hcell _ (by omega)
    obtain ⟨y0, es, clock, b1, k1, y1, y2, y3, y4, y5, y6⟩ := h.maps b F hb hk
    obtain ⟨z0, es', clock', b2, k2, z1, z2, z3, z4, z5, z6⟩ := h'.maps b F (hf b F hb) (by rw [eh]; exact hk)
    have y0 : hd c.M b = 1027 := y0
    rw [hcell b (by omega), y3] at z3
    obtain rfl : b1 = b2 := by omega
    obtain rfl : k1 = k2 := by omega
    refine ⟨y0, es', clock', b1, k1, z1, z2, y3, y4, y5, fun i hi => ?_⟩
    obtain ⟨z7, z8⟩ := z6 i hi
    obtain ⟨y7, y8⟩ := y6 i (by omega)
    rw [hI.cell (by omega)] at z7 z8
    exact ⟨y7.cut2 hf hI z7, y8.cut2 hf hI z8⟩
  lt b F hb := Nat.lt_of_lt_of_le (h.lt b F hb) hsz
  inj := h.inj
theorem HR.retold {c : Cf} (h : HR c) {w' : World} (hsz : c.w.heap.size ≤ w'.heap.size) (hk : ∀ b F, c.f b = some F → hd c.M b ≠ 0 → w'.heap[F.blk]? = c.w.heap[F.blk]? ∨ CellsOk { c with w := w' } b F ∧ hd c.M b % 4 = 1) : HR { c with w := w' } where
  mlt := h.mlt
  ilt := h.ilt
  lay0 := h.lay0
  apart := h.apart
  dom := h.dom
  hdr := h.hdr
  cells b F hf hb := by
    have hb : hd c.M b % 4 = 1 := hb
    rcases hk b F hf (by omega) with e | ⟨e, -⟩
    · obtain ⟨cs, elem, fr, h1, h2⟩ := h.cells b F hf hb
      exact ⟨cs, elem, fr, e.trans h1, h2⟩
    · exact e
  maps b F hf hb := by
    have hb : hd c.M b % 4 = 3 := hb
    rcases hk b F hf (by omega) with e | ⟨-, e⟩
    · obtain ⟨h0, es, clock, b', k, h1, h2⟩ := h.maps b F hf hb
      exact ⟨h0, es, clock, b', k, e.trans h1, h2⟩
    · omega
  lt b F hf := Nat.lt_of_lt_of_le (h.lt b F hf) hsz
  inj := h.inj
section
variable {P : Program} {d : Nat} {f : Nat}
def SndAt (P : Program) (f : Nat) (h : List Nat → Nat → Nat → Nat → Nat → KF → Res) : Prop :=
  ∀ (ws : List Nat) (c : Cf) (kf : KF) (args : Array Value), h ws c.M c.nm c.I c.ni kf = .ok → HR c → IB c.I c.ni → args.size = ws.length → (∀ i (h : i < ws.length) (h' : i < args.size), WR c.f c.I c.ni ws[i] args[i]) →
    (∃ fn, P.funcs[f]? = some fn ∧ fn.body.isSome = true) ∧ ∀ (F : Fence) (n : Nat), FOK F → CallsIn F n P f args c.w (CallPost c kf)
theorem dropT_ok {g : List Nat → Nat → Nat → Nat → Nat → KF → Res} (hg : SndAt P f g) : SndAt P f (dropT d g) := by
  intro ws c kf args hr h0 hI hs ha
  obtain ⟨hfn, hc⟩ := hg ws c _ args hr h0 hI hs ha
  refine ⟨hfn, fun F n hF => (hc F n hF).mono ?_⟩
  rintro e w' ⟨word, v, c', rfl, rfl, h1, h2, h3, h4, h5⟩
  rcases iff_ok h1 with ⟨-, h1⟩ | ⟨-, h1⟩
  · exact ⟨word, v, c', rfl, rfl, h1, h2, h3, h4, h5⟩
  rcases iff_ok h1 with ⟨h6, h7⟩ | ⟨-, h1⟩
  case inr => exact ⟨word, v, c', rfl, rfl, h1, h2, h3, h4, h5⟩
  have h6 : rowAt c'.M 0 c.nm = c.M := Nat.eq_of_beq_eq_true h6
  have hcell : ∀ i, i < c.nm → cellAt c'.M i = cellAt c.M i := fun i hi => by
    have := cell_row (c := c'.M) (a := 0) hi
    rw [h6] at this
    rw [this, Nat.zero_add]
  have hd0 : ∀ b F, c.f b = some F → 0 < b ∧ b ≤ c.nm ∧ hd c'.M b = hd c.M b := fun b F hf => by
    obtain ⟨n, hl⟩ := h0.dom b F hf
    have := h0.lay0 b n hl
    exact ⟨by omega, by omega, hcell _ (by omega)⟩
  have hback := h0.back h2 h4.f h4.I hcell h4.size
  obtain ⟨x', c2, us2, z1, z2, z3, z4, -⟩ := cpW_ok (kp := true) (cs := c') (lo := c.nm) d { c with w := c'.w } [] word v (fun w M nm I ni _ => kf w M nm I ni) ⟨h2, hback, rfl, hI, fun bd Fd g1 g2 b F g3 g4 g5 => by
    obtain ⟨y1, y2, y3⟩ := hd0 bd Fd g1
    have g2 : hd c.M bd ≠ 0 := g2
    have := h2.inj bd b Fd F (h4.f bd Fd g1) g3 (by rw [y3]; exact g2) g4 g5
    exact .inl (by omega), fun _ b F g1 g2 => by
    rcases h4.fN b F g2 with g | g
    · exact g
    · omega⟩ h5 h7
  have hw2 : c2.w = c'.w := z3.w
  refine ⟨x', v, c2, rfl, hw2.symm, z1, z2.hd, z2.ib, ?_, z4⟩
  refine ⟨z3.lay, z3.layN, z3.f, fun b F hf => ?_, z3.I, z3.nm, fun b n hl _ i h1 h2 => ?_, by rw [hw2]; exact h4.tape, by rw [hw2]; exact h4.size, by rw [hw2]; exact h4.frame, fun b F hf hne hlt => ?_⟩
  · rcases z3.fN b F hf with g | ⟨g, -⟩
    · exact .inl g
    · exact .inr g
  · have := h0.lay0 b n hl
    exact z3.cell i (by show i < c.nm; omega)
  · rcases z3.fN b F hf with g | ⟨-, b0, g1, g2, g3, -⟩
    · refine ⟨b, F, g, ?_, rfl⟩
      obtain ⟨n, hl⟩ := h0.dom b F g
      have := h0.lay0 b n hl
      have e : hd c2.M b = hd c.M b := z3.cell _ (by show b - 1 < c.nm; omega)
      rw [← e]; exact hne
    · exact h4.img b0 F g2 (by omega) hlt
end
end Go.Proofs.YtpjhkpmmbeoghaaGreatDoor.Ev
set_option linter.unusedVariables false
namespace Go.Proofs.YtpjhkpmmbeoghaaGreatDoor.Ev
open Go
noncomputable section
def dropG (d : Nat) (g : GT) : GT := fun call ws M nm I ni kf => dropT d (g call) ws M nm I ni kf
def chkK (w M nm I ni : Nat) : KF := fun w' M' nm' I' ni' => iff (and (Nat.beq w' w) (and (Nat.beq M' M) (and (Nat.beq nm' nm) (and (Nat.beq I' I) (Nat.beq ni' ni))))) .ok (.bad 86 0)
end
section
variable {κ : Type} {L : (κ → Res) → Prop}
def CpGood (κ : Type) (L : (κ → Res) → Prop) (g : CpT) : Prop := ∀ (x M nm I ni : Nat) (us : List Nat) (G : Nat → Nat → Nat → Nat → Nat → List Nat → κ → Res), (∀ w M nm I ni us, Good L (G w M nm I ni us)) → Good L (fun k => g x M nm I ni us fun w M nm I ni us => G w M nm I ni us k)
theorem good_layB {Ms b x r M nm I ni : Nat} {us : List Nat} {G : Nat → Nat → Nat → Nat → Nat → List Nat → κ → Res} (h : ∀ w M nm I ni us, Good L (G w M nm I ni us)) : Good L (fun k => layB Ms b x r M nm I ni us fun w M nm I ni us => G w M nm I ni us k) :=
  good_iff good_bad (good_iff (h _ _ _ _ _ _) good_bad)
theorem good_cells {g : CpT} (hg : CpGood κ L g) {Mc : Nat} : ∀ (n : Nat) {q M nm I ni : Nat} {us : List Nat} {G : List Nat → Nat → Nat → Nat → Nat → List Nat → κ → Res}, (∀ ws M nm I ni us, Good L (G ws M nm I ni us)) → Good L (fun k => cpCells g Mc n q M nm I ni us fun ws M nm I ni us => G ws M nm I ni us k)
  | 0, _, _, _, _, _, _, _, h => h _ _ _ _ _ _
  | n + 1, q, _, _, _, _, _, G, h => hg _ _ _ _ _ _ (fun w M nm I ni us k => cpCells g Mc n (Nat.add q 1) M nm I ni us fun ws M nm I ni us => G (w :: ws) M nm I ni us k) fun _ _ _ _ _ _ => good_cells hg n fun _ _ _ _ _ _ => h _ _ _ _ _ _
theorem good_cpW {kp : Bool} {Is Ms lo : Nat} : ∀ d, CpGood κ L (cpW kp Is Ms lo d)
  | 0 => fun _ _ _ _ _ _ _ h => good_iff (h _ _ _ _ _ _) good_bad
  | d + 1 => by
    intro x M nm I ni us G h
    have hag : ∀ t, Good L (fun k => cpAg t Is (cpW kp Is Ms lo d) x M nm I ni us fun w M nm I ni us => G w M nm I ni us k) := fun t =>
      good_cells (good_cpW d) (gN x) (G := fun ws M nm I ni us k => growK I ni (gN x) (rowOf ws) fun I' ni' => G (Nat.add t (Nat.mul 32 (Nat.add ni (Nat.mul 16777216 (gN x))))) M nm I' ni' us k) fun _ _ _ _ _ _ => good_grow fun _ _ => h _ _ _ _ _ _
    refine good_iff (h _ _ _ _ _ _) (good_iff ?_ (good_iff (hag 18) (good_iff (hag 19) good_bad)))
    refine good_iff ?_ (good_iff (good_iff (good_layB h) ?_) good_bad)
    · cases kp
      · exact good_bad
      · exact h _ _ _ _ _ _
    · exact good_cells (good_cpW d) (bLen Ms (sB x)) (G := fun ws M nm I ni us k => layB Ms (sB x) x (rowOf ws) M nm I ni us fun w M nm I ni us => G w M nm I ni us k) fun _ _ _ _ _ _ => good_layB h
end
theorem good_kf {w M nm I ni : Nat} : Lin fun kf => kf w M nm I ni := good_leaf ⟨_, _, _, _, _, fun _ => rfl⟩
theorem cpW_lin {kp : Bool} {Is Ms lo d x M nm I ni : Nat} {us : List Nat} : Lin fun kf => cpW kp Is Ms lo d x M nm I ni us fun w M nm I ni _ => kf w M nm I ni := good_cpW d _ _ _ _ _ _ (fun w M nm I ni _ (k : KF) => k w M nm I ni) fun _ _ _ _ _ _ => good_kf
theorem dropT_lin {d : Nat} {g : List Nat → Nat → Nat → Nat → Nat → KF → Res} (hg : ∀ ws M nm I ni, Lin (g ws M nm I ni)) (ws : List Nat) (M nm I ni : Nat) : Lin (dropT d g ws M nm I ni) :=
  Lin.bind (H := fun w M' nm' I' ni' (kf : KF) => iff (Nat.beq nm' nm) (kf w M' nm' I' ni') (iff (Nat.beq (rowAt M' 0 nm) M) (cpW true I' M' nm d w M nm I ni [] fun w M nm I ni _ => kf w M nm I ni) (kf w M' nm' I' ni'))) (hg ws M nm I ni) fun _ _ _ _ _ => good_iff good_kf (good_iff cpW_lin good_kf)
section
variable {P : Program} {bw : Nat}
def FSnd (P : Program) (f : Nat) (g : GT) : Prop := ∀ call, CallSnd P call → CallLin call → (∀ ws M nm I ni, Lin (g call ws M nm I ni)) ∧ SndAt P f (g call)
def TabSnd (P : Program) (tab : Nat → FBox) : Prop := ∀ f, ∃ g, tab f = .mk g ∧ FSnd P f g
theorem fsnd_of {f : Nat} {g : GT} (hng : NoNG P) (hb : BackSnd P bw) (hm : P.follows .mixedOrders = true) (hok : FOkS P bw f g) : FSnd P f g := by
  intro call h1 h2
  have hs : CallSnd P (callW P bw call) := callW_ok (codeK_ok (op_ok hng h1) h2 (regD_ok P) hb hm)
  have hl : CallLin (callW P bw call) := callW_lin h2
  constructor
  · intro ws M nm I ni
    rcases hok call ws M nm I ni with he | he
    · have : g call ws M nm I ni = callW P bw call f ws M nm I ni := funext he
      rw [this]
      exact hl f ws M nm I ni
    · exact .inr fun kf => he kf
  · intro ws c kf args h hr hI hsz hargs
    rcases hok call ws c.M c.nm c.I c.ni with he | he
    · exact hs f ws c kf args ((he kf).symm.trans h) hr hI hsz hargs
    · exact absurd h (he kf)
def BoxOk (P : Program) (f : Nat) (h : GT → GT) : Prop := ∀ g, FSnd P f g → FSnd P f (h g)
theorem boxOk_drop {d f : Nat} : BoxOk P f (dropG d) := fun g hg call h1 h2 => ⟨fun ws M nm I ni => dropT_lin (hg call h1 h2).1 ws M nm I ni, dropT_ok (hg call h1 h2).2⟩
theorem evI_ok {tab : Nat → FBox} (ht : TabSnd P tab) : ∀ fuel, CallSnd P (evS tab fuel) ∧ CallLin (evS tab fuel)
  | 0 => ⟨fun _ _ _ _ _ h => (by cases h), fun _ _ _ _ _ _ => good_bad⟩
  | fuel + 1 => by
    obtain ⟨h1, h2⟩ := evI_ok ht fuel
    constructor
    · intro f ws c kf args h hr hI hsz hargs
      obtain ⟨g, hg, hok⟩ := ht f
      have h : stepS tab (evS tab fuel) f ws c.M c.nm c.I c.ni kf = .ok := h
      unfold stepS at h
      rw [hg] at h
      exact (hok _ h1 h2).2 ws c kf args h hr hI hsz hargs
    · intro f ws M nm I ni
      obtain ⟨g, hg, hok⟩ := ht f
      show Lin (fun kf : KF => stepS tab (evS tab fuel) f ws M nm I ni kf)
      unfold stepS
      rw [hg]
      exact (hok _ h1 h2).1 ws M nm I ni
end
end Go.Proofs.YtpjhkpmmbeoghaaGreatDoor.Ev
set_option linter.unusedVariables false
namespace Go.Proofs.YtpjhkpmmbeoghaaGreatDoor.Ev
open Go Go.RowKit
theorem sndAt_of {P : Program} {f : Nat} {h : List Nat → Nat → Nat → Nat → Nat → KF → Res} (hfn : ∃ fn, P.funcs[f]? = some fn ∧ fn.body.isSome = true)
    (hc : ∀ (ws : List Nat) (c : Cf) (kf : KF) (args : Array Value), h ws c.M c.nm c.I c.ni kf = .ok → HR c → IB c.I c.ni → args.size = ws.length → (∀ i (h : i < ws.length) (h' : i < args.size), WR c.f c.I c.ni ws[i] args[i]) → Calls P f args c.w (CallPost c kf)) : SndAt P f h :=
  fun ws c kf args h1 h2 h3 h4 h5 => ⟨hfn, fun F n hF => hF.of_calls (hc ws c kf args h1 h2 h3 h4 h5)⟩
end Go.Proofs.YtpjhkpmmbeoghaaGreatDoor.Ev
set_option linter.unusedVariables false
namespace Go.Proofs.YtpjhkpmmbeoghaaGreatDoor.Ev
open Go Go.RowKit
noncomputable section
def ibR (y b n r : Nat) : Nat := @Nat.rec (fun _ => Nat) 295147905179352825829 (fun r ih => selB (Nat.beq (Nat.mod (Nat.shiftRight y (Nat.mul 8 r)) 256) b) (Nat.add 295147905179352825861 (Nat.mul 32 (Nat.sub (Nat.sub n r) 1))) ih) r
def ibB : GT := fun _ => unS fun x => unS fun b => un0 fun M nm I ni kf =>
  iff (tg x 12) (iff (tg b 6) (iff (Nat.blt b 8198) (kf (ibR (strAt I (tQ x) (tN x)) (Nat.div b 32) (tN x) (tN x)) M nm I ni) (.bad 101 0)) (.bad 101 1)) (.bad 101 2)
end
theorem ibW_lit (k : Nat) : 295147905179352825861 + 32 * k = 5 + 32 * ((k : Int) + 9223372036854775808).toNat := by omega
theorem selB_t (a b : Nat) : selB true a b = a := rfl
theorem selB_f (a b : Nat) : selB false a b = b := rfl
theorem ib_ok (b : UInt8) : ∀ (suf pre : List UInt8), ∃ r : Int, Lib.indexByte suf b = r ∧ -1 ≤ r ∧ r < suf.length ∧
    ibR (beVal (pre ++ suf)) b.toNat (pre ++ suf).length suf.length = 5 + 32 * ((if r = -1 then -1 else pre.length + r) + 9223372036854775808).toNat
  | [], pre => ⟨-1, rfl, by omega, by simp, by rw [if_pos rfl]; show (295147905179352825829 : Nat) = _; omega⟩
  | x :: suf, pre => by
    obtain ⟨r, h1, h2, h3, h4⟩ := ib_ok b suf (pre ++ [x])
    have hl : pre ++ [x] ++ suf = pre ++ x :: suf := by simp
    rw [hl] at h4
    have e : ibR (beVal (pre ++ x :: suf)) b.toNat (pre ++ x :: suf).length (x :: suf).length =
        selB (Nat.beq ((beVal (pre ++ x :: suf) >>> (8 * suf.length)) % 256) b.toNat) (295147905179352825861 + 32 * ((pre ++ x :: suf).length - suf.length - 1)) (ibR (beVal (pre ++ x :: suf)) b.toNat (pre ++ x :: suf).length suf.length) := rfl
    have hb : (beVal (pre ++ x :: suf) >>> (8 * suf.length)) % 256 = x.toNat := by
      have := beVal_get (pre ++ x :: suf) pre.length (by simp)
      rw [Nat.shiftRight_eq_div_pow, Nat.pow_mul]
      have e2 : (pre ++ x :: suf).length - 1 - pre.length = suf.length := by simp
      rw [e2] at this
      rw [show (2 : Nat) ^ 8 = 256 from rfl, this]
      simp
    rw [e, hb]
    by_cases hx : x = b
    · subst hx
      refine ⟨0, by simp [Lib.indexByte], by omega, by simp, ?_⟩
      have : Nat.beq x.toNat x.toNat = true := Nat.beq_refl _
      rw [this, selB_t, ibW_lit]
      have e3 : (pre ++ x :: suf).length - suf.length - 1 = pre.length := by simp; omega
      have e4 : (if (0 : Int) = -1 then (-1 : Int) else pre.length + 0) = (pre.length : Nat) := by rw [if_neg (by decide), Int.add_zero]
      rw [e3, e4]
    · have : Nat.beq x.toNat b.toNat = false := by
        cases hq : Nat.beq x.toNat b.toNat with
        | false => rfl
        | true => exact absurd (UInt8.toNat_inj.1 (Nat.eq_of_beq_eq_true hq)) hx
      rw [this, selB_f]
      refine ⟨if r = -1 then -1 else r + 1, ?_, ?_, ?_, ?_⟩
      · simp only [Lib.indexByte, h1]
        have : (x == b) = false := by simp [hx]
        simp [this]
        try (split <;> split <;> omega)
      · split <;> omega
      · simp only [List.length_cons]; split <;> omega
      · rw [h4]
        simp only [List.length_append, List.length_cons, List.length_nil]
        by_cases hr : r = -1
        · simp [hr]
        · rw [if_neg hr, if_neg hr, if_neg (by omega)]
          congr 3
          omega
end Go.Proofs.YtpjhkpmmbeoghaaGreatDoor.Ev
set_option linter.unusedVariables false
namespace Go.Proofs.YtpjhkpmmbeoghaaGreatDoor.Ev
open Go Go.RowKit
theorem args2 {args : Array Value} (hs : args.size = 2) : args = #[args[0]'(by omega), args[1]'(by omega)] := by
  apply Array.ext
  · exact hs
  · intro i g1 g2
    have : i = 0 ∨ i = 1 := by omega
    rcases this with rfl | rfl <;> rfl
theorem ibB_snd {P : Program} {f : Nat} (hf : ∃ fn, P.funcs[f]? = some fn ∧ fn.body.isSome = true)
    (hc : ∀ (s : ByteArray) (c : Int) (w : World), Calls P f #[.string s, .int .u8 c] w fun e w' => e = .returned (.int .i64 (Lib.indexByte s.data.toList c.toNat.toUInt8)) ∧ w' = w) : FSnd P f ibB := by
  intro call h1 h2
  constructor
  · intro ws M nm I ni
    match ws with
    | [] => exact .inr fun _ h => by cases h
    | [_] => exact .inr fun _ h => by cases h
    | [x, y] =>
      show Lin fun kf : KF => iff (tg x 12) (iff (tg y 6) (iff (Nat.blt y 8198) (kf (ibR (strAt I (tQ x) (tN x)) (Nat.div y 32) (tN x) (tN x)) M nm I ni) (.bad 101 0)) (.bad 101 1)) (.bad 101 2)
      exact good_iff (good_iff (good_iff good_kf good_bad) good_bad) good_bad
    | _ :: _ :: _ :: _ => exact .inr fun _ h => by cases h
  · refine sndAt_of hf fun ws c kf args h hr hI hs ha => ?_
    match ws, h, hs, ha with
    | [x, y], h, hs, ha =>
      have g0 : WR c.f c.I c.ni x (args[0]'(by rw [hs]; simp)) := ha 0 (by simp) (by rw [hs]; simp)
      have g1 : WR c.f c.I c.ni y (args[1]'(by rw [hs]; simp)) := ha 1 (by simp) (by rw [hs]; simp)
      obtain ⟨t1, h⟩ := iff_bad h
      obtain ⟨t2, h⟩ := iff_bad h
      obtain ⟨t3, h⟩ := iff_bad h
      obtain ⟨q, n, s, e1, l1, l2, l3, v1, l4, hw1⟩ := WR.inv_str g0 (tg_ok t1)
      obtain ⟨a1, a2⟩ := tW hw1 l3
      have t3 : y < 8198 := blt_iff.1 t3
      obtain ⟨z, p, e2, q1, q2, q3⟩ := WR.inv_int .u8 g1 (tg_ok t2)
      have q2 : (p : Int) = z + 0 := q2
      have q1 : y = 6 + 32 * p := q1
      rw [a1, a2, v1] at h
      have hp : Nat.div y 32 = z.toNat.toUInt8.toNat := by
        show y / 32 = _
        simp; omega
      rw [hp] at h
      obtain ⟨r, r1, r2, r3, r4⟩ := ib_ok z.toNat.toUInt8 s.data.toList []
      rw [List.nil_append, l1] at r4
      rw [r4] at h
      have hr0 : (if r = -1 then (-1 : Int) else ([] : List UInt8).length + r) = r := by
        split
        · omega
        · simp
      rw [hr0] at h
      rw [args2 hs, e1, e2]
      refine (hc s z c.w).mono ?_
      rintro e w' ⟨rfl, rfl⟩
      have hn : r < n := by omega
      exact ⟨_, _, c, rfl, rfl, h, hr, hI, .refl c, by rw [r1]; exact .int .i64 r _ (by show ((r + 9223372036854775808).toNat : Int) = r + 9223372036854775808; omega) (by omega)⟩
    | [], h, _, _ => cases h
    | [_], h, _, _ => cases h
    | _ :: _ :: _ :: _, h, _, _ => cases h
end Go.Proofs.YtpjhkpmmbeoghaaGreatDoor.Ev
set_option linter.unusedVariables false
namespace Go.Proofs.YtpjhkpmmbeoghaaGreatDoor.Ev
open Go Go.RowKit
noncomputable section
def ctR (y b r : Nat) : Nat := @Nat.rec (fun _ => Nat) 0 (fun r ih => selB (Nat.beq (Nat.mod (Nat.shiftRight y (Nat.mul 8 r)) 256) b) (Nat.add ih 1) ih) r
def ctB : GT := fun _ => unS fun x => unS fun u => un0 fun M nm I ni kf =>
  iff (tg x 12) (iff (tg u 12) (iff (Nat.beq (tN u) 1) (kf (Nat.add 295147905179352825861 (Nat.mul 32 (ctR (strAt I (tQ x) (tN x)) (strAt I (tQ u) 1) (tN x)))) M nm I ni) (.bad 102 0)) (.bad 102 1)) (.bad 102 2)
end
theorem ct_ok (b : UInt8) : ∀ (suf pre : List UInt8), ctR (beVal (pre ++ suf)) b.toNat suf.length = suf.count b
  | [], pre => rfl
  | x :: suf, pre => by
    have h4 := ct_ok b suf (pre ++ [x])
    have hl : pre ++ [x] ++ suf = pre ++ x :: suf := by simp
    rw [hl] at h4
    have e : ctR (beVal (pre ++ x :: suf)) b.toNat (x :: suf).length =
        selB (Nat.beq ((beVal (pre ++ x :: suf) >>> (8 * suf.length)) % 256) b.toNat) (ctR (beVal (pre ++ x :: suf)) b.toNat suf.length + 1) (ctR (beVal (pre ++ x :: suf)) b.toNat suf.length) := rfl
    have hb : (beVal (pre ++ x :: suf) >>> (8 * suf.length)) % 256 = x.toNat := by
      have := beVal_get (pre ++ x :: suf) pre.length (by simp)
      rw [Nat.shiftRight_eq_div_pow, Nat.pow_mul]
      have e2 : (pre ++ x :: suf).length - 1 - pre.length = suf.length := by simp
      rw [e2] at this
      rw [show (2 : Nat) ^ 8 = 256 from rfl, this]
      simp
    rw [e, hb, h4]
    by_cases hx : x = b
    · subst hx
      rw [show Nat.beq x.toNat x.toNat = true from Nat.beq_refl _, selB_t]
      simp
    · have : Nat.beq x.toNat b.toNat = false := by
        cases hq : Nat.beq x.toNat b.toNat with
        | false => rfl
        | true => exact absurd (UInt8.toNat_inj.1 (Nat.eq_of_beq_eq_true hq)) hx
      rw [this, selB_f, List.count_cons_of_ne hx]
end Go.Proofs.YtpjhkpmmbeoghaaGreatDoor.Ev
set_option linter.unusedVariables false
namespace Go.Proofs.YtpjhkpmmbeoghaaGreatDoor.Ev
open Go Go.RowKit
theorem HR.belowW {c : Cf} (h : HR c) {w' : World} (hb : Below c.w.heap.size c.w w') : HR { c with w := w' } ∧ Ext c { c with w := w' } := by
  refine ⟨h.retold hb.size fun b F hf _ => .inl (hb.block _ (h.lt b F hf)), ⟨fun _ _ e => e, fun _ _ e => .inl e, .refl _, fun _ _ e => .inl e, .refl _ _, Nat.le_refl _, fun _ _ _ _ _ _ _ => rfl, ⟨hb.tape, hb.os, hb.output⟩, hb.size, fun k hk _ => hb.block k hk, fun b F h1 h2 _ => ⟨b, F, h1, h2, rfl⟩⟩⟩
noncomputable section
def strK (I ni n y : Nat) (k : Nat → Nat → Nat → Res) : Res := iff (Nat.blt n 1048576) (growK I ni (Nat.div (Nat.add n 11) 12) y (fun I' ni' => k (strW (Nat.mul 12 ni) n) I' ni')) (.bad 103 0)
end
theorem ret_str {c : Cf} {kf : KF} {n y : Nat} {s : ByteArray} {e : Ending} {w' : World} (h : strK c.I c.ni n y (fun w I ni => kf w c.M c.nm I ni) = .ok) (hr : HR c) (hI : IB c.I c.ni)
    (hn : s.data.toList.length = n) (hy : y = beVal s.data.toList) (he : e = .returned (.string s)) (hb : Below c.w.heap.size c.w w') : CallPost c kf e w' := by
  obtain ⟨h1, h⟩ := iff_bad h
  obtain ⟨w1, I', n', h2, h3, h4⟩ := newStr_ok (f := c.f) (kv := fun w I ni => kf w c.M c.nm I ni) h hn hy (blt_iff.1 h1) hI
  obtain ⟨hr1, hx1⟩ := hr.belowW hb
  exact ⟨w1, _, { c with w := w', I := I', ni := n' }, he, rfl, h2, hr1.growI h3.ext h3.lt.1, h3.lt, hx1.trans hr (Ext.growI (c := { c with w := w' }) h3.ext), h4⟩
theorem strK_lin {I ni n y M nm : Nat} : Lin fun kf : KF => strK I ni n y (fun w I ni => kf w M nm I ni) := good_iff (good_grow fun _ _ => good_kf) good_bad
noncomputable section
def itB : GT := fun _ => unS fun x => un0 fun M nm I ni kf =>
  iff (tg x 5) (iff (Nat.ble 295147905179352825861 x) (iff (Nat.blt x 295147905179352829061)
    (iff (Nat.blt x 295147905179352826181) (strK I ni 1 (Nat.add 48 (Nat.div (Nat.sub x 295147905179352825861) 32)) fun w I ni => kf w M nm I ni)
      (strK I ni 2 (Nat.add (Nat.mul (Nat.add 48 (Nat.div (Nat.div (Nat.sub x 295147905179352825861) 32) 10)) 256) (Nat.add 48 (Nat.mod (Nat.div (Nat.sub x 295147905179352825861) 32) 10))) fun w I ni => kf w M nm I ni)) (.bad 104 0)) (.bad 104 1)) (.bad 104 2)
end
theorem beVal_one (b : UInt8) : beVal [b] = b.toNat := by simp only [beVal, List.foldl_cons, List.foldl_nil, Nat.zero_mul, Nat.zero_add]
theorem beVal_two (a b : UInt8) : beVal [a, b] = a.toNat * 256 + b.toNat := by simp only [beVal, List.foldl_cons, List.foldl_nil, Nat.zero_mul, Nat.zero_add]
theorem ofNat_small {k : Nat} (h : k < 256) : (UInt8.ofNat k).toNat = k := by simp; omega
theorem args1 {args : Array Value} (hs : args.size = 1) : args = #[args[0]'(by omega)] := by
  apply Array.ext
  · exact hs
  · intro i g1 g2
    have : i = 0 := by omega
    subst this; rfl
theorem itB_snd {P : Program} {f : Nat} (hf : ∃ fn, P.funcs[f]? = some fn ∧ fn.body.isSome = true)
    (hc : ∀ (i : Nat) (w : World), i < 100 → Calls P f #[.int .i64 i] w fun e w' => e = .returned (.string ⟨(Lib.decDigits i).toArray⟩) ∧ w' = w) : FSnd P f itB := by
  intro call h1 h2
  constructor
  · intro ws M nm I ni
    match ws with
    | [] => exact .inr fun _ h => by cases h
    | [x] => exact good_iff (good_iff (good_iff (good_iff strK_lin strK_lin) good_bad) good_bad) good_bad
    | _ :: _ :: _ => exact .inr fun _ h => by cases h
  · refine sndAt_of hf fun ws c kf args h hr hI hs ha => ?_
    match ws, h, hs, ha with
    | [x], h, hs, ha =>
      have g0 : WR c.f c.I c.ni x (args[0]'(by rw [hs]; simp)) := ha 0 (by simp) (by rw [hs]; simp)
      obtain ⟨t1, h⟩ := iff_bad h
      obtain ⟨t2, h⟩ := iff_bad h
      obtain ⟨t3, h⟩ := iff_bad h
      have t2 : 295147905179352825861 ≤ x := Nat.le_of_ble_eq_true t2
      have t3 : x < 295147905179352829061 := blt_iff.1 t3
      obtain ⟨z, p, e1, q1, q2, q3⟩ := g0.inv_int .i64 (tg_ok t1)
      have q1 : x = 5 + 32 * p := q1
      have q2 : (p : Int) = z + 9223372036854775808 := q2
      obtain ⟨k, rfl⟩ : ∃ k : Nat, z = k := ⟨z.toNat, by omega⟩
      have hk : (x - 295147905179352825861) / 32 = k := by omega
      have hk2 : k < 100 := by omega
      have hb : Below c.w.heap.size c.w c.w := Below.refl _ _
      rw [args1 hs, e1]
      have hs0 : Nat.div (Nat.sub x 295147905179352825861) 32 = k := hk
      rw [hs0] at h
      refine (hc k c.w hk2).mono ?_
      rintro e w' ⟨rfl, rfl⟩
      rcases iff_ok h with ⟨t4, h⟩ | ⟨t4, h⟩
      · have t4 : x < 295147905179352826181 := blt_iff.1 t4
        have hlt : k < 10 := by omega
        refine ret_str h hr hI ?_ ?_ rfl hb
        · show (Lib.decDigits k).length = 1
          rw [Lib.decDigits_one hlt]; rfl
        · show 48 + k = beVal (Lib.decDigits k)
          rw [Lib.decDigits_one hlt, beVal_one, ofNat_small (by omega)]
      · have t4 : ¬ x < 295147905179352826181 := fun hh => by rw [blt_iff.2 hh] at t4; cases t4
        have hlt : ¬ k < 10 := by omega
        refine ret_str h hr hI ?_ ?_ rfl hb
        · show (Lib.decDigits k).length = 2
          rw [Lib.decDigits_two hlt hk2]; rfl
        · show (48 + k / 10) * 256 + (48 + k % 10) = beVal (Lib.decDigits k)
          rw [Lib.decDigits_two hlt hk2, beVal_two, ofNat_small (by omega), ofNat_small (by omega)]
    | [], h, _, _ => cases h
    | _ :: _ :: _, h, _, _ => cases h
end Go.Proofs.YtpjhkpmmbeoghaaGreatDoor.Ev
set_option linter.unusedVariables false
namespace Go.Proofs.YtpjhkpmmbeoghaaGreatDoor.Ev
open Go Go.RowKit
noncomputable section
def repY (y n c : Nat) : Nat := Nat.mul y (Nat.div (Nat.sub (Nat.pow 2 (Nat.mul 8 (Nat.mul n c))) 1) (Nat.sub (Nat.pow 2 (Nat.mul 8 n)) 1))
def repB : GT := fun _ => unS fun x => unS fun u => un0 fun M nm I ni kf =>
  iff (tg x 12) (iff (tg u 5) (iff (Nat.ble 295147905179352825861 u) (strK I ni (Nat.mul (tN x) (Nat.div (Nat.sub u 295147905179352825861) 32)) (repY (strAt I (tQ x) (tN x)) (tN x) (Nat.div (Nat.sub u 295147905179352825861) 32)) fun w I ni => kf w M nm I ni) (.bad 105 0)) (.bad 105 1)) (.bad 105 2)
end
def gsum (b : Nat) : Nat → Nat
  | 0 => 0
  | c + 1 => b ^ c + gsum b c
theorem gsum_ok {b : Nat} (hb : 0 < b) : ∀ c, (b - 1) * gsum b c = b ^ c - 1
  | 0 => by simp [gsum]
  | c + 1 => by
    have ih := gsum_ok hb c
    have hp : 0 < b ^ c := Nat.pow_pos hb
    obtain ⟨d, rfl⟩ : ∃ d, b = d + 1 := ⟨b - 1, by omega⟩
    rw [gsum, Nat.mul_add, ih, Nat.pow_succ]
    simp only [Nat.add_sub_cancel]
    rw [Nat.mul_comm d, Nat.mul_add, Nat.mul_one]
    omega
theorem beVal_rep (l : List UInt8) : ∀ c, beVal (Lib.repeatL l c) = beVal l * gsum (256 ^ l.length) c
  | 0 => rfl
  | c + 1 => by
    rw [Lib.repeatL, beVal_append, beVal_rep l c, Lib.repeatL_length, gsum, Nat.mul_add, ← Nat.pow_mul, Nat.mul_comm c]
theorem repY_ok (l : List UInt8) (c : Nat) : repY (beVal l) l.length c = beVal (Lib.repeatL l c) := by
  show beVal l * ((2 ^ (8 * (l.length * c)) - 1) / (2 ^ (8 * l.length) - 1)) = _
  by_cases h0 : l.length = 0
  · have : l = [] := List.length_eq_zero_iff.1 h0
    subst this
    rw [Lib.repeatL_nil]
    simp [beVal]
  rw [beVal_rep]
  congr 1
  have e1 : (2 : Nat) ^ (8 * (l.length * c)) = (256 ^ l.length) ^ c := by rw [← Nat.pow_mul, Nat.pow_mul]
  have e2 : (2 : Nat) ^ (8 * l.length) = 256 ^ l.length := by rw [Nat.pow_mul]
  have hb : 256 ≤ 256 ^ l.length := by
    have := Nat.pow_le_pow_right (n := 256) (by decide) (show 1 ≤ l.length by omega)
    simpa using this
  rw [e1, e2, ← gsum_ok (by omega) c]
  exact Nat.mul_div_cancel_left _ (by omega)
theorem repB_snd {P : Program} {f : Nat} (hf : ∃ fn, P.funcs[f]? = some fn ∧ fn.body.isSome = true)
    (hc : ∀ (s : ByteArray) (c : Nat) (w : World), c ≤ 9223372036854775807 → s.size * c ≤ 140737488355328 → Calls P f #[.string s, .int .i64 c] w fun e w' => e = .returned (.string ⟨(Lib.repeatL s.data.toList c).toArray⟩) ∧ Below w.heap.size w w') : FSnd P f repB := by
  intro call h1 h2
  constructor
  · intro ws M nm I ni
    match ws with
    | [] => exact .inr fun _ h => by cases h
    | [_] => exact .inr fun _ h => by cases h
    | [x, u] => exact good_iff (good_iff (good_iff strK_lin good_bad) good_bad) good_bad
    | _ :: _ :: _ :: _ => exact .inr fun _ h => by cases h
  · refine sndAt_of hf fun ws c kf args h hr hI hs ha => ?_
    match ws, h, hs, ha with
    | [x, u], h, hs, ha =>
      have g0 : WR c.f c.I c.ni x (args[0]'(by rw [hs]; simp)) := ha 0 (by simp) (by rw [hs]; simp)
      have g1 : WR c.f c.I c.ni u (args[1]'(by rw [hs]; simp)) := ha 1 (by simp) (by rw [hs]; simp)
      obtain ⟨t1, h⟩ := iff_bad h
      obtain ⟨t2, h⟩ := iff_bad h
      obtain ⟨t3, h⟩ := iff_bad h
      have t3 : 295147905179352825861 ≤ u := Nat.le_of_ble_eq_true t3
      obtain ⟨q, n, s, e1, l1, l2, l3, v1, l4, hw1⟩ := g0.inv_str (tg_ok t1)
      obtain ⟨a1, a2⟩ := tW hw1 l3
      obtain ⟨z, p, e2, q1, q2, q3⟩ := g1.inv_int .i64 (tg_ok t2)
      have q1 : u = 5 + 32 * p := q1
      have q2 : (p : Int) = z + 9223372036854775808 := q2
      obtain ⟨k, rfl⟩ : ∃ k : Nat, z = k := ⟨z.toNat, by omega⟩
      have hk : Nat.div (Nat.sub u 295147905179352825861) 32 = k := by show (u - 295147905179352825861) / 32 = k; omega
      rw [a1, a2, v1, hk, ← l1, repY_ok] at h
      have hlt : s.data.toList.length * k < 1048576 := blt_iff.1 (iff_bad h).1
      rw [args2 hs, e1, e2]
      refine (hc s k c.w (by omega) (by rw [Lib.size_eq]; omega)).mono ?_
      rintro e w' ⟨rfl, hb⟩
      refine ret_str h hr hI ?_ ?_ rfl hb
      · show (Lib.repeatL s.data.toList k).length = s.data.toList.length * k
        rw [Lib.repeatL_length, Nat.mul_comm]
      · rfl
    | [], h, _, _ => cases h
    | [_], h, _, _ => cases h
    | _ :: _ :: _ :: _, h, _, _ => cases h
theorem sl1_ok {c : Cf} (hr : HR c) {x : Nat} {v : Value} {k : Res} (hx : WR c.f c.I c.ni x v) (ht : x % 32 = 11) (h0 : sLen x ≠ 0) (h : inK c.M (sB x) (sOff x) (sLen x) k = .ok) :
    k = .ok ∧ ∃ bk o cc, v = .slice (some ⟨bk, o, none⟩) (sLen x) cc ∧ sLen x ≤ cc ∧ bk < c.w.heap.size ∧ sLen x < 524288 ∧
      ∀ i, i < sLen x → ∃ u, c.w.cell? ⟨bk, o + i, none⟩ = some u ∧ WR c.f c.I c.ni (cellAt c.M (sB x + sOff x + i)) u := by
  rcases hx.inv_slice ht with ⟨rfl, rfl⟩ | ⟨b, off, len, sz, cap, ex, F, A, cc, q1, q2, q3, q4, q5, q6, q7, q8, q9, q10, q11, rfl, rfl⟩
  · exact absurd rfl h0
  have hx2 : ex.toNat ≤ 1 := by cases ex <;> decide
  have el : sLen (11 + 32 * (off + 4194304 * (b + 4194304 * (len + 524288 * (sz + 256 * (ex.toNat + 2 * cap)))))) = len := by
    show ((11 + 32 * (off + 4194304 * (b + 4194304 * (len + 524288 * (sz + 256 * (ex.toNat + 2 * cap)))))) / 562949953421312) % 524288 = len
    omega
  have eb : sB (11 + 32 * (off + 4194304 * (b + 4194304 * (len + 524288 * (sz + 256 * (ex.toNat + 2 * cap)))))) = b := by
    show ((11 + 32 * (off + 4194304 * (b + 4194304 * (len + 524288 * (sz + 256 * (ex.toNat + 2 * cap)))))) / 134217728) % 4194304 = b
    omega
  have eo : sOff (11 + 32 * (off + 4194304 * (b + 4194304 * (len + 524288 * (sz + 256 * (ex.toNat + 2 * cap)))))) = off := by
    show ((11 + 32 * (off + 4194304 * (b + 4194304 * (len + 524288 * (sz + 256 * (ex.toNat + 2 * cap)))))) / 32) % 4194304 = off
    omega
  rw [el] at h0 h ⊢
  rw [eb, eo] at h ⊢
  obtain ⟨h3, h⟩ := iff_bad h
  obtain ⟨h4, h⟩ := iff_bad h
  have h3 : hd c.M b % 4 = 1 := Nat.eq_of_beq_eq_true h3
  have h4 : off + len ≤ hd c.M b / 1024 := Nat.le_of_ble_eq_true h4
  have hA := q11 (by
    intro e
    cases ex with
    | true => have := q9 rfl; omega
    | false => have := (q10 rfl).1; omega)
  subst hA
  refine ⟨h, F.blk, F.base + off, cc, rfl, ?_, hr.lt b F q3, q5, fun i hi => ?_⟩
  · cases ex with
    | true => have := q9 rfl; omega
    | false => have := (q10 rfl).1; omega
  · obtain ⟨u, g1, g2, -⟩ := hr.load q3 h3 (off := off + i) (by omega)
    rw [← Nat.add_assoc] at g1 g2
    exact ⟨u, g1, g2⟩
noncomputable section
def strL (l : List Nat) : Bool := @List.rec Nat (fun _ => Bool) true (fun w _ ih => and (tg w 12) ih) l
def jnN (m : Nat) (l : List Nat) : Nat → Nat := @List.rec Nat (fun _ => Nat → Nat) (fun a => a) (fun w _ ih a => ih (Nat.add a (Nat.add m (tN w)))) l
def jnY (I m v : Nat) (l : List Nat) : Nat → Nat := @List.rec Nat (fun _ => Nat → Nat) (fun a => a) (fun w _ ih a => ih (Nat.add (Nat.mul (Nat.add (Nat.mul a (Nat.pow 256 m)) v) (Nat.pow 256 (tN w))) (strAt I (tQ w) (tN w)))) l
def jnK (I ni u : Nat) (l : List Nat) (k : Nat → Nat → Nat → Res) : Res := @List.rec Nat (fun _ => Res) (k 12 I ni) (fun w r _ => strK I ni (jnN (tN u) r (tN w)) (jnY I (tN u) (strAt I (tQ u) (tN u)) r (strAt I (tQ w) (tN w))) k) l
def joinB : GT := fun _ => unS fun x => unS fun u => un0 fun M nm I ni kf =>
  iff (tg x 11) (iff (tg u 12) (iff (Nat.beq (sLen x) 0) (kf 12 M nm I ni) (inK M (sB x) (sOff x) (sLen x)
    (iff (strL (wordsOf M (Nat.add (sB x) (sOff x)) (sLen x))) (jnK I ni u (wordsOf M (Nat.add (sB x) (sOff x)) (sLen x)) fun w I ni => kf w M nm I ni) (.bad 106 0)))) (.bad 106 1)) (.bad 106 2)
end
def StrsAt (f : Nat → Option FB) (I ni : Nat) : List Nat → List ByteArray → Prop
  | [], [] => True
  | w :: ws, s :: ss => WR f I ni w (.string s) ∧ StrsAt f I ni ws ss
  | _, _ => False
theorem str_vals {f : Nat → Option FB} {I ni w : Nat} {s : ByteArray} (h : WR f I ni w (.string s)) : tN w = s.data.toList.length ∧ strAt I (tQ w) (tN w) = beVal s.data.toList := by
  generalize hv : Value.string s = v at h
  cases h with
  | str q n s' hn hn2 hq hs hi =>
    cases hv
    obtain ⟨a1, a2⟩ := tW (w := 12 + 32 * (q + 268435456 * n)) rfl hq
    rw [a1, a2]
    exact ⟨hn.symm, hs⟩
  | _ => cases hv
theorem jnN_ok {f : Nat → Option FB} {I ni m : Nat} {sep : List UInt8} (hm : sep.length = m) : ∀ (ws : List Nat) (ss : List ByteArray) (a : List UInt8), StrsAt f I ni ws ss → jnN m ws a.length = (a ++ Lib.joinTail sep (ss.map (·.data.toList))).length
  | [], [], a, _ => by simp [jnN, Lib.joinTail]
  | [], _ :: _, _, h => h.elim
  | _ :: _, [], _, h => h.elim
  | w :: ws, s :: ss, a, h => by
    obtain ⟨h1, h2⟩ := h
    obtain ⟨e1, -⟩ := str_vals h1
    have ih := jnN_ok hm ws ss (a ++ (sep ++ s.data.toList)) h2
    have e : jnN m (w :: ws) a.length = jnN m ws (a.length + (m + tN w)) := rfl
    rw [e, e1]
    have e2 : (a ++ (sep ++ s.data.toList)).length = a.length + (m + s.data.toList.length) := by rw [List.length_append, List.length_append, hm]
    rw [← e2, ih]
    simp only [Lib.joinTail, List.map_cons, List.flatten_cons, List.append_assoc]
theorem jnY_ok {f : Nat → Option FB} {I ni m v : Nat} {sep : List UInt8} (hm : sep.length = m) (hv : v = beVal sep) : ∀ (ws : List Nat) (ss : List ByteArray) (a : List UInt8), StrsAt f I ni ws ss → jnY I m v ws (beVal a) = beVal (a ++ Lib.joinTail sep (ss.map (·.data.toList)))
  | [], [], a, _ => by simp [jnY, Lib.joinTail]
  | [], _ :: _, _, h => h.elim
  | _ :: _, [], _, h => h.elim
  | w :: ws, s :: ss, a, h => by
    obtain ⟨h1, h2⟩ := h
    obtain ⟨e1, e3⟩ := str_vals h1
    have ih := jnY_ok hm hv ws ss (a ++ (sep ++ s.data.toList)) h2
    have e : jnY I m v (w :: ws) (beVal a) = jnY I m v ws ((beVal a * 256 ^ m + v) * 256 ^ (tN w) + strAt I (tQ w) (tN w)) := rfl
    have e2 : beVal (a ++ (sep ++ s.data.toList)) = (beVal a * 256 ^ m + v) * 256 ^ (tN w) + strAt I (tQ w) (tN w) := by
      rw [← List.append_assoc, beVal_append, beVal_append, hm, hv, e3, e1]
    rw [e, ← e2, ih]
    simp only [Lib.joinTail, List.map_cons, List.flatten_cons, List.append_assoc]
theorem strs_of {c : Cf} {M p : Nat} : ∀ {n : Nat} {G : Nat → Value → Prop}, (∀ i, i < n → ∃ u, G i u ∧ WR c.f c.I c.ni (cellAt M (p + i)) u) → strL (wordsOf M p n) = true →
    ∃ ss : List ByteArray, ss.length = n ∧ StrsAt c.f c.I c.ni (wordsOf M p n) ss ∧ ∀ i s, ss[i]? = some s → G i (.string s) := by
  intro n
  induction n generalizing p with
  | zero => intro G _ _; exact ⟨[], rfl, trivial, fun i s h => by simp at h⟩
  | succ n ih =>
    intro G h hs
    obtain ⟨w1, w2⟩ := wordsOf_ok M (n + 1) p
    obtain ⟨v1, v2⟩ := wordsOf_ok M n (p + 1)
    have e : wordsOf M p (n + 1) = cellAt M p :: wordsOf M (p + 1) n := by
      apply List.ext_getElem
      · rw [w1, List.length_cons, v1]
      · intro i g1 g2
        rw [show (wordsOf M p (n + 1))[i] = _ from w2 i g1]
        cases i with
        | zero => rfl
        | succ i =>
          rw [List.getElem_cons_succ, show (wordsOf M (p + 1) n)[i] = _ from v2 i (by simpa using g2)]
          show cellAt M (p + (i + 1)) = cellAt M (p + 1 + i)
          rw [show p + (i + 1) = p + 1 + i by omega]
    rw [e] at hs ⊢
    have hs : and (tg (cellAt M p) 12) (strL (wordsOf M (p + 1) n)) = true := hs
    simp only [Bool.and_eq_true] at hs
    obtain ⟨u, g1, g2⟩ := h 0 (by omega)
    obtain ⟨q, m, s, rfl, -⟩ := g2.inv_str (tg_ok hs.1)
    obtain ⟨ss, l1, l2, l3⟩ := ih (p := p + 1) (G := fun i u => G (i + 1) u) (fun i hi => by
      obtain ⟨u, a1, a2⟩ := h (i + 1) (by omega)
      rw [show p + (i + 1) = p + 1 + i by omega] at a2
      exact ⟨u, a1, a2⟩) hs.2
    refine ⟨s :: ss, by simp [l1], ⟨g2, l2⟩, fun i s' hi => ?_⟩
    cases i with
    | zero => simp at hi; subst hi; exact g1
    | succ i => exact l3 i s' (by simpa using hi)
theorem joinB_snd {P : Program} {f : Nat} (hf : ∃ fn, P.funcs[f]? = some fn ∧ fn.body.isSome = true)
    (h0 : ∀ (a : Option Addr) (c : Nat) (sep : ByteArray) (w : World), Calls P f #[.slice a 0 c, .string sep] w fun e w' => e = .returned (.string .empty) ∧ w' = w)
    (hc : ∀ (bk o c : Nat) (xs : List ByteArray) (sep : ByteArray) (w : World), (∀ (j : Nat) x, xs[j]? = some x → w.cell? ⟨bk, o + j, none⟩ = some (.string x)) → bk < w.heap.size → xs.length ≤ 140737488355328 → xs.length ≤ c →
      (Lib.join (xs.map (·.data.toList)) sep.data.toList).length ≤ 140737488355328 →
      Calls P f #[.slice (some ⟨bk, o, none⟩) xs.length c, .string sep] w fun e w' => e = .returned (.string ⟨(Lib.join (xs.map (·.data.toList)) sep.data.toList).toArray⟩) ∧ Below w.heap.size w w') : FSnd P f joinB := by
  intro call h1 h2
  constructor
  · intro ws M nm I ni
    match ws with
    | [] => exact .inr fun _ h => by cases h
    | [_] => exact .inr fun _ h => by cases h
    | [x, u] =>
      have hj : ∀ l, Lin fun kf : KF => jnK I ni u l fun w I ni => kf w M nm I ni := fun l => by
        cases l with
        | nil => exact good_kf
        | cons w r => exact strK_lin
      exact good_iff (good_iff (good_iff good_kf (good_in (good_iff (hj _) good_bad))) good_bad) good_bad
    | _ :: _ :: _ :: _ => exact .inr fun _ h => by cases h
  · refine sndAt_of hf fun ws c kf args h hr hI hs ha => ?_
    match ws, h, hs, ha with
    | [x, u], h, hs, ha =>
      have g0 : WR c.f c.I c.ni x (args[0]'(by rw [hs]; simp)) := ha 0 (by simp) (by rw [hs]; simp)
      have g1 : WR c.f c.I c.ni u (args[1]'(by rw [hs]; simp)) := ha 1 (by simp) (by rw [hs]; simp)
      obtain ⟨t1, h⟩ := iff_bad h
      obtain ⟨t2, h⟩ := iff_bad h
      obtain ⟨q, n, s, e1, l1, l2, l3, v1, l4, hw1⟩ := g1.inv_str (tg_ok t2)
      rw [e1] at g1
      obtain ⟨n1, n2⟩ := str_vals g1
      rcases iff_ok h with ⟨t3, h⟩ | ⟨t3, h⟩
      · have t3 : sLen x = 0 := Nat.eq_of_beq_eq_true t3
        have hv : ∃ a cc, args[0]'(by rw [hs]; simp) = .slice a 0 cc := by
          rcases slice_view g0 t1 with ⟨-, e, -⟩ | ⟨ex, F, A, cc, -, -, -, -, -, -, -, -, -, -, -, -, -, e⟩
          · exact ⟨_, _, e⟩
          · rw [t3] at e; exact ⟨_, _, e⟩
        obtain ⟨a, cc, e0⟩ := hv
        rw [args2 hs, e0, e1]
        refine (h0 a cc s c.w).mono ?_
        rintro e w' ⟨rfl, rfl⟩
        exact ⟨12, _, c, rfl, rfl, h, hr, hI, .refl c, immW_ok rfl⟩
      · have t3 : sLen x ≠ 0 := fun e => by rw [e] at t3; cases t3
        obtain ⟨h, bk, o, cc, e0, c1, c2, c3, c4⟩ := sl1_ok hr g0 (tg_ok t1) t3 h
        obtain ⟨t4, h⟩ := iff_bad h
        obtain ⟨ss, s1, s2, s3⟩ := strs_of (c := c) (G := fun i u => c.w.cell? ⟨bk, o + i, none⟩ = some u) c4 t4
        generalize hW : wordsOf c.M (Nat.add (sB x) (sOff x)) (sLen x) = W at h
        have s2 : StrsAt c.f c.I c.ni (wordsOf c.M (Nat.add (sB x) (sOff x)) (sLen x)) ss := s2
        rw [hW] at s2
        match W, ss, s2, h with
        | [], [], s2, h => rw [← s1] at t3; exact absurd rfl t3
        | w :: W, s' :: ss, s2, h =>
          obtain ⟨y1, y2⟩ := s2
          obtain ⟨m1, m2⟩ := str_vals y1
          have h : strK c.I c.ni (jnN (tN u) W (tN w)) (jnY c.I (tN u) (strAt c.I (tQ u) (tN u)) W (strAt c.I (tQ w) (tN w))) (fun w I ni => kf w c.M c.nm I ni) = .ok := h
          rw [n2, m2, n1, m1, jnN_ok rfl W ss s'.data.toList y2, jnY_ok rfl rfl W ss s'.data.toList y2] at h
          have hlt := blt_iff.1 (iff_bad h).1
          have ej : Lib.join ((s' :: ss).map (·.data.toList)) s.data.toList = s'.data.toList ++ Lib.joinTail s.data.toList (ss.map (·.data.toList)) := by
            rw [List.map_cons, Lib.join_cons]
          rw [args2 hs, e0, e1, ← s1]
          refine (hc bk o cc (s' :: ss) s c.w s3 c2 (by omega) (by omega) (by rw [ej]; omega)).mono ?_
          rintro e w' ⟨rfl, hb⟩
          refine ret_str h hr hI ?_ ?_ rfl hb
          · show (Lib.join ((s' :: ss).map (·.data.toList)) s.data.toList).length = _
            rw [ej]
          · show _ = beVal (Lib.join ((s' :: ss).map (·.data.toList)) s.data.toList)
            rw [ej]
    | [], h, _, _ => cases h
    | [_], h, _, _ => cases h
    | _ :: _ :: _ :: _, h, _, _ => cases h
end Go.Proofs.YtpjhkpmmbeoghaaGreatDoor.Ev
set_option linter.unusedVariables false
namespace Go.Proofs.YtpjhkpmmbeoghaaGreatDoor.Ev
open Go Go.RowKit
theorem ret_row {c : Cf} {kf : KF} {n len s r : Nat} {vs cs : Array Value} {elem : TypeId} {g cc : Nat} {e : Ending} {w' : World} (hr : HR c) (hI : IB c.I c.ni)
    (h : allocK n r c.M c.nm (fun b M nm => kf (slW 0 b len s 0 len) M nm c.I c.ni) = .ok) (hrow : RowR c.f c.I c.ni r vs) (hvs : vs.size = n) (hcs : n ≤ cs.size) (hpre : ∀ i, i < n → cs[i]? = vs[i]?)
    (hg : c.w.heap.size ≤ g) (hw : w'.heap[g]? = some (.cells cs elem (0, 0))) (hb : Below c.w.heap.size c.w w') (hl : len < 524288) (hs : s < 256) (hcap : len ≤ cc) (hcc : cc * s ≤ cs.size)
    (he : e = .returned (.slice (some ⟨g, 0, none⟩) len cc)) : CallPost c kf e w' := by
  obtain ⟨h7, h⟩ := allocK_ok h
  obtain ⟨q1, q2⟩ := hr.newRow h7 hrow hvs hcs hpre w' hg hw hb.size (fun k hk => hb.block k hk) ⟨hb.tape, hb.os, hb.output⟩
  exact ⟨_, _, _, he, rfl, h, q1, hI, q2, slWR (c := c) (ex := false) cs h7 rfl hl hs (Nat.le_refl _) hl cc (fun h => by cases h) fun _ => ⟨hcap, hcc⟩⟩
theorem alloc_lin {n r M nm I ni : Nat} {W : Nat → Nat} : Lin fun kf : KF => allocK n r M nm fun b M nm => kf (W b) M nm I ni := good_iff good_kf good_bad
noncomputable section
def growB : GT := fun _ => unS fun x => unS fun u => un0 fun M nm I ni kf =>
  iff (Nat.beq x 11) (iff (tg u 5) (iff (Nat.ble 295147905179352825861 u) (iff (Nat.blt u 295147905179352857861) (iff (Nat.beq u 295147905179352825861) (kf 11 M nm I ni)
    (allocK (Nat.div (Nat.sub u 295147905179352825861) 32) (repRow 1 11 (Nat.div (Nat.sub u 295147905179352825861) 32)) M nm fun b M nm => kf (slW 0 b 0 1 0 0) M nm I ni)) (.bad 107 0)) (.bad 107 1)) (.bad 107 2)) (.bad 107 3)
end
theorem growB_snd {P : Program} {f : Nat} (hf : ∃ fn, P.funcs[f]? = some fn ∧ fn.body.isSome = true)
    (h0 : ∀ w : World, Calls P f #[.slice none 0 0, .int .i64 (0 : Nat)] w fun e w' => e = .returned (.slice none 0 0) ∧ w' = w)
    (hc : ∀ (n : Nat) (w : World), 0 < n → n ≤ 1000 → Calls P f #[.slice none 0 0, .int .i64 n] w fun e w' => ∃ g cap elem cs, e = .returned (.slice (some ⟨g, 0, none⟩) 0 cap) ∧ w.heap.size ≤ g ∧ w'.heap[g]? = some (.cells cs elem (0, 0)) ∧
      cs.size = cap ∧ n ≤ cap ∧ (∀ i, i < n → cs[i]? = some (.slice none 0 0)) ∧ Below w.heap.size w w') : FSnd P f growB := by
  intro call h1 h2
  constructor
  · intro ws M nm I ni
    match ws with
    | [] => exact .inr fun _ h => by cases h
    | [_] => exact .inr fun _ h => by cases h
    | [x, u] => exact good_iff (good_iff (good_iff (good_iff (good_iff good_kf alloc_lin) good_bad) good_bad) good_bad) good_bad
    | _ :: _ :: _ :: _ => exact .inr fun _ h => by cases h
  · refine sndAt_of hf fun ws c kf args h hr hI hs ha => ?_
    match ws, h, hs, ha with
    | [x, u], h, hs, ha =>
      have g0 : WR c.f c.I c.ni x (args[0]'(by rw [hs]; simp)) := ha 0 (by simp) (by rw [hs]; simp)
      have g1 : WR c.f c.I c.ni u (args[1]'(by rw [hs]; simp)) := ha 1 (by simp) (by rw [hs]; simp)
      obtain ⟨t0, h⟩ := iff_bad h
      obtain ⟨t1, h⟩ := iff_bad h
      obtain ⟨t2, h⟩ := iff_bad h
      obtain ⟨t3, h⟩ := iff_bad h
      have t0 : x = 11 := Nat.eq_of_beq_eq_true t0
      rw [t0] at g0
      have t2 : 295147905179352825861 ≤ u := Nat.le_of_ble_eq_true t2
      have t3 : u < 295147905179352857861 := blt_iff.1 t3
      have e0 : args[0]'(by rw [hs]; simp) = .slice none 0 0 := by
        rcases g0.inv_slice rfl with ⟨-, e⟩ | ⟨b, off, len, sz, cap, ex, F, A, cc, q1, q2, q3, q4, q5, q6, q7, q8, q9, q10, q11, q12, -⟩
        · exact e
        · omega
      obtain ⟨z, p, e1, q1, q2, q3⟩ := g1.inv_int .i64 (tg_ok t1)
      have q1 : u = 5 + 32 * p := q1
      have q2 : (p : Int) = z + 9223372036854775808 := q2
      obtain ⟨k, rfl⟩ : ∃ k : Nat, z = k := ⟨z.toNat, by omega⟩
      have hk : Nat.div (Nat.sub u 295147905179352825861) 32 = k := by show (u - 295147905179352825861) / 32 = k; omega
      rw [args2 hs, e0, e1]
      rcases iff_ok h with ⟨t4, h⟩ | ⟨t4, h⟩
      · have t4 : u = 295147905179352825861 := Nat.eq_of_beq_eq_true t4
        obtain rfl : k = 0 := by omega
        refine (h0 c.w).mono ?_
        rintro e w' ⟨rfl, rfl⟩
        exact ⟨11, _, c, rfl, rfl, h, hr, hI, .refl c, immW_ok rfl⟩
      · have t4 : u ≠ 295147905179352825861 := fun e => by rw [e] at t4; cases t4
        rw [hk] at h
        have k1 : 0 < k := by omega
        refine (hc k c.w k1 (by omega)).mono ?_
        rintro e w' ⟨g, cap, elem, cs, rfl, a1, a2, a3, a4, a5, a6⟩
        have hrow := rep_ok (f := c.f) (I := c.I) (ni := c.ni) (s := 1) (r := 11) (z := #[.slice none 0 0]) (by decide) rfl ⟨by decide, fun i hi => by
          have : i = 0 := by simpa using hi
          subst this; exact immW_ok rfl, fun i hi => by
          have : i = 0 := by simpa using hi
          subst this; rfl⟩ k
        rw [Nat.mul_one] at hrow
        refine ret_row (vs := madeCells #[.slice none 0 0] k) (len := 0) (s := 1) hr hI h hrow (size_madeCells _ _) (by omega) (fun i hi => ?_) a1 a2 a6 (by omega) (by omega) (by omega) (by omega) rfl
        rw [a5 i hi]
        have hsz : (madeCells #[Value.slice none 0 0] k).size = k := size_madeCells _ _
        rw [Array.getElem?_eq_getElem (by omega)]
        simp [madeCells, Nat.mod_one]
    | [], h, _, _ => cases h
    | [_], h, _, _ => cases h
    | _ :: _ :: _ :: _, h, _, _ => cases h
end Go.Proofs.YtpjhkpmmbeoghaaGreatDoor.Ev
set_option linter.unusedVariables false
namespace Go.Proofs.YtpjhkpmmbeoghaaGreatDoor.Ev
open Go Go.RowKit
def Far (c : Cf) (k : Nat) : Prop := ∀ b F, c.f b = some F → hd c.M b ≠ 0 → F.blk ≠ k
structure Kp (c c' : Cf) : Prop where
  size : c.w.heap.size ≤ c'.w.heap.size
  frame : ∀ k, k < c.w.heap.size → Far c k → c'.w.heap[k]? = c.w.heap[k]?
  far : ∀ k, k < c.w.heap.size → Far c k → Far c' k
  tape : c'.w.tape = c.w.tape ∧ c'.w.os = c.w.os ∧ c'.w.output = c.w.output
theorem Kp.of_ext {c c' : Cf} (h : Ext c c') : Kp c c' where
  size := h.size
  frame k hk hf := h.frame k hk hf
  far k hk hf b F h1 h2 h3 := by
    obtain ⟨b0, F0, g1, g2, g3⟩ := h.img b F h1 h2 (by rw [h3]; exact hk)
    exact hf b0 F0 g1 g2 (g3.trans h3)
  tape := h.tape
theorem HR.foreign {c : Cf} (h : HR c) {w' : World} (hs : c.w.heap.size ≤ w'.heap.size) (hk : ∀ k, k < c.w.heap.size → ¬ Far c k → w'.heap[k]? = c.w.heap[k]?) : HR { c with w := w' } :=
  h.retold hs fun b F hf hd => .inl (hk _ (h.lt b F hf) fun hfar => hfar b F hf hd rfl)
def bs (l : List UInt8) : ByteArray := ⟨l.toArray⟩
theorem str_is {f : Nat → Option FB} {I ni w : Nat} {v : Value} (h : WR f I ni w v) (ht : tg w 12 = true) {l : List UInt8} (hn : tN w = l.length) (hv : strAt I (tQ w) (tN w) = beVal l) : v = .string (bs l) := by
  obtain ⟨q, n, s, rfl, -⟩ := h.inv_str (tg_ok ht)
  obtain ⟨e1, e2⟩ := str_vals h
  have : s.data.toList = l := beVal_inj _ _ (by rw [← e1, hn]) (by rw [← e2, hv])
  rw [← this]; rfl
structure PL where
  n : Nat
  y : Nat
  tn : Nat
  ty : Nat
  e : Nat
noncomputable section
def toldK (tn ty e w I : Nat) (k : Res) : Res := iff (tg w 19) (iff (Nat.beq (gN w) 2) (iff (tg (cellAt I (gB w)) 12) (iff (Nat.beq (tN (cellAt I (gB w))) tn) (iff (Nat.beq (strAt I (tQ (cellAt I (gB w))) (tN (cellAt I (gB w)))) ty)
  (iff (Nat.beq (cellAt I (Nat.add (gB w) 1)) e) k (.bad 110 0)) (.bad 110 1)) (.bad 110 2)) (.bad 110 3)) (.bad 110 4)) (.bad 110 5)
def chainR (call : CallT) (f pw : Nat) (l : List PL) : Nat → Nat → Nat → Nat → Res :=
  @List.rec PL (fun _ => Nat → Nat → Nat → Nat → Res) (fun _ _ _ _ => .ok) (fun p _ ih M nm I ni => strK I ni p.n p.y fun lw I ni => call f [pw, lw] M nm I ni fun w M nm I ni => toldK p.tn p.ty p.e w I (ih M nm I ni)) l
end
theorem toldK_ok {f : Nat → Option FB} {I ni tn ty : Nat} {e : Nat} {w : Nat} {v : Value} {k : Res} (h : toldK tn ty (5 + 32 * (e + 9223372036854775808)) w I k = .ok) (hv : WR f I ni w v) {l : List UInt8} (hn : l.length = tn) (hy : beVal l = ty) :
    v = .tuple #[.string (bs l), .int .i64 (e : Nat)] ∧ k = .ok := by
  obtain ⟨t1, h⟩ := iff_bad h
  obtain ⟨t2, h⟩ := iff_bad h
  obtain ⟨t3, h⟩ := iff_bad h
  obtain ⟨t4, h⟩ := iff_bad h
  obtain ⟨t5, h⟩ := iff_bad h
  obtain ⟨t6, h⟩ := iff_bad h
  refine ⟨?_, h⟩
  have t2 := Nat.eq_of_beq_eq_true t2
  have t4 := Nat.eq_of_beq_eq_true t4
  have t5 := Nat.eq_of_beq_eq_true t5
  have t6 := Nat.eq_of_beq_eq_true t6
  obtain ⟨b, n, cs, rfl, hcn, hn2, hb, hi, hw, rfl⟩ := hv.inv_tuple (tg_ok t1)
  have g1 : gB (19 + 32 * (b + 16777216 * n)) = b := by show ((19 + 32 * (b + 16777216 * n)) / 32) % 16777216 = b; omega
  have g2 : gN (19 + 32 * (b + 16777216 * n)) = n := by show (19 + 32 * (b + 16777216 * n)) / 536870912 = n; omega
  rw [g1] at t3 t4 t5 t6
  rw [g2] at t2
  have c2 : cs.size = 2 := hcn.trans t2
  have w0 := hw 0 (by omega)
  have w1 := hw 1 (by omega)
  have e0 : cs[0]'(by omega) = .string (bs l) := str_is w0 t3 (by rw [hn]; exact t4) (by rw [hy]; exact t5)
  have e1 : cs[1]'(by omega) = .int .i64 (e : Nat) := by
    have t6 : cellAt I (b + 1) = 5 + 32 * (e + 9223372036854775808) := t6
    rw [t6] at w1
    obtain ⟨z, p, q0, q1, q2, q3⟩ := w1.inv_int .i64 (by show _ % 32 = 5; rw [Nat.add_mul_mod_self_left])
    have q1 : 5 + 32 * (e + 9223372036854775808) = 5 + 32 * p := q1
    have q2 : (p : Int) = z + 9223372036854775808 := q2
    have q3 : e + 9223372036854775808 = p := Nat.eq_of_mul_eq_mul_left (by decide : 0 < 32) (Nat.add_left_cancel q1)
    rw [q0]
    subst q3
    have q4 : ((e + 9223372036854775808 : Nat) : Int) = (e : Int) + 9223372036854775808 := Int.natCast_add e 9223372036854775808
    rw [q4] at q2
    rw [(Int.add_left_inj _).1 q2]
  congr 1
  apply Array.ext
  · exact c2
  · intro i g1 g2
    have : i = 0 ∨ i = 1 := by omega
    rcases this with rfl | rfl
    · exact e0
    · exact e1
def ChS (call : CallT) (f pw : Nat) (ls : List PL) (pv : Value) (c : Cf) : Prop := HR c ∧ IB c.I c.ni ∧ WR c.f c.I c.ni pw pv ∧ chainR call f pw ls c.M c.nm c.I c.ni = .ok
structure PL.Is (p : PL) (line told : List UInt8) (e : Nat) : Prop where
  n : line.length = p.n
  y : beVal line = p.y
  tn : told.length = p.tn
  ty : beVal told = p.ty
  e : p.e = 5 + 32 * (e + 9223372036854775808)
theorem line_ok {c : Cf} {n y : Nat} {k : Nat → Nat → Nat → Res} {line : List UInt8} (hI : IB c.I c.ni) (hr : HR c) (h : strK c.I c.ni n y k = .ok) (hn : line.length = n) (hy : beVal line = y) :
    ∃ lw I' ni', k lw I' ni' = .ok ∧ WR c.f I' ni' lw (.string (bs line)) ∧ IOk c.I c.ni I' ni' ∧ HR { c with I := I', ni := ni' } := by
  obtain ⟨h1, h⟩ := iff_bad h
  obtain ⟨lw, I', ni', h2, h3, h4⟩ := newStr_ok (f := c.f) (s := bs line) (kv := k) h hn hy.symm (blt_iff.1 h1) hI
  exact ⟨lw, I', ni', h2, h4, h3, hr.growI h3.ext h3.lt.1⟩
theorem chain_step {P : Program} {call : CallT} (hc : CallSnd P call) {f pw : Nat} {p : PL} {ls : List PL} {pv : Value} {c : Cf} (h : ChS call f pw (p :: ls) pv c) {line told : List UInt8} {e : Nat} (hp : p.Is line told e) :
    Calls P f #[pv, .string (bs line)] c.w fun e' w' => e' = .returned (.tuple #[.string (bs told), .int .i64 (e : Nat)]) ∧ ∃ c', w' = c'.w ∧ ChS call f pw ls pv c' ∧ Kp c c' := by
  obtain ⟨hr, hI, hw, h⟩ := h
  have h : strK c.I c.ni p.n p.y (fun lw I ni => call f [pw, lw] c.M c.nm I ni fun w M nm I ni => toldK p.tn p.ty p.e w I (chainR call f pw ls M nm I ni)) = .ok := h
  obtain ⟨lw, I', ni', h1, h2, h3, h4⟩ := line_ok hI hr h hp.n hp.y
  obtain ⟨-, hcall⟩ := hc f [pw, lw] { c with I := I', ni := ni' } _ #[pv, .string (bs line)] h1 h4 h3.lt rfl (fun i g1 g2 => by
    have : i = 0 ∨ i = 1 := by simp at g1; omega
    rcases this with rfl | rfl
    · exact hw.mono (.refl _) h3.ext
    · exact h2)
  refine (callsIn_wide.1 (hcall Fence.wide 0 ⟨fun _ => trivial, rfl, rfl⟩)).mono ?_
  rintro e' w' ⟨word, v, c', rfl, rfl, g1, g2, g3, g4, g5⟩
  rw [hp.e] at g1
  obtain ⟨rfl, g6⟩ := toldK_ok g1 g5 hp.tn hp.ty
  have hx : Ext c c' := (Ext.growI (c := c) h3.ext).trans hr g4
  exact ⟨rfl, c', rfl, ⟨g2, g3, hw.mono hx.f hx.I, g6⟩, .of_ext hx⟩
def CoS (M nm I ni pw : Nat) (pv : Value) (c : Cf) : Prop := HR c ∧ IB c.I c.ni ∧ WR c.f c.I c.ni pw pv ∧ c.M = M ∧ c.nm = nm ∧ c.I = I ∧ c.ni = ni
noncomputable section
def constR (call : CallT) (f pw : Nat) (p : PL) (M0 nm0 I0 ni0 : Nat) : Res := strK I0 ni0 p.n p.y fun lw I ni => call f [pw, lw] M0 nm0 I ni fun w M nm I ni => toldK p.tn p.ty p.e w I (iff (Nat.beq (rowAt M 0 nm0) M0) .ok (.bad 111 0))
end
theorem const_step {P : Program} {call : CallT} (hc : CallSnd P call) {f pw : Nat} {p : PL} {pv : Value} {M nm I ni : Nat} {c : Cf} (h : CoS M nm I ni pw pv c) (hrun : constR call f pw p M nm I ni = .ok) {line told : List UInt8} {e : Nat} (hp : p.Is line told e) :
    Calls P f #[pv, .string (bs line)] c.w fun e' w' => e' = .returned (.tuple #[.string (bs told), .int .i64 (e : Nat)]) ∧ ∃ c', w' = c'.w ∧ CoS M nm I ni pw pv c' ∧ Kp c c' := by
  obtain ⟨hr, hI, hw, rfl, rfl, rfl, rfl⟩ := h
  obtain ⟨lw, I', ni', h1, h2, h3, h4⟩ := line_ok hI hr hrun hp.n hp.y
  obtain ⟨-, hcall⟩ := hc f [pw, lw] { c with I := I', ni := ni' } _ #[pv, .string (bs line)] h1 h4 h3.lt rfl (fun i g1 g2 => by
    have : i = 0 ∨ i = 1 := by simp at g1; omega
    rcases this with rfl | rfl
    · exact hw.mono (.refl _) h3.ext
    · exact h2)
  refine (callsIn_wide.1 (hcall Fence.wide 0 ⟨fun _ => trivial, rfl, rfl⟩)).mono ?_
  rintro e' w' ⟨word, v, c', rfl, rfl, g1, g2, g3, g4, g5⟩
  rw [hp.e] at g1
  obtain ⟨rfl, g6⟩ := toldK_ok g1 g5 hp.tn hp.ty
  obtain ⟨g7, -⟩ := iff_bad g6
  have hx : Ext c c' := (Ext.growI (c := c) h3.ext).trans hr g4
  have g7 : rowAt c'.M 0 c.nm = c.M := Nat.eq_of_beq_eq_true g7
  have hcell : ∀ i, i < c.nm → cellAt c'.M i = cellAt c.M i := fun i hi => by
    have := cell_row (c := c'.M) (a := 0) hi
    rw [g7] at this
    rw [this, Nat.zero_add]
  have hback := hr.back g2 hx.f hx.I hcell hx.size
  exact ⟨rfl, { c with w := c'.w }, rfl, ⟨hback, hI, hw, rfl, rfl, rfl, rfl⟩, ⟨hx.size, hx.frame, fun k _ hf => hf, hx.tape⟩⟩
structure Lines (P : Program) (f : Nat) (n : Nat) (line told : Nat → List UInt8) (err : Nat → Nat) (S : Nat → Value → Cf → Prop) : Prop where
  hr : ∀ {j pv c}, S j pv c → HR c
  foreign : ∀ {j pv c w'}, S j pv c → HR { c with w := w' } → S j pv { c with w := w' }
  step : ∀ {j pv c}, j < n → S j pv c → Calls P f #[pv, .string (bs (line j))] c.w fun e' w' => e' = .returned (.tuple #[.string (bs (told j)), .int .i64 (err j : Nat)]) ∧ ∃ c', w' = c'.w ∧ S (j + 1) pv c' ∧ Kp c c'
theorem lines_const {P : Program} {call : CallT} (hc : CallSnd P call) {f pw : Nat} {p : PL} {M nm I ni : Nat} (hrun : constR call f pw p M nm I ni = .ok) {line told : List UInt8} {e : Nat} (hp : p.Is line told e) (n : Nat) :
    Lines P f n (fun _ => line) (fun _ => told) (fun _ => e) (fun _ => CoS M nm I ni pw) where
  hr h := h.1
  foreign h h' := ⟨h', h.2⟩
  step _ h := const_step hc h hrun hp
end Go.Proofs.YtpjhkpmmbeoghaaGreatDoor.Ev
namespace Go.Proofs
open Go.Shelf
def Tryz.lays169_ren : Go.Shelf.Ren := ⟨fun | 169 => 31 | n => n, fun | 70 => 70 | 9 => 9 | 0 => 0 | 72 => 72 | 37 => 28 | 127 => 116 | 3 => 3 | 5 => 5 | n => n, fun | n => n⟩
theorem Tryz.lays169 : Go.Proofs.Lays.n169 Tryz.prog Tryz.lays169_ren := {
  mixed := by kernel_rfl
  f169 := Tryz.func31.trans (congrArg some (by kernel_rfl))
  t0 := Tryz.underlying0
  a0 := Tryz.isAgg0
  z0 := Tryz.sizeOf0
  v0 := Tryz.zeroValue0
  t3 := Tryz.underlying3
  a3 := Tryz.isAgg3
  z3 := Tryz.sizeOf3
  v3 := Tryz.zeroValue3
  t9 := Tryz.underlying9
  a9 := Tryz.isAgg9
  z9 := Tryz.sizeOf9
  v9 := Tryz.zeroValue9
  t37 := Tryz.underlying28
  a37 := Tryz.isAgg28
  z37 := Tryz.sizeOf28
  v37 := Tryz.zeroValue28
  t70 := Tryz.underlying70
  a70 := Tryz.isAgg70
  z70 := Tryz.sizeOf70
  v70 := Tryz.zeroValue70
  t72 := Tryz.underlying72
  a72 := Tryz.isAgg72
  z72 := Tryz.sizeOf72
  v72 := Tryz.zeroValue72
  t127 := Tryz.underlying116
  a127 := Tryz.isAgg116
  z127 := Tryz.sizeOf116
  v127 := Tryz.zeroValue116 }
theorem Tryz.Builder_Extra_169 : Builder.Extra Tryz.prog Tryz.lays169_ren := {
  sizeBuilder := by kernel_rfl
  liesBuilder := by kernel_rfl
  t5 := Tryz.underlying5
  a5 := Tryz.isAgg5
  z5 := Tryz.sizeOf5
  v5 := Tryz.zeroValue5
  infoByte := by kernel_rfl
  cellsByte := by kernel_rfl
  sizeByte := by kernel_rfl
  neB5 := by decide }
open Go.RowKit in
theorem Tryz.Builder_String_any (B b : Nat) (l : List UInt8) (w : World) (h : Lib.IsBuilder 72 5 B b (Lib.byteCells l) w) (hBw : B ≤ w.heap.size) :
    Calls Tryz.prog 31 #[.pointer (some ⟨b, 0, none⟩)] w fun e w' => e = .returned (.string ⟨l.toArray⟩) ∧ Below B w w' := Any.Builder_String_any Tryz.lays169 Tryz.Builder_Extra_169 B b l w h hBw
def Tryz.lays156_ren : Go.Shelf.Ren := ⟨fun | 156 => 34 | 165 => 28 | 166 => 29 | 169 => 31 | 240 => 68 | 241 => 69 | 276 => 115 | 277 => 116 | n => n, fun | 31 => 56 | 9 => 9 | 3 => 3 | 4 => 4 | 0 => 0 | 20 => 20 | 72 => 72 | 76 => 76 | 70 => 70 | 37 => 28 | 75 => 75 | 127 => 116 | 164 => 170 | 5 => 5 | 80 => 79 | n => n, fun | n => n⟩
theorem Tryz.lays156 : Go.Proofs.Lays.n156 Tryz.prog Tryz.lays156_ren := {
  mixed := by kernel_rfl
  f156 := Tryz.func34.trans (congrArg some (by kernel_rfl))
  f165 := Tryz.func28.trans (congrArg some (by kernel_rfl))
  f166 := Tryz.func29.trans (congrArg some (by kernel_rfl))
  f169 := Tryz.func31.trans (congrArg some (by kernel_rfl))
  f240 := Tryz.func68.trans (congrArg some (by kernel_rfl))
  f241 := Tryz.func69.trans (congrArg some (by kernel_rfl))
  f276 := Tryz.func115.trans (congrArg some (by kernel_rfl))
  f277 := Tryz.func116.trans (congrArg some (by kernel_rfl))
  t0 := Tryz.underlying0
  a0 := Tryz.isAgg0
  z0 := Tryz.sizeOf0
  v0 := Tryz.zeroValue0
  t3 := Tryz.underlying3
  a3 := Tryz.isAgg3
  z3 := Tryz.sizeOf3
  v3 := Tryz.zeroValue3
  t4 := Tryz.underlying4
  a4 := Tryz.isAgg4
  z4 := Tryz.sizeOf4
  v4 := Tryz.zeroValue4
  t9 := Tryz.underlying9
  a9 := Tryz.isAgg9
  z9 := Tryz.sizeOf9
  v9 := Tryz.zeroValue9
  t20 := Tryz.underlying20
  a20 := Tryz.isAgg20
  z20 := Tryz.sizeOf20
  v20 := Tryz.zeroValue20
  t31 := Tryz.underlying56
  a31 := Tryz.isAgg56
  z31 := Tryz.sizeOf56
  v31 := Tryz.zeroValue56
  t37 := Tryz.underlying28
  a37 := Tryz.isAgg28
  z37 := Tryz.sizeOf28
  v37 := Tryz.zeroValue28
  t70 := Tryz.underlying70
  a70 := Tryz.isAgg70
  z70 := Tryz.sizeOf70
  v70 := Tryz.zeroValue70
  t72 := Tryz.underlying72
  a72 := Tryz.isAgg72
  z72 := Tryz.sizeOf72
  v72 := Tryz.zeroValue72
  t75 := Tryz.underlying75
  a75 := Tryz.isAgg75
  z75 := Tryz.sizeOf75
  v75 := Tryz.zeroValue75
  t76 := Tryz.underlying76
  a76 := Tryz.isAgg76
  z76 := Tryz.sizeOf76
  v76 := Tryz.zeroValue76
  t127 := Tryz.underlying116
  a127 := Tryz.isAgg116
  z127 := Tryz.sizeOf116
  v127 := Tryz.zeroValue116
  t164 := Tryz.underlying170
  a164 := Tryz.isAgg170
  z164 := Tryz.sizeOf170
  v164 := Tryz.zeroValue170 }
theorem Tryz.Builder_Extra_156 : Builder.Extra Tryz.prog Tryz.lays156_ren := {
  sizeBuilder := by kernel_rfl
  liesBuilder := by kernel_rfl
  t5 := Tryz.underlying5
  a5 := Tryz.isAgg5
  z5 := Tryz.sizeOf5
  v5 := Tryz.zeroValue5
  infoByte := by kernel_rfl
  cellsByte := by kernel_rfl
  sizeByte := by kernel_rfl
  neB5 := by decide }
open Go.RowKit in
theorem Tryz.strings_Join_none (a : Option Addr) (c : Nat) (sep : ByteArray) (w : World) :
    Calls Tryz.prog 34 #[.slice a 0 c, .string sep] w fun e w' => e = .returned (.string ⟨#[]⟩) ∧ w' = w := Any.strings_Join_none Tryz.lays156 Tryz.Builder_Extra_156 a c sep w
open Go.RowKit in
theorem Tryz.strings_Join (bk o c : Nat) (xs : List ByteArray) (sep : ByteArray) (w : World) (hcells : ∀ (j : Nat) x, xs[j]? = some x → w.cell? ⟨bk, o + j, none⟩ = some (.string x)) (hbk : bk < w.heap.size) (hN : xs.length ≤ 140737488355328) (hcap : xs.length ≤ c) (hlen : (Lib.join (xs.map (·.data.toList)) sep.data.toList).length ≤ 140737488355328) :
    Calls Tryz.prog 34 #[.slice (some ⟨bk, o, none⟩) xs.length c, .string sep] w fun e w' => e = .returned (.string ⟨(Lib.join (xs.map (·.data.toList)) sep.data.toList).toArray⟩) ∧ Below w.heap.size w w' := Any.strings_Join Tryz.lays156 Tryz.Builder_Extra_156 bk o c xs sep w hcells hbk hN hcap hlen
def Tryz.lays283_ren : Go.Shelf.Ren := ⟨fun | 283 => 111 | n => n, fun | 3 => 3 | 9 => 9 | 4 => 4 | n => n, fun | n => n⟩
theorem Tryz.lays283 : Go.Proofs.Lays.n283 Tryz.prog Tryz.lays283_ren := {
  mixed := by kernel_rfl
  f283 := Tryz.func111.trans (congrArg some (by kernel_rfl))
  t3 := Tryz.underlying3
  a3 := Tryz.isAgg3
  z3 := Tryz.sizeOf3
  v3 := Tryz.zeroValue3
  t4 := Tryz.underlying4
  a4 := Tryz.isAgg4
  z4 := Tryz.sizeOf4
  v4 := Tryz.zeroValue4
  t9 := Tryz.underlying9
  a9 := Tryz.isAgg9
  z9 := Tryz.sizeOf9
  v9 := Tryz.zeroValue9 }
open Go.Lib in
theorem Tryz.internal_strconv_small (i : Nat) (h : i < 100) (w : World) :
    Calls Tryz.prog 111 #[.int .i64 i] w fun e w' => e = .returned (.string ⟨(Lib.decDigits i).toArray⟩) ∧ w' = w := Any.internal_strconv_small Tryz.lays283 i h w
def Tryz.laysM171_ren : Go.Shelf.Ren := ⟨fun | 171 => 10 | 243 => 26 | 246 => 65 | 283 => 111 | 284 => 112 | 285 => 113 | 286 => 114 | 129 => 127 | 317 => 175 | 318 => 176 | 319 => 177 | 320 => 178 | 337 => 214 | 338 => 215 | n => n, fun | 3 => 3 | 9 => 9 | 2 => 2 | 4 => 4 | 171 => 165 | 0 => 0 | 53 => 97 | 37 => 28 | 5 => 5 | 173 => 168 | 212 => 241 | 51 => 111 | 20 => 20 | 213 => 242 | 46 => 67 | 232 => 324 | 233 => 325 | n => n, fun | 17 => 0 | 18 => 4 | 19 => 5 | n => n⟩
theorem Tryz.laysM171 : Go.Proofs.LaysM.n171 Tryz.prog Tryz.laysM171_ren := {
  mixed := by kernel_rfl
  f129 := Tryz.func127.trans (congrArg some (by kernel_rfl))
  f171 := Tryz.func10.trans (congrArg some (by kernel_rfl))
  f243 := Tryz.func26.trans (congrArg some (by kernel_rfl))
  f246 := Tryz.func65.trans (congrArg some (by kernel_rfl))
  f283 := Tryz.func111.trans (congrArg some (by kernel_rfl))
  f284 := Tryz.func112.trans (congrArg some (by kernel_rfl))
  f285 := Tryz.func113.trans (congrArg some (by kernel_rfl))
  f286 := Tryz.func114.trans (congrArg some (by kernel_rfl))
  f317 := Tryz.func175.trans (congrArg some (by kernel_rfl))
  f318 := Tryz.func176.trans (congrArg some (by kernel_rfl))
  f319 := Tryz.func177.trans (congrArg some (by kernel_rfl))
  f320 := Tryz.func178.trans (congrArg some (by kernel_rfl))
  f337 := Tryz.func214.trans (congrArg some (by kernel_rfl))
  f338 := Tryz.func215.trans (congrArg some (by kernel_rfl))
  t0 := Tryz.underlying0
  a0 := Tryz.isAgg0
  z0 := Tryz.sizeOf0
  v0 := Tryz.zeroValue0
  t2 := Tryz.underlying2
  a2 := Tryz.isAgg2
  z2 := Tryz.sizeOf2
  v2 := Tryz.zeroValue2
  t3 := Tryz.underlying3
  a3 := Tryz.isAgg3
  z3 := Tryz.sizeOf3
  v3 := Tryz.zeroValue3
  t4 := Tryz.underlying4
  a4 := Tryz.isAgg4
  z4 := Tryz.sizeOf4
  v4 := Tryz.zeroValue4
  t5 := Tryz.underlying5
  a5 := Tryz.isAgg5
  z5 := Tryz.sizeOf5
  v5 := Tryz.zeroValue5
  t9 := Tryz.underlying9
  a9 := Tryz.isAgg9
  z9 := Tryz.sizeOf9
  v9 := Tryz.zeroValue9
  t20 := Tryz.underlying20
  a20 := Tryz.isAgg20
  z20 := Tryz.sizeOf20
  v20 := Tryz.zeroValue20
  t37 := Tryz.underlying28
  a37 := Tryz.isAgg28
  z37 := Tryz.sizeOf28
  v37 := Tryz.zeroValue28
  t46 := Tryz.underlying67
  a46 := Tryz.isAgg67
  z46 := Tryz.sizeOf67
  v46 := Tryz.zeroValue67
  t51 := Tryz.underlying111
  a51 := Tryz.isAgg111
  z51 := Tryz.sizeOf111
  v51 := Tryz.zeroValue111
  t53 := Tryz.underlying97
  a53 := Tryz.isAgg97
  z53 := Tryz.sizeOf97
  v53 := Tryz.zeroValue97
  t171 := Tryz.underlying165
  a171 := Tryz.isAgg165
  z171 := Tryz.sizeOf165
  v171 := Tryz.zeroValue165
  t173 := Tryz.underlying168
  a173 := Tryz.isAgg168
  z173 := Tryz.sizeOf168
  v173 := Tryz.zeroValue168
  t212 := Tryz.underlying241
  a212 := Tryz.isAgg241
  z212 := Tryz.sizeOf241
  v212 := Tryz.zeroValue241
  t213 := Tryz.underlying242
  a213 := Tryz.isAgg242
  z213 := Tryz.sizeOf242
  t232 := Tryz.underlying324
  a232 := Tryz.isAgg324
  z232 := Tryz.sizeOf324
  v232 := Tryz.zeroValue324
  t233 := Tryz.underlying325
  a233 := Tryz.isAgg325
  z233 := Tryz.sizeOf325
  v233 := Tryz.zeroValue325
  g17 := by kernel_rfl
  g18 := by kernel_rfl
  g19 := by kernel_rfl
  i0 := by kernel_rfl
  i2 := by kernel_rfl
  i3 := by kernel_rfl
  i4 := by kernel_rfl
  i5 := by kernel_rfl
  i9 := by kernel_rfl
  i20 := by kernel_rfl
  i37 := by kernel_rfl
  i46 := by kernel_rfl
  i51 := by kernel_rfl
  i53 := by kernel_rfl
  i171 := by kernel_rfl
  i173 := by kernel_rfl
  i212 := by kernel_rfl
  i232 := by kernel_rfl
  i233 := by kernel_rfl
  m17 := by kernel_rfl
  m18 := by kernel_rfl
  m19 := by kernel_rfl }
open Go.RowKit Go.Sort Go.Lib in
theorem Tryz.strconv_Itoa (n : Int) (h0 : -9223372036854775808 ≤ n) (h1 : n ≤ 9223372036854775807) (w : World) (htab : Lib.TabIs Tryz.prog w "internal/strconv.uint64pow10" .u64 Lib.pow10Tab) :
    Calls Tryz.prog 10 #[.int .i64 n] w fun e w' => e = .returned (.string ⟨(Lib.itoa n).toArray⟩) ∧ ∃ k os, w' = grow (w.drewN k) os := Any.strconv_Itoa Tryz.laysM171 n h0 h1 w htab
def Tryz.lays171_ren : Go.Shelf.Ren := ⟨fun | 171 => 10 | 243 => 26 | 246 => 65 | 283 => 111 | 284 => 112 | 285 => 113 | 286 => 114 | 129 => 127 | 317 => 175 | 318 => 176 | 319 => 177 | 320 => 178 | 337 => 214 | 338 => 215 | n => n, fun | 3 => 3 | 9 => 9 | 2 => 2 | 4 => 4 | 171 => 165 | 0 => 0 | 53 => 97 | 37 => 28 | 5 => 5 | 173 => 168 | 212 => 241 | 51 => 111 | 20 => 20 | 213 => 242 | 46 => 67 | 232 => 324 | 233 => 325 | n => n, fun | 17 => 0 | 18 => 4 | 19 => 5 | n => n⟩
theorem Tryz.lays171 : Go.Proofs.Lays.n171 Tryz.prog Tryz.lays171_ren := {
  mixed := by kernel_rfl
  f129 := Tryz.func127.trans (congrArg some (by kernel_rfl))
  f171 := Tryz.func10.trans (congrArg some (by kernel_rfl))
  f243 := Tryz.func26.trans (congrArg some (by kernel_rfl))
  f246 := Tryz.func65.trans (congrArg some (by kernel_rfl))
  f283 := Tryz.func111.trans (congrArg some (by kernel_rfl))
  f284 := Tryz.func112.trans (congrArg some (by kernel_rfl))
  f285 := Tryz.func113.trans (congrArg some (by kernel_rfl))
  f286 := Tryz.func114.trans (congrArg some (by kernel_rfl))
  f317 := Tryz.func175.trans (congrArg some (by kernel_rfl))
  f318 := Tryz.func176.trans (congrArg some (by kernel_rfl))
  f319 := Tryz.func177.trans (congrArg some (by kernel_rfl))
  f320 := Tryz.func178.trans (congrArg some (by kernel_rfl))
  f337 := Tryz.func214.trans (congrArg some (by kernel_rfl))
  f338 := Tryz.func215.trans (congrArg some (by kernel_rfl))
  t0 := Tryz.underlying0
  a0 := Tryz.isAgg0
  z0 := Tryz.sizeOf0
  v0 := Tryz.zeroValue0
  t2 := Tryz.underlying2
  a2 := Tryz.isAgg2
  z2 := Tryz.sizeOf2
  v2 := Tryz.zeroValue2
  t3 := Tryz.underlying3
  a3 := Tryz.isAgg3
  z3 := Tryz.sizeOf3
  v3 := Tryz.zeroValue3
  t4 := Tryz.underlying4
  a4 := Tryz.isAgg4
  z4 := Tryz.sizeOf4
  v4 := Tryz.zeroValue4
  t5 := Tryz.underlying5
  a5 := Tryz.isAgg5
  z5 := Tryz.sizeOf5
  v5 := Tryz.zeroValue5
  t9 := Tryz.underlying9
  a9 := Tryz.isAgg9
  z9 := Tryz.sizeOf9
  v9 := Tryz.zeroValue9
  t20 := Tryz.underlying20
  a20 := Tryz.isAgg20
  z20 := Tryz.sizeOf20
  v20 := Tryz.zeroValue20
  t37 := Tryz.underlying28
  a37 := Tryz.isAgg28
  z37 := Tryz.sizeOf28
  v37 := Tryz.zeroValue28
  t46 := Tryz.underlying67
  a46 := Tryz.isAgg67
  z46 := Tryz.sizeOf67
  v46 := Tryz.zeroValue67
  t51 := Tryz.underlying111
  a51 := Tryz.isAgg111
  z51 := Tryz.sizeOf111
  v51 := Tryz.zeroValue111
  t53 := Tryz.underlying97
  a53 := Tryz.isAgg97
  z53 := Tryz.sizeOf97
  v53 := Tryz.zeroValue97
  t171 := Tryz.underlying165
  a171 := Tryz.isAgg165
  z171 := Tryz.sizeOf165
  v171 := Tryz.zeroValue165
  t173 := Tryz.underlying168
  a173 := Tryz.isAgg168
  z173 := Tryz.sizeOf168
  v173 := Tryz.zeroValue168
  t212 := Tryz.underlying241
  a212 := Tryz.isAgg241
  z212 := Tryz.sizeOf241
  v212 := Tryz.zeroValue241
  t213 := Tryz.underlying242
  a213 := Tryz.isAgg242
  z213 := Tryz.sizeOf242
  t232 := Tryz.underlying324
  a232 := Tryz.isAgg324
  z232 := Tryz.sizeOf324
  v232 := Tryz.zeroValue324
  t233 := Tryz.underlying325
  a233 := Tryz.isAgg325
  z233 := Tryz.sizeOf325
  v233 := Tryz.zeroValue325
  g17 := by kernel_rfl
  g18 := by kernel_rfl
  g19 := by kernel_rfl }
open Go.RowKit Go.Sort Go.Lib in
theorem Tryz.strconv_Itoa_small (i : Nat) (hi : i < 100) (w : World) :
    Calls Tryz.prog 10 #[.int .i64 i] w fun e w' => e = .returned (.string ⟨(Lib.decDigits i).toArray⟩) ∧ w' = w := Any.strconv_Itoa_small Tryz.lays171 i hi w
def Tryz.lays217_ren : Go.Shelf.Ren := ⟨fun | 217 => 179 | 266 => 216 | n => n, fun | 9 => 9 | 5 => 5 | 3 => 3 | n => n, fun | n => n⟩
theorem Tryz.lays217 : Go.Proofs.Lays.n217 Tryz.prog Tryz.lays217_ren := {
  mixed := by kernel_rfl
  f217 := Tryz.func179.trans (congrArg some (by kernel_rfl))
  f266 := Tryz.func216.trans (congrArg some (by kernel_rfl))
  t3 := Tryz.underlying3
  a3 := Tryz.isAgg3
  z3 := Tryz.sizeOf3
  v3 := Tryz.zeroValue3
  t5 := Tryz.underlying5
  a5 := Tryz.isAgg5
  z5 := Tryz.sizeOf5
  v5 := Tryz.zeroValue5
  t9 := Tryz.underlying9
  a9 := Tryz.isAgg9
  z9 := Tryz.sizeOf9
  v9 := Tryz.zeroValue9 }
open Go.RowKit Go.Lib in
theorem Tryz.stringslite_IndexByte (s : ByteArray) (c : Int) (w : World) :
    Calls Tryz.prog 179 #[.string s, .int .u8 c] w fun e w' => e = .returned (.int .i64 (Lib.indexByte s.data.toList c.toNat.toUInt8)) ∧ w' = w := Any.stringslite_IndexByte Tryz.lays217 s c w
def Tryz.lays219_ren : Go.Shelf.Ren := ⟨fun | 219 => 117 | 217 => 179 | 225 => 180 | 224 => 181 | 267 => 182 | 266 => 216 | 314 => 217 | n => n, fun | 9 => 9 | 3 => 3 | 4 => 4 | 5 => 5 | 46 => 67 | 146 => 112 | 51 => 111 | n => n, fun | 1 => 1 | n => n⟩
theorem Tryz.lays219 : Go.Proofs.Lays.n219 Tryz.prog Tryz.lays219_ren := {
  mixed := by kernel_rfl
  f217 := Tryz.func179.trans (congrArg some (by kernel_rfl))
  f219 := Tryz.func117.trans (congrArg some (by kernel_rfl))
  f224 := Tryz.func181.trans (congrArg some (by kernel_rfl))
  f225 := Tryz.func180.trans (congrArg some (by kernel_rfl))
  f266 := Tryz.func216.trans (congrArg some (by kernel_rfl))
  f267 := Tryz.func182.trans (congrArg some (by kernel_rfl))
  f314 := Tryz.func217.trans (congrArg some (by kernel_rfl))
  t3 := Tryz.underlying3
  a3 := Tryz.isAgg3
  z3 := Tryz.sizeOf3
  v3 := Tryz.zeroValue3
  t4 := Tryz.underlying4
  a4 := Tryz.isAgg4
  z4 := Tryz.sizeOf4
  v4 := Tryz.zeroValue4
  t5 := Tryz.underlying5
  a5 := Tryz.isAgg5
  z5 := Tryz.sizeOf5
  v5 := Tryz.zeroValue5
  t9 := Tryz.underlying9
  a9 := Tryz.isAgg9
  z9 := Tryz.sizeOf9
  v9 := Tryz.zeroValue9
  t46 := Tryz.underlying67
  a46 := Tryz.isAgg67
  z46 := Tryz.sizeOf67
  v46 := Tryz.zeroValue67
  t51 := Tryz.underlying111
  a51 := Tryz.isAgg111
  z51 := Tryz.sizeOf111
  v51 := Tryz.zeroValue111
  t146 := Tryz.underlying112
  a146 := Tryz.isAgg112
  z146 := Tryz.sizeOf112
  v146 := Tryz.zeroValue112
  g1 := by kernel_rfl }
open Go.RowKit Go.Lib in
theorem Tryz.stringslite_Index_one (s : ByteArray) (c : UInt8) (w : World) :
    Calls Tryz.prog 117 #[.string s, .string ⟨#[c]⟩] w fun e w' => e = .returned (.int .i64 (Lib.indexByte s.data.toList c)) ∧ w' = w := Any.stringslite_Index_one Tryz.lays219 s c w
def Tryz.lays138_ren : Go.Shelf.Ren := ⟨fun | 138 => 90 | 195 => 151 | 218 => 153 | 143 => 91 | 219 => 117 | 217 => 179 | 225 => 180 | 224 => 181 | 267 => 182 | 266 => 216 | 314 => 217 | n => n, fun | 9 => 9 | 3 => 3 | 4 => 4 | 5 => 5 | 0 => 0 | 46 => 67 | 146 => 112 | 51 => 111 | n => n, fun | 1 => 1 | n => n⟩
theorem Tryz.lays138 : Go.Proofs.Lays.n138 Tryz.prog Tryz.lays138_ren := {
  mixed := by kernel_rfl
  f138 := Tryz.func90.trans (congrArg some (by kernel_rfl))
  f143 := Tryz.func91.trans (congrArg some (by kernel_rfl))
  f195 := Tryz.func151.trans (congrArg some (by kernel_rfl))
  f217 := Tryz.func179.trans (congrArg some (by kernel_rfl))
  f218 := Tryz.func153.trans (congrArg some (by kernel_rfl))
  f219 := Tryz.func117.trans (congrArg some (by kernel_rfl))
  f224 := Tryz.func181.trans (congrArg some (by kernel_rfl))
  f225 := Tryz.func180.trans (congrArg some (by kernel_rfl))
  f266 := Tryz.func216.trans (congrArg some (by kernel_rfl))
  f267 := Tryz.func182.trans (congrArg some (by kernel_rfl))
  f314 := Tryz.func217.trans (congrArg some (by kernel_rfl))
  t0 := Tryz.underlying0
  a0 := Tryz.isAgg0
  z0 := Tryz.sizeOf0
  v0 := Tryz.zeroValue0
  t3 := Tryz.underlying3
  a3 := Tryz.isAgg3
  z3 := Tryz.sizeOf3
  v3 := Tryz.zeroValue3
  t4 := Tryz.underlying4
  a4 := Tryz.isAgg4
  z4 := Tryz.sizeOf4
  v4 := Tryz.zeroValue4
  t5 := Tryz.underlying5
  a5 := Tryz.isAgg5
  z5 := Tryz.sizeOf5
  v5 := Tryz.zeroValue5
  t9 := Tryz.underlying9
  a9 := Tryz.isAgg9
  z9 := Tryz.sizeOf9
  v9 := Tryz.zeroValue9
  t46 := Tryz.underlying67
  a46 := Tryz.isAgg67
  z46 := Tryz.sizeOf67
  v46 := Tryz.zeroValue67
  t51 := Tryz.underlying111
  a51 := Tryz.isAgg111
  z51 := Tryz.sizeOf111
  v51 := Tryz.zeroValue111
  t146 := Tryz.underlying112
  a146 := Tryz.isAgg112
  z146 := Tryz.sizeOf112
  v146 := Tryz.zeroValue112
  g1 := by kernel_rfl }
open Go.RowKit Go.Lib in
theorem Tryz.strings_Count_one (s : ByteArray) (c : UInt8) (w : World) :
    Calls Tryz.prog 90 #[.string s, .string ⟨#[c]⟩] w fun e w' => e = .returned (.int .i64 (Lib.countByte s.data.toList c)) ∧ w' = w := Any.strings_Count_one Tryz.lays138 s c w
def Tryz.lays105_ren : Go.Shelf.Ren := ⟨fun | 105 => 11 | 212 => 27 | 99 => 25 | 165 => 28 | 166 => 29 | 170 => 30 | 169 => 31 | 263 => 66 | 264 => 67 | 206 => 64 | 240 => 68 | 241 => 69 | 276 => 115 | 277 => 116 | n => n, fun | 9 => 9 | 3 => 3 | 4 => 4 | 20 => 20 | 0 => 0 | 46 => 67 | 109 => 68 | 5 => 5 | 72 => 72 | 76 => 76 | 51 => 111 | 146 => 112 | 53 => 97 | 148 => 114 | 70 => 70 | 37 => 28 | 75 => 75 | 127 => 116 | 164 => 170 | 80 => 79 | n => n, fun | n => n⟩
theorem Tryz.lays105 : Go.Proofs.Lays.n105 Tryz.prog Tryz.lays105_ren := {
  mixed := by kernel_rfl
  f99 := Tryz.func25.trans (congrArg some (by kernel_rfl))
  f105 := Tryz.func11.trans (congrArg some (by kernel_rfl))
  f165 := Tryz.func28.trans (congrArg some (by kernel_rfl))
  f166 := Tryz.func29.trans (congrArg some (by kernel_rfl))
  f169 := Tryz.func31.trans (congrArg some (by kernel_rfl))
  f170 := Tryz.func30.trans (congrArg some (by kernel_rfl))
  f206 := Tryz.func64.trans (congrArg some (by kernel_rfl))
  f212 := Tryz.func27.trans (congrArg some (by kernel_rfl))
  f240 := Tryz.func68.trans (congrArg some (by kernel_rfl))
  f241 := Tryz.func69.trans (congrArg some (by kernel_rfl))
  f263 := Tryz.func66.trans (congrArg some (by kernel_rfl))
  f264 := Tryz.func67.trans (congrArg some (by kernel_rfl))
  f276 := Tryz.func115.trans (congrArg some (by kernel_rfl))
  f277 := Tryz.func116.trans (congrArg some (by kernel_rfl))
  t0 := Tryz.underlying0
  a0 := Tryz.isAgg0
  z0 := Tryz.sizeOf0
  v0 := Tryz.zeroValue0
  t3 := Tryz.underlying3
  a3 := Tryz.isAgg3
  z3 := Tryz.sizeOf3
  v3 := Tryz.zeroValue3
  t4 := Tryz.underlying4
  a4 := Tryz.isAgg4
  z4 := Tryz.sizeOf4
  v4 := Tryz.zeroValue4
  t5 := Tryz.underlying5
  a5 := Tryz.isAgg5
  z5 := Tryz.sizeOf5
  v5 := Tryz.zeroValue5
  t9 := Tryz.underlying9
  a9 := Tryz.isAgg9
  z9 := Tryz.sizeOf9
  v9 := Tryz.zeroValue9
  t20 := Tryz.underlying20
  a20 := Tryz.isAgg20
  z20 := Tryz.sizeOf20
  v20 := Tryz.zeroValue20
  t37 := Tryz.underlying28
  a37 := Tryz.isAgg28
  z37 := Tryz.sizeOf28
  v37 := Tryz.zeroValue28
  t46 := Tryz.underlying67
  a46 := Tryz.isAgg67
  z46 := Tryz.sizeOf67
  v46 := Tryz.zeroValue67
  t51 := Tryz.underlying111
  a51 := Tryz.isAgg111
  z51 := Tryz.sizeOf111
  v51 := Tryz.zeroValue111
  t53 := Tryz.underlying97
  a53 := Tryz.isAgg97
  z53 := Tryz.sizeOf97
  v53 := Tryz.zeroValue97
  t70 := Tryz.underlying70
  a70 := Tryz.isAgg70
  z70 := Tryz.sizeOf70
  v70 := Tryz.zeroValue70
  t72 := Tryz.underlying72
  a72 := Tryz.isAgg72
  z72 := Tryz.sizeOf72
  v72 := Tryz.zeroValue72
  t75 := Tryz.underlying75
  a75 := Tryz.isAgg75
  z75 := Tryz.sizeOf75
  v75 := Tryz.zeroValue75
  t76 := Tryz.underlying76
  a76 := Tryz.isAgg76
  z76 := Tryz.sizeOf76
  v76 := Tryz.zeroValue76
  t109 := Tryz.underlying68
  a109 := Tryz.isAgg68
  z109 := Tryz.sizeOf68
  v109 := Tryz.zeroValue68
  t127 := Tryz.underlying116
  a127 := Tryz.isAgg116
  z127 := Tryz.sizeOf116
  v127 := Tryz.zeroValue116
  t146 := Tryz.underlying112
  a146 := Tryz.isAgg112
  z146 := Tryz.sizeOf112
  v146 := Tryz.zeroValue112
  t148 := Tryz.underlying114
  a148 := Tryz.isAgg114
  z148 := Tryz.sizeOf114
  v148 := Tryz.zeroValue114
  t164 := Tryz.underlying170
  a164 := Tryz.isAgg170
  z164 := Tryz.sizeOf170
  v164 := Tryz.zeroValue170 }
theorem Tryz.Builder_Extra_105 : Builder.Extra Tryz.prog Tryz.lays105_ren := {
  sizeBuilder := by kernel_rfl
  liesBuilder := by kernel_rfl
  t5 := Tryz.underlying5
  a5 := Tryz.isAgg5
  z5 := Tryz.sizeOf5
  v5 := Tryz.zeroValue5
  infoByte := by kernel_rfl
  cellsByte := by kernel_rfl
  sizeByte := by kernel_rfl
  neB5 := by decide }
open Go.RowKit Go.Lib in
theorem Tryz.strings_Repeat (s : ByteArray) (c : Nat) (w : World) (hc : c ≤ 9223372036854775807) (hlen : s.size * c ≤ 140737488355328) :
    Calls Tryz.prog 11 #[.string s, .int .i64 c] w fun e w' => e = .returned (.string ⟨(Lib.repeatL s.data.toList c).toArray⟩) ∧ Below w.heap.size w w' := Any.strings_Repeat Tryz.lays105 Tryz.Builder_Extra_105 s c w hc hlen
def Tryz.lays107_ren : Go.Shelf.Ren := ⟨fun | 107 => 41 | 108 => 87 | n => n, fun | 28 => 43 | 3 => 3 | 4 => 4 | 0 => 0 | n => n, fun | n => n⟩
theorem Tryz.lays107 : Go.Proofs.Lays.n107 Tryz.prog Tryz.lays107_ren := {
  mixed := by kernel_rfl
  f107 := Tryz.func41.trans (congrArg some (by kernel_rfl))
  f108 := Tryz.func87.trans (congrArg some (by kernel_rfl))
  t0 := Tryz.underlying0
  a0 := Tryz.isAgg0
  z0 := Tryz.sizeOf0
  v0 := Tryz.zeroValue0
  t3 := Tryz.underlying3
  a3 := Tryz.isAgg3
  z3 := Tryz.sizeOf3
  v3 := Tryz.zeroValue3
  t4 := Tryz.underlying4
  a4 := Tryz.isAgg4
  z4 := Tryz.sizeOf4
  v4 := Tryz.zeroValue4
  t28 := Tryz.underlying43
  a28 := Tryz.isAgg43
  z28 := Tryz.sizeOf43
  v28 := Tryz.zeroValue43 }
open Go.Lib in
theorem Tryz.slices_Contains_int (b off n c : Nat) (zs : List Int) (x : Int) (w : World) (hz : n ≤ zs.length) (hbig : n ≤ 9223372036854775807) (hc : ∀ j, j < zs.length → w.cell? ⟨b, off + j, none⟩ = some (.int .i64 (zs.getD j 0))) :
    Calls Tryz.prog 41 #[.slice (some ⟨b, off, none⟩) n c, .int .i64 x] w fun e w' => e = .returned (.bool ((zs.take n).contains x)) ∧ w' = w := Any.slices_Contains_int Tryz.lays107 b off n c zs x w hz hbig hc
end Go.Proofs
set_option linter.unusedVariables false
namespace Go.Proofs.YtpjhkpmmbeoghaaGreatDoor.Ev
open Go Go.RowKit Go.Proofs
theorem infoB0 : (Tryz.prog.info? 72).map (·.size) = some 2 := by kernel_rfl
theorem infoB : ∃ i, Tryz.prog.info? 72 = some i ∧ i.size = 2 := by
  obtain ⟨j, hj, h⟩ := Option.map_eq_some_iff.1 infoB0
  exact ⟨j, hj, h⟩
theorem info5 : (Tryz.prog.info? 5).map (fun i => (i.zero, i.size, i.bytes)) = some (some (.int .u8 0), 1, 1) := by kernel_rfl
theorem liesB : liesAt Tryz.prog Tryz.prog.depth 72 (2 / Tryz.prog.cellsOf 72) 0 72 1 = true := by kernel_rfl
set_option maxRecDepth 100000 in
theorem copyCheck_used (b : Nat) (w : World) (h0 : w.cell? ⟨b, 0, none⟩ = some (.pointer (some ⟨b, 0, none⟩))) :
    Calls Tryz.prog 68 #[.pointer (some ⟨b, 0, none⟩)] w fun e w' => e = .returned (.tuple #[]) ∧ w' = w := by
  obtain ⟨j, hj, hjs⟩ := infoB
  have hq := Lib.run_neq_ptr_same (P := Tryz.prog) w (tp := 70) (te := 72) ⟨b, 0, none⟩ Tryz.underlying70 hj
  go_enter Tryz.func68, Tryz.ntmps68
  go_wp2_with fail
  go_end0
  exact ⟨rfl, rfl⟩
set_option maxRecDepth 100000 in
theorem copyCheck_fresh (b : Nat) (w : World) (h0 : w.cell? ⟨b, 0, none⟩ = some (.pointer none)) (hsh : w.shape? b = some (72, 2)) (hfz : w.frozen? ⟨b, 0, none⟩ = false) :
    Calls Tryz.prog 68 #[.pointer (some ⟨b, 0, none⟩)] w fun e w' => e = .returned (.tuple #[]) ∧ w' = w.setCell ⟨b, 0, none⟩ (.pointer (some ⟨b, 0, none⟩)) := by
  obtain ⟨j, hj, hjs⟩ := infoB
  go_enter Tryz.func68, Tryz.ntmps68
  go_wp2_with fail
  rw [Lib.run_to_unsafe w ⟨b, 0, none⟩ Tryz.underlying70 Tryz.underlying170 hj (by rw [hjs]; decide) hsh (Nat.zero_lt_succ 1)]
  simp only [Result.andThen]
  rw [Oper.upon_value]
  go_wp2_with fail
  rw [run_callFunc_extern Tryz.func115 (by kernel_rfl) (by kernel_rfl) (by kernel_rfl) (e := Extern.AbiNoEscape.same) (by kernel_rfl)]
  rw [Lib.run_noEscape]
  simp only [Result.andThen]
  rw [Oper.upon_value]
  go_wp2_with fail
  rw [Lib.run_from_unsafe w ⟨b, 0, none⟩ Tryz.underlying170 Tryz.underlying70 hj hsh liesB]
  simp only [Result.andThen]
  rw [Oper.upon_value]
  go_wp2_with fail
  go_end0
  exact ⟨rfl, rfl⟩
def bufOf (w : World) (b : Nat) : Option Nat := match w.heap[b]? with
  | some (.cells cs _ _) => match cs[1]? with
    | some v => v.ownBlock
    | none => none
  | _ => none
structure Turn (b : Nat) (w w' : World) : Prop where
  size : w.heap.size ≤ w'.heap.size
  block : ∀ k, k < w.heap.size → k ≠ b → bufOf w b ≠ some k → w'.heap[k]? = w.heap[k]?
  buf : bufOf w' b = bufOf w b ∨ ∃ g, bufOf w' b = some g ∧ w.heap.size ≤ g
theorem Turn.refl (b : Nat) (w : World) : Turn b w w := ⟨Nat.le_refl _, fun _ _ _ _ => rfl, .inl rfl⟩
theorem Turn.trans {b : Nat} {w w1 w2 : World} (h : Turn b w w1) (h' : Turn b w1 w2) : Turn b w w2 where
  size := Nat.le_trans h.size h'.size
  block k hk hb hbf := by
    refine (h'.block k (Nat.lt_of_lt_of_le hk h.size) hb fun e => ?_).trans (h.block k hk hb hbf)
    rcases h.buf with h1 | ⟨g, h1, h2⟩
    · rw [h1] at e; exact hbf e
    · rw [h1] at e; cases e; omega
  buf := by
    rcases h'.buf with h1 | ⟨g, h1, h2⟩
    · rw [h1]; exact h.buf
    · exact .inr ⟨g, h1, Nat.le_trans h.size h2⟩
theorem bufOf_at {w : World} {b : Nat} {p v : Value} {t : TypeId} {fr : Nat × Nat} (h : w.heap[b]? = some (.cells #[p, v] t fr)) : bufOf w b = v.ownBlock := by simp [bufOf, h]
theorem copyCheck_turn (B b : Nat) (l : List Value) (w : World) (h : Lib.IsBuilder 72 5 B b l w) :
    Calls Tryz.prog 68 #[.pointer (some ⟨b, 0, none⟩)] w fun e w' => e = .returned (.tuple #[]) ∧ Lib.BuilderAt 72 5 B b (.pointer (some ⟨b, 0, none⟩)) l w' ∧ Below B w w' ∧ Turn b w w' := by
  rcases h with h | h
  · refine (copyCheck_fresh b w h.cell0 h.shape h.frozen0).mono ?_
    rintro e w' ⟨rfl, rfl⟩
    refine ⟨rfl, h.used _, (Below.refl B w).setCell (p := ⟨b, 0, none⟩) h.1 _, by simp [World.setCell], fun k _ hk _ => Below.heap_setCell _ _ _ _ (fun e => hk (by simp [e])), .inl ?_⟩
    obtain ⟨_, v, hb, _⟩ := h
    have : (w.setCell ⟨b, 0, none⟩ (.pointer (some ⟨b, 0, none⟩))).heap[b]? = some (.cells #[.pointer (some ⟨b, 0, none⟩), v] 72 (0, 0)) := by simp [World.setCell, Array.getElem?_modify, hb]
    rw [bufOf_at hb, bufOf_at this]
  · refine (copyCheck_used b w h.cell0).mono ?_
    rintro e w' ⟨rfl, rfl⟩
    exact ⟨rfl, h, Below.refl B _, .refl _ _⟩
theorem own_str (w : World) (B : Nat) (v : Value) (n : Nat) (xs : List Value) (s : ByteArray) (hown : w.ownsRow B 5 1 v n xs) (hlen : n + s.size ≤ 140737488355328) (hB : B ≤ w.heap.size) :
    ∃ v' w', (Builtin.append_ #[28, 9] 28 #[v, .string s]).run Tryz.prog w = .ok v' w' ∧ w'.ownsRow B 5 1 v' (n + s.size) (xs ++ Lib.strCells s) ∧ w.grownBy w' v.ownBlock ∧ (v'.ownBlock = v.ownBlock ∨ v'.ownBlock = some w.heap.size) := by
  obtain ⟨i, hi, hz, h1, h2⟩ := info_parts info5
  obtain ⟨v', w', hr, ho, hg, hn⟩ := Lib.run_append_own_string (P := Tryz.prog) w B 28 9 28 5 i Tryz.underlying28 Tryz.underlying9 hi hz h1 h2 v n xs hown s (by unfold maxLen; omega) hlen hB
  refine ⟨v', w', hr, ho, hg, ?_⟩
  have hxl : xs.length = n := by simpa using hown.1
  rcases hown.2 with ⟨rfl, rfl⟩ | ⟨g, cap, cur, rfl, hbg, hgc, hnc, hcm, hcs, htake⟩
  · by_cases hm : s.size = 0
    · exact .inl (by rw [hn.2 ⟨rfl, hm⟩])
    · have hr2 := run_append_nil_string (P := Tryz.prog) w 28 9 28 5 i (.int .u8 0) Tryz.underlying28 Tryz.underlying9 hi hz s (by omega) (by omega) (by rw [h2]; omega)
      have := hr.symm.trans hr2
      simp only [Result.ok.injEq] at this
      rw [this.1]; exact .inr rfl
  · by_cases hroom : n + s.size ≤ cap
    · have hcs' : cur.size = cap := by simpa using hcs
      have hr2 := Lib.run_append_room_string (P := Tryz.prog) w 28 9 28 5 i Tryz.underlying28 Tryz.underlying9 hi h1 g n cap cur hgc s hroom (by omega)
      have := hr.symm.trans hr2
      simp only [Result.ok.injEq] at this
      rw [this.1]; exact .inl rfl
    · have holds : ∀ j u, xs[j]? = some u → w.cell? ((⟨g, 0, none⟩ : Addr).add j) = some u := hown.cells (g := g) rfl
      have hr2 := Lib.run_append_grow_string (P := Tryz.prog) w 28 9 28 5 i (.int .u8 0) Tryz.underlying28 Tryz.underlying9 hi hz ⟨g, 0, none⟩ n cap xs (by rw [h1]; simpa using hxl) holds s (by omega) (by omega) (by rw [h2]; exact growslice_fits (by omega) (by omega))
      have := hr.symm.trans hr2
      simp only [Result.ok.injEq] at this
      rw [this.1]; exact .inr rfl
theorem own_byte (w : World) (B : Nat) (v : Value) (n : Nat) (xs : List Value) (a : Addr) (c : Int) (hown : w.ownsRow B 5 1 v n xs) (ha : w.cell? a = some (.int .u8 c)) (hlen : n + 1 ≤ 140737488355328) (hB : B ≤ w.heap.size) :
    ∃ v' w', (Builtin.append_ #[28, 28] 28 #[v, .slice (some a) 1 1]).run Tryz.prog w = .ok v' w' ∧ w'.ownsRow B 5 1 v' (n + 1) (xs ++ [.int .u8 c]) ∧ w.grownBy w' v.ownBlock ∧ (v'.ownBlock = v.ownBlock ∨ v'.ownBlock = some w.heap.size) := by
  obtain ⟨i, hi, hz, h1, h2⟩ := info_parts info5
  have hnews : ∀ j u, ([.int .u8 c] : List Value)[j]? = some u → w.cell? (a.add j) = some u := by
    intro j u hj
    match j, hj with
    | 0, hj =>
      simp at hj; subst hj
      have : a.add 0 = a := by simp [Addr.add]
      rw [this]; exact ha
  have hone : ∀ u ∈ ([.int .u8 c] : List Value), u.oneCell' = true := by intro u hu; simp at hu; subst hu; rfl
  obtain ⟨v', w', hr, ho, hg, hn⟩ := run_append_own (P := Tryz.prog) w B 28 28 5 i (.int .u8 0) 1 1 Tryz.underlying28 hi hz h1 h2 rfl (by decide) v n xs hown a 1 1 [.int .u8 c] rfl hnews hone (by unfold maxLen; omega) (by omega) hB
  refine ⟨v', w', hr, ho, hg, ?_⟩
  have hxl : xs.length = n := by simpa using hown.1
  rcases hown.2 with ⟨rfl, rfl⟩ | ⟨g, cap, cur, rfl, hbg, hgc, hnc, hcm, hcs, htake⟩
  · have hr2 := run_append_nil (P := Tryz.prog) w 28 28 5 i (.int .u8 0) Tryz.underlying28 hi hz a 1 1 [.int .u8 c] (by rw [h1]; rfl) hnews (by omega) (by omega) (by rw [h2]; omega)
    have := hr.symm.trans hr2
    simp only [Result.ok.injEq] at this
    rw [this.1]; exact .inr rfl
  · by_cases hroom : n + 1 ≤ cap
    · have hcs' : cur.size = cap := by simpa using hcs
      have hr2 := run_append_room (P := Tryz.prog) w 28 28 5 i Tryz.underlying28 hi g n cap cur hgc a 1 1 [.int .u8 c] (by rw [h1]; rfl) hnews hone hroom (by rw [h1]; simp; omega)
      have := hr.symm.trans hr2
      simp only [Result.ok.injEq] at this
      rw [this.1]; exact .inl rfl
    · have holds : ∀ j u, xs[j]? = some u → w.cell? ((⟨g, 0, none⟩ : Addr).add j) = some u := hown.cells (g := g) rfl
      have hr2 := run_append_grow (P := Tryz.prog) w 28 28 5 i (.int .u8 0) Tryz.underlying28 hi hz ⟨g, 0, none⟩ n cap xs (by rw [h1]; simpa using hxl) holds a 1 1 [.int .u8 c] (by rw [h1]; rfl) hnews (by omega) (by omega) (by rw [h2]; exact growslice_fits (by omega) (by omega))
      have := hr.symm.trans hr2
      simp only [Result.ok.injEq] at this
      rw [this.1]; exact .inr rfl
theorem turn_put {B b : Nat} {w w1 w2 : World} {v v' p : Value} (hB : B ≤ b) (hb1 : Below B w w1) (ht1 : Turn b w w1) (hg : w1.grownBy w2 v.ownBlock) (hsh : v'.ownBlock = v.ownBlock ∨ v'.ownBlock = some w1.heap.size)
    (hbk : w1.heap[b]? = some (.cells #[p, v] 72 (0, 0))) (hb2 : w2.heap[b]? = some (.cells #[p, v] 72 (0, 0))) (hlow : ∀ k, v.ownBlock = some k → B ≤ k) :
    Below B w (w2.setCell ⟨b, 1, none⟩ v') ∧ Turn b w (w2.setCell ⟨b, 1, none⟩ v') := by
  have e3 : (w2.setCell ⟨b, 1, none⟩ v').heap[b]? = some (.cells #[p, v'] 72 (0, 0)) := by simp [World.setCell, Array.getElem?_modify, hb2]
  have hlt : b < w1.heap.size := by
    rcases Nat.lt_or_ge b w1.heap.size with h' | h'
    · exact h'
    · simp [Array.getElem?_eq_none h'] at hbk
  refine ⟨(hb1.grown hg (Nat.le_of_lt (Nat.lt_of_le_of_lt hB hlt)) hlow).setCell (p := ⟨b, 1, none⟩) hB _, ht1.trans ⟨?_, fun k hk hkb hbf => ?_, ?_⟩⟩
  · have := hg.size; simpa [World.setCell] using this
  · rw [bufOf_at hbk] at hbf
    exact (Below.heap_setCell _ _ _ _ (fun e => hkb (by simp [e]))).trans (hg.block k hk fun e => hbf e.symm)
  · rw [bufOf_at hbk, bufOf_at e3]
    rcases hsh with h | h
    · exact .inl h
    · exact .inr ⟨_, h, Nat.le_refl _⟩
set_option maxRecDepth 100000 in
theorem writeString_turn (B b : Nat) (l : List Value) (s : ByteArray) (w : World) (h : Lib.IsBuilder 72 5 B b l w) (hlen : l.length + s.size ≤ 140737488355328) (hBw : B ≤ w.heap.size) :
    Calls Tryz.prog 29 #[.pointer (some ⟨b, 0, none⟩), .string s] w fun e w' => e = .returned (.tuple #[.int .i64 s.size, .nilIface]) ∧ Lib.IsBuilder 72 5 B b (l ++ Lib.strCells s) w' ∧ Below B w w' ∧ Turn b w w' := by
  go_enter Tryz.func29, Tryz.ntmps29
  go_wp2_with (go_at_call 68; refine (copyCheck_turn B b l _ h).mono ?_)
  rintro e w1 ⟨rfl, h1, hb1, ht1⟩
  obtain ⟨hB, v, hbk, hown, hne⟩ := h1
  have hs1 : B ≤ w1.heap.size := Nat.le_trans hBw hb1.size
  have c0 : w1.cell? ⟨b, 0, none⟩ = some (.pointer (some ⟨b, 0, none⟩)) := by rw [Lib.cell_of_heap hbk]; rfl
  have c1 : w1.cell? ⟨b, 1, none⟩ = some v := by rw [Lib.cell_of_heap hbk]; rfl
  obtain ⟨v', w2, hr, hown', hgrow, hsh⟩ := own_str w1 B v l.length l s hown hlen hs1
  obtain ⟨ao, n', cap, rfl⟩ : ∃ ao n' cap, v' = .slice ao n' cap := by
    rcases hown'.2 with ⟨hv, _⟩ | ⟨g, cap, cur, hv, _⟩
    · exact ⟨_, _, _, hv⟩
    · exact ⟨_, _, _, hv⟩
  have hlt : b < w1.heap.size := by
    rcases Nat.lt_or_ge b w1.heap.size with h' | h'
    · exact h'
    · simp [Array.getElem?_eq_none h'] at hbk
  have hb2 : w2.heap[b]? = some (.cells #[.pointer (some ⟨b, 0, none⟩), v] 72 (0, 0)) := by
    rw [hgrow.block b hlt (fun e => hne e.symm)]
    exact hbk
  have d0 : w2.cell? ⟨b, 0, none⟩ = some (.pointer (some ⟨b, 0, none⟩)) := by rw [Lib.cell_of_heap hb2]; rfl
  have d1 : w2.cell? ⟨b, 1, none⟩ = some v := by rw [Lib.cell_of_heap hb2]; rfl
  have f1 : w2.frozen? ⟨b, 1, none⟩ = false := Lib.frozen_of_heap hb2 1
  have HR := Lib.hid hr; have HO := Lib.hid hown'; have HG := Lib.hid hgrow; have HN := Lib.hid hown; have HS := Lib.hid hsh; have HK := Lib.hid hb2
  have HB1 := Lib.hid hb1; have HT1 := Lib.hid ht1; have HBK := Lib.hid hbk
  clear hr hown' hgrow hown hsh hb2 hbk hlen hBw hs1 hb1 ht1
  go_wp2_with (at_builtin; refine Lib.wpList_append_run _ rfl (.tmp 12) (.tmp 13) 28 9 rfl v (.string s) rfl rfl _ _ HR.out ?_)
  go_ret2
  exact ⟨rfl, .inr (Lib.BuilderAt.put (T := 72) (e := 5) hB HK.out (bs' := l ++ Lib.strCells s) (by simpa [Lib.strCells_length] using HO.out) (by decide)), turn_put (w1 := w1) hB HB1.out HT1.out HG.out HS.out HBK.out HK.out (fun k hk => (HN.out.lt k hk).1)⟩
set_option maxRecDepth 100000 in
theorem writeByte_turn (B b : Nat) (l : List Value) (c : Int) (w : World) (h : Lib.IsBuilder 72 5 B b l w) (hlen : l.length + 1 ≤ 140737488355328) (hBw : B ≤ w.heap.size) :
    Calls Tryz.prog 33 #[.pointer (some ⟨b, 0, none⟩), .int .u8 c] w fun e w' => e = .returned .nilIface ∧ Lib.IsBuilder 72 5 B b (l ++ [.int .u8 c]) w' ∧ Below B w w' ∧ Turn b w w' := by
  go_enter Tryz.func33, Tryz.ntmps33
  go_wp2_with (go_at_call 68; refine (copyCheck_turn B b l _ h).mono ?_)
  rintro e w0 ⟨rfl, h1, hb0, ht0⟩
  obtain ⟨hB, v, hbk0, hown0, hne⟩ := h1
  have hs0 : B ≤ w0.heap.size := Nat.le_trans hBw hb0.size
  have c0 : w0.cell? ⟨b, 0, none⟩ = some (.pointer (some ⟨b, 0, none⟩)) := by rw [Lib.cell_of_heap hbk0]; rfl
  have c1 : w0.cell? ⟨b, 1, none⟩ = some v := by rw [Lib.cell_of_heap hbk0]; rfl
  have hlt0 : b < w0.heap.size := by
    rcases Nat.lt_or_ge b w0.heap.size with h' | h'
    · exact h'
    · simp [Array.getElem?_eq_none h'] at hbk0
  obtain ⟨w1, hw1⟩ : ∃ w1, w1 = w0.alloc (.cells #[.int .u8 c] 5) := ⟨_, rfl⟩
  have hb1 : Below B w w1 := by rw [hw1]; exact hb0.alloc hs0 _
  have hbk : w1.heap[b]? = some (.cells #[.pointer (some ⟨b, 0, none⟩), v] 72 (0, 0)) := by rw [hw1, Lib.alloc_old w0 _ b hlt0]; exact hbk0
  have ht1 : Turn b w w1 := ht0.trans ⟨by rw [hw1]; simp, fun k hk _ _ => by rw [hw1]; exact Lib.alloc_old w0 _ k hk, .inl (by rw [bufOf_at hbk, bufOf_at hbk0])⟩
  have hown : w1.ownsRow B 5 1 v l.length l := by rw [hw1]; exact hown0.alloc _
  have ha : w1.cell? ⟨w0.heap.size, 0, none⟩ = some (.int .u8 c) := by rw [hw1, Lib.cell_of_heap (heap_alloc_new w0 _)]; rfl
  have hs1 : B ≤ w1.heap.size := Nat.le_trans hBw hb1.size
  have hlt : b < w1.heap.size := by rw [hw1]; simp; omega
  obtain ⟨v', w2, hr, hown', hgrow, hsh⟩ := own_byte w1 B v l.length l ⟨w0.heap.size, 0, none⟩ c hown ha hlen hs1
  obtain ⟨ao, n', cap, rfl⟩ : ∃ ao n' cap, v' = .slice ao n' cap := by
    rcases hown'.2 with ⟨hv, _⟩ | ⟨g, cap, cur, hv, _⟩
    · exact ⟨_, _, _, hv⟩
    · exact ⟨_, _, _, hv⟩
  have hb2 : w2.heap[b]? = some (.cells #[.pointer (some ⟨b, 0, none⟩), v] 72 (0, 0)) := by
    rw [hgrow.block b hlt (fun e => hne e.symm)]
    exact hbk
  have d0 : w2.cell? ⟨b, 0, none⟩ = some (.pointer (some ⟨b, 0, none⟩)) := by rw [Lib.cell_of_heap hb2]; rfl
  have d1 : w2.cell? ⟨b, 1, none⟩ = some v := by rw [Lib.cell_of_heap hb2]; rfl
  have f1 : w2.frozen? ⟨b, 1, none⟩ = false := Lib.frozen_of_heap hb2 1
  have hr2 : (Builtin.append_ #[28, 28] 28 #[v, .slice (some ⟨w0.heap.size, 0, none⟩) 1 1]).run Tryz.prog (w0.alloc (.cells #[.int .u8 c] 5)) = .ok (.slice ao n' cap) w2 := by rw [← hw1]; exact hr
  have HR := Lib.hid hr2; have HO := Lib.hid hown'; have HG := Lib.hid hgrow; have HN := Lib.hid hown; have HS := Lib.hid hsh; have HK := Lib.hid hb2
  have HB1 := Lib.hid hb1; have HT1 := Lib.hid ht1; have HBK := Lib.hid hbk
  clear hr hr2 hown' hgrow hown hsh hb2 hbk hlen hBw hs1 hb1 ht1 hw1 ha hb0 ht0 hown0 hbk0 hs0
  go_wp2_with (at_builtin; refine Lib.wpList_append_run _ rfl (.tmp 11) (.tmp 13) 28 28 rfl v (.slice (some ⟨w0.heap.size, 0, none⟩) 1 1) rfl rfl _ _ HR.out ?_)
  go_ret
  exact ⟨rfl, .inr (Lib.BuilderAt.put (T := 72) (e := 5) hB HK.out (bs' := l ++ [.int .u8 c]) (by simpa using HO.out) (by decide)), turn_put (w1 := w1) hB HB1.out HT1.out HG.out HS.out HBK.out HK.out (fun k hk => (HN.out.lt k hk).1)⟩
end Go.Proofs.YtpjhkpmmbeoghaaGreatDoor.Ev
set_option linter.unusedVariables false
namespace Go.Proofs.YtpjhkpmmbeoghaaGreatDoor.Ev
open Go Go.RowKit Go.Proofs
theorem bs_take (l r : List UInt8) : (bs (l ++ r)).extract 0 l.length = bs l := ByteArray.ext (by simp [bs, ByteArray.data_extract])
theorem bs_drop (l r : List UInt8) (x : UInt8) : (bs (l ++ x :: r)).extract (l.length + 1) (bs (l ++ x :: r)).size = bs r := ByteArray.ext (by
  simp only [bs, ByteArray.data_extract, ByteArray.size]
  apply Array.ext'
  simp [List.extract]
  exact List.take_of_length_le (by omega))
theorem indexByte_at (c : UInt8) : ∀ (l r : List UInt8), c ∉ l → Lib.indexByte (l ++ c :: r) c = l.length
  | [], r, _ => by simp [Lib.indexByte]
  | x :: l, r, h => by
    have h1 : ¬ x = c := fun e => h (by simp [e])
    have h2 : c ∉ l := fun e => h (by simp [e])
    have ih := indexByte_at c l r h2
    simp only [List.cons_append, Lib.indexByte, ih]
    have : (x == c) = false := by simp [h1]
    simp [this]
    try omega
theorem indexByte_none (c : UInt8) : ∀ (l : List UInt8), c ∉ l → Lib.indexByte l c = -1
  | [], _ => rfl
  | x :: l, h => by
    have h1 : ¬ x = c := fun e => h (by simp [e])
    have h2 : c ∉ l := fun e => h (by simp [e])
    have ih := indexByte_none c l h2
    simp only [Lib.indexByte, ih]
    have : (x == c) = false := by simp [h1]
    simp [this]
def CutsTo (t l r : List UInt8) : Prop := (10 : UInt8) ∉ l ∧ (t = l ++ 10 :: r ∨ t = l ∧ r = [])
set_option maxRecDepth 100000 in
theorem liteCut_walk (t l r : List UInt8) (w : World) (h : CutsTo t l r) (hs : t.length < 4294967281) :
    Calls Tryz.prog 70 #[.string (bs t), .string ⟨#[10]⟩] w fun e w' => ∃ f, e = .returned (.tuple #[.string (bs l), .string (bs r), .bool f]) ∧ ∃ n, w' = w.drewN n := by
  obtain ⟨hn, rfl | ⟨rfl, rfl⟩⟩ := h
  · have hi : Lib.indexByte (bs (l ++ 10 :: r)).data.toList 10 = (l.length : Int) := indexByte_at 10 l r hn
    have e1 := bs_take l (10 :: r)
    have e2 := bs_drop l r 10
    have hsz : (bs (l ++ 10 :: r)).size = l.length + 1 + r.length := by simp [bs, ByteArray.size]; omega
    rw [hsz] at e2
    have hl : l.length + 1 + r.length < 4294967281 := by simp at hs; omega
    obtain ⟨L, hL⟩ : ∃ L, L = l.length := ⟨_, rfl⟩
    obtain ⟨N, hN⟩ : ∃ N, N = l.length + 1 + r.length := ⟨_, rfl⟩
    obtain ⟨S, hS⟩ : ∃ S, S = bs (l ++ 10 :: r) := ⟨_, rfl⟩
    rw [← hL] at hi e1 e2 hsz hl hN
    rw [← hN] at e2 hsz hl
    rw [← hS] at hi e1 e2 hsz ⊢
    have hz : (ByteArray.mk #[10]).size = 1 := rfl
    have c1 : (0 : Int) ≤ (L : Int) := by omega
    have c2 : (L : Int) ≤ (N : Int) := by omega
    have c3 : (0 : Int) ≤ (L : Int) + 1 := by omega
    have c4 : (L : Int) + 1 ≤ (N : Int) := by omega
    have i1 : IntKind.i64.wrap ((L : Int) + 1) = (L : Int) + 1 := IntWalk.i64_in _ (by omega)
    have HN := Lib.hid hN
    clear hN hS hL
    go_enter Tryz.func70, Tryz.ntmps70
    go_wp2_with (go_at_call 117; refine (Tryz.stringslite_Index_one S 10 _).mono ?_; rintro e w' ⟨rfl, rfl⟩; rw [hi])
    go_quiet (fail)
    go_wp2_with fail
    go_ret3
    exact ⟨true, rfl, _, rfl⟩
  · have hi : Lib.indexByte (bs t).data.toList 10 = -1 := indexByte_none 10 t hn
    obtain ⟨S, hS⟩ : ∃ S, S = bs t := ⟨_, rfl⟩
    rw [← hS] at hi ⊢
    clear hS
    go_enter Tryz.func70, Tryz.ntmps70
    go_wp2_with (go_at_call 117; refine (Tryz.stringslite_Index_one S 10 _).mono ?_; rintro e w' ⟨rfl, rfl⟩; rw [hi])
    go_ret3
    exact ⟨false, rfl, 0, rfl⟩
set_option maxRecDepth 100000 in
theorem cut_walk (t l r : List UInt8) (w : World) (h : CutsTo t l r) (hs : t.length < 4294967281) :
    Calls Tryz.prog 32 #[.string (bs t), .string ⟨#[10]⟩] w fun e w' => ∃ f, e = .returned (.tuple #[.string (bs l), .string (bs r), .bool f]) ∧ ∃ n, w' = w.drewN n := by
  obtain ⟨S, hS⟩ : ∃ S, S = bs t := ⟨_, rfl⟩
  have hc := liteCut_walk t l r w h hs
  rw [← hS] at hc ⊢
  clear hS
  go_enter Tryz.func32, Tryz.ntmps32
  go_wp2_with (go_at_call 70; refine hc.mono ?_; rintro e w' ⟨f, rfl, n, rfl⟩)
  go_ret3
  exact ⟨f, rfl, n, rfl⟩
end Go.Proofs.YtpjhkpmmbeoghaaGreatDoor.Ev
set_option linter.unusedVariables false
namespace Go.Proofs.YtpjhkpmmbeoghaaGreatDoor.Ev
open Go Go.RowKit Go.Proofs
theorem itoa_walk (n : Nat) (w : World) (hn : n < 1000) (htab : Lib.TabIs Tryz.prog w "internal/strconv.uint64pow10" .u64 Lib.pow10Tab) :
    Calls Tryz.prog 10 #[.int .i64 n] w fun e w' => e = .returned (.string (bs (Lib.itoa n))) ∧ Below w.heap.size w w' := by
  refine (Tryz.strconv_Itoa n (by omega) (by omega) w htab).mono ?_
  rintro e w' ⟨rfl, k, os, rfl⟩
  exact ⟨rfl, Lib.below_grow _ _ (Nat.le_refl _) _ _⟩
def ansL (told : List UInt8) (e : Nat) : List UInt8 := if e = 0 then told else 33 :: 32 :: Lib.itoa e
def outL (told : Nat → List UInt8) (err : Nat → Nat) : Nat → List UInt8
  | 0 => []
  | j + 1 => outL told err j ++ (ansL (told j) (err j) ++ [10])
theorem isB_keep {B b : Nat} {l : List Value} {w w' : World} (h : Lib.IsBuilder 72 5 B b l w) (hb : w'.heap[b]? = w.heap[b]?) (hg : ∀ g, bufOf w b = some g → w'.heap[g]? = w.heap[g]?) : Lib.IsBuilder 72 5 B b l w' := by
  have key : ∀ p, Lib.BuilderAt 72 5 B b p l w → Lib.BuilderAt 72 5 B b p l w' := by
    rintro p ⟨hB, v, hbk, hown, hne⟩
    refine ⟨hB, v, hb.trans hbk, ⟨hown.1, ?_⟩, hne⟩
    rcases hown.2 with h | ⟨g, cap, cur, rfl, hbg, hgc, r⟩
    · exact .inl h
    · exact .inr ⟨g, cap, cur, rfl, hbg, (hg g (bufOf_at hbk)).trans hgc, r⟩
  exact h.imp (key _) (key _)
theorem isB_lt {B b : Nat} {l : List Value} {w : World} (h : Lib.IsBuilder 72 5 B b l w) : b < w.heap.size ∧ ∀ g, bufOf w b = some g → g < w.heap.size := by
  have key : ∀ p, Lib.BuilderAt 72 5 B b p l w → b < w.heap.size ∧ ∀ g, bufOf w b = some g → g < w.heap.size := by
    rintro p h
    refine ⟨h.lt, fun g hg => ?_⟩
    obtain ⟨hB, v, hbk, hown, hne⟩ := h
    rw [bufOf_at hbk] at hg
    rcases hown.2 with ⟨rfl, _⟩ | ⟨g', cap, cur, rfl, hbg, hgc, r⟩
    · cases hg
    · cases hg
      exact (Array.getElem?_eq_some_iff.1 hgc).1
  exact h.elim (key _) (key _)
def SR (S : Nat → Value → Cf → Prop) (pv : Value) (w0 : World) (b j : Nat) (l : List UInt8) (w : World) : Prop :=
  ∃ c, c.w = w ∧ S j pv c ∧ Far c b ∧ (∀ g, bufOf w b = some g → Far c g) ∧ (∀ k, k < w0.heap.size → Far c k) ∧ Lib.IsBuilder 72 5 w0.heap.size b (Lib.byteCells l) w ∧ Below w0.heap.size w0 w
section
variable {n : Nat} {L told : Nat → List UInt8} {err : Nat → Nat} {S : Nat → Value → Cf → Prop} {pv : Value} {w0 w w' : World} {b j : Nat} {l l' : List UInt8}
theorem SR.start {c : Cf} (hL : Lines Tryz.prog 9 n L told err S) (hS : S 0 pv c) (hb : Below w0.heap.size w0 c.w) (hf : ∀ k, k < w0.heap.size → Far c k) :
    SR S pv w0 c.w.heap.size 0 [] (c.w.alloc (.cells #[.pointer none, .slice none 0 0] 72)) := by
  have hr := hL.hr hS
  have hb2 := heap_alloc_new c.w (.cells #[.pointer none, .slice none 0 0] 72)
  refine ⟨{ c with w := c.w.alloc (.cells #[.pointer none, .slice none 0 0] 72) }, rfl, hL.foreign hS (hr.foreign (by simp) fun k hk _ => Lib.alloc_old _ _ k hk), fun b F h1 _ => ?_, fun g hg => ?_, hf, ?_, hb.alloc (by exact hb.size) _⟩
  · have := hr.lt b F h1; omega
  · rw [bufOf_at hb2] at hg; cases hg
  · exact .inl ⟨hb.size, .slice none 0 0, hb2, World.ownsRow_nil _ _ _ _, by simp [Value.ownBlock]⟩
theorem SR.below (hL : Lines Tryz.prog 9 n L told err S) (h : SR S pv w0 b j l w) (hb : Below w.heap.size w w') : SR S pv w0 b j l w' := by
  obtain ⟨c, rfl, hS, h1, h2, h3, h4, h5⟩ := h
  have hr := hL.hr hS
  obtain ⟨l1, l2⟩ := isB_lt h4
  have e : bufOf w' b = bufOf c.w b := by unfold bufOf; rw [hb.block b l1]
  exact ⟨{ c with w := w' }, rfl, hL.foreign hS (hr.foreign hb.size fun k hk _ => hb.block k hk), h1, fun g hg => h2 g (e ▸ hg), h3, isB_keep h4 (hb.block b l1) fun g hg => hb.block g (l2 g hg), h5.trans (hb.mono h5.size)⟩
theorem SR.turn (hL : Lines Tryz.prog 9 n L told err S) (h : SR S pv w0 b j l w) (hB : Lib.IsBuilder 72 5 w0.heap.size b (Lib.byteCells l') w') (hb : Below w0.heap.size w w') (ht : Turn b w w') : SR S pv w0 b j l' w' := by
  obtain ⟨c, rfl, hS, h1, h2, h3, h4, h5⟩ := h
  have hr := hL.hr hS
  refine ⟨{ c with w := w' }, rfl, hL.foreign hS (hr.foreign ht.size fun k hk hnf => ht.block k hk (fun e => hnf (e ▸ h1)) (fun e => hnf (h2 k e))), h1, fun g hg => ?_, h3, hB, h5.trans hb⟩
  rcases ht.buf with e | ⟨g', e, hle⟩
  · exact h2 g (e ▸ hg)
  · rw [e] at hg; cases hg
    intro b' F hf _
    have := hr.lt b' F hf; omega
theorem SR.play (hL : Lines Tryz.prog 9 n L told err S) (h : SR S pv w0 b j l w) (hj : j < n) :
    Calls Tryz.prog 9 #[pv, .string (bs (L j))] w fun e w' => e = .returned (.tuple #[.string (bs (told j)), .int .i64 (err j : Nat)]) ∧ SR S pv w0 b (j + 1) l w' := by
  obtain ⟨c, rfl, hS, h1, h2, h3, h4, h5⟩ := h
  refine (hL.step hj hS).mono ?_
  rintro e w' ⟨rfl, c', rfl, hS', hk⟩
  obtain ⟨l1, l2⟩ := isB_lt h4
  have e : bufOf c'.w b = bufOf c.w b := by unfold bufOf; rw [hk.frame b l1 h1]
  refine ⟨rfl, c', rfl, hS', hk.far b l1 h1, fun g hg => ?_, fun k hk' => hk.far k (Nat.lt_of_lt_of_le hk' h5.size) (h3 k hk'), isB_keep h4 (hk.frame b l1 h1) fun g hg => hk.frame g (l2 g hg) (h2 g hg), ?_⟩
  · rw [e] at hg; exact hk.far g (l2 g hg) (h2 g hg)
  · exact ⟨hk.tape.2.1.trans h5.os, hk.tape.1.trans h5.tape, hk.tape.2.2.trans h5.output, Nat.le_trans h5.size hk.size, fun k hk' => (hk.frame k (Nat.lt_of_lt_of_le hk' h5.size) (h3 k hk')).trans (h5.block k hk')⟩
end
end Go.Proofs.YtpjhkpmmbeoghaaGreatDoor.Ev
set_option linter.unusedVariables false
namespace Go.Proofs.YtpjhkpmmbeoghaaGreatDoor.Ev
open Go Go.RowKit Go.Proofs
theorem tab_below {B : Nat} {w w' : World} {z : List Int} (h : Below B w w') (hB : 0 < B) (ht : Lib.TabIs Tryz.prog w "internal/strconv.uint64pow10" .u64 z) : Lib.TabIs Tryz.prog w' "internal/strconv.uint64pow10" .u64 z :=
  var?_below h (g := 0) (by kernel_rfl) hB ht
theorem bs_ne {l : List UInt8} (h : l ≠ []) : (bs l).toList.isEmpty = false := by
  rw [ByteArray.toList_eq]
  show l.isEmpty = false
  cases l with
  | nil => exact absurd rfl h
  | cons _ _ => rfl
theorem bs_cat (l m : List UInt8) : bs l ++ bs m = bs (l ++ m) := ByteArray.ext (by simp [bs, ByteArray.data_append])
theorem strCells_bs (l : List UInt8) : Lib.strCells (bs l) = Lib.byteCells l := by simp [Lib.strCells, Lib.byteCells, bs]
theorem byteCells_app (l m : List UInt8) : Lib.byteCells (l ++ m) = Lib.byteCells l ++ Lib.byteCells m := by simp [Lib.byteCells]
theorem SR.isB {S : Nat → Value → Cf → Prop} {pv : Value} {w0 w : World} {b j : Nat} {l : List UInt8} (h : SR S pv w0 b j l w) : Lib.IsBuilder 72 5 w0.heap.size b (Lib.byteCells l) w := by
  obtain ⟨c, rfl, hS, h1, h2, h3, h4, h5⟩ := h; exact h4
theorem SR.bel {S : Nat → Value → Cf → Prop} {pv : Value} {w0 w : World} {b j : Nat} {l : List UInt8} (h : SR S pv w0 b j l w) : Below w0.heap.size w0 w := by
  obtain ⟨c, rfl, hS, h1, h2, h3, h4, h5⟩ := h; exact h5
theorem below_drawn (w : World) (m : Nat) : Below w.heap.size w (w.drewN m) := ⟨rfl, rfl, rfl, Nat.le_refl _, fun _ _ => rfl⟩
theorem SR.wrote {n : Nat} {L told : Nat → List UInt8} {err : Nat → Nat} {S : Nat → Value → Cf → Prop} {pv : Value} {w0 w : World} {b j : Nat} {l : List UInt8} (hL : Lines Tryz.prog 9 n L told err S) (h : SR S pv w0 b j l w) (m : List UInt8) (hlen : l.length + m.length ≤ 140737488355328) :
    Calls Tryz.prog 29 #[.pointer (some ⟨b, 0, none⟩), .string (bs m)] w fun e w' => e = .returned (.tuple #[.int .i64 (bs m).size, .nilIface]) ∧ SR S pv w0 b j (l ++ m) w' := by
  have hz : (bs m).size = m.length := by simp [bs, ByteArray.size]
  refine (writeString_turn w0.heap.size b (Lib.byteCells l) (bs m) w h.isB (by rw [Lib.byteCells_length, hz]; exact hlen) h.bel.size).mono ?_
  rintro e w' ⟨rfl, h1, h2, h3⟩
  rw [strCells_bs, ← byteCells_app] at h1
  exact ⟨rfl, h.turn hL h1 h2 h3⟩
theorem SR.wroteB {n : Nat} {L told : Nat → List UInt8} {err : Nat → Nat} {S : Nat → Value → Cf → Prop} {pv : Value} {w0 w : World} {b j : Nat} {l : List UInt8} (hL : Lines Tryz.prog 9 n L told err S) (h : SR S pv w0 b j l w) (hlen : l.length + 1 ≤ 140737488355328) :
    Calls Tryz.prog 33 #[.pointer (some ⟨b, 0, none⟩), .int .u8 10] w fun e w' => e = .returned .nilIface ∧ SR S pv w0 b j (l ++ [10]) w' := by
  refine (writeByte_turn w0.heap.size b (Lib.byteCells l) 10 w h.isB (by rw [Lib.byteCells_length]; exact hlen) h.bel.size).mono ?_
  rintro e w' ⟨rfl, h1, h2, h3⟩
  have e10 : ([.int .u8 10] : List Value) = Lib.byteCells [10] := rfl
  rw [e10, ← byteCells_app] at h1
  exact ⟨rfl, h.turn hL h1 h2 h3⟩
set_option maxRecDepth 100000 in
theorem script_walk {n : Nat} {T L told : Nat → List UInt8} {err : Nat → Nat} {S : Nat → Value → Cf → Prop} (hL : Lines Tryz.prog 9 n L told err S)
    (hT : ∀ j, j < n → T j ≠ [] ∧ CutsTo (T j) (L j) (T (j + 1))) (hTn : T n = []) (hlen : ∀ j, (T j).length ≤ 65536) (herr : ∀ j, err j < 1000) (hout : ∀ j, j ≤ n → (outL told err j).length ≤ 1000000)
    (hNew : ∀ w, Calls Tryz.prog 7 #[] w fun e w' => ∃ pv c, e = .returned pv ∧ w' = c.w ∧ S 0 pv c ∧ Below w.heap.size w w' ∧ ∀ k, k < w.heap.size → Far c k)
    (w0 : World) (htab : Lib.TabIs Tryz.prog w0 "internal/strconv.uint64pow10" .u64 Lib.pow10Tab) (h0 : 0 < w0.heap.size) :
    Calls Tryz.prog 12 #[.string (bs (T 0))] w0 fun e w' => e = .returned (.tuple #[.string (bs (outL told err n)), .int .i64 0]) ∧ Below w0.heap.size w0 w' := by
  have hsz : (bs (T 0)).size ≤ 65536 := by have := hlen 0; simpa [bs, ByteArray.size] using this
  have q1 : decide ((65536 : Int) < ((bs (T 0)).size : Int)) = false := by simp; omega
  have q2 : decide (65536 < (bs (T 0)).size) = false := by simp; omega
  obtain ⟨X, hX⟩ : ∃ X, X = bs (T 0) := ⟨_, rfl⟩
  rw [← hX] at hsz q1 q2 ⊢
  have HX := Lib.hid hX
  have HTab := Lib.hid htab
  clear hX htab
  go_enter Tryz.func12, Tryz.ntmps12
  go_wp2_with (go_at_call 7; refine (hNew _).mono ?_; rintro e w1 ⟨pv, c, rfl, rfl, hS, hb1, hf1⟩)
  have hst := SR.start hL hS hb1 hf1
  have HST := Lib.hid hst
  clear hst hb1 hf1 hS
  go_loopg [0] n (fun r tv wr => ∃ j : Nat, j + r = n ∧ tv = .string (bs (T j)) ∧ SR S pv w0 c.w.heap.size j (outL told err j) wr)
  case atStart => exact ⟨0, by omega, by rw [HX.out], HST.out⟩
  case round =>
    obtain ⟨j, hj, rfl, hsr⟩ := hrel
    have Hj := Lib.hid hj
    have HSR := Lib.hid hsr
    clear hj hsr HST
    by_cases hjn : j < n
    · obtain ⟨ht0, hcut⟩ := hT j hjn
      have hne := bs_ne ht0
      have hcl : (T j).length < 4294967281 := by have := hlen j; omega
      have hcw := fun w => cut_walk (T j) (L j) (T (j + 1)) w hcut hcl
      have hq := hout (j + 1) hjn
      simp only [outL, List.length_append, List.length_cons, List.length_nil] at hq
      obtain ⟨TJ, hTJ⟩ : ∃ TJ, TJ = bs (T j) := ⟨_, rfl⟩
      rw [← hTJ] at hne hcw ⊢
      clear hTJ ht0 hcut hcl
      have HQ := Lib.hid hq; clear hq
      have hpl := fun (m : Nat) => (HSR.out.below hL (below_drawn wr m)).play hL hjn
      have her := herr j
      by_cases he0 : err j = 0
      · have ha : ansL (told j) (err j) = told j := by unfold ansL; rw [if_pos he0]
        have HA := Lib.hid ha
        rw [he0] at hpl
        clear ha her he0
        go_wp2_with (first
          | (go_at_call 32; refine (hcw _).mono ?_; rintro e w2 ⟨f, rfl, m, rfl⟩)
          | (go_at_call 9; refine (hpl m).mono ?_; rintro e w3 ⟨rfl, h3⟩; have H3 := Lib.hid h3; clear h3)
          | (go_at_call 29; refine (H3.out.wrote hL (told j) (by have := HQ.out; have := HA.out; rw [HA.out] at *; omega)).mono ?_; rintro e w4 ⟨rfl, h4⟩; have H4 := Lib.hid h4; clear h4)
          | (go_at_call 33; refine (H4.out.wroteB hL (by have := HQ.out; rw [HA.out] at this; simp only [List.length_append]; omega)).mono ?_; rintro e w5 ⟨rfl, h5⟩; have H5 := Lib.hid h5; clear h5))
        go_roundg (gk - 1)
        case measure => have := Hj.out; omega
        case rel =>
          refine ⟨j + 1, by have := Hj.out; omega, rfl, ?_⟩
          have := H5.out
          rw [List.append_assoc] at this
          show SR S pv w0 c.w.heap.size (j + 1) (outL told err j ++ (ansL (told j) (err j) ++ [10])) _
          rw [HA.out]; exact this
      · have ha : ansL (told j) (err j) = 33 :: 32 :: Lib.itoa (err j : Nat) := by unfold ansL; rw [if_neg he0]
        have HA := Lib.hid ha
        have hcat : (⟨#[33, 32]⟩ : ByteArray) ++ bs (Lib.itoa (err j : Nat)) = bs (33 :: 32 :: Lib.itoa (err j : Nat)) := bs_cat [33, 32] _
        have hit := fun w => itoa_walk (err j) w her
        obtain ⟨Z, hZ⟩ : ∃ Z, Z = bs (Lib.itoa (err j : Nat)) := ⟨_, rfl⟩
        rw [← hZ] at hcat
        have hit : ∀ w, Lib.TabIs Tryz.prog w "internal/strconv.uint64pow10" .u64 Lib.pow10Tab → Calls Tryz.prog 10 #[.int .i64 (err j : Nat)] w fun e w' => e = .returned (.string Z) ∧ Below w.heap.size w w' := by rw [hZ]; exact hit
        have hzl : Z.size ≤ 1000000 := by
          have := HQ.out
          rw [ha] at this
          rw [hZ]; simp only [bs, ByteArray.size, List.length_cons] at this ⊢
          simp; omega
        have he1 : ((err j : Nat) : Int) ≠ 0 := by omega
        have he2 : decide (((err j : Nat) : Int) = 0) = false := by simp; exact he0
        have HIT := Lib.hid hit
        clear ha her hZ hit
        go_wp2_with (first
          | (go_at_call 32; refine (hcw _).mono ?_; rintro e w2 ⟨f, rfl, m, rfl⟩)
          | (go_at_call 9; refine (hpl m).mono ?_; rintro e w3 ⟨rfl, h3⟩; have H3 := Lib.hid h3; clear h3)
          | (go_at_call 10; refine (HIT.out _ (tab_below H3.out.bel h0 HTab.out)).mono ?_; rintro e w6 ⟨rfl, h6⟩; have H6 := Lib.hid (H3.out.below hL h6); clear h6)
          | (go_at_call 29; refine (H6.out.wrote hL (33 :: 32 :: Lib.itoa (err j : Nat)) (by have := HQ.out; rw [HA.out] at this; omega)).mono ?_; rintro e w4 ⟨rfl, h4⟩; have H4 := Lib.hid h4; clear h4)
          | (go_at_call 33; refine (H4.out.wroteB hL (by have := HQ.out; rw [HA.out] at this; rw [List.length_append]; omega)).mono ?_; rintro e w5 ⟨rfl, h5⟩; have H5 := Lib.hid h5; clear h5))
        go_roundg (gk - 1)
        case measure => have := Hj.out; omega
        case rel =>
          refine ⟨j + 1, by have := Hj.out; omega, rfl, ?_⟩
          have := H5.out
          rw [List.append_assoc] at this
          show SR S pv w0 c.w.heap.size (j + 1) (outL told err j ++ (ansL (told j) (err j) ++ [10])) _
          rw [HA.out]; exact this
    · obtain rfl : j = n := by have := Hj.out; omega
      have he : (bs (T j)).toList.isEmpty = true := by rw [hTn, ByteArray.toList_eq]; rfl
      have hstr := (Tryz.Builder_String_any w0.heap.size c.w.heap.size (outL told err j) wr HSR.out.isB HSR.out.bel.size)
      obtain ⟨TJ, hTJ⟩ : ∃ TJ, TJ = bs (T j) := ⟨_, rfl⟩
      rw [← hTJ] at he ⊢
      clear hTJ
      go_wp2_with (go_at_call 31; refine hstr.mono ?_; rintro e w2 ⟨rfl, h2⟩)
      go_ret2
      exact ⟨rfl, HSR.out.bel.trans h2⟩
end Go.Proofs.YtpjhkpmmbeoghaaGreatDoor.Ev
set_option linter.unusedVariables false
namespace Go.Proofs.YtpjhkpmmbeoghaaGreatDoor.Ev
open Go Go.RowKit
noncomputable section
def intR (M p n : Nat) : Bool := @Nat.rec (fun _ => Bool) true (fun i ih => and (tg (cellAt M (Nat.add p i)) 5) ih) n
def seqB (vf : Nat) : GT := fun _ => unS fun x => unS fun q => un0 fun M nm I ni kf =>
  iff (Nat.beq x 11) (iff (tg q 14) (iff (Nat.beq (Nat.mod (Nat.div q 32) 1048576) vf) (iff (Nat.beq (Nat.div q 562949953421312) 1) (let p := cellAt I (Nat.mod (Nat.div q 33554432) 16777216)
    ptrIn p (inK M (pB p) (pOff p) 1 (let s := cellAt M (Nat.add (pB p) (pOff p))
      iff (tg s 11) (iff (Nat.beq (sLen s) 0) (kf 11 M nm I ni) (inK M (sB s) (sOff s) (sLen s) (iff (intR M (Nat.add (sB s) (sOff s)) (sLen s))
        (allocK (sLen s) (rowAt M (Nat.add (sB s) (sOff s)) (sLen s)) M nm fun b M nm => kf (slW 0 b (sLen s) 1 0 (sLen s)) M nm I ni) (.bad 113 0)))) (.bad 113 1)))) (.bad 113 2)) (.bad 113 3)) (.bad 113 4)) (.bad 113 5)
end
end Go.Proofs.YtpjhkpmmbeoghaaGreatDoor.Ev
set_option linter.unusedVariables false
namespace Go.Proofs.YtpjhkpmmbeoghaaGreatDoor.Ev
open Go
theorem nb_snd {P : Program} {f : Nat} : FSnd P f (fun _ _ _ _ _ _ _ => .bad 61 0) := fun _ _ _ => ⟨fun _ _ _ _ _ => .inr fun _ h => (by cases h), fun _ _ _ _ h => (by cases h)⟩
end Go.Proofs.YtpjhkpmmbeoghaaGreatDoor.Ev
namespace Go.Proofs.YtpjhkpmmbeoghaaGreatDoor.Ev
abbrev X4 := Nat → Nat → Nat → Nat → Res
abbrev X5 := Nat → Nat → Nat → Nat → Nat → Res
abbrev X6 := Nat → Nat → Nat → Nat → Nat → Nat → Res
abbrev X7 := Nat → Nat → Nat → Nat → Nat → Nat → Nat → Res
abbrev X8 := Nat → Nat → Nat → Nat → Nat → Nat → Nat → Nat → Res
abbrev X9 := Nat → Nat → Nat → Nat → Nat → Nat → Nat → Nat → Nat → Res
abbrev X10 := Nat → Nat → Nat → Nat → Nat → Nat → Nat → Nat → Nat → Nat → Res
abbrev X11 := Nat → Nat → Nat → Nat → Nat → Nat → Nat → Nat → Nat → Nat → Nat → Res
abbrev X12 := Nat → Nat → Nat → Nat → Nat → Nat → Nat → Nat → Nat → Nat → Nat → Nat → Res
abbrev X13 := Nat → Nat → Nat → Nat → Nat → Nat → Nat → Nat → Nat → Nat → Nat → Nat → Nat → Res
abbrev X14 := Nat → Nat → Nat → Nat → Nat → Nat → Nat → Nat → Nat → Nat → Nat → Nat → Nat → Nat → Res
abbrev X15 := Nat → Nat → Nat → Nat → Nat → Nat → Nat → Nat → Nat → Nat → Nat → Nat → Nat → Nat → Nat → Res
abbrev X16 := Nat → Nat → Nat → Nat → Nat → Nat → Nat → Nat → Nat → Nat → Nat → Nat → Nat → Nat → Nat → Nat → Res
abbrev X17 := Nat → Nat → Nat → Nat → Nat → Nat → Nat → Nat → Nat → Nat → Nat → Nat → Nat → Nat → Nat → Nat → Nat → Res
abbrev X18 := Nat → Nat → Nat → Nat → Nat → Nat → Nat → Nat → Nat → Nat → Nat → Nat → Nat → Nat → Nat → Nat → Nat → Nat → Res
abbrev X19 := Nat → Nat → Nat → Nat → Nat → Nat → Nat → Nat → Nat → Nat → Nat → Nat → Nat → Nat → Nat → Nat → Nat → Nat → Nat → Res
abbrev Y := CallT
end Go.Proofs.YtpjhkpmmbeoghaaGreatDoor.Ev
