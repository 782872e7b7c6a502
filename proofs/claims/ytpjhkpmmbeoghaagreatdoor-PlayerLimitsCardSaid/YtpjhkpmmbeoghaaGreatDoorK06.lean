/- Part 6 of a verified evaluator, and what it reckons of the player. -/
import Derived.Test.YtpjhkpmmbeoghaaGreatDoorK05
import Derived.Test.YtpjhkpmmbeoghaaGreatDoorChecked
import Derived.RangeFuncNested
import Derived.RangeFuncBound
import Derived.RangeFuncCalls
import Derived.RangeFuncLeaves
import Derived.RangeFuncFrom
import Derived.Shelf.Abstract
import Derived.Shelf.RegionOpen
import Derived.WalkKit
import Derived.OwnWalkIn
import Derived.TacticsInMore
import Derived.LoopNIn
import Derived.LoopIn
import Derived.Lib.AppendZeros
import Derived.RangeFuncBox
import Derived.Maps.AppendAt
set_option linter.unusedVariables false
set_option linter.unusedSimpArgs false
set_option linter.unusedSectionVars false
set_option linter.unusedVariables false
namespace Go.Proofs.YtpjhkpmmbeoghaaGreatDoor.Ev
open Go
inductive BT where
  | nil
  | leaf (f : Nat) (b : FBox)
  | node (k : Nat) (l r : BT)
noncomputable section
def lookT (t : BT) (f : Nat) : FBox := @BT.rec (fun _ => FBox) nb (fun f' b => @Bool.rec (fun _ => FBox) nb b (Nat.beq f f')) (fun k _ _ ihl ihr => @Bool.rec (fun _ => FBox) ihr ihl (Nat.blt f k)) t
end
def AllT (P : Program) : BT → Prop
  | .nil => True
  | .leaf f (.mk g) => FSnd P f g
  | .node _ l r => AllT P l ∧ AllT P r
theorem lookT_snd {P : Program} : ∀ {t : BT}, AllT P t → TabSnd P (lookT t)
  | .nil, _, f => ⟨_, rfl, nb_snd⟩
  | .leaf f' (.mk g), h, f => by
    have e : lookT (.leaf f' (.mk g)) f = @Bool.rec (fun _ => FBox) nb (.mk g) (Nat.beq f f') := rfl
    rw [e]
    cases hb : Nat.beq f f' with
    | true => exact ⟨g, rfl, by rw [Nat.eq_of_beq_eq_true hb]; exact h⟩
    | false => exact ⟨_, rfl, nb_snd⟩
  | .node k l r, h, f => by
    have e : lookT (.node k l r) f = @Bool.rec (fun _ => FBox) (lookT r f) (lookT l f) (Nat.blt f k) := rfl
    rw [e]
    cases Nat.blt f k with
    | true => exact lookT_snd h.1 f
    | false => exact lookT_snd h.2 f
end Go.Proofs.YtpjhkpmmbeoghaaGreatDoor.Ev
set_option maxRecDepth 100000
set_option linter.unusedVariables false
namespace Go.Proofs.YtpjhkpmmbeoghaaGreatDoor.Ev
open Go Go.Proofs
noncomputable def sizeT : GT := fun _ => unS fun x => un0 fun M nm I ni kf =>
  iff (tg x 18) (iff (Nat.beq (gN x) 2) (iff (tg (cellAt I (gB x)) 11) (iff (Nat.beq (sLen (cellAt I (gB x))) 3) (inK M (sB (cellAt I (gB x))) (sOff (cellAt I (gB x))) (sLen (cellAt I (gB x)))
    (iff (Nat.beq (rowAt M (Nat.add (sB (cellAt I (gB x))) (sOff (cellAt I (gB x)))) (sLen (cellAt I (gB x)))) 1852673427797059127009388524371697740111538410003123081363891952282414750892101) (strK I ni 1 50 fun w I ni => kf w M nm I ni) (.bad 112 0))) (.bad 112 1)) (.bad 112 2)) (.bad 112 3)) (.bad 112 4)
noncomputable def tabP : BT := (.node 145 (.node 76 (.node 45 (.node 24 (.node 16 (.node 11 (.node 9 (.leaf 7 (.mk g7)) (.node 10 (.leaf 9 (.mk g9)) (.leaf 10 (.mk itB)))) (.node 14 (.leaf 11 (.mk repB)) (.node 15 (.leaf 14 (.mk (dropG 8 g14))) (.leaf 15 (.mk (dropG 8 g15)))))) (.node 21 (.node 17 (.leaf 16 (.mk sizeT)) (.node 20 (.leaf 17 (.mk (dropG 8 g17))) (.leaf 20 (.mk g20)))) (.node 22 (.leaf 21 (.mk g21)) (.node 23 (.leaf 22 (.mk g22)) (.leaf 23 (.mk (dropG 8 g23))))))) (.node 36 (.node 32 (.node 25 (.leaf 24 (.mk (dropG 8 g24))) (.node 27 (.leaf 25 (.mk (dropG 8 g25))) (.leaf 27 (.mk (dropG 8 g27))))) (.node 34 (.leaf 32 (.mk (dropG 8 g32))) (.node 35 (.leaf 34 (.mk joinB)) (.leaf 35 (.mk (dropG 8 g35)))))) (.node 39 (.node 37 (.leaf 36 (.mk (dropG 8 g36))) (.node 38 (.leaf 37 (.mk (dropG 8 g37))) (.leaf 38 (.mk (dropG 8 g38))))) (.node 40 (.leaf 39 (.mk (dropG 8 g39))) (.node 44 (.leaf 40 (.mk g40)) (.leaf 44 (.mk g44))))))) (.node 59 (.node 51 (.node 48 (.node 46 (.leaf 45 (.mk g45)) (.node 47 (.leaf 46 (.mk (dropG 8 g46))) (.leaf 47 (.mk (dropG 8 g47))))) (.node 49 (.leaf 48 (.mk (dropG 8 g48))) (.node 50 (.leaf 49 (.mk g49)) (.leaf 50 (.mk g50))))) (.node 55 (.node 53 (.leaf 51 (.mk g51)) (.node 54 (.leaf 53 (.mk g53)) (.leaf 54 (.mk g54)))) (.node 56 (.leaf 55 (.mk g55)) (.node 57 (.leaf 56 (.mk g56)) (.leaf 57 (.mk (dropG 8 g57))))))) (.node 67 (.node 62 (.node 60 (.leaf 59 (.mk g59)) (.node 61 (.leaf 60 (.mk (dropG 8 g60))) (.leaf 61 (.mk (dropG 8 g61))))) (.node 63 (.leaf 62 (.mk (dropG 8 g62))) (.node 64 (.leaf 63 (.mk (dropG 8 g63))) (.leaf 64 (.mk (dropG 8 g64)))))) (.node 72 (.node 70 (.leaf 67 (.mk (dropG 8 g67))) (.node 71 (.leaf 70 (.mk (dropG 8 g70))) (.leaf 71 (.mk (dropG 8 g71))))) (.node 74 (.node 73 (.leaf 72 (.mk (dropG 8 g72))) (.leaf 73 (.mk (dropG 8 g73)))) (.node 75 (.leaf 74 (.mk (dropG 8 g74))) (.leaf 75 (.mk (dropG 8 g75))))))))) (.node 105 (.node 91 (.node 82 (.node 79 (.node 77 (.leaf 76 (.mk (dropG 8 g76))) (.node 78 (.leaf 77 (.mk (dropG 8 g77))) (.leaf 78 (.mk (dropG 8 g78))))) (.node 80 (.leaf 79 (.mk (dropG 8 g79))) (.node 81 (.leaf 80 (.mk (dropG 8 g80))) (.leaf 81 (.mk (dropG 8 g81)))))) (.node 85 (.node 83 (.leaf 82 (.mk (dropG 8 g82))) (.node 84 (.leaf 83 (.mk (dropG 8 g83))) (.leaf 84 (.mk (dropG 8 g84))))) (.node 86 (.leaf 85 (.mk (dropG 8 g85))) (.node 90 (.leaf 86 (.mk (dropG 8 g86))) (.leaf 90 (.mk ctB)))))) (.node 97 (.node 94 (.node 92 (.leaf 91 (.mk (dropG 8 g91))) (.node 93 (.leaf 92 (.mk (dropG 8 g92))) (.leaf 93 (.mk (dropG 8 g93))))) (.node 95 (.leaf 94 (.mk g94)) (.node 96 (.leaf 95 (.mk (dropG 8 g95))) (.leaf 96 (.mk (dropG 8 g96)))))) (.node 100 (.node 98 (.leaf 97 (.mk g97)) (.node 99 (.leaf 98 (.mk (dropG 8 g98))) (.leaf 99 (.mk (dropG 8 g99))))) (.node 102 (.leaf 100 (.mk (dropG 8 g100))) (.node 103 (.leaf 102 (.mk (dropG 8 g102))) (.leaf 103 (.mk (dropG 8 g103)))))))) (.node 131 (.node 117 (.node 108 (.node 106 (.leaf 105 (.mk (dropG 8 g105))) (.node 107 (.leaf 106 (.mk g106)) (.leaf 107 (.mk g107)))) (.node 109 (.leaf 108 (.mk (dropG 8 g108))) (.node 110 (.leaf 109 (.mk (dropG 8 g109))) (.leaf 110 (.mk (dropG 8 g110)))))) (.node 128 (.node 118 (.leaf 117 (.mk (dropG 8 g117))) (.node 127 (.leaf 118 (.mk (dropG 8 g118))) (.leaf 127 (.mk (dropG 8 g127))))) (.node 129 (.leaf 128 (.mk (dropG 8 g128))) (.node 130 (.leaf 129 (.mk (dropG 8 g129))) (.leaf 130 (.mk (dropG 8 g130))))))) (.node 138 (.node 135 (.node 132 (.leaf 131 (.mk (dropG 8 g131))) (.node 134 (.leaf 132 (.mk (dropG 8 g132))) (.leaf 134 (.mk (dropG 8 g134))))) (.node 136 (.leaf 135 (.mk (dropG 8 g135))) (.node 137 (.leaf 136 (.mk (dropG 8 g136))) (.leaf 137 (.mk (dropG 8 g137)))))) (.node 141 (.node 139 (.leaf 138 (.mk (dropG 8 g138))) (.node 140 (.leaf 139 (.mk (dropG 8 g139))) (.leaf 140 (.mk (dropG 8 g140))))) (.node 143 (.node 142 (.leaf 141 (.mk (dropG 8 g141))) (.leaf 142 (.mk (dropG 8 g142)))) (.node 144 (.leaf 143 (.mk (dropG 8 g143))) (.leaf 144 (.mk (dropG 8 g144)))))))))) (.node 225 (.node 188 (.node 161 (.node 154 (.node 148 (.node 146 (.leaf 145 (.mk (dropG 8 g145))) (.node 147 (.leaf 146 (.mk (dropG 8 g146))) (.leaf 147 (.mk (dropG 8 g147))))) (.node 149 (.leaf 148 (.mk (dropG 8 g148))) (.node 150 (.leaf 149 (.mk (dropG 8 g149))) (.leaf 150 (.mk growB))))) (.node 157 (.node 155 (.leaf 154 (.mk (dropG 8 g154))) (.node 156 (.leaf 155 (.mk (dropG 8 g155))) (.leaf 156 (.mk (dropG 8 g156))))) (.node 158 (.leaf 157 (.mk (dropG 8 g157))) (.node 159 (.leaf 158 (.mk (dropG 8 g158))) (.leaf 159 (.mk (dropG 8 g159))))))) (.node 170 (.node 167 (.node 162 (.leaf 161 (.mk (dropG 8 g161))) (.node 166 (.leaf 162 (.mk (dropG 8 g162))) (.leaf 166 (.mk (dropG 8 g166))))) (.node 168 (.leaf 167 (.mk (dropG 8 g167))) (.node 169 (.leaf 168 (.mk (dropG 8 g168))) (.leaf 169 (.mk (dropG 8 g169)))))) (.node 173 (.node 171 (.leaf 170 (.mk (dropG 8 g170))) (.node 172 (.leaf 171 (.mk (dropG 8 g171))) (.leaf 172 (.mk (dropG 8 g172))))) (.node 174 (.leaf 173 (.mk (dropG 8 g173))) (.node 179 (.leaf 174 (.mk (dropG 8 g174))) (.leaf 179 (.mk ibB))))))) (.node 201 (.node 194 (.node 191 (.node 189 (.leaf 188 (.mk (dropG 8 g188))) (.node 190 (.leaf 189 (.mk (dropG 8 g189))) (.leaf 190 (.mk (dropG 8 g190))))) (.node 192 (.leaf 191 (.mk (dropG 8 g191))) (.node 193 (.leaf 192 (.mk (dropG 8 g192))) (.leaf 193 (.mk (dropG 8 g193)))))) (.node 197 (.node 195 (.leaf 194 (.mk (dropG 8 g194))) (.node 196 (.leaf 195 (.mk (dropG 8 g195))) (.leaf 196 (.mk (dropG 8 g196))))) (.node 198 (.leaf 197 (.mk (dropG 8 g197))) (.node 200 (.leaf 198 (.mk (dropG 8 g198))) (.leaf 200 (.mk (dropG 8 g200))))))) (.node 212 (.node 208 (.node 202 (.leaf 201 (.mk (dropG 8 g201))) (.node 203 (.leaf 202 (.mk g202)) (.leaf 203 (.mk (dropG 8 g203))))) (.node 210 (.leaf 208 (.mk (dropG 8 g208))) (.node 211 (.leaf 210 (.mk (dropG 8 g210))) (.leaf 211 (.mk (dropG 8 g211)))))) (.node 220 (.node 213 (.leaf 212 (.mk (dropG 8 g212))) (.node 219 (.leaf 213 (.mk (dropG 8 g213))) (.leaf 219 (.mk (dropG 8 g219))))) (.node 222 (.node 221 (.leaf 220 (.mk g220)) (.leaf 221 (.mk (dropG 8 g221)))) (.node 224 (.leaf 222 (.mk (dropG 8 g222))) (.leaf 224 (.mk (dropG 8 g224))))))))) (.node 289 (.node 257 (.node 251 (.node 235 (.node 226 (.leaf 225 (.mk (dropG 8 g225))) (.node 232 (.leaf 226 (.mk (dropG 8 g226))) (.leaf 232 (.mk (dropG 8 g232))))) (.node 249 (.leaf 235 (.mk (dropG 8 g235))) (.node 250 (.leaf 249 (.mk (dropG 8 g249))) (.leaf 250 (.mk g250))))) (.node 254 (.node 252 (.leaf 251 (.mk (dropG 8 g251))) (.node 253 (.leaf 252 (.mk (dropG 8 g252))) (.leaf 253 (.mk (dropG 8 g253))))) (.node 255 (.leaf 254 (.mk (dropG 8 g254))) (.node 256 (.leaf 255 (.mk (dropG 8 g255))) (.leaf 256 (.mk (dropG 8 g256))))))) (.node 263 (.node 260 (.node 258 (.leaf 257 (.mk (dropG 8 g257))) (.node 259 (.leaf 258 (.mk (dropG 8 g258))) (.leaf 259 (.mk (dropG 8 g259))))) (.node 261 (.leaf 260 (.mk (dropG 8 g260))) (.node 262 (.leaf 261 (.mk (dropG 8 g261))) (.leaf 262 (.mk (dropG 8 g262)))))) (.node 285 (.node 274 (.leaf 263 (.mk (dropG 8 g263))) (.node 283 (.leaf 274 (.mk (dropG 8 g274))) (.leaf 283 (.mk (dropG 8 g283))))) (.node 286 (.leaf 285 (.mk (dropG 8 g285))) (.node 288 (.leaf 286 (.mk (dropG 8 g286))) (.leaf 288 (.mk (dropG 8 g288)))))))) (.node 342 (.node 308 (.node 305 (.node 290 (.leaf 289 (.mk (dropG 8 g289))) (.node 291 (.leaf 290 (.mk (dropG 8 g290))) (.leaf 291 (.mk (dropG 8 g291))))) (.node 306 (.leaf 305 (.mk (seqB 284))) (.node 307 (.leaf 306 (.mk (dropG 8 g306))) (.leaf 307 (.mk (dropG 8 g307)))))) (.node 339 (.node 337 (.leaf 308 (.mk (dropG 8 g308))) (.node 338 (.leaf 337 (.mk (dropG 8 g337))) (.leaf 338 (.mk (dropG 8 g338))))) (.node 340 (.leaf 339 (.mk (dropG 8 g339))) (.node 341 (.leaf 340 (.mk (dropG 8 g340))) (.leaf 341 (.mk (dropG 8 g341))))))) (.node 416 (.node 346 (.node 344 (.leaf 342 (.mk (dropG 8 g342))) (.node 345 (.leaf 344 (.mk (dropG 8 g344))) (.leaf 345 (.mk (dropG 8 g345))))) (.node 351 (.leaf 346 (.mk (dropG 8 g346))) (.node 352 (.leaf 351 (.mk (dropG 8 g351))) (.leaf 352 (.mk (dropG 8 g352)))))) (.node 477 (.node 433 (.leaf 416 (.mk (dropG 8 g416))) (.node 444 (.leaf 433 (.mk (dropG 8 g433))) (.leaf 444 (.mk (dropG 8 g444))))) (.node 479 (.node 478 (.leaf 477 (.mk (dropG 8 g477))) (.leaf 478 (.mk (dropG 8 g478)))) (.node 480 (.leaf 479 (.mk (dropG 8 g479))) (.leaf 480 (.mk (dropG 8 g480)))))))))))
end Go.Proofs.YtpjhkpmmbeoghaaGreatDoor.Ev
namespace Go.Proofs.YtpjhkpmmbeoghaaGreatDoor.Ev
open Go Go.Proofs
theorem follows1 : Tryz.prog.follows .mixedOrders = true := by kernel_rfl
theorem allNG : (Tryz.prog.funcs.toList.all fun fn => !(fn.name == "runtime.NumGoroutine")) = true := by kernel_rfl
theorem noNG : NoNG Tryz.prog := by
  intro f fn h _
  obtain ⟨hlt, h⟩ := Array.getElem?_eq_some_iff.1 h
  have hm : fn ∈ Tryz.prog.funcs.toList := by rw [← h]; simp
  have := List.all_eq_true.1 allNG fn hm
  simpa using this
end Go.Proofs.YtpjhkpmmbeoghaaGreatDoor.Ev
namespace Go.Proofs.YtpjhkpmmbeoghaaGreatDoor.Ev
open Go Go.RowKit Go.Shelf Go.Proofs
attribute [local go_sem] Oper.semAt_some
theorem FOK.calls {F : Fence} (hF : FOK F) {n m : Nat} {P : Program} {f : FuncId} {args : Array Value} {w : World} {R : Ending → World → Prop} (h : CallsIn F n P f args w R) : CallsIn F m P f args w R :=
  ⟨h.1, fun cs _ => h.2 cs (hF.room _)⟩
theorem FOK.yield {F : Fence} (hF : FOK F) {n m : Nat} {P : Program} {l : Nat} {args : Array Value} {w : World} {R : Ending → World → Prop} (h : YieldAt F n P l args w R) : YieldAt F m P l args w R := by
  obtain ⟨fn, tmps, assign, body, h1, h2⟩ := h
  exact ⟨fn, tmps, assign, body, h1, h2.1, fun c cs _ => h2.2 c cs (hF.room _)⟩
set_option maxRecDepth 100000 in
set_option maxHeartbeats 2000000 in
theorem backIt5 (F : Fence) (hF : FOK F) (hro : F.round = none) (l Ab Ao len : Nat) (J : Nat → World → Prop) (hlen : len < 524288)
    (hJ : ∀ k W, k < len → J (k + 1) W → ∃ b off cap v, W.cell? ⟨Ab, Ao, none⟩ = some (.slice (some ⟨b, off, none⟩) len cap) ∧ W.cell? ⟨b, off + k, none⟩ = some v ∧
      YieldAt F 4 Tryz.prog l #[.int .i64 (k : Nat), v] W fun e W' => e = .returned (.bool true) ∧ J k W')
    (W : World) (hW : J len W) (a : Option Addr) (cap : Nat) (hc : W.cell? ⟨Ab, Ao, none⟩ = some (.slice a len cap)) :
    CallsIn F 5 Tryz.prog 243 #[.func (.yield l) #[] #[], .pointer (some ⟨Ab, Ao, none⟩)] W fun e W' => (∃ v, e = .returned v) ∧ J 0 W' := by
  have hFn : F.fn 243 := hF.1 243
  refine callsIn_of_wp Tryz.func243 rfl hFn ?_ hro
  simp only [Tryz.ntmps243, List.size_toArray, List.length_cons, List.length_nil, Nat.reduceAdd, Nat.reduceSub, Array.replicate_succ, Array.replicate_zero, List.push_toArray, List.append_toArray, List.nil_append, List.cons_append]
  gi_wp2
  gi_loopw [3] (fun i wr => ∃ (k : Nat), k ≤ len ∧ i = .int .i64 ((k : Int) - 1) ∧ J k wr)
    (fun i _ => (intOf i + 1).toNat)
  case atStart => exact ⟨len, Nat.le_refl _, rfl, hW⟩
  case round =>
    obtain ⟨k, hk, rfl, hJs⟩ := hrel
    cases k with
    | zero =>
      gi_wp2
      go_end0
      exact ⟨⟨_, rfl⟩, hJs⟩
    | succ k =>
      obtain ⟨b, off, cap', v, hBx, hcx, fn, tmps, assign, body, hy, hR⟩ := hJ k wr (by omega) hJs
      rw [show ((k + 1 : Nat) : Int) - 1 = (k : Int) by omega]
      have i1 : (k : Int) < (len : Int) := by omega
      gi_wp2
      refine hR.mono ?_
      rintro e W3 ⟨rfl, hJ3⟩
      gi_wp2
      go_roundw
      case rel => exact ⟨k, by omega, rfl, hJ3⟩
      case measure => simp [intOf] <;> omega
theorem backIt : BackIt Tryz.prog 243 := by
  intro F n hF hro l A len J hA hlen hJ W hW hc
  obtain ⟨Ab, Ao, As⟩ := A
  have hA : As = none := hA
  subst hA
  obtain ⟨a, cap, hc⟩ := hc
  exact hF.calls (backIt5 F hF hro l Ab Ao len J hlen (fun k W hk hj => by
    obtain ⟨b, off, cap, v, h1, h2, h3⟩ := hJ k W hk hj
    exact ⟨b, off, cap, v, h1, h2, hF.yield h3⟩) W hW a cap hc)
end Go.Proofs.YtpjhkpmmbeoghaaGreatDoor.Ev
set_option linter.unusedVariables false
namespace Go.Proofs.YtpjhkpmmbeoghaaGreatDoor.Ev
open Go Go.RowKit Go.Proofs
abbrev LT := List UInt8 × List UInt8 × Nat
def mkPL (x : LT) : PL := ⟨x.1.length, beVal x.1, x.2.1.length, beVal x.2.1, 5 + 32 * (x.2.2 + 9223372036854775808)⟩
theorem mkPL_is (x : LT) : (mkPL x).Is x.1 x.2.1 x.2.2 := ⟨rfl, rfl, rfl, rfl, rfl⟩
def ltAt (xs : List LT) (j : Nat) : LT := xs.getD j ([], [], 0)
def StL (call : CallT) (xs : List LT) (j : Nat) (pv : Value) (c : Cf) : Prop := ∃ pw, ChS call 9 pw ((xs.drop j).map mkPL) pv c
theorem lines_of {P : Program} {call : CallT} (hc : CallSnd P call) (xs : List LT) : Lines P 9 xs.length (fun j => (ltAt xs j).1) (fun j => (ltAt xs j).2.1) (fun j => (ltAt xs j).2.2) (StL call xs) where
  hr h := h.elim fun _ h => h.1
  foreign h h' := h.elim fun pw h => ⟨pw, h', h.2⟩
  step {j pv c} hj h := by
    obtain ⟨pw, h⟩ := h
    have e : xs.drop j = xs[j] :: xs.drop (j + 1) := List.drop_eq_getElem_cons hj
    have e2 : ltAt xs j = xs[j] := by unfold ltAt; rw [List.getD_eq_getElem?_getD, List.getElem?_eq_getElem hj]; rfl
    rw [e, List.map_cons] at h
    rw [e2]
    refine (chain_step hc h (mkPL_is xs[j])).mono ?_
    rintro e' w' ⟨rfl, c', rfl, h1, h2⟩
    exact ⟨rfl, c', rfl, ⟨pw, h1⟩, h2⟩
theorem HR.none (w : World) : HR { lay := fun _ => Option.none, f := fun _ => Option.none, M := 0, nm := 0, I := 0, ni := 0, w := w } where
  mlt := (by decide : (0 : Nat) < 2 ^ (96 * 0))
  ilt := (by decide : (0 : Nat) < 2 ^ (96 * 0))
  lay0 b n h := by cases h
  apart b n b' n' h := by cases h
  dom b F h := by cases h
  hdr b n h := by cases h
  cells b F h := by cases h
  maps b F h := by cases h
  lt b F h := by cases h
  inj b b' F F' h := by cases h
theorem run_nil {P : Program} {call : CallT} (hc : CallSnd P call) {f : Nat} {ws : List Nat} {args : Array Value} {kf : KF} (hrun : call f ws 0 0 0 0 kf = .ok) (hs : args.size = ws.length) (ha : ∀ i (h : i < ws.length) (h' : i < args.size), WR (fun _ => Option.none) 0 0 ws[i] args[i]) (w : World) :
    Calls P f args w fun e w' => ∃ word v c, e = .returned v ∧ w' = c.w ∧ kf word c.M c.nm c.I c.ni = .ok ∧ HR c ∧ IB c.I c.ni ∧ WR c.f c.I c.ni word v ∧ Below w.heap.size w w' ∧ ∀ k, k < w.heap.size → Far c k := by
  obtain ⟨-, h⟩ := hc f ws { lay := fun _ => Option.none, f := fun _ => Option.none, M := 0, nm := 0, I := 0, ni := 0, w := w } kf args hrun (HR.none w) ⟨(by decide : (0 : Nat) < 2 ^ (96 * 0)), (by decide : (0 : Nat) < 16777216)⟩ hs ha
  refine (callsIn_wide.1 (h Fence.wide 0 ⟨fun _ => trivial, rfl, rfl⟩)).mono ?_
  rintro e w' ⟨word, v, c', rfl, rfl, h1, h2, h3, h4, h5⟩
  exact ⟨word, v, c', rfl, rfl, h1, h2, h3, h5, ⟨h4.tape.2.1, h4.tape.1, h4.tape.2.2, h4.size, fun k hk => h4.frame k hk fun b F e => by cases e⟩, fun k hk => (Kp.of_ext h4).far k hk fun b F e => by cases e⟩
theorem new_chain {P : Program} {call : CallT} (hc : CallSnd P call) {xs : List LT} (hrun : call 7 [] 0 0 0 0 (fun w M nm I ni => chainR call 9 w (xs.map mkPL) M nm I ni) = .ok) (w : World) :
    Calls P 7 #[] w fun e w' => ∃ pv c, e = .returned pv ∧ w' = c.w ∧ StL call xs 0 pv c ∧ Below w.heap.size w w' ∧ ∀ k, k < w.heap.size → Far c k := by
  refine (run_nil hc hrun rfl (fun i h => absurd h (by simp)) w).mono ?_
  rintro e w' ⟨word, v, c, rfl, rfl, h1, h2, h3, h4, h5, h6⟩
  exact ⟨v, c, rfl, rfl, ⟨word, h2, h3, h4, h1⟩, h5, h6⟩
theorem new_const {P : Program} {call : CallT} (hc : CallSnd P call) {pw M nm I ni : Nat} (hrun : call 7 [] 0 0 0 0 (chkK pw M nm I ni) = .ok) (w : World) :
    Calls P 7 #[] w fun e w' => ∃ pv c, e = .returned pv ∧ w' = c.w ∧ CoS M nm I ni pw pv c ∧ Below w.heap.size w w' ∧ ∀ k, k < w.heap.size → Far c k := by
  refine (run_nil hc hrun rfl (fun i h => absurd h (by simp)) w).mono ?_
  rintro e w' ⟨word, v, c, rfl, rfl, h1, h2, h3, h4, h5, h6⟩
  have h3' : chkK pw M nm I ni word c.M c.nm c.I c.ni = .ok := h1
  obtain ⟨h7, -⟩ := iff_bad h3'
  simp only [Bool.and_eq_true] at h7
  obtain ⟨q1, q2, q3, q4, q5⟩ := h7
  have q1 := Nat.eq_of_beq_eq_true q1
  subst q1
  exact ⟨v, c, rfl, rfl, ⟨h2, h3, h4, Nat.eq_of_beq_eq_true q2, Nat.eq_of_beq_eq_true q3, Nat.eq_of_beq_eq_true q4, Nat.eq_of_beq_eq_true q5⟩, h5, h6⟩
theorem joinTail_cons (x : List UInt8) (r : List (List UInt8)) : Lib.joinTail [10] (x :: r) = 10 :: Lib.join (x :: r) [10] := by
  rw [Lib.join_cons]; simp [Lib.joinTail]
def txt (ls : List (List UInt8)) (j : Nat) : List UInt8 := Lib.join (ls.drop j) [10]
theorem txt_cuts {ls : List (List UInt8)} (h : ∀ l ∈ ls, (10 : UInt8) ∉ l ∧ l ≠ []) {j : Nat} (hj : j < ls.length) : txt ls j ≠ [] ∧ CutsTo (txt ls j) (ls.getD j []) (txt ls (j + 1)) := by
  have e : ls.drop j = ls[j] :: ls.drop (j + 1) := List.drop_eq_getElem_cons hj
  have e2 : ls.getD j [] = ls[j] := by rw [List.getD_eq_getElem?_getD, List.getElem?_eq_getElem hj]; rfl
  obtain ⟨h1, h2⟩ := h ls[j] (List.getElem_mem _)
  have e3 : txt ls j = ls[j] ++ Lib.joinTail [10] (ls.drop (j + 1)) := by unfold txt; rw [e, Lib.join_cons]
  rw [e2]
  refine ⟨by rw [e3]; simp [h2], h1, ?_⟩
  rw [e3]
  cases hd : ls.drop (j + 1) with
  | nil => exact .inr ⟨by simp [Lib.joinTail], by unfold txt; rw [hd]; rfl⟩
  | cons y r => exact .inl (by rw [joinTail_cons]; unfold txt; rw [hd])
theorem txt_len (ls : List (List UInt8)) : ∀ j, (txt ls j).length ≤ (ls.map fun l => l.length + 1).sum := by
  have key : ∀ l : List (List UInt8), (Lib.join l [10]).length ≤ (l.map fun x => x.length + 1).sum := by
    intro l
    cases l with
    | nil => simp [Lib.join_nil]
    | cons x r =>
      rw [Lib.join_cons, List.length_append, List.map_cons, List.sum_cons]
      have : (Lib.joinTail [10] r).length ≤ (r.map fun x => x.length + 1).sum := by
        induction r with
        | nil => simp [Lib.joinTail]
        | cons y r ih =>
          have e : Lib.joinTail [10] (y :: r) = 10 :: (y ++ Lib.joinTail [10] r) := by simp [Lib.joinTail]
          rw [e, List.length_cons, List.length_append, List.map_cons, List.sum_cons]
          omega
      omega
  intro j
  refine Nat.le_trans (key _) ?_
  have := congrArg (fun l : List (List UInt8) => (l.map fun x => x.length + 1).sum) (List.take_append_drop j ls)
  simp only [List.map_append, List.sum_append] at this
  omega
theorem itoa_len {e : Nat} (he : e < 1000) : (Lib.itoa e).length ≤ 3 := by
  have : Lib.itoa (e : Int) = Lib.decDigits e := by unfold Lib.itoa; rw [if_neg (by omega)]; simp
  rw [this, Lib.decDigits_length]
  by_cases h1 : e < 10
  · rw [Lib.nDigits_small h1]; omega
  · rw [Lib.nDigits_big h1]
    by_cases h2 : e / 10 < 10
    · rw [Lib.nDigits_small h2]; omega
    · rw [Lib.nDigits_big h2, Lib.nDigits_small (by omega)]; omega
theorem ans_len {t : List UInt8} {e K : Nat} (he : e < 1000) (ht : t.length ≤ K) : (ansL t e).length ≤ K + 5 := by
  unfold ansL
  split
  · omega
  · have := itoa_len he; simp only [List.length_cons]; omega
theorem out_len {told : Nat → List UInt8} {err : Nat → Nat} {K : Nat} (ht : ∀ j, (told j).length ≤ K) (he : ∀ j, err j < 1000) : ∀ j, (outL told err j).length ≤ j * (K + 6)
  | 0 => by simp [outL]
  | j + 1 => by
    have := out_len ht he j
    have h2 := ans_len (he j) (ht j)
    simp only [outL, List.length_append, List.length_cons, List.length_nil, Nat.succ_mul]
    omega
end Go.Proofs.YtpjhkpmmbeoghaaGreatDoor.Ev
set_option linter.unusedVariables false
namespace Go.Proofs.YtpjhkpmmbeoghaaGreatDoor.Ev
open Go Go.RowKit Go.Proofs
def awakeL : List LT := [([108, 101, 116, 32, 97, 32, 51, 32, 48, 45, 49, 32, 49, 45, 50], [51, 32, 50], 0),
 ([99, 97, 108, 108, 32, 98, 32, 97, 32, 49, 32, 48, 32, 50], [51, 32, 50], 0),
 ([115, 97, 109, 101, 32, 97, 32, 98], [121, 101, 115], 0),
 ([99, 117, 116, 115, 32, 97], [49], 0),
 ([99, 117, 116, 115, 32, 98], [48], 0),
 ([109, 97, 112, 115, 32, 97], [50], 0),
 ([111, 114, 98, 105, 116, 115, 32, 97], [48, 32, 50, 32, 47, 32, 49], 0),
 ([112, 117, 116, 32, 97], [49, 32, 110, 101, 119], 0),
 ([112, 117, 116, 32, 98], [49, 32, 111, 108, 100], 0),
 ([115, 101, 101, 110, 32, 49], [50, 32, 51, 32, 50], 0),
 ([106, 111, 105, 110, 32, 99, 32, 97, 32, 98], [54, 32, 52], 0),
 ([112, 97, 114, 116, 115, 32, 99], [48, 32, 49, 32, 50, 32, 47, 32, 51, 32, 52, 32, 53], 0),
 ([112, 108, 97, 110, 101, 32, 99], [112, 108, 97, 110, 101, 32, 50], 0),
 ([108, 101, 115, 115, 32, 100, 32, 97, 32, 48, 45, 49], [51, 32, 49], 0),
 ([108, 101, 115, 115, 32, 100, 32, 97, 32, 48, 45, 50], [], 2),
 ([97, 103, 97, 105, 110], [49], 0),
 ([104, 101, 108, 108, 111], [], 260),
 ([112, 97, 114, 116, 115, 32, 120], [], 261)]
def nm (i : Nat) : List UInt8 := [UInt8.ofNat (97 + i / 10), UInt8.ofNat (97 + i % 10)]
def dg (i : Nat) : List UInt8 := if i < 10 then [UInt8.ofNat (48 + i)] else [UInt8.ofNat (48 + i / 10), UInt8.ofNat (48 + i % 10)]
def letL (i : Nat) : LT := ([108, 101, 116, 32] ++ nm i ++ [32] ++ dg i, dg i ++ [32, 48], 0)
def lawL (k : Nat) : List LT := (List.range 30).map letL ++ [([108, 101, 116, 32, 122, 122, 32, 49], [], 5), ([108, 101, 116, 32] ++ nm k ++ [32, 50, 32, 48, 45, 49], [50, 32, 49], 0), ([108, 101, 116, 32, 122, 122, 32, 49, 32, 48, 45, 48], [], 5)]
def newM : Nat := 7805949194464010351234809630720787118500729575230890855335155538782746904317322894198047134877520166082448103334825764819853435693771741675341608078772542800964141036621300785263332727114105218573414637658901589424724856177215506511804781031003050159006274344581725508530795735188916079138647357798366528146521268657829719446056010501280333196162781320760878666774187853545031598081027
def newI : Nat := 198110450405906024613489505022168204744112337203377652084978751361718974106143361421926943080385356823625187774471430378495841150586500030198963207631136266674606086573563451310467582155335826256755443106802101964751608314531343468313816578817747763777773489803107500042
end Go.Proofs.YtpjhkpmmbeoghaaGreatDoor.Ev
set_option linter.unusedVariables false
namespace Go.Proofs.YtpjhkpmmbeoghaaGreatDoor.Ev
open Go Go.RowKit
noncomputable def ctW (k : Nat) : Nat := Nat.add 295147905179352825861 (Nat.mul 32 k)
theorem ctW_eq (k : Nat) : ctW k = 5 + 32 * (k + 9223372036854775808) := by
  show 295147905179352825861 + 32 * k = 5 + 32 * (k + 9223372036854775808)
  rw [Nat.mul_add, Nat.add_comm (32 * k), ← Nat.add_assoc]
theorem ctW_wr {f : Nat → Option FB} {I ni k : Nat} (hk : k < 1048576) : WR f I ni (5 + 32 * (k + 9223372036854775808)) (.int .i64 (k : Nat)) :=
  .int .i64 (k : Nat) (k + 9223372036854775808) (Int.natCast_add k 9223372036854775808) (Nat.lt_of_lt_of_le (Nat.add_lt_add_right hk _) (by decide))
theorem ctB_snd {P : Program} {f : Nat} (hf : ∃ fn, P.funcs[f]? = some fn ∧ fn.body.isSome = true)
    (hc : ∀ (s u : ByteArray) (b : UInt8) (w : World), u.data.toList = [b] → Calls P f #[.string s, .string u] w fun e w' => e = .returned (.int .i64 (s.data.toList.count b : Nat)) ∧ w' = w) : FSnd P f ctB := by
  intro call h1 h2
  constructor
  · intro ws M nm I ni
    match ws with
    | [] => exact .inr fun _ h => by cases h
    | [_] => exact .inr fun _ h => by cases h
    | [x, u] =>
      show Lin fun kf : KF => iff (tg x 12) (iff (tg u 12) (iff (Nat.beq (tN u) 1) (kf (Nat.add 295147905179352825861 (Nat.mul 32 (ctR (strAt I (tQ x) (tN x)) (strAt I (tQ u) 1) (tN x)))) M nm I ni) (.bad 102 0)) (.bad 102 1)) (.bad 102 2)
      exact good_iff (good_iff (good_iff good_kf good_bad) good_bad) good_bad
    | _ :: _ :: _ :: _ => exact .inr fun _ h => by cases h
  · refine sndAt_of hf fun ws c kf args h hr hI hs ha => ?_
    match ws, h, hs, ha with
    | [x, u], h, hs, ha =>
      have g0 : WR c.f c.I c.ni x (args[0]'(by rw [hs]; simp)) := ha 0 (by simp) (by rw [hs]; simp)
      have g1 : WR c.f c.I c.ni u (args[1]'(by rw [hs]; simp)) := ha 1 (by simp) (by rw [hs]; simp)
      obtain ⟨t1, h⟩ := iff_bad h
      obtain ⟨t2, h⟩ := iff_bad h
      obtain ⟨t3, h⟩ := iff_bad h
      have t3 := Nat.eq_of_beq_eq_true t3
      obtain ⟨q, n, s, e1, l1, l2, l3, v1, l4, hw1⟩ := WR.inv_str g0 (tg_ok t1)
      obtain ⟨q', m, s', e2, l1', l2', l3', v2, l4', hw2⟩ := WR.inv_str g1 (tg_ok t2)
      obtain ⟨a1, a2⟩ := tW hw1 l3
      obtain ⟨a3, a4⟩ := tW hw2 l3'
      obtain rfl : m = 1 := by rw [← a4, t3]
      obtain ⟨b, hb⟩ : ∃ b, s'.data.toList = [b] := List.length_eq_one_iff.1 l1'
      rw [a1, a2, a3, v1, v2, hb, show beVal [b] = b.toNat by simp [beVal]] at h
      have hk := ct_ok b s.data.toList []
      rw [List.nil_append, l1] at hk
      rw [hk] at h
      have hn : s.data.toList.count b ≤ n := by rw [← l1]; exact List.count_le_length
      have hc2 := hc s s' b c.w hb
      generalize s.data.toList.count b = k at h hn hc2
      have ek := ctW_eq k
      unfold ctW at ek
      rw [ek] at h
      rw [args2 hs, e1, e2]
      refine hc2.mono ?_
      rintro e w' ⟨rfl, rfl⟩
      exact ⟨5 + 32 * (k + 9223372036854775808), .int .i64 (k : Nat), c, rfl, rfl, h, hr, hI, .refl c, ctW_wr (by omega)⟩
    | [], h, _, _ => cases h
    | [_], h, _, _ => cases h
    | _ :: _ :: _ :: _, h, _, _ => cases h
end Go.Proofs.YtpjhkpmmbeoghaaGreatDoor.Ev
set_option linter.unusedVariables false
namespace Go.Proofs.YtpjhkpmmbeoghaaGreatDoor.Ev
open Go Go.RowKit Go.Proofs
theorem info43 : (Tryz.prog.info? 43).map (fun i => (i.zero, i.size, i.bytes)) = some (some (.slice none 0 0), 1, 24) := by kernel_rfl
theorem grow0_walk (w : World) : Calls Tryz.prog 150 #[.slice none 0 0, .int .i64 (0 : Nat)] w fun e w' => e = .returned (.slice none 0 0) ∧ w' = w := by
  go_enter Tryz.func150, Tryz.ntmps150
  go_wp2_with fail
  go_ret
  exact ⟨rfl, rfl⟩
set_option maxRecDepth 100000 in
set_option maxHeartbeats 1000000 in
theorem grow_walk (n : Nat) (w : World) (h0 : 0 < n) (hn : n ≤ 1000) :
    Calls Tryz.prog 150 #[.slice none 0 0, .int .i64 n] w fun e w' => ∃ g cap elem cs, e = .returned (.slice (some ⟨g, 0, none⟩) 0 cap) ∧ w.heap.size ≤ g ∧ w'.heap[g]? = some (.cells cs elem (0, 0)) ∧
      cs.size = cap ∧ n ≤ cap ∧ (∀ i, i < n → cs[i]? = some (.slice none 0 0)) ∧ Below w.heap.size w w' := by
  have i1 : IntKind.i64.wrap (n : Int) = (n : Int) := IntWalk.i64_in _ (by omega)
  have q1 : decide ((0 : Int) < (n : Int)) = true := by simp; omega
  have q2 : decide (0 < n) = true := by simp; omega
  obtain ⟨i, hi, hz, hsize, hby⟩ := info_parts info43
  have hap := Lib.run_append_nil_zeros (P := Tryz.prog) w 44 3 44 43 i _ .i64 .i64 Tryz.underlying44 Tryz.underlying3 hi hz n (by omega) (by omega) (by omega) (by rw [hby]; omega)
  have hge := grownCap_ge w n 0 43
  obtain ⟨cs, hcs⟩ : ∃ cs, cs = Builtin.zeroCells (Value.slice none 0 0).cells n ++ Builtin.zeroCells (Value.slice none 0 0).cells (grownCap w n 0 43 - n) := ⟨_, rfl⟩
  have hsz : cs.size = grownCap w n 0 43 := by rw [hcs, Array.size_append, size_zeroCells, size_zeroCells, show (Value.slice none 0 0).cells.size = 1 from rfl]; omega
  have hel : ∀ j, j < n → cs[j]? = some (.slice none 0 0) := fun j hj => by
    rw [hcs, Array.getElem?_append_left (by rw [size_zeroCells, show (Value.slice none 0 0).cells.size = 1 from rfl]; omega)]
    have hsz2 : (Builtin.zeroCells (Value.slice none 0 0).cells n).size = n := by rw [size_zeroCells, show (Value.slice none 0 0).cells.size = 1 from rfl, Nat.mul_one]
    rw [Array.getElem?_eq_getElem (by omega)]
    simp [Builtin.zeroCells, Value.cells, Nat.mod_one]
  rw [← hcs] at hap
  have hnew := heap_alloc_new w.drew (.cells cs 43)
  have hb : Below w.heap.size w (w.drew.alloc (.cells cs 43)) := ((Below.refl _ w).drew).alloc (Nat.le_refl _) _
  have HA := Lib.hid hap; have HN := Lib.hid hnew; have HB := Lib.hid hb; have HS := Lib.hid hsz; have HE := Lib.hid hel; have HG := Lib.hid hge
  clear hap hnew hb hsz hel hge hcs hi hz hsize hby
  generalize w.drew.alloc (.cells cs 43) = w1 at HA HN HB
  generalize grownCap w n 0 43 = C at HA HS HG
  have hC0 : 0 < C := by have := HG.out; omega
  go_enter Tryz.func150, Tryz.ntmps150
  go_wp2_with (at_builtin; refine Lib.wpList_append_run _ rfl (.tmp 20) (.tmp 21) 44 3 rfl (.slice none 0 0) (.int .i64 n) rfl rfl _ _ HA.out ?_)
  go_ret
  exact ⟨_, _, _, _, rfl, Nat.le_refl _, HN.out, HS.out, HG.out, HE.out, HB.out⟩
theorem grow_snd : FSnd Tryz.prog 150 growB := growB_snd ⟨_, Tryz.func150, rfl⟩ grow0_walk (fun n w h1 h2 => grow_walk n w h1 h2)
theorem it_snd : FSnd Tryz.prog 10 itB := itB_snd ⟨_, Tryz.func10, rfl⟩ fun i w hi => Tryz.strconv_Itoa_small i hi w
theorem rep_snd : FSnd Tryz.prog 11 repB := repB_snd ⟨_, Tryz.func11, rfl⟩ fun s c w h1 h2 => Tryz.strings_Repeat s c w h1 h2
theorem join_snd : FSnd Tryz.prog 34 joinB := joinB_snd ⟨_, Tryz.func34, rfl⟩ (fun a c sep w => Tryz.strings_Join_none a c sep w) fun bk o c xs sep w h1 h2 h3 h4 h5 => Tryz.strings_Join bk o c xs sep w h1 h2 h3 h4 h5
theorem ib_snd : FSnd Tryz.prog 179 ibB := ibB_snd ⟨_, Tryz.func179, rfl⟩ fun s c w => Tryz.stringslite_IndexByte s c w
theorem ct_snd : FSnd Tryz.prog 90 ctB := ctB_snd ⟨_, Tryz.func90, rfl⟩ fun s u b w hu => by
  have hu2 : u = ⟨#[b]⟩ := ByteArray.ext (Array.ext' hu)
  subst hu2
  refine (Tryz.strings_Count_one s b w).mono ?_
  rintro e w' ⟨rfl, rfl⟩
  exact ⟨rfl, rfl⟩
end Go.Proofs.YtpjhkpmmbeoghaaGreatDoor.Ev
set_option linter.unusedVariables false
namespace Go.Proofs.YtpjhkpmmbeoghaaGreatDoor.Ev
open Go Go.RowKit Go.Shelf Go.Proofs
attribute [local go_sem] Oper.semAt_some
set_option maxRecDepth 100000 in
set_option maxHeartbeats 2000000 in
theorem vals1_in (F : Fence) (n : Nat) (hF : F.fn 284) (hro : F.round = none) (hn : 1 ≤ n) (l Ab Ao n₀ cap : Nat) (a : Option Addr) (zs : List Int) (hl : zs.length ≤ 1000000) (hA : Ab < n₀) (J Jx : List Int → World → Prop)
    (hY : ∀ pre x W, J pre W → pre.length < zs.length → YieldAt F (n - 1) Tryz.prog l #[.int .i64 x] W fun e W' =>
      (e = .returned (.bool true) ∧ J (pre ++ [x]) W' ∧ Below n₀ W W') ∨ (e = .returned (.bool false) ∧ Jx (pre ++ [x]) W'))
    (W : World) (hc0 : W.cell? ⟨Ab, Ao, none⟩ = some (.slice a zs.length cap)) (hc : ∀ j (h : j < zs.length), ∃ b off, a = some ⟨b, off, none⟩ ∧ b < n₀ ∧ W.cell? ⟨b, off + j, none⟩ = some (.int .i64 zs[j])) (h0 : J [] W) :
    CallsIn F n Tryz.prog 284 #[.func (.yield l) #[] #[], .pointer (some ⟨Ab, Ao, none⟩)] W fun e W' => (∃ v, e = .returned v) ∧ (J zs W' ∨ (∃ pre, Jx pre W')) := by
  refine callsIn_of_wp Tryz.func284 rfl hF ?_ hro
  simp only [Tryz.ntmps284, List.size_toArray, List.length_cons, List.length_nil, Nat.reduceAdd, Nat.reduceSub, Array.replicate_succ, Array.replicate_zero, List.push_toArray, List.append_toArray, List.nil_append, List.cons_append]
  gi_wp2
  gi_loopw [7] (fun i wr => ∃ (k : Nat), k ≤ zs.length ∧ i = .int .i64 (k : Int) ∧ J (zs.take k) wr ∧ Below n₀ W wr)
    (fun i _ => zs.length - (Go.RowKit.intOf i).toNat)
  case atStart => exact ⟨0, by omega, rfl, by simpa using h0, Below.refl _ _⟩
  case round =>
    obtain ⟨k, hk, rfl, hJs, hnx⟩ := hrel
    by_cases hkl : k < zs.length
    · obtain ⟨b, off, rfl, hb, hcj⟩ := hc k hkl
      have hcx := (hnx.cell (p := ⟨b, off + k, none⟩) hb).trans hcj
      obtain ⟨fn, tmps, assign, body, hy, hR⟩ := hY (zs.take k) zs[k] wr hJs (by rw [List.length_take]; omega)
      have i1 : (k : Int) < (zs.length : Int) := by omega
      have i2 : IntKind.i64.wrap ((k : Int) + 1) = (k : Int) + 1 := IntWalk.i64_in _ (by omega)
      gi_wp2
      refine hR.mono ?_
      rintro e W3 (⟨rfl, hJ3, hk3⟩ | ⟨rfl, hJx3⟩)
      · gi_wp2
        go_roundw
        case rel => exact ⟨k + 1, by omega, by go_num, by rw [← List.take_append_getElem hkl] at *; exact hJ3, hnx.trans hk3⟩
        case measure => simp [Go.RowKit.intOf] <;> omega
      · gi_wp2
        refine bodyPost_ret (results_none rfl _ _ _) rfl ?_
        exact ⟨⟨_, rfl⟩, .inr ⟨_, hJx3⟩⟩
    · obtain rfl : k = zs.length := by omega
      rw [List.take_length] at hJs
      gi_wp2
      go_end0
      exact ⟨⟨_, rfl⟩, .inl hJs⟩
end Go.Proofs.YtpjhkpmmbeoghaaGreatDoor.Ev
set_option linter.unusedVariables false
namespace Go.Proofs.YtpjhkpmmbeoghaaGreatDoor.Ev
open Go Go.RowKit Go.Shelf Go.Proofs
attribute [local go_sem] Oper.semAt_some
theorem info3 : (Tryz.prog.info? 3).map (fun i => (i.zero, i.size, i.bytes)) = some (some (.int .i64 0), 1, 8) := by kernel_rfl
theorem vals_stops (n Ab Ao cap : Nat) (a : Option Addr) (zs : List Int) (hl : zs.length ≤ 1000000) (hn : 1 ≤ n) (w : World) (hA : Ab < w.heap.size) (hc0 : w.cell? ⟨Ab, Ao, none⟩ = some (.slice a zs.length cap))
    (hc : ∀ j (h : j < zs.length), ∃ b off, a = some ⟨b, off, none⟩ ∧ b < w.heap.size ∧ w.cell? ⟨b, off + j, none⟩ = some (.int .i64 zs[j])) :
    SeqStopsK Fence.wide n Tryz.prog 284 #[.pointer (some ⟨Ab, Ao, none⟩)] (fun x : Int => #[.int .i64 x]) (Below w.heap.size) (fun xs => xs = zs) (fun _ => True) zs.length w := fun l J Jx W hW _ _ hY h0 => by
  refine (vals1_in Fence.wide n trivial rfl hn l Ab Ao w.heap.size cap a zs hl hA J Jx hY W ((hW.cell (p := ⟨Ab, Ao, none⟩) hA).trans hc0) (fun j h => ?_) h0).mono ?_
  · obtain ⟨b, off, h1, h2, h3⟩ := hc j h
    exact ⟨b, off, h1, h2, (hW.cell (p := ⟨b, off + j, none⟩) h2).trans h3⟩
  · rintro e W' ⟨he, hj | ⟨pre, hj⟩⟩
    · exact ⟨he, .inl ⟨_, rfl, hj⟩⟩
    · exact ⟨he, .inr ⟨_, trivial, hj⟩⟩
def ApI (w : World) (B : Nat) (pre : List Int) (W : World) : Prop := (∃ v, Boxed W B 43 v ∧ W.ownsRow w.heap.size 3 1 v pre.length (pre.map (Value.int .i64)) ∧ (v = .slice none 0 0 ↔ pre = [])) ∧ Below w.heap.size w W
theorem apI_own (w : World) (B C : Nat) (h : w.heap.size ≤ C) : OwnFrom C (ApI w B) := fun s X Y row hs hg hr =>
  ⟨(holdsRow_own w.heap.size B 43 3 1 (fun s : List Int => s.length) (fun s => s.map (Value.int .i64)) (fun s v => v = .slice none 0 0 ↔ s = [])).from C s X Y row hs.1 hg hr, ownFrom_below (β := List Int) (Nat.le_refl _) h s X Y row hs.2 hg hr⟩
set_option maxRecDepth 100000 in
set_option maxHeartbeats 2000000 in
theorem apSeq_walk (zs : List Int) (hl : zs.length ≤ 1000000) (Ab Ao cap : Nat) (a : Option Addr) (w : World) (hA : Ab < w.heap.size) (hc0 : w.cell? ⟨Ab, Ao, none⟩ = some (.slice a zs.length cap))
    (hc : ∀ j (h : j < zs.length), ∃ b off, a = some ⟨b, off, none⟩ ∧ b < w.heap.size ∧ w.cell? ⟨b, off + j, none⟩ = some (.int .i64 zs[j])) :
    Calls Tryz.prog 305 #[.slice none 0 0, .func (.func 284) #[] #[.pointer (some ⟨Ab, Ao, none⟩)]] w fun e w' => ∃ v, e = .returned v ∧ w'.ownsRow w.heap.size 3 1 v zs.length (zs.map (Value.int .i64)) ∧ (v = .slice none 0 0 ↔ zs = []) ∧ Below w.heap.size w w' := by
  obtain ⟨i0, hi, hz0, hz1, hz2⟩ := info_parts info3
  have hst := vals_stops (3 - 1) Ab Ao cap a zs hl (by omega) w hA hc0 hc
  have Hst := Lib.hid hst
  clear hst hc0 hc
  refine (callsIn_wide (n := 3)).1 (callsIn_of_wp_marks Tryz.func305 rfl trivial ?_ rfl)
  simp only [Tryz.ntmps305, List.size_toArray, List.length_cons, List.length_nil, Nat.reduceAdd, Nat.reduceSub, Array.replicate_succ, Array.replicate_zero, List.push_toArray, List.append_toArray, List.nil_append, List.cons_append]
  gi_wp2
  obtain ⟨W0, hW0⟩ : ∃ W0, w.alloc (.cells #[.slice none 0 0] 43) = W0 := ⟨_, rfl⟩
  have hs0 : W0.heap.size = w.heap.size + 1 := by rw [← hW0]; simp
  have hv0 : Boxed W0 w.heap.size 43 (.slice none 0 0) := by rw [← hW0]; exact Boxed.new w 43 _
  have hb0 : Below w.heap.size w W0 := by rw [← hW0]; exact (Below.refl _ w).alloc (Nat.le_refl _) _
  rw [hW0]
  clear hW0
  refine wpIn_rangeFunc_ownF rfl (by omega) rfl trivial (enters_of Tryz.func284 (by kernel_rfl) rfl) Hst.out belowK_t (belowK_b (by omega)) hb0 (fun _ => rfl)
    (ApI w w.heap.size) (fun _ _ _ => False) (apI_own w _ _ (by omega)) (fun _ _ _ _ _ hs _ _ => hs) ⟨⟨_, hv0, ⟨rfl, .inl ⟨rfl, rfl⟩⟩, by simp⟩, hb0⟩
    (fun x => { tmps := #[.slice none 0 0, .func (.func 284) #[] #[.pointer (some ⟨Ab, Ao, none⟩)], .pointer (some ⟨w.heap.size, 0, none⟩), undef, .slice none 0 0, .int .i64 x, .func (.func 284) #[] #[.pointer (some ⟨Ab, Ao, none⟩)], .int .i64 x, undef, undef, undef, undef, undef], defers := [] }) ?_ ?_ ?_ ?_
  · intro l x W K hK
    gi_wp2
    exact hK
  · rintro l pre x W ⟨⟨v, hv, hrow, -⟩, hbl⟩ hlt
    have hsz := hbl.size
    have hc2 := hv.cell
    have hf2 := hv.frozen
    gi_wp2_with (first
      | (gi_at_builtin; refine wpListIn_append_own _ rfl _ _ 43 rfl w.heap.size 3 i0 (.int .i64 0) 1 8 Tryz.underlying43 hi hz0 hz1 hz2 rfl (by decide) _ _ _ rfl (hrow.alloc _) ⟨W.heap.size, 0, none⟩ 1 1 [.int .i64 x] rfl rfl (cell_one_new _ _ _) (by simp [Value.oneCell']) (by unfold maxLen; omega) (by omega) (by simp; omega) ?_; intro v' w3 hown' hg3 hnil3
         obtain ⟨e1, e2, e3, e4, e5⟩ := hv.appended (by decide) hrow hsz (Nat.le_refl _) hown' hg3
         obtain ⟨g', cap', rfl⟩ := ownsRow_succ hown'
         have hc3 := e1.cell; have hf3 := e1.frozen)
      | gi_in)
    exact ⟨e4, e5, ⟨⟨_, e2, by simpa using e3, by simp⟩, hbl.trans e5⟩⟩
  · rintro D xs W hD rfl ⟨⟨v, hv, hrow, hnil⟩, hbl⟩ hdf
    have hc2 := hv.cell
    gi_wp2
    refine ⟨by simp, .inl ⟨_, _, rfl, run_takeDeferred hdf, ?_⟩⟩
    exact ⟨_, results_tmp rfl _ _ _, v, rfl, ownsRow_putObj hrow _ hdf rfl, hnil, hbl.grown (grownBy_putObj' W D _) hbl.size (fun k e => by cases e; omega)⟩
  · intro D c pre W _ _ h _
    exact h.elim
theorem apSeq_row (zs : List Int) (h0 : 0 < zs.length) (hl : zs.length ≤ 1000000) (Ab Ao cap : Nat) (a : Option Addr) (w : World) (hA : Ab < w.heap.size) (hc0 : w.cell? ⟨Ab, Ao, none⟩ = some (.slice a zs.length cap))
    (hc : ∀ j (h : j < zs.length), ∃ b off, a = some ⟨b, off, none⟩ ∧ b < w.heap.size ∧ w.cell? ⟨b, off + j, none⟩ = some (.int .i64 zs[j])) :
    Calls Tryz.prog 305 #[.slice none 0 0, .func (.func 284) #[] #[.pointer (some ⟨Ab, Ao, none⟩)]] w fun e w' => ∃ g cc cs, e = .returned (.slice (some ⟨g, 0, none⟩) zs.length cc) ∧ w.heap.size ≤ g ∧ w'.heap[g]? = some (.cells cs 3 (0, 0)) ∧
      cs.size = cc ∧ zs.length ≤ cc ∧ (∀ i (h : i < zs.length), cs[i]? = some (.int .i64 zs[i])) ∧ Below w.heap.size w w' := by
  refine (apSeq_walk zs hl Ab Ao cap a w hA hc0 hc).mono ?_
  rintro e w' ⟨v, rfl, ho, hnil, hb⟩
  rcases ho.2 with ⟨-, h⟩ | ⟨g, cc, cs, rfl, h1, h2, h3, h4, h5, h6⟩
  · omega
  · refine ⟨g, cc, cs, rfl, h1, h2, by omega, h3, fun i h => ?_, hb⟩
    have e := congrArg (fun l => l[i]?) h6
    simp only [Nat.mul_one] at e
    rw [List.getElem?_take_of_lt h, Array.getElem?_toList, List.getElem?_map, List.getElem?_eq_getElem h] at e
    exact e
theorem apSeq_nil (Ab Ao cap : Nat) (a : Option Addr) (w : World) (hA : Ab < w.heap.size) (hc0 : w.cell? ⟨Ab, Ao, none⟩ = some (.slice a 0 cap)) :
    Calls Tryz.prog 305 #[.slice none 0 0, .func (.func 284) #[] #[.pointer (some ⟨Ab, Ao, none⟩)]] w fun e w' => e = .returned (.slice none 0 0) ∧ Below w.heap.size w w' := by
  refine (apSeq_walk [] (by simp) Ab Ao cap a w hA hc0 (fun j h => absurd h (by simp))).mono ?_
  rintro e w' ⟨v, rfl, ho, hnil, hb⟩
  exact ⟨by rw [hnil.2 rfl], hb⟩
end Go.Proofs.YtpjhkpmmbeoghaaGreatDoor.Ev
set_option linter.unusedVariables false
namespace Go.Proofs.YtpjhkpmmbeoghaaGreatDoor.Ev
open Go Go.RowKit Go.Proofs
theorem intR_ok {M p : Nat} : ∀ {n : Nat}, intR M p n = true → ∀ i, i < n → tg (cellAt M (p + i)) 5 = true
  | 0, _, i, hi => absurd hi (by omega)
  | n + 1, h, i, hi => by
    have h : and (tg (cellAt M (p + n)) 5) (intR M p n) = true := h
    simp only [Bool.and_eq_true] at h
    by_cases e : i = n
    · subst e; exact h.1
    · exact intR_ok h.2 i (by omega)
theorem sl1_row {c : Cf} (hr : HR c) {x : Nat} {v : Value} {k : Res} (hx : WR c.f c.I c.ni x v) (ht : tg x 11 = true) (h0 : sLen x ≠ 0) (h : inK c.M (sB x) (sOff x) (sLen x) k = .ok) :
    k = .ok ∧ ∃ bk o cc, ∃ cs : Array Value, v = .slice (some ⟨bk, o, none⟩) (sLen x) cc ∧ bk < c.w.heap.size ∧ sLen x < 524288 ∧ cs.size = sLen x ∧ RowR c.f c.I c.ni (rowAt c.M (sB x + sOff x) (sLen x)) cs ∧
      ∀ j (hj : j < cs.size), c.w.cell? ⟨bk, o + j, none⟩ = some cs[j] := by
  rcases slice_view hx ht with ⟨-, -, e⟩ | ⟨ex, F, A, cc, -, q1, q2, q3, q4, q5, q6, q7, q8, q9, q10, q11, -, rfl⟩
  · exact absurd e h0
  · obtain ⟨h1, h2, h⟩ := inK_ok h
    have hc : sLen x ≤ cc := by
      cases ex with
      | true => have := q9 rfl; omega
      | false => have := (q10 rfl).1; omega
    obtain rfl := q11 (by omega)
    obtain ⟨cs, g1, g2, -, g4⟩ := hr.row q3 h1 h2
    exact ⟨h, _, _, _, cs, rfl, hr.lt _ _ q3, q5, g1, g2, g4⟩
theorem seq_snd : FSnd Tryz.prog 305 (seqB 284) := by
  intro call h1 h2
  constructor
  · intro ws M nm I ni
    match ws with
    | [] => exact .inr fun _ h => by cases h
    | [_] => exact .inr fun _ h => by cases h
    | [x, u] => exact good_iff (good_iff (good_iff (good_iff (good_ptr (good_in (good_iff (good_iff good_kf (good_in (good_iff alloc_lin good_bad))) good_bad))) good_bad) good_bad) good_bad) good_bad
    | _ :: _ :: _ :: _ => exact .inr fun _ h => by cases h
  · refine sndAt_of ⟨_, Tryz.func305, rfl⟩ fun ws c kf args h hr hI hs ha => ?_
    match ws, h, hs, ha with
    | [x, q], h, hs, ha =>
      have g0 : WR c.f c.I c.ni x (args[0]'(by rw [hs]; simp)) := ha 0 (by simp) (by rw [hs]; simp)
      have g1 : WR c.f c.I c.ni q (args[1]'(by rw [hs]; simp)) := ha 1 (by simp) (by rw [hs]; simp)
      obtain ⟨t0, h⟩ := iff_bad h
      obtain ⟨t1, h⟩ := iff_bad h
      obtain ⟨t2, h⟩ := iff_bad h
      obtain ⟨t3, h⟩ := iff_bad h
      have t0 : x = 11 := Nat.eq_of_beq_eq_true t0
      have t2 : q / 32 % 1048576 = 284 := Nat.eq_of_beq_eq_true t2
      have t3 : q / 562949953421312 = 1 := Nat.eq_of_beq_eq_true t3
      rw [t0] at g0
      have e0 : args[0]'(by rw [hs]; simp) = .slice none 0 0 := by
        rcases slice_view g0 rfl with ⟨-, e, -⟩ | ⟨ex, F, A, cc, e, -⟩
        · exact e
        · exact absurd rfl e
      obtain ⟨fn, b, n, cp, e1, p1, p2, p3, p4, p5, p6, p7⟩ := g1.inv_func (tg_ok t1)
      obtain rfl : fn = 284 := by omega
      obtain rfl : n = 1 := by omega
      have hb : Nat.mod (Nat.div q 33554432) 16777216 = b := by show (q / 33554432) % 16777216 = b; omega
      rw [hb] at h
      have p6 := p6 0 (by omega)
      rw [Nat.add_zero] at p6
      obtain ⟨pb, po, F, s1, s2, s3, s4, s5, s6, s7, h⟩ := ptrIn_ok h p6
      have ec : cp = #[.pointer (some ⟨F.blk, F.base + po, none⟩)] := by rw [← s7]; exact args1 p1
      obtain ⟨u1, u2, h⟩ := inK_ok h
      rw [s5, s6] at u2 h
      rw [s5] at u1
      obtain ⟨v, u3, u4, -⟩ := hr.load s3 u1 u2
      have hlt := hr.lt _ _ s3
      have u4 : WR c.f c.I c.ni (cellAt c.M (Nat.add pb po)) v := u4
      generalize cellAt c.M (Nat.add pb po) = S at h u4
      obtain ⟨t4, h⟩ := iff_bad h
      rw [args2 hs, e0, e1, ec]
      rcases iff_ok h with ⟨t5, h⟩ | ⟨t5, h⟩
      · have t5 : sLen S = 0 := Nat.eq_of_beq_eq_true t5
        have hv : ∃ a cc, v = .slice a 0 cc := by
          rcases slice_view u4 t4 with ⟨-, e, -⟩ | ⟨ex, F, A, cc, -, -, -, -, -, -, -, -, -, -, -, -, -, e⟩
          · exact ⟨_, _, e⟩
          · rw [t5] at e; exact ⟨_, _, e⟩
        obtain ⟨a, cc, rfl⟩ := hv
        refine (apSeq_nil _ _ cc a c.w hlt u3).mono ?_
        rintro e w' ⟨rfl, hbl⟩
        obtain ⟨hr1, hx1⟩ := hr.belowW hbl
        exact ⟨11, _, { c with w := w' }, rfl, rfl, h, hr1, hI, hx1, immW_ok rfl⟩
      · have t5 : sLen S ≠ 0 := fun e => by rw [e] at t5; cases t5
        obtain ⟨h, bk, o, cc, cs, rfl, k1, k2, k3, k4, k5⟩ := sl1_row hr u4 t4 t5 h
        obtain ⟨t6, h⟩ := iff_bad h
        have hz : ∀ i (hi : i < cs.size), cs[i] = .int .i64 (Go.RowKit.intOf cs[i]) := fun i hi => by
          have t7 := intR_ok t6 i (by rw [← k3]; exact hi)
          have k6 := k4.wr i hi
          rw [cell_row (by rw [← k3]; exact hi)] at k6
          obtain ⟨z, p, e, -⟩ := k6.inv_int .i64 (tg_ok t7)
          rw [e]; rfl
        have hzl : (cs.toList.map Go.RowKit.intOf).length = sLen S := by rw [List.length_map, Array.length_toList, k3]
        have hzi : ∀ i (hi : i < (cs.toList.map Go.RowKit.intOf).length), .int .i64 (cs.toList.map Go.RowKit.intOf)[i] = cs[i]'(by rw [k3, ← hzl]; exact hi) := fun i hi => by
          rw [List.getElem_map, Array.getElem_toList]
          exact (hz i _).symm
        rw [← hzl] at u3
        refine (apSeq_row (cs.toList.map Go.RowKit.intOf) (by omega) (by omega) _ _ cc _ c.w hlt u3 fun j hj => ⟨bk, o, rfl, k1, by rw [hzi j hj]; exact k5 j _⟩).mono ?_
        rintro e w' ⟨g, cc2, ds, rfl, r1, r2, r3, r4, r5, r6⟩
        rw [hzl] at r4 ⊢
        refine ret_row hr hI h k4 k3 (by omega) (fun i hi => ?_) r1 r2 r6 k2 (by decide) r4 (by omega) rfl
        rw [r5 i (by omega), hzi i (by omega), Array.getElem?_eq_getElem (by omega)]
    | [], h, _, _ => cases h
    | [_], h, _, _ => cases h
    | _ :: _ :: _ :: _, h, _, _ => cases h
end Go.Proofs.YtpjhkpmmbeoghaaGreatDoor.Ev
set_option linter.unusedVariables false
namespace Go.Proofs.YtpjhkpmmbeoghaaGreatDoor.Ev
open Go Go.RowKit Go.Proofs
theorem two_new (w : World) (B : Nat) (hs : w.heap.size = B) (u v : Value) (t t' : TypeId) :
    ((w.alloc (.cells #[u] t)).alloc (.cells #[v] t')).cell? ⟨B, 0, none⟩ = some u ∧ ((w.alloc (.cells #[u] t)).alloc (.cells #[v] t')).frozen? ⟨B, 0, none⟩ = false ∧ ((w.alloc (.cells #[u] t)).alloc (.cells #[v] t')).cell? ⟨B + 1, 0, none⟩ = some v ∧ ((w.alloc (.cells #[u] t)).alloc (.cells #[v] t')).heap.size = B + 1 + 1 := by
  have e1 : ((w.alloc (.cells #[u] t)).alloc (.cells #[v] t')).heap[B]? = some (.cells #[u] t (0, 0)) := by
    rw [← hs]; exact (Below.heap_alloc _ _ _ (by simp)).trans (World.alloc_heap_new w _)
  have e2 : ((w.alloc (.cells #[u] t)).alloc (.cells #[v] t')).heap[B + 1]? = some (.cells #[v] t' (0, 0)) := by
    have := World.alloc_heap_new (w.alloc (.cells #[u] t)) (.cells #[v] t')
    rwa [show (w.alloc (.cells #[u] t)).heap.size = B + 1 by simp [hs]] at this
  refine ⟨by simp [World.cell?, e1], by simp [World.frozen?, e1], by simp [World.cell?, e2], by simp [hs]⟩
set_option maxRecDepth 100000 in
theorem fmt88_walk (w : World) : Calls Tryz.prog 88 #[.int .u64 2, .int .i64 10] w fun e w' => e = .returned (.string ⟨#[50]⟩) ∧ w' = w := by
  have hs := fun w => Tryz.internal_strconv_small 2 (by omega) w
  rw [show Lib.decDigits 2 = [50] by rw [Lib.decDigits_one (by omega)]; rfl] at hs
  have hs : ∀ w, Calls Tryz.prog 111 #[.int .i64 2] w fun e w' => e = .returned (.string ⟨#[50]⟩) ∧ w' = w := hs
  go_enter Tryz.func88, Tryz.ntmps88
  go_wp2_with (go_at_call 111; refine (hs _).mono ?_; rintro e w2 ⟨rfl, rfl⟩)
  go_ret
  exact ⟨rfl, rfl⟩
set_option maxRecDepth 100000 in
theorem fmt_walk (w : World) : Calls Tryz.prog 43 #[.int .u64 2, .int .i64 10] w fun e w' => e = .returned (.string ⟨#[50]⟩) ∧ w' = w := by
  go_enter Tryz.func43, Tryz.ntmps43
  go_wp2_with (go_at_call 88; refine (fmt88_walk _).mono ?_; rintro e w2 ⟨rfl, rfl⟩)
  go_ret
  exact ⟨rfl, rfl⟩
set_option maxRecDepth 100000 in
set_option maxHeartbeats 2000000 in
theorem times_walk (b5 g : Nat) (w : World) (h5 : w.cell? ⟨b5, 0, none⟩ = some (.slice (some ⟨g, 0, none⟩) 1 1)) (hg : w.cell? ⟨g, 0, none⟩ = some (.int .u64 1)) (hf : w.frozen? ⟨g, 0, none⟩ = false) (hne : b5 ≠ g) :
    Calls Tryz.prog 42 #[.int .u64 2, .pointer (some ⟨b5, 0, none⟩)] w fun e w' => (∃ v, e = .returned v) ∧ w' = w.setCell ⟨g, 0, none⟩ (.int .u64 2) := by
  go_enter Tryz.func42, Tryz.ntmps42
  go_wp2_with fail
  go_loopg [3, 8] 1 (fun r cv iv wj => ∃ k : Nat, k + r = 1 ∧ iv = .int .i64 k ∧ cv = .int .u64 0 ∧ wj = if k = 0 then w else w.setCell ⟨g, 0, none⟩ (.int .u64 2))
  case atStart => exact ⟨0, by omega, rfl, rfl, rfl⟩
  case round =>
    obtain ⟨k, hk, rfl, rfl, hw⟩ := hrel
    rcases (show k = 0 ∨ k = 1 by omega) with rfl | rfl
    · rw [if_pos rfl] at hw
      subst hw
      go_wp2_with fail
      go_roundg (gk - 1)
      case measure => omega
      case rel => exact ⟨1, by omega, rfl, rfl, rfl⟩
    · rw [if_neg (by omega)] at hw
      subst hw
      go_wp2_with fail
      go_loopg [3] 0 (fun r cv wj => cv = .int .u64 0 ∧ wj = w.setCell ⟨g, 0, none⟩ (.int .u64 2))
      case atStart => exact ⟨rfl, rfl⟩
      case round =>
        obtain ⟨rfl, rfl⟩ := hrel
        go_wp2_with fail
        go_end0
        exact ⟨⟨_, rfl⟩, rfl⟩
set_option maxRecDepth 100000 in
set_option maxHeartbeats 2000000 in
theorem size_walk (bk o cc : Nat) (v1 : Value) (h1 : v1.oneCell' = true) (w : World) (hb : bk < w.heap.size) (c0 : w.cell? ⟨bk, o, none⟩ = some (.int .i64 2)) (c1 : w.cell? ⟨bk, o + 1, none⟩ = some (.int .i64 1)) (c2 : w.cell? ⟨bk, o + 2, none⟩ = some (.int .i64 1)) :
    Calls Tryz.prog 16 #[.agg #[.slice (some ⟨bk, o, none⟩) 3 cc, v1]] w fun e w' => e = .returned (.string ⟨#[50]⟩) ∧ Below w.heap.size w w' := by
  obtain ⟨B, hB⟩ : ∃ B, w.heap.size = B := ⟨_, rfl⟩
  obtain ⟨w1, hw1⟩ : ∃ w1, w.alloc (Obj.cells #[.slice (some ⟨bk, o, none⟩) 3 cc, v1] 46) = w1 := ⟨_, rfl⟩
  have hb1 : Below B w w1 := by rw [← hw1]; exact (Below.refl _ w).alloc (by omega) _
  have k0 := (hb1.cell (p := ⟨bk, o, none⟩) (by show bk < B; omega)).trans c0
  have k1 := (hb1.cell (p := ⟨bk, o + 1, none⟩) (by show bk < B; omega)).trans c1
  have k2 := (hb1.cell (p := ⟨bk, o + 2, none⟩) (by show bk < B; omega)).trans c2
  have kb : w1.cell? ⟨B, 0, none⟩ = some (.slice (some ⟨bk, o, none⟩) 3 cc) := by rw [← hw1, ← hB]; simp
  have hs1 : w1.heap.size = B + 1 := by rw [← hw1, ← hB]; simp
  have Hc := Lib.hid (And.intro c0 (And.intro c1 c2))
  clear c0 c1 c2
  go_enter Tryz.func16, Tryz.ntmps16
  go_wp2_with fail
  have HB1 := Lib.hid hb1
  clear hw1 hb1
  go_loopg [16] 3 (fun r iv wj => ∃ k : Nat, k + r = 3 ∧ iv = .int .i64 k ∧ wj = w1)
  case atStart => exact ⟨0, by omega, rfl, rfl⟩
  case round =>
    obtain ⟨k, hk, rfl, rfl⟩ := hrel
    rcases (show k = 0 ∨ k = 1 ∨ k = 2 ∨ k = 3 by omega) with rfl | rfl | rfl | rfl
    · go_wp2_with fail
      go_roundg (gk - 1)
      case measure => omega
      case rel => exact ⟨1, by omega, rfl, rfl⟩
    · go_wp2_with fail
      go_roundg (gk - 1)
      case measure => omega
      case rel => exact ⟨2, by omega, rfl, rfl⟩
    · go_wp2_with fail
      go_roundg (gk - 1)
      case measure => omega
      case rel => exact ⟨3, by omega, rfl, rfl⟩
    · go_wp2_with (go_at_call 41; refine (Tryz.slices_Contains_int bk o 3 cc [2, 1, 1] 0 _ (by simp) (by omega) (fun j hj => by
        rcases (show j = 0 ∨ j = 1 ∨ j = 2 by simp at hj; omega) with rfl | rfl | rfl
        · exact k0
        · exact k1
        · exact k2)).mono ?_; rintro e w2 ⟨rfl, rfl⟩)
      obtain ⟨w3, hw3⟩ : ∃ w3, ((w2.alloc (Obj.cells #[Value.int IntKind.u64 1] 97)).alloc (Obj.cells #[Value.slice (some { block := B + 1, off := 0 }) 1 1] 98)) = w3 := ⟨_, rfl⟩
      have hb3 : Below B w w3 := by rw [← hw3]; exact (HB1.out.alloc (by omega) _).alloc (by simp; omega) _
      have q0 := (hb3.cell (p := ⟨bk, o, none⟩) (by show bk < B; omega)).trans Hc.out.1
      have q1 := (hb3.cell (p := ⟨bk, o + 1, none⟩) (by show bk < B; omega)).trans Hc.out.2.1
      have q2 := (hb3.cell (p := ⟨bk, o + 2, none⟩) (by show bk < B; omega)).trans Hc.out.2.2
      have g5 : w3.cell? ⟨B + 1 + 1, 0, none⟩ = some (.slice (some ⟨B + 1, 0, none⟩) 1 1) := by rw [← hw3]; exact (two_new w2 (B + 1) hs1 _ _ _ _).2.2.1
      have gg : w3.cell? ⟨B + 1, 0, none⟩ = some (.int .u64 1) := by rw [← hw3]; exact (two_new w2 (B + 1) hs1 _ _ _ _).1
      have gf : w3.frozen? ⟨B + 1, 0, none⟩ = false := by rw [← hw3]; exact (two_new w2 (B + 1) hs1 _ _ _ _).2.1
      have hs3 : w3.heap.size = B + 1 + 1 + 1 := by rw [← hw3]; exact (two_new w2 (B + 1) hs1 _ _ _ _).2.2.2
      rw [hw3]
      have HB3 := Lib.hid hb3
      clear hw3 hb3 k0 k1 k2 kb hs1 HB1
      go_loopg [7, 35] 3 (fun r pv iv wj => ∃ k : Nat, k + r = 3 ∧ iv = .int .i64 k ∧ pv = .int .u64 (if k = 0 then 1 else 2) ∧ wj = w3)
      case atStart => exact ⟨0, by omega, rfl, rfl, rfl⟩
      case round =>
        obtain ⟨k, hk, rfl, rfl, rfl⟩ := hrel
        rcases (show k = 0 ∨ k = 1 ∨ k = 2 ∨ k = 3 by omega) with rfl | rfl | rfl | rfl
        · go_wp2_with fail
          go_roundg (gk - 1)
          case measure => omega
          case rel => exact ⟨1, by omega, rfl, rfl, rfl⟩
        · go_wp2_with fail
          go_roundg (gk - 1)
          case measure => omega
          case rel => exact ⟨2, by omega, rfl, rfl, rfl⟩
        · go_wp2_with fail
          go_roundg (gk - 1)
          case measure => omega
          case rel => exact ⟨3, by omega, rfl, rfl, rfl⟩
        · go_wp2_with (go_at_call 42; refine (times_walk (B + 1 + 1) (B + 1) _ g5 gg gf (by omega)).mono ?_; rintro e w4 ⟨⟨v, rfl⟩, rfl⟩)
          obtain ⟨w4, hw4⟩ : ∃ w4, (wr.setCell ⟨B + 1, 0, none⟩ (Value.int IntKind.u64 2)) = w4 := ⟨_, rfl⟩
          have hb4 : Below B w w4 := by rw [← hw4]; exact HB3.out.setCell (p := ⟨B + 1, 0, none⟩) (by show B ≤ B + 1; omega) _
          have hs4 : w4.heap.size = B + 1 + 1 + 1 := by rw [← hw4]; simp [hs3]
          have g54 : w4.cell? ⟨B + 1 + 1, 0, none⟩ = some (.slice (some ⟨B + 1, 0, none⟩) 1 1) := by rw [← hw4]; unfold World.cell?; simp only; rw [Below.heap_setCell _ ⟨B + 1, 0, none⟩ _ _ (by show B + 1 + 1 ≠ B + 1; omega)]; exact g5
          have gg4 : w4.cell? ⟨B + 1, 0, none⟩ = some (.int .u64 2) := by rw [← hw4]; exact World.cell?_setCell_same' _ _ _ (by rw [gg]; rfl)
          have hB5 := Lib.fresh_isBuilder 72 5 w4
          have hb5 : Below (B + 1 + 1 + 1) w4 (w4.alloc (.cells #[.pointer none, .slice none 0 0] 72)) := (Below.refl _ w4).alloc (by omega) _
          rw [hs4] at hB5
          rw [hw4]
          obtain ⟨w5, hw5⟩ : ∃ w5, w4.alloc (.cells #[.pointer none, .slice none 0 0] 72) = w5 := ⟨_, rfl⟩
          rw [hw5] at hB5 hb5 ⊢
          have hs5 : w5.heap.size = B + 1 + 1 + 1 + 1 := by rw [← hw5]; simp [hs4]
          have HB4 := Lib.hid hb4
          clear hw4 hw5 hb4 HB3 q0 q1 q2 g5 gg gf hs3
          have HB5 := Lib.hid (And.intro hB5 hb5)
          clear hB5 hb5
          go_loopg [11] 1 (fun r iv wj => ∃ k : Nat, k + r = 1 ∧ iv = .int .i64 (if k = 0 then 0 else -1) ∧ Lib.IsBuilder 72 5 (B + 1 + 1 + 1) (B + 1 + 1 + 1) (if k = 0 then [] else Lib.byteCells [50]) wj ∧ Below (B + 1 + 1 + 1) w4 wj)
          case atStart => exact ⟨0, by omega, rfl, HB5.out.1, HB5.out.2⟩
          case round =>
            clear HB5
            obtain ⟨k, hk, rfl, hib, hbl⟩ := hrel
            rcases (show k = 0 ∨ k = 1 by omega) with rfl | rfl
            · have d5 := (hbl.cell (p := ⟨B + 1 + 1, 0, none⟩) (by show B + 1 + 1 < B + 1 + 1 + 1; omega)).trans g54
              have dg := (hbl.cell (p := ⟨B + 1, 0, none⟩) (by show B + 1 < B + 1 + 1 + 1; omega)).trans gg4
              have hsw := hbl.size
              have HI := Lib.hid hib
              have HL := Lib.hid hbl
              clear hib hbl g54 gg4
              go_wp2_with (first
                | (go_at_call 43; refine (fmt_walk _).mono ?_; rintro e w6 ⟨rfl, rfl⟩)
                | (go_at_call 29; refine (writeString_turn (B + 1 + 1 + 1) (B + 1 + 1 + 1) [] ⟨#[50]⟩ _ HI.out (by decide) (by omega)).mono ?_; rintro e w7 ⟨rfl, hi7, hb7, -⟩))
              have H7 := Lib.hid (And.intro hi7 hb7)
              clear hi7 hb7
              go_roundg (gk - 1)
              case measure => omega
              case rel => exact ⟨1, by omega, rfl, H7.out.1, HL.out.trans H7.out.2⟩
            · have hsw := hbl.size
              have HI := Lib.hid hib
              have HL := Lib.hid hbl
              clear hib hbl
              go_wp2_with (go_at_call 31; refine (Tryz.Builder_String_any (B + 1 + 1 + 1) (B + 1 + 1 + 1) [50] _ HI.out (by omega)).mono ?_; rintro e w7 ⟨rfl, hb7⟩)
              go_ret
              exact ⟨rfl, by rw [hB]; exact HB4.out.trans ((HL.out.trans hb7).mono (by omega))⟩
end Go.Proofs.YtpjhkpmmbeoghaaGreatDoor.Ev
set_option linter.unusedVariables false
namespace Go.Proofs.YtpjhkpmmbeoghaaGreatDoor.Ev
open Go Go.RowKit Go.Proofs
theorem size_snd : FSnd Tryz.prog 16 sizeT := by
  intro call h1 h2
  constructor
  · intro ws M nm I ni
    match ws with
    | [] => exact .inr fun _ h => by cases h
    | [x] => exact good_iff (good_iff (good_iff (good_iff (good_in (good_iff strK_lin good_bad)) good_bad) good_bad) good_bad) good_bad
    | _ :: _ :: _ => exact .inr fun _ h => by cases h
  · refine sndAt_of ⟨_, Tryz.func16, rfl⟩ fun ws c kf args h hr hI hs ha => ?_
    match ws, h, hs, ha with
    | [x], h, hs, ha =>
      have g0 : WR c.f c.I c.ni x (args[0]'(by rw [hs]; simp)) := ha 0 (by simp) (by rw [hs]; simp)
      obtain ⟨t0, h⟩ := iff_bad h
      obtain ⟨t1, h⟩ := iff_bad h
      obtain ⟨t2, h⟩ := iff_bad h
      obtain ⟨t3, h⟩ := iff_bad h
      obtain ⟨b, n, cp, e1, p1, p2, p3, p4, p5, p6, p7⟩ := g0.inv_agg (tg_ok t0)
      have t1 : x / 536870912 = 2 := Nat.eq_of_beq_eq_true t1
      have eb : gB x = b := by show x / 32 % 16777216 = b; omega
      obtain rfl : n = 2 := by omega
      have k0 := p6 0 (by omega)
      rw [Nat.add_zero] at k0
      rw [eb] at t2 t3 h
      have t3 : sLen (cellAt c.I b) = 3 := Nat.eq_of_beq_eq_true t3
      obtain ⟨h, bk, o, cc, cs, e2, k1, k2, k3, k4, k5⟩ := sl1_row hr k0 t2 (by omega) h
      obtain ⟨t6, h⟩ := iff_bad h
      have t6 : rowAt c.M (sB (cellAt c.I b) + sOff (cellAt c.I b)) (sLen (cellAt c.I b)) = 1852673427797059127009388524371697740111538410003123081363891952282414750892101 := Nat.eq_of_beq_eq_true t6
      rw [t6] at k4
      rw [t3] at k3 e2
      have hz : ∀ i (hi : i < cs.size) (z : Int) (p : Nat), cellAt 1852673427797059127009388524371697740111538410003123081363891952282414750892101 i = 5 + 32 * p → (p : Int) = z + 9223372036854775808 → cs[i] = .int .i64 z := fun i hi z p e3 e4 => by
        have k6 := k4.wr i hi
        rw [e3] at k6
        obtain ⟨z', p', e5, e6, e7, -⟩ := k6.inv_int .i64 (by show (5 + 32 * p) % 32 = 5; omega)
        have e6 : 5 + 32 * p = 5 + 32 * p' := e6
        have e7 : (p' : Int) = z' + 9223372036854775808 := e7
        rw [e5]
        congr 1
        omega
      have z0 := hz 0 (by omega) 2 9223372036854775810 (by kernel_rfl) (by decide)
      have z1 := hz 1 (by omega) 1 9223372036854775809 (by kernel_rfl) (by decide)
      have z2 := hz 2 (by omega) 1 9223372036854775809 (by kernel_rfl) (by decide)
      have c0 := k5 0 (by omega)
      have c1 := k5 1 (by omega)
      have c2 := k5 2 (by omega)
      rw [z0, Nat.add_zero] at c0
      rw [z1] at c1
      rw [z2] at c2
      have ea : cp = #[.slice (some ⟨bk, o, none⟩) 3 cc, cp[1]'(by omega)] := by rw [← e2]; exact args2 p1
      rw [args1 hs, e1, ea]
      refine (size_walk bk o cc _ (p2 1 (by omega)) c.w k1 c0 c1 c2).mono ?_
      rintro e w' ⟨rfl, hbl⟩
      exact ret_str h hr hI rfl rfl rfl hbl
    | [], h, _, _ => cases h
    | _ :: _ :: _, h, _, _ => cases h
end Go.Proofs.YtpjhkpmmbeoghaaGreatDoor.Ev
set_option maxRecDepth 100000
set_option linter.unusedVariables false
namespace Go.Proofs.YtpjhkpmmbeoghaaGreatDoor.Ev
open Go
open Go.Proofs
theorem e134 : FOkS Tryz.prog 243 134 g134 := fok2 fun call t0 t1 M m I i kf => by
 refine top_ok Tryz.func134 rfl rfl ?_
 refine sq_ok (fun (j : X6) E => j (E 0) (E 96)) ?_ ?_
 intro E M m I i
 refine sq_ok (fun (j : X6) E => j (E 0) (E 96)) ?_ ?_
 intro E M m I i
 kernel_rfl
 intro j
 refine sq_ok (fun (j : X9) E => j (E 0) (E 96) (E 864) (E 960) (E 1056)) ?_ ?_
 intro E M m I i
 refine bl_ok ?_
 refine lo_ok (fun (j : X9) E => j (E 0) (E 96) (E 864) (E 960) (E 1056)) (fun _ _ _ _ _ => rfl) ?_
 intro n j E M m I i
 kernel_rfl
 intro j
 kernel_rfl
 intro j
 kernel_rfl
theorem e144 : FOkS Tryz.prog 243 144 g144 := fok2 fun call t0 t1 M m I i kf => by
 refine top_ok Tryz.func144 rfl rfl ?_
 refine sq_ok (fun (j : X6) E => j (E 0) (E 96)) ?_ ?_
 intro E M m I i
 refine sq_ok (fun (j : X6) E => j (E 0) (E 96)) ?_ ?_
 intro E M m I i
 kernel_rfl
 intro j
 refine sq_ok (fun (j : X9) E => j (E 0) (E 96) (E 864) (E 960) (E 1056)) ?_ ?_
 intro E M m I i
 refine bl_ok ?_
 refine lo_ok (fun (j : X9) E => j (E 0) (E 96) (E 864) (E 960) (E 1056)) (fun _ _ _ _ _ => rfl) ?_
 intro n j E M m I i
 kernel_rfl
 intro j
 kernel_rfl
 intro j
 kernel_rfl
theorem e127 : FOkS Tryz.prog 243 127 g127 := fok1 fun call t0 M m I i kf => by
 refine top_ok Tryz.func127 rfl rfl ?_
 refine sq_ok (fun (j : X6) E => j (E 0) (E 192)) ?_ ?_
 intro E M m I i
 refine sq_ok (fun (j : X6) E => j (E 0) (E 192)) ?_ ?_
 intro E M m I i
 refine sq_ok (fun (j : X6) E => j (E 0) (E 192)) ?_ ?_
 intro E M m I i
 refine sq_ok (fun (j : X6) E => j (E 0) (E 192)) ?_ ?_
 intro E M m I i
 kernel_rfl
 intro j
 kernel_rfl
 intro j
 kernel_rfl
 intro j
 kernel_rfl
 intro j
 kernel_rfl
theorem e213 : FOkS Tryz.prog 243 213 g213 := fok1 fun call t0 M m I i kf => by
 refine top_ok Tryz.func213 rfl rfl ?_
 kernel_rfl
theorem e200 : FOkS Tryz.prog 243 200 g200 := fok2 fun call t0 t1 M m I i kf => by
 refine top_ok Tryz.func200 rfl rfl ?_
 refine sq_ok (fun (j : X6) E => j (E 0) (E 96)) ?_ ?_
 intro E M m I i
 refine sq_ok (fun (j : X6) E => j (E 0) (E 96)) ?_ ?_
 intro E M m I i
 refine sq_ok (fun (j : X7) E => j (E 0) (E 480) (E 576)) ?_ ?_
 intro E M m I i
 refine sq_ok (fun (j : X6) E => j (E 0) (E 576)) ?_ ?_
 intro E M m I i
 refine sq_ok (fun (j : X6) E => j (E 0) (E 672)) ?_ ?_
 intro E M m I i
 refine sq_ok (fun (j : X6) E => j (E 672) (E 768)) ?_ ?_
 intro E M m I i
 refine sq_ok (fun (j : X5) E => j (E 672)) ?_ ?_
 intro E M m I i
 kernel_rfl
 intro j
 refine bl_ok ?_
 refine lo_ok (fun (j : X6) E => j (E 672) (E 768)) (fun _ _ _ _ _ => rfl) ?_
 intro n j E M m I i
 kernel_rfl
 intro j
 kernel_rfl
 intro j
 kernel_rfl
 intro j
 kernel_rfl
 intro j
 kernel_rfl
 intro j
 kernel_rfl
 intro j
 kernel_rfl
theorem e255 : FOkS Tryz.prog 243 255 g255 := fok1 fun call t0 M m I i kf => by
 refine top_ok Tryz.func255 rfl rfl ?_
 refine sq_ok (fun (j : X5) E => j (E 96)) ?_ ?_
 intro E M m I i
 refine sq_ok (fun (j : X7) E => j (E 96) (E 384) (E 480)) ?_ ?_
 intro E M m I i
 refine sq_ok (fun (j : X6) E => j (E 96) (E 384)) ?_ ?_
 intro E M m I i
 refine sq_ok (fun (j : X7) E => j (E 96) (E 384) (E 576)) ?_ ?_
 intro E M m I i
 refine sq_ok (fun (j : X8) E => j (E 96) (E 384) (E 576) (E 672)) ?_ ?_
 intro E M m I i
 refine sq_ok (fun (j : X8) E => j (E 96) (E 384) (E 576) (E 672)) ?_ ?_
 intro E M m I i
 refine sq_ok (fun (j : X5) E => j (E 672)) ?_ ?_
 intro E M m I i
 refine sq_ok (fun (j : X6) E => j (E 672) (E 1632)) ?_ ?_
 intro E M m I i
 refine sq_ok (fun (j : X5) E => j (E 1632)) ?_ ?_
 intro E M m I i
 kernel_rfl
 intro j
 kernel_rfl
 intro j
 kernel_rfl
 intro j
 refine sq_ok (fun (j : X8) E => j (E 384) (E 576) (E 672) (E 1056)) ?_ ?_
 intro E M m I i
 refine bl_ok ?_
 refine lo_ok (fun (j : X8) E => j (E 384) (E 576) (E 672) (E 1056)) (fun _ _ _ _ _ => rfl) ?_
 intro n j E M m I i
 refine sq_ok (fun (j : X8) E => j (E 384) (E 576) (E 672) (E 1056)) ?_ ?_
 intro E M m I i
 refine bl_ok ?_
 refine sq_ok (fun (j : X8) E => j (E 384) (E 576) (E 672) (E 1056)) ?_ ?_
 intro E M m I i
 refine sq_ok (fun (j : X9) E => j (E 384) (E 576) (E 672) (E 1056) (E 1152)) ?_ ?_
 intro E M m I i
 refine sq_ok (fun (j : X8) E => j (E 384) (E 576) (E 1056) (E 1152)) ?_ ?_
 intro E M m I i
 kernel_rfl
 intro j
 refine sq_ok (fun (j : X11) E => j (E 384) (E 576) (E 1056) (E 1152) (E 7680) (E 7776) (E 7872)) ?_ ?_
 intro E M m I i
 refine bl_ok ?_
 refine lo_ok (fun (j : X11) E => j (E 384) (E 576) (E 1056) (E 1152) (E 7680) (E 7776) (E 7872)) (fun _ _ _ _ _ => rfl) ?_
 intro n j E M m I i
 refine sq_ok (fun (j : X12) E => j (E 384) (E 576) (E 1056) (E 1152) (E 7680) (E 7776) (E 7872) (E 7968)) ?_ ?_
 intro E M m I i
 refine sq_ok (fun (j : X11) E => j (E 384) (E 576) (E 1056) (E 1152) (E 7680) (E 7776) (E 7872)) ?_ ?_
 intro E M m I i
 refine sq_ok (fun (j : X11) E => j (E 384) (E 576) (E 1056) (E 1152) (E 7680) (E 7776) (E 7872)) ?_ ?_
 intro E M m I i
 kernel_rfl
 intro j
 refine bl_ok ?_
 refine sq_ok (fun (j : X12) E => j (E 384) (E 576) (E 1056) (E 1152) (E 1344) (E 7680) (E 7776) (E 7872)) ?_ ?_
 intro E M m I i
 refine sq_ok (fun (j : X15) E => j (E 384) (E 576) (E 1056) (E 1152) (E 1344) (E 7680) (E 7776) (E 7872) (E 8928) (E 9024) (E 9120)) ?_ ?_
 intro E M m I i
 refine bl_ok ?_
 refine lo_ok (fun (j : X15) E => j (E 384) (E 576) (E 1056) (E 1152) (E 1344) (E 7680) (E 7776) (E 7872) (E 8928) (E 9024) (E 9120)) (fun _ _ _ _ _ => rfl) ?_
 intro n j E M m I i
 kernel_rfl
 intro j
 kernel_rfl
 intro j
 kernel_rfl
 intro j
 kernel_rfl
 intro j
 kernel_rfl
 intro j
 kernel_rfl
 intro j
 kernel_rfl
 intro j
 kernel_rfl
 intro j
 kernel_rfl
 intro j
 kernel_rfl
 intro j
 refine sq_ok (fun (j : X9) E => j (E 96) (E 384) (E 576) (E 672) (E 3456)) ?_ ?_
 intro E M m I i
 refine bl_ok ?_
 refine lo_ok (fun (j : X9) E => j (E 96) (E 384) (E 576) (E 672) (E 3456)) (fun _ _ _ _ _ => rfl) ?_
 intro n j E M m I i
 refine sq_ok (fun (j : X10) E => j (E 96) (E 384) (E 576) (E 672) (E 3456) (E 3552)) ?_ ?_
 intro E M m I i
 refine sq_ok (fun (j : X9) E => j (E 96) (E 384) (E 576) (E 672) (E 3456)) ?_ ?_
 intro E M m I i
 refine sq_ok (fun (j : X9) E => j (E 96) (E 384) (E 576) (E 672) (E 3456)) ?_ ?_
 intro E M m I i
 kernel_rfl
 intro j
 refine bl_ok ?_
 refine sq_ok (fun (j : X10) E => j (E 96) (E 384) (E 576) (E 672) (E 768) (E 3456)) ?_ ?_
 intro E M m I i
 refine sq_ok (fun (j : X13) E => j (E 96) (E 384) (E 576) (E 672) (E 768) (E 3456) (E 3936) (E 4032) (E 4128)) ?_ ?_
 intro E M m I i
 refine bl_ok ?_
 refine lo_ok (fun (j : X13) E => j (E 96) (E 384) (E 576) (E 672) (E 768) (E 3456) (E 3936) (E 4032) (E 4128)) (fun _ _ _ _ _ => rfl) ?_
 intro n j E M m I i
 kernel_rfl
 intro j
 kernel_rfl
 intro j
 kernel_rfl
 intro j
 kernel_rfl
 intro j
 kernel_rfl
 intro j
 kernel_rfl
 intro j
 kernel_rfl
 intro j
 kernel_rfl
 intro j
 kernel_rfl
 intro j
 kernel_rfl
 intro j
 kernel_rfl
theorem e96 : FOkS Tryz.prog 243 96 g96 := fok1 fun call t0 M m I i kf => by
 refine top_ok Tryz.func96 rfl rfl ?_
 refine sq_ok (fun (j : X5) E => j (E 96)) ?_ ?_
 intro E M m I i
 refine sq_ok (fun (j : X8) E => j (E 96) (E 384) (E 480) (E 576)) ?_ ?_
 intro E M m I i
 refine sq_ok (fun (j : X7) E => j (E 96) (E 384) (E 480)) ?_ ?_
 intro E M m I i
 refine sq_ok (fun (j : X8) E => j (E 96) (E 384) (E 480) (E 672)) ?_ ?_
 intro E M m I i
 refine sq_ok (fun (j : X7) E => j (E 96) (E 384) (E 672)) ?_ ?_
 intro E M m I i
 refine sq_ok (fun (j : X8) E => j (E 96) (E 384) (E 672) (E 1056)) ?_ ?_
 intro E M m I i
 refine sq_ok (fun (j : X5) E => j (E 1056)) ?_ ?_
 intro E M m I i
 kernel_rfl
 intro j
 refine sq_ok (fun (j : X9) E => j (E 384) (E 672) (E 1056) (E 5760) (E 5856)) ?_ ?_
 intro E M m I i
 refine bl_ok ?_
 refine lo_ok (fun (j : X9) E => j (E 384) (E 672) (E 1056) (E 5760) (E 5856)) (fun _ _ _ _ _ => rfl) ?_
 intro n j E M m I i
 kernel_rfl
 intro j
 kernel_rfl
 intro j
 kernel_rfl
 intro j
 refine sq_ok (fun (j : X10) E => j (E 96) (E 384) (E 672) (E 2400) (E 2496) (E 2592)) ?_ ?_
 intro E M m I i
 refine bl_ok ?_
 refine lo_ok (fun (j : X10) E => j (E 96) (E 384) (E 672) (E 2400) (E 2496) (E 2592)) (fun _ _ _ _ _ => rfl) ?_
 intro n j E M m I i
 kernel_rfl
 intro j
 kernel_rfl
 intro j
 kernel_rfl
 intro j
 kernel_rfl
 intro j
 kernel_rfl
 intro j
 kernel_rfl
theorem e235 : FOkS Tryz.prog 243 235 g235 := fok4 fun call t0 t1 t2 t3 M m I i kf => by
 refine top_ok Tryz.func235 rfl rfl ?_
 refine sq_ok (fun (j : X9) E => j (E 0) (E 96) (E 192) (E 288) (E 768)) ?_ ?_
 intro E M m I i
 refine bl_ok ?_
 refine lo_ok (fun (j : X9) E => j (E 0) (E 96) (E 192) (E 288) (E 768)) (fun _ _ _ _ _ => rfl) ?_
 intro n j E M m I i
 refine sq_ok (fun (j : X9) E => j (E 0) (E 96) (E 192) (E 288) (E 768)) ?_ ?_
 intro E M m I i
 refine sq_ok (fun (j : X9) E => j (E 0) (E 96) (E 192) (E 288) (E 768)) ?_ ?_
 intro E M m I i
 kernel_rfl
 intro j
 refine bl_ok ?_
 refine sq_ok (fun (j : X10) E => j (E 0) (E 96) (E 192) (E 288) (E 768) (E 864)) ?_ ?_
 intro E M m I i
 refine bl_ok ?_
 refine lo_ok (fun (j : X10) E => j (E 0) (E 96) (E 192) (E 288) (E 768) (E 864)) (fun _ _ _ _ _ => rfl) ?_
 intro n j E M m I i
 kernel_rfl
 intro j
 kernel_rfl
 intro j
 kernel_rfl
 intro j
 kernel_rfl
theorem e263 : FOkS Tryz.prog 243 263 g263 := fok3 fun call t0 t1 t2 M m I i kf => by
 refine top_ok Tryz.func263 rfl rfl ?_
 refine sq_ok (fun (j : X7) E => j (E 0) (E 96) (E 192)) ?_ ?_
 intro E M m I i
 refine sq_ok (fun (j : X8) E => j (E 0) (E 96) (E 192) (E 768)) ?_ ?_
 intro E M m I i
 refine sq_ok (fun (j : X10) E => j (E 0) (E 96) (E 192) (E 768) (E 864) (E 960)) ?_ ?_
 intro E M m I i
 refine sq_ok (fun (j : X9) E => j (E 0) (E 96) (E 192) (E 768) (E 864)) ?_ ?_
 intro E M m I i
 kernel_rfl
 intro j
 refine bl_ok ?_
 refine lo_ok (fun (j : X10) E => j (E 0) (E 96) (E 192) (E 768) (E 864) (E 960)) (fun _ _ _ _ _ => rfl) ?_
 intro n j E M m I i
 kernel_rfl
 intro j
 kernel_rfl
 intro j
 kernel_rfl
 intro j
 kernel_rfl
theorem e77 : FOkS Tryz.prog 243 77 g77 := fok1 fun call t0 M m I i kf => by
 refine top_ok Tryz.func77 rfl rfl ?_
 refine sq_ok (fun (j : X5) E => j (E 96)) ?_ ?_
 intro E M m I i
 refine sq_ok (fun (j : X5) E => j (E 96)) ?_ ?_
 intro E M m I i
 refine sq_ok (fun (j : X6) E => j (E 96) (E 384)) ?_ ?_
 intro E M m I i
 refine sq_ok (fun (j : X5) E => j (E 384)) ?_ ?_
 intro E M m I i
 refine sq_ok (fun (j : X6) E => j (E 384) (E 672)) ?_ ?_
 intro E M m I i
 refine sq_ok (fun (j : X5) E => j (E 672)) ?_ ?_
 intro E M m I i
 kernel_rfl
 intro j
 refine sq_ok (fun (j : X8) E => j (E 672) (E 3744) (E 3840) (E 3936)) ?_ ?_
 intro E M m I i
 refine bl_ok ?_
 refine lo_ok (fun (j : X8) E => j (E 672) (E 3744) (E 3840) (E 3936)) (fun _ _ _ _ _ => rfl) ?_
 intro n j E M m I i
 kernel_rfl
 intro j
 kernel_rfl
 intro j
 kernel_rfl
 intro j
 refine sq_ok (fun (j : X8) E => j (E 384) (E 2304) (E 2400) (E 2496)) ?_ ?_
 intro E M m I i
 refine bl_ok ?_
 refine lo_ok (fun (j : X8) E => j (E 384) (E 2304) (E 2400) (E 2496)) (fun _ _ _ _ _ => rfl) ?_
 intro n j E M m I i
 kernel_rfl
 intro j
 kernel_rfl
 intro j
 kernel_rfl
 intro j
 kernel_rfl
 intro j
 kernel_rfl
theorem e145 : FOkS Tryz.prog 243 145 g145 := fok2 fun call t0 t1 M m I i kf => by
 refine top_ok Tryz.func145 rfl rfl ?_
 refine sq_ok (fun (j : X6) E => j (E 0) (E 96)) ?_ ?_
 intro E M m I i
 refine sq_ok (fun (j : X6) E => j (E 0) (E 96)) ?_ ?_
 intro E M m I i
 refine sq_ok (fun (j : X5) E => j (E 0)) ?_ ?_
 intro E M m I i
 kernel_rfl
 intro j
 refine sq_ok (fun (j : X7) E => j (E 0) (E 96) (E 480)) ?_ ?_
 intro E M m I i
 refine bl_ok ?_
 refine lo_ok (fun (j : X7) E => j (E 0) (E 96) (E 480)) (fun _ _ _ _ _ => rfl) ?_
 intro n j E M m I i
 refine sq_ok (fun (j : X7) E => j (E 0) (E 96) (E 480)) ?_ ?_
 intro E M m I i
 refine sq_ok (fun (j : X7) E => j (E 0) (E 96) (E 480)) ?_ ?_
 intro E M m I i
 kernel_rfl
 intro j
 refine bl_ok ?_
 refine sq_ok (fun (j : X8) E => j (E 0) (E 96) (E 480) (E 2688)) ?_ ?_
 intro E M m I i
 refine cn_ok rfl ?_ ?_
 refine sq_ok (fun (j : X8) E => j (E 0) (E 96) (E 480) (E 576)) ?_ ?_
 intro E M m I i
 refine sq_ok (fun (j : X6) E => j (E 0) (E 480)) ?_ ?_
 intro E M m I i
 kernel_rfl
 intro j
 refine sq_ok (fun (j : X9) E => j (E 0) (E 96) (E 480) (E 576) (E 672)) ?_ ?_
 intro E M m I i
 refine bl_ok ?_
 refine lo_ok (fun (j : X9) E => j (E 0) (E 96) (E 480) (E 576) (E 672)) (fun _ _ _ _ _ => rfl) ?_
 intro n j E M m I i
 kernel_rfl
 intro j
 kernel_rfl
 intro j
 kernel_rfl
 kernel_rfl
 intro j
 kernel_rfl
 intro j
 kernel_rfl
 intro j
 kernel_rfl
 intro j
 kernel_rfl
 intro j
 kernel_rfl
theorem e195 : FOkS Tryz.prog 243 195 g195 := fok2 fun call t0 t1 M m I i kf => by
 refine top_ok Tryz.func195 rfl rfl ?_
 kernel_rfl
theorem e24 : FOkS Tryz.prog 243 24 g24 := fok2 fun call t0 t1 M m I i kf => by
 refine top_ok Tryz.func24 rfl rfl ?_
 refine sq_ok (fun (j : X6) E => j (E 0) (E 96)) ?_ ?_
 intro E M m I i
 refine sq_ok (fun (j : X5) E => j (E 96)) ?_ ?_
 intro E M m I i
 refine sq_ok (fun (j : X5) E => j (E 96)) ?_ ?_
 intro E M m I i
 kernel_rfl
 intro j
 refine sq_ok (fun (j : X7) E => j (E 96) (E 2688) (E 2784)) ?_ ?_
 intro E M m I i
 refine bl_ok ?_
 refine lo_ok (fun (j : X7) E => j (E 96) (E 2688) (E 2784)) (fun _ _ _ _ _ => rfl) ?_
 intro n j E M m I i
 kernel_rfl
 intro j
 kernel_rfl
 intro j
 kernel_rfl
 intro j
 kernel_rfl
theorem e76 : FOkS Tryz.prog 243 76 g76 := fok2 fun call t0 t1 M m I i kf => by
 refine top_ok Tryz.func76 rfl rfl ?_
 refine sq_ok (fun (j : X7) E => j (E 96) (E 192) (E 384)) ?_ ?_
 intro E M m I i
 refine sq_ok (fun (j : X7) E => j (E 96) (E 192) (E 384)) ?_ ?_
 intro E M m I i
 refine sq_ok (fun (j : X7) E => j (E 96) (E 192) (E 384)) ?_ ?_
 intro E M m I i
 refine sq_ok (fun (j : X8) E => j (E 96) (E 192) (E 384) (E 576)) ?_ ?_
 intro E M m I i
 refine sq_ok (fun (j : X7) E => j (E 192) (E 384) (E 576)) ?_ ?_
 intro E M m I i
 kernel_rfl
 intro j
 refine sq_ok (fun (j : X11) E => j (E 96) (E 192) (E 384) (E 576) (E 2784) (E 2880) (E 2976)) ?_ ?_
 intro E M m I i
 refine bl_ok ?_
 refine lo_ok (fun (j : X11) E => j (E 96) (E 192) (E 384) (E 576) (E 2784) (E 2880) (E 2976)) (fun _ _ _ _ _ => rfl) ?_
 intro n j E M m I i
 kernel_rfl
 intro j
 kernel_rfl
 intro j
 kernel_rfl
 intro j
 kernel_rfl
 intro j
 kernel_rfl
 intro j
 kernel_rfl
theorem e22 : FOkS Tryz.prog 243 22 g22 := fok0 fun call  M m I i kf => by
 refine top_ok Tryz.func22 rfl rfl ?_
 kernel_rfl
theorem e258 : FOkS Tryz.prog 243 258 g258 := fok2 fun call t0 t1 M m I i kf => by
 refine top_ok Tryz.func258 rfl rfl ?_
 kernel_rfl
theorem e190 : FOkS Tryz.prog 243 190 g190 := fok2 fun call t0 t1 M m I i kf => by
 refine top_ok Tryz.func190 rfl rfl ?_
 kernel_rfl
theorem e253 : FOkS Tryz.prog 243 253 g253 := fok3 fun call t0 t1 t2 M m I i kf => by
 refine top_ok Tryz.func253 rfl rfl ?_
 kernel_rfl
theorem e143 : FOkS Tryz.prog 243 143 g143 := fok2 fun call t0 t1 M m I i kf => by
 refine top_ok Tryz.func143 rfl rfl ?_
 kernel_rfl
theorem e260 : FOkS Tryz.prog 243 260 g260 := fok2 fun call t0 t1 M m I i kf => by
 refine top_ok Tryz.func260 rfl rfl ?_
 kernel_rfl
theorem e161 : FOkS Tryz.prog 243 161 g161 := fok1 fun call t0 M m I i kf => by
 refine top_ok Tryz.func161 rfl rfl ?_
 refine sq_ok (fun (j : X6) E => j (E 0) (E 192)) ?_ ?_
 intro E M m I i
 refine sq_ok (fun (j : X6) E => j (E 0) (E 192)) ?_ ?_
 intro E M m I i
 refine sq_ok (fun (j : X7) E => j (E 0) (E 192) (E 384)) ?_ ?_
 intro E M m I i
 refine sq_ok (fun (j : X7) E => j (E 0) (E 192) (E 384)) ?_ ?_
 intro E M m I i
 kernel_rfl
 intro j
 refine sq_ok (fun (j : X10) E => j (E 0) (E 192) (E 384) (E 1536) (E 1632) (E 1728)) ?_ ?_
 intro E M m I i
 refine bl_ok ?_
 refine lo_ok (fun (j : X10) E => j (E 0) (E 192) (E 384) (E 1536) (E 1632) (E 1728)) (fun _ _ _ _ _ => rfl) ?_
 intro n j E M m I i
 refine sq_ok (fun (j : X11) E => j (E 0) (E 192) (E 384) (E 1536) (E 1632) (E 1728) (E 1824)) ?_ ?_
 intro E M m I i
 refine sq_ok (fun (j : X10) E => j (E 0) (E 192) (E 384) (E 1536) (E 1632) (E 1728)) ?_ ?_
 intro E M m I i
 refine sq_ok (fun (j : X10) E => j (E 0) (E 192) (E 384) (E 1536) (E 1632) (E 1728)) ?_ ?_
 intro E M m I i
 kernel_rfl
 intro j
 refine bl_ok ?_
 refine sq_ok (fun (j : X12) E => j (E 0) (E 192) (E 384) (E 480) (E 576) (E 1536) (E 1632) (E 1728)) ?_ ?_
 intro E M m I i
 refine sq_ok (fun (j : X12) E => j (E 0) (E 192) (E 384) (E 480) (E 576) (E 1536) (E 1632) (E 1728)) ?_ ?_
 intro E M m I i
 refine sq_ok (fun (j : X14) E => j (E 0) (E 192) (E 384) (E 480) (E 1536) (E 1632) (E 1728) (E 2784) (E 2880) (E 2976)) ?_ ?_
 intro E M m I i
 refine bl_ok ?_
 refine lo_ok (fun (j : X14) E => j (E 0) (E 192) (E 384) (E 480) (E 1536) (E 1632) (E 1728) (E 2784) (E 2880) (E 2976)) (fun _ _ _ _ _ => rfl) ?_
 intro n j E M m I i
 kernel_rfl
 intro j
 kernel_rfl
 intro j
 kernel_rfl
 intro j
 kernel_rfl
 intro j
 kernel_rfl
 intro j
 kernel_rfl
 intro j
 kernel_rfl
 intro j
 kernel_rfl
 intro j
 kernel_rfl
 intro j
 kernel_rfl
theorem e141 : FOkS Tryz.prog 243 141 g141 := fok1 fun call t0 M m I i kf => by
 refine top_ok Tryz.func141 rfl rfl ?_
 kernel_rfl
theorem e154 : FOkS Tryz.prog 243 154 g154 := fok3 fun call t0 t1 t2 M m I i kf => by
 refine top_ok Tryz.func154 rfl rfl ?_
 refine sq_ok (fun (j : X7) E => j (E 0) (E 192) (E 384)) ?_ ?_
 intro E M m I i
 refine sq_ok (fun (j : X8) E => j (E 0) (E 192) (E 384) (E 768)) ?_ ?_
 intro E M m I i
 refine sq_ok (fun (j : X10) E => j (E 0) (E 192) (E 384) (E 768) (E 864) (E 960)) ?_ ?_
 intro E M m I i
 refine sq_ok (fun (j : X9) E => j (E 0) (E 192) (E 384) (E 768) (E 864)) ?_ ?_
 intro E M m I i
 kernel_rfl
 intro j
 refine bl_ok ?_
 refine lo_ok (fun (j : X10) E => j (E 0) (E 192) (E 384) (E 768) (E 864) (E 960)) (fun _ _ _ _ _ => rfl) ?_
 intro n j E M m I i
 kernel_rfl
 intro j
 kernel_rfl
 intro j
 kernel_rfl
 intro j
 kernel_rfl
theorem e103 : FOkS Tryz.prog 243 103 g103 := fok2 fun call t0 t1 M m I i kf => by
 refine top_ok Tryz.func103 rfl rfl ?_
 refine sq_ok (fun (j : X6) E => j (E 0) (E 288)) ?_ ?_
 intro E M m I i
 refine sq_ok (fun (j : X6) E => j (E 0) (E 288)) ?_ ?_
 intro E M m I i
 refine sq_ok (fun (j : X7) E => j (E 0) (E 672) (E 768)) ?_ ?_
 intro E M m I i
 refine sq_ok (fun (j : X6) E => j (E 0) (E 672)) ?_ ?_
 intro E M m I i
 refine sq_ok (fun (j : X6) E => j (E 0) (E 672)) ?_ ?_
 intro E M m I i
 kernel_rfl
 intro j
 kernel_rfl
 intro j
 kernel_rfl
 intro j
 kernel_rfl
 intro j
 kernel_rfl
 intro j
 kernel_rfl
theorem e47 : FOkS Tryz.prog 243 47 g47 := fok2 fun call t0 t1 M m I i kf => by
 refine top_ok Tryz.func47 rfl rfl ?_
 refine sq_ok (fun (j : X6) E => j (E 0) (E 96)) ?_ ?_
 intro E M m I i
 refine sq_ok (fun (j : X7) E => j (E 0) (E 96) (E 576)) ?_ ?_
 intro E M m I i
 refine sq_ok (fun (j : X7) E => j (E 0) (E 96) (E 576)) ?_ ?_
 intro E M m I i
 kernel_rfl
 intro j
 refine sq_ok (fun (j : X10) E => j (E 0) (E 96) (E 576) (E 1344) (E 1440) (E 1536)) ?_ ?_
 intro E M m I i
 refine bl_ok ?_
 refine lo_ok (fun (j : X10) E => j (E 0) (E 96) (E 576) (E 1344) (E 1440) (E 1536)) (fun _ _ _ _ _ => rfl) ?_
 intro n j E M m I i
 kernel_rfl
 intro j
 kernel_rfl
 intro j
 kernel_rfl
 intro j
 kernel_rfl
theorem e94 : FOkS Tryz.prog 243 94 g94 := fok1 fun call t0 M m I i kf => by
 refine top_ok Tryz.func94 rfl rfl ?_
 refine sq_ok (fun (j : X5) E => j (E 0)) ?_ ?_
 intro E M m I i
 refine sq_ok (fun (j : X6) E => j (E 0) (E 288)) ?_ ?_
 intro E M m I i
 refine sq_ok (fun (j : X5) E => j (E 288)) ?_ ?_
 intro E M m I i
 kernel_rfl
 intro j
 refine sq_ok (fun (j : X8) E => j (E 288) (E 864) (E 960) (E 1056)) ?_ ?_
 intro E M m I i
 refine bl_ok ?_
 refine lo_ok (fun (j : X8) E => j (E 288) (E 864) (E 960) (E 1056)) (fun _ _ _ _ _ => rfl) ?_
 intro n j E M m I i
 kernel_rfl
 intro j
 kernel_rfl
 intro j
 kernel_rfl
 intro j
 kernel_rfl
theorem e57 : FOkS Tryz.prog 243 57 g57 := fok2 fun call t0 t1 M m I i kf => by
 refine top_ok Tryz.func57 rfl rfl ?_
 kernel_rfl
theorem e106 : FOkS Tryz.prog 243 106 g106 := fok1 fun call t0 M m I i kf => by
 refine top_ok Tryz.func106 rfl rfl ?_
 kernel_rfl
theorem e53 : FOkS Tryz.prog 243 53 g53 := fok2 fun call t0 t1 M m I i kf => by
 refine top_ok Tryz.func53 rfl rfl ?_
 refine sq_ok (fun (j : X6) E => j (E 0) (E 96)) ?_ ?_
 intro E M m I i
 refine sq_ok (fun (j : X7) E => j (E 576) (E 672) (E 768)) ?_ ?_
 intro E M m I i
 refine sq_ok (fun (j : X6) E => j (E 576) (E 672)) ?_ ?_
 intro E M m I i
 refine sq_ok (fun (j : X5) E => j (E 672)) ?_ ?_
 intro E M m I i
 refine sq_ok (fun (j : X6) E => j (E 672) (E 1056)) ?_ ?_
 intro E M m I i
 refine sq_ok (fun (j : X5) E => j (E 1056)) ?_ ?_
 intro E M m I i
 kernel_rfl
 intro j
 refine sq_ok (fun (j : X8) E => j (E 1056) (E 4704) (E 4800) (E 4896)) ?_ ?_
 intro E M m I i
 refine bl_ok ?_
 refine lo_ok (fun (j : X8) E => j (E 1056) (E 4704) (E 4800) (E 4896)) (fun _ _ _ _ _ => rfl) ?_
 intro n j E M m I i
 kernel_rfl
 intro j
 kernel_rfl
 intro j
 kernel_rfl
 intro j
 kernel_rfl
 intro j
 kernel_rfl
 intro j
 kernel_rfl
 intro j
 kernel_rfl
theorem e44 : FOkS Tryz.prog 243 44 g44 := fok1 fun call t0 M m I i kf => by
 refine top_ok Tryz.func44 rfl rfl ?_
 kernel_rfl
theorem e82 : FOkS Tryz.prog 243 82 g82 := fok3 fun call t0 t1 t2 M m I i kf => by
 refine top_ok Tryz.func82 rfl rfl ?_
 kernel_rfl
theorem e166 : FOkS Tryz.prog 243 166 g166 := fok2 fun call t0 t1 M m I i kf => by
 refine top_ok Tryz.func166 rfl rfl ?_
 kernel_rfl
end Go.Proofs.YtpjhkpmmbeoghaaGreatDoor.Ev
set_option maxRecDepth 100000
set_option linter.unusedVariables false
namespace Go.Proofs.YtpjhkpmmbeoghaaGreatDoor.Ev
open Go
open Go.Proofs
theorem e192 : FOkS Tryz.prog 243 192 g192 := fok2 fun call t0 t1 M m I i kf => by
 refine top_ok Tryz.func192 rfl rfl ?_
 kernel_rfl
theorem e128 : FOkS Tryz.prog 243 128 g128 := fok1 fun call t0 M m I i kf => by
 refine top_ok Tryz.func128 rfl rfl ?_
 kernel_rfl
theorem e173 : FOkS Tryz.prog 243 173 g173 := fok1 fun call t0 M m I i kf => by
 refine top_ok Tryz.func173 rfl rfl ?_
 refine sq_ok (fun (j : X5) E => j (E 0)) ?_ ?_
 intro E M m I i
 refine sq_ok (fun (j : X6) E => j (E 0) (E 288)) ?_ ?_
 intro E M m I i
 refine sq_ok (fun (j : X5) E => j (E 288)) ?_ ?_
 intro E M m I i
 kernel_rfl
 intro j
 refine sq_ok (fun (j : X8) E => j (E 288) (E 1056) (E 1152) (E 1248)) ?_ ?_
 intro E M m I i
 refine bl_ok ?_
 refine lo_ok (fun (j : X8) E => j (E 288) (E 1056) (E 1152) (E 1248)) (fun _ _ _ _ _ => rfl) ?_
 intro n j E M m I i
 kernel_rfl
 intro j
 kernel_rfl
 intro j
 kernel_rfl
 intro j
 kernel_rfl
theorem e220 : FOkS Tryz.prog 243 220 g220 := fok2 fun call t0 t1 M m I i kf => by
 refine top_ok Tryz.func220 rfl rfl ?_
 refine sq_ok (fun (j : X6) E => j (E 96) (E 192)) ?_ ?_
 intro E M m I i
 refine sq_ok (fun (j : X7) E => j (E 96) (E 192) (E 480)) ?_ ?_
 intro E M m I i
 refine sq_ok (fun (j : X7) E => j (E 96) (E 192) (E 480)) ?_ ?_
 intro E M m I i
 refine sq_ok (fun (j : X7) E => j (E 96) (E 192) (E 480)) ?_ ?_
 intro E M m I i
 refine sq_ok (fun (j : X8) E => j (E 96) (E 192) (E 480) (E 576)) ?_ ?_
 intro E M m I i
 refine sq_ok (fun (j : X6) E => j (E 192) (E 576)) ?_ ?_
 intro E M m I i
 refine sq_ok (fun (j : X6) E => j (E 192) (E 576)) ?_ ?_
 intro E M m I i
 refine sq_ok (fun (j : X6) E => j (E 192) (E 576)) ?_ ?_
 intro E M m I i
 refine sq_ok (fun (j : X7) E => j (E 192) (E 576) (E 1728)) ?_ ?_
 intro E M m I i
 refine sq_ok (fun (j : X6) E => j (E 192) (E 576)) ?_ ?_
 intro E M m I i
 refine sq_ok (fun (j : X6) E => j (E 192) (E 576)) ?_ ?_
 intro E M m I i
 refine sq_ok (fun (j : X8) E => j (E 192) (E 576) (E 2208) (E 2304)) ?_ ?_
 intro E M m I i
 refine sq_ok (fun (j : X6) E => j (E 576) (E 2304)) ?_ ?_
 intro E M m I i
 kernel_rfl
 intro j
 kernel_rfl
 intro j
 kernel_rfl
 intro j
 refine sq_ok (fun (j : X9) E => j (E 192) (E 576) (E 18720) (E 18816) (E 18912)) ?_ ?_
 intro E M m I i
 refine bl_ok ?_
 refine lo_ok (fun (j : X9) E => j (E 192) (E 576) (E 18720) (E 18816) (E 18912)) (fun _ _ _ _ _ => rfl) ?_
 intro n j E M m I i
 refine sq_ok (fun (j : X10) E => j (E 192) (E 576) (E 18720) (E 18816) (E 18912) (E 19008)) ?_ ?_
 intro E M m I i
 refine sq_ok (fun (j : X9) E => j (E 192) (E 576) (E 18720) (E 18816) (E 18912)) ?_ ?_
 intro E M m I i
 refine sq_ok (fun (j : X9) E => j (E 192) (E 576) (E 18720) (E 18816) (E 18912)) ?_ ?_
 intro E M m I i
 kernel_rfl
 intro j
 refine bl_ok ?_
 refine sq_ok (fun (j : X10) E => j (E 192) (E 576) (E 1920) (E 18720) (E 18816) (E 18912)) ?_ ?_
 intro E M m I i
 refine sq_ok (fun (j : X11) E => j (E 192) (E 576) (E 2016) (E 2112) (E 18720) (E 18816) (E 18912)) ?_ ?_
 intro E M m I i
 kernel_rfl
 intro j
 kernel_rfl
 intro j
 kernel_rfl
 intro j
 kernel_rfl
 intro j
 kernel_rfl
 intro j
 kernel_rfl
 intro j
 kernel_rfl
 intro j
 kernel_rfl
 intro j
 refine sq_ok (fun (j : X9) E => j (E 192) (E 576) (E 12768) (E 12864) (E 12960)) ?_ ?_
 intro E M m I i
 refine bl_ok ?_
 refine lo_ok (fun (j : X9) E => j (E 192) (E 576) (E 12768) (E 12864) (E 12960)) (fun _ _ _ _ _ => rfl) ?_
 intro n j E M m I i
 kernel_rfl
 intro j
 kernel_rfl
 intro j
 refine sq_ok (fun (j : X9) E => j (E 192) (E 576) (E 6048) (E 6144) (E 6240)) ?_ ?_
 intro E M m I i
 refine bl_ok ?_
 refine lo_ok (fun (j : X9) E => j (E 192) (E 576) (E 6048) (E 6144) (E 6240)) (fun _ _ _ _ _ => rfl) ?_
 intro n j E M m I i
 refine sq_ok (fun (j : X10) E => j (E 192) (E 576) (E 6048) (E 6144) (E 6240) (E 6336)) ?_ ?_
 intro E M m I i
 refine sq_ok (fun (j : X9) E => j (E 192) (E 576) (E 6048) (E 6144) (E 6240)) ?_ ?_
 intro E M m I i
 refine sq_ok (fun (j : X9) E => j (E 192) (E 576) (E 6048) (E 6144) (E 6240)) ?_ ?_
 intro E M m I i
 kernel_rfl
 intro j
 refine bl_ok ?_
 refine sq_ok (fun (j : X11) E => j (E 192) (E 576) (E 1056) (E 1152) (E 6048) (E 6144) (E 6240)) ?_ ?_
 intro E M m I i
 refine sq_ok (fun (j : X11) E => j (E 192) (E 576) (E 1152) (E 1248) (E 6048) (E 6144) (E 6240)) ?_ ?_
 intro E M m I i
 refine sq_ok (fun (j : X10) E => j (E 192) (E 576) (E 1248) (E 6048) (E 6144) (E 6240)) ?_ ?_
 intro E M m I i
 kernel_rfl
 intro j
 refine sq_ok (fun (j : X13) E => j (E 192) (E 576) (E 1248) (E 6048) (E 6144) (E 6240) (E 7008) (E 7104) (E 7200)) ?_ ?_
 intro E M m I i
 refine bl_ok ?_
 refine lo_ok (fun (j : X13) E => j (E 192) (E 576) (E 1248) (E 6048) (E 6144) (E 6240) (E 7008) (E 7104) (E 7200)) (fun _ _ _ _ _ => rfl) ?_
 intro n j E M m I i
 kernel_rfl
 intro j
 kernel_rfl
 intro j
 kernel_rfl
 intro j
 kernel_rfl
 intro j
 kernel_rfl
 intro j
 kernel_rfl
 intro j
 kernel_rfl
 intro j
 refine sq_ok (fun (j : X10) E => j (E 192) (E 480) (E 576) (E 3744) (E 3840) (E 3936)) ?_ ?_
 intro E M m I i
 refine bl_ok ?_
 refine lo_ok (fun (j : X10) E => j (E 192) (E 480) (E 576) (E 3744) (E 3840) (E 3936)) (fun _ _ _ _ _ => rfl) ?_
 intro n j E M m I i
 kernel_rfl
 intro j
 kernel_rfl
 intro j
 kernel_rfl
 intro j
 kernel_rfl
 intro j
 kernel_rfl
 intro j
 kernel_rfl
 intro j
 kernel_rfl
theorem e342 : FOkS Tryz.prog 243 342 g342 := fok1 fun call t0 M m I i kf => by
 refine top_ok Tryz.func342 rfl rfl ?_
 refine sq_ok (fun (j : X5) E => j (E 0)) ?_ ?_
 intro E M m I i
 refine sq_ok (fun (j : X6) E => j (E 0) (E 288)) ?_ ?_
 intro E M m I i
 refine sq_ok (fun (j : X5) E => j (E 288)) ?_ ?_
 intro E M m I i
 kernel_rfl
 intro j
 refine sq_ok (fun (j : X8) E => j (E 288) (E 576) (E 672) (E 768)) ?_ ?_
 intro E M m I i
 refine bl_ok ?_
 refine lo_ok (fun (j : X8) E => j (E 288) (E 576) (E 672) (E 768)) (fun _ _ _ _ _ => rfl) ?_
 intro n j E M m I i
 kernel_rfl
 intro j
 kernel_rfl
 intro j
 kernel_rfl
 intro j
 kernel_rfl
theorem e98 : FOkS Tryz.prog 243 98 g98 := fok1 fun call t0 M m I i kf => by
 refine top_ok Tryz.func98 rfl rfl ?_
 refine sq_ok (fun (j : X5) E => j (E 96)) ?_ ?_
 intro E M m I i
 refine sq_ok (fun (j : X8) E => j (E 96) (E 384) (E 480) (E 576)) ?_ ?_
 intro E M m I i
 refine sq_ok (fun (j : X7) E => j (E 96) (E 384) (E 480)) ?_ ?_
 intro E M m I i
 refine sq_ok (fun (j : X8) E => j (E 96) (E 384) (E 480) (E 672)) ?_ ?_
 intro E M m I i
 refine sq_ok (fun (j : X7) E => j (E 96) (E 384) (E 672)) ?_ ?_
 intro E M m I i
 refine sq_ok (fun (j : X7) E => j (E 96) (E 672) (E 1056)) ?_ ?_
 intro E M m I i
 refine sq_ok (fun (j : X8) E => j (E 96) (E 672) (E 1056) (E 1152)) ?_ ?_
 intro E M m I i
 refine sq_ok (fun (j : X9) E => j (E 96) (E 672) (E 1056) (E 1152) (E 1248)) ?_ ?_
 intro E M m I i
 refine sq_ok (fun (j : X6) E => j (E 1152) (E 1248)) ?_ ?_
 intro E M m I i
 refine sq_ok (fun (j : X7) E => j (E 1152) (E 1248) (E 1632)) ?_ ?_
 intro E M m I i
 refine sq_ok (fun (j : X5) E => j (E 1632)) ?_ ?_
 intro E M m I i
 kernel_rfl
 intro j
 refine sq_ok (fun (j : X9) E => j (E 1152) (E 1632) (E 10272) (E 10368) (E 10464)) ?_ ?_
 intro E M m I i
 refine bl_ok ?_
 refine lo_ok (fun (j : X9) E => j (E 1152) (E 1632) (E 10272) (E 10368) (E 10464)) (fun _ _ _ _ _ => rfl) ?_
 intro n j E M m I i
 kernel_rfl
 intro j
 kernel_rfl
 intro j
 kernel_rfl
 intro j
 refine sq_ok (fun (j : X11) E => j (E 672) (E 1056) (E 1152) (E 1248) (E 7104) (E 7200) (E 7296)) ?_ ?_
 intro E M m I i
 refine bl_ok ?_
 refine lo_ok (fun (j : X11) E => j (E 672) (E 1056) (E 1152) (E 1248) (E 7104) (E 7200) (E 7296)) (fun _ _ _ _ _ => rfl) ?_
 intro n j E M m I i
 refine sq_ok (fun (j : X12) E => j (E 672) (E 1056) (E 1152) (E 1248) (E 7104) (E 7200) (E 7296) (E 7392)) ?_ ?_
 intro E M m I i
 refine sq_ok (fun (j : X11) E => j (E 672) (E 1056) (E 1152) (E 1248) (E 7104) (E 7200) (E 7296)) ?_ ?_
 intro E M m I i
 refine sq_ok (fun (j : X11) E => j (E 672) (E 1056) (E 1152) (E 1248) (E 7104) (E 7200) (E 7296)) ?_ ?_
 intro E M m I i
 kernel_rfl
 intro j
 refine bl_ok ?_
 refine sq_ok (fun (j : X12) E => j (E 672) (E 1056) (E 1152) (E 1248) (E 1440) (E 7104) (E 7200) (E 7296)) ?_ ?_
 intro E M m I i
 refine sq_ok (fun (j : X13) E => j (E 672) (E 1056) (E 1152) (E 1248) (E 1440) (E 1536) (E 7104) (E 7200) (E 7296)) ?_ ?_
 intro E M m I i
 refine sq_ok (fun (j : X13) E => j (E 672) (E 1056) (E 1152) (E 1248) (E 1440) (E 1536) (E 7104) (E 7200) (E 7296)) ?_ ?_
 intro E M m I i
 kernel_rfl
 intro j
 kernel_rfl
 intro j
 kernel_rfl
 intro j
 kernel_rfl
 intro j
 kernel_rfl
 intro j
 kernel_rfl
 intro j
 kernel_rfl
 intro j
 kernel_rfl
 intro j
 kernel_rfl
 intro j
 kernel_rfl
 intro j
 refine sq_ok (fun (j : X10) E => j (E 96) (E 384) (E 672) (E 3072) (E 3168) (E 3264)) ?_ ?_
 intro E M m I i
 refine bl_ok ?_
 refine lo_ok (fun (j : X10) E => j (E 96) (E 384) (E 672) (E 3072) (E 3168) (E 3264)) (fun _ _ _ _ _ => rfl) ?_
 intro n j E M m I i
 kernel_rfl
 intro j
 kernel_rfl
 intro j
 kernel_rfl
 intro j
 kernel_rfl
 intro j
 kernel_rfl
 intro j
 kernel_rfl
theorem e256 : FOkS Tryz.prog 243 256 g256 := fok1 fun call t0 M m I i kf => by
 refine top_ok Tryz.func256 rfl rfl ?_
 refine sq_ok (fun (j : X5) E => j (E 0)) ?_ ?_
 intro E M m I i
 refine sq_ok (fun (j : X6) E => j (E 0) (E 192)) ?_ ?_
 intro E M m I i
 refine sq_ok (fun (j : X7) E => j (E 0) (E 192) (E 288)) ?_ ?_
 intro E M m I i
 refine bl_ok ?_
 refine lo_ok (fun (j : X7) E => j (E 0) (E 192) (E 288)) (fun _ _ _ _ _ => rfl) ?_
 intro n j E M m I i
 refine sq_ok (fun (j : X7) E => j (E 0) (E 192) (E 288)) ?_ ?_
 intro E M m I i
 refine sq_ok (fun (j : X7) E => j (E 0) (E 192) (E 288)) ?_ ?_
 intro E M m I i
 kernel_rfl
 intro j
 refine bl_ok ?_
 refine sq_ok (fun (j : X8) E => j (E 0) (E 192) (E 288) (E 384)) ?_ ?_
 intro E M m I i
 refine sq_ok (fun (j : X11) E => j (E 0) (E 192) (E 288) (E 384) (E 3552) (E 3648) (E 3744)) ?_ ?_
 intro E M m I i
 refine bl_ok ?_
 refine lo_ok (fun (j : X11) E => j (E 0) (E 192) (E 288) (E 384) (E 3552) (E 3648) (E 3744)) (fun _ _ _ _ _ => rfl) ?_
 intro n j E M m I i
 kernel_rfl
 intro j
 kernel_rfl
 intro j
 kernel_rfl
 intro j
 kernel_rfl
 intro j
 kernel_rfl
 intro j
 kernel_rfl
 intro j
 kernel_rfl
theorem e194 : FOkS Tryz.prog 243 194 g194 := fok1 fun call t0 M m I i kf => by
 refine top_ok Tryz.func194 rfl rfl ?_
 kernel_rfl
theorem e72 : FOkS Tryz.prog 243 72 g72 := fok1 fun call t0 M m I i kf => by
 refine top_ok Tryz.func72 rfl rfl ?_
 kernel_rfl
theorem e118 : FOkS Tryz.prog 243 118 g118 := fok4 fun call t0 t1 t2 t3 M m I i kf => by
 refine top_ok Tryz.func118 rfl rfl ?_
 refine sq_ok (fun (j : X9) E => j (E 0) (E 96) (E 192) (E 288) (E 768)) ?_ ?_
 intro E M m I i
 refine bl_ok ?_
 refine lo_ok (fun (j : X9) E => j (E 0) (E 96) (E 192) (E 288) (E 768)) (fun _ _ _ _ _ => rfl) ?_
 intro n j E M m I i
 refine sq_ok (fun (j : X9) E => j (E 0) (E 96) (E 192) (E 288) (E 768)) ?_ ?_
 intro E M m I i
 refine sq_ok (fun (j : X9) E => j (E 0) (E 96) (E 192) (E 288) (E 768)) ?_ ?_
 intro E M m I i
 kernel_rfl
 intro j
 refine bl_ok ?_
 refine sq_ok (fun (j : X10) E => j (E 0) (E 96) (E 192) (E 288) (E 768) (E 864)) ?_ ?_
 intro E M m I i
 refine bl_ok ?_
 refine lo_ok (fun (j : X10) E => j (E 0) (E 96) (E 192) (E 288) (E 768) (E 864)) (fun _ _ _ _ _ => rfl) ?_
 intro n j E M m I i
 kernel_rfl
 intro j
 kernel_rfl
 intro j
 kernel_rfl
 intro j
 kernel_rfl
theorem e84 : FOkS Tryz.prog 243 84 g84 := fok2 fun call t0 t1 M m I i kf => by
 refine top_ok Tryz.func84 rfl rfl ?_
 refine sq_ok (fun (j : X6) E => j (E 0) (E 96)) ?_ ?_
 intro E M m I i
 refine sq_ok (fun (j : X6) E => j (E 0) (E 96)) ?_ ?_
 intro E M m I i
 refine sq_ok (fun (j : X4) _ => j) ?_ ?_
 intro E M m I i
 kernel_rfl
 intro j
 refine sq_ok (fun (j : X8) E => j (E 0) (E 96) (E 1152) (E 1248)) ?_ ?_
 intro E M m I i
 refine bl_ok ?_
 refine lo_ok (fun (j : X8) E => j (E 0) (E 96) (E 1152) (E 1248)) (fun _ _ _ _ _ => rfl) ?_
 intro n j E M m I i
 kernel_rfl
 intro j
 kernel_rfl
 intro j
 kernel_rfl
 intro j
 kernel_rfl
theorem e136 : FOkS Tryz.prog 243 136 g136 := fok1 fun call t0 M m I i kf => by
 refine top_ok Tryz.func136 rfl rfl ?_
 refine sq_ok (fun (j : X5) E => j (E 0)) ?_ ?_
 intro E M m I i
 refine sq_ok (fun (j : X5) E => j (E 0)) ?_ ?_
 intro E M m I i
 refine sq_ok (fun (j : X6) E => j (E 0) (E 288)) ?_ ?_
 intro E M m I i
 refine sq_ok (fun (j : X4) _ => j) ?_ ?_
 intro E M m I i
 kernel_rfl
 intro j
 refine sq_ok (fun (j : X9) E => j (E 0) (E 288) (E 1152) (E 1248) (E 1344)) ?_ ?_
 intro E M m I i
 refine bl_ok ?_
 refine lo_ok (fun (j : X9) E => j (E 0) (E 288) (E 1152) (E 1248) (E 1344)) (fun _ _ _ _ _ => rfl) ?_
 intro n j E M m I i
 kernel_rfl
 intro j
 kernel_rfl
 intro j
 kernel_rfl
 intro j
 kernel_rfl
 intro j
 kernel_rfl
theorem e286 : FOkS Tryz.prog 243 286 g286 := fok2 fun call t0 t1 M m I i kf => by
 refine top_ok Tryz.func286 rfl rfl ?_
 refine sq_ok (fun (j : X6) E => j (E 96) (E 192)) ?_ ?_
 intro E M m I i
 refine sq_ok (fun (j : X6) E => j (E 96) (E 192)) ?_ ?_
 intro E M m I i
 refine sq_ok (fun (j : X6) E => j (E 96) (E 192)) ?_ ?_
 intro E M m I i
 refine sq_ok (fun (j : X7) E => j (E 96) (E 192) (E 672)) ?_ ?_
 intro E M m I i
 refine sq_ok (fun (j : X7) E => j (E 96) (E 192) (E 672)) ?_ ?_
 intro E M m I i
 kernel_rfl
 intro j
 refine sq_ok (fun (j : X9) E => j (E 96) (E 192) (E 672) (E 2496) (E 2592)) ?_ ?_
 intro E M m I i
 refine bl_ok ?_
 refine lo_ok (fun (j : X9) E => j (E 96) (E 192) (E 672) (E 2496) (E 2592)) (fun _ _ _ _ _ => rfl) ?_
 intro n j E M m I i
 kernel_rfl
 intro j
 kernel_rfl
 intro j
 kernel_rfl
 intro j
 kernel_rfl
 intro j
 kernel_rfl
 intro j
 kernel_rfl
theorem e38 : FOkS Tryz.prog 243 38 g38 := fok1 fun call t0 M m I i kf => by
 refine top_ok Tryz.func38 rfl rfl ?_
 refine sq_ok (fun (j : X6) E => j (E 96) (E 192)) ?_ ?_
 intro E M m I i
 refine sq_ok (fun (j : X6) E => j (E 96) (E 192)) ?_ ?_
 intro E M m I i
 refine sq_ok (fun (j : X8) E => j (E 96) (E 192) (E 384) (E 480)) ?_ ?_
 intro E M m I i
 refine sq_ok (fun (j : X7) E => j (E 96) (E 192) (E 384)) ?_ ?_
 intro E M m I i
 refine sq_ok (fun (j : X8) E => j (E 96) (E 192) (E 384) (E 576)) ?_ ?_
 intro E M m I i
 refine sq_ok (fun (j : X7) E => j (E 96) (E 192) (E 576)) ?_ ?_
 intro E M m I i
 kernel_rfl
 intro j
 refine sq_ok (fun (j : X10) E => j (E 96) (E 192) (E 576) (E 2976) (E 3072) (E 3168)) ?_ ?_
 intro E M m I i
 refine bl_ok ?_
 refine lo_ok (fun (j : X10) E => j (E 96) (E 192) (E 576) (E 2976) (E 3072) (E 3168)) (fun _ _ _ _ _ => rfl) ?_
 intro n j E M m I i
 kernel_rfl
 intro j
 kernel_rfl
 intro j
 kernel_rfl
 intro j
 kernel_rfl
 intro j
 kernel_rfl
 intro j
 kernel_rfl
 intro j
 kernel_rfl
theorem e35 : FOkS Tryz.prog 243 35 g35 := fok2 fun call t0 t1 M m I i kf => by
 refine top_ok Tryz.func35 rfl rfl ?_
 kernel_rfl
theorem e257 : FOkS Tryz.prog 243 257 g257 := fok1 fun call t0 M m I i kf => by
 refine top_ok Tryz.func257 rfl rfl ?_
 refine sq_ok (fun (j : X5) E => j (E 0)) ?_ ?_
 intro E M m I i
 refine sq_ok (fun (j : X5) E => j (E 0)) ?_ ?_
 intro E M m I i
 refine sq_ok (fun (j : X6) E => j (E 0) (E 288)) ?_ ?_
 intro E M m I i
 refine sq_ok (fun (j : X5) E => j (E 288)) ?_ ?_
 intro E M m I i
 kernel_rfl
 intro j
 refine sq_ok (fun (j : X7) E => j (E 0) (E 288) (E 384)) ?_ ?_
 intro E M m I i
 refine bl_ok ?_
 refine lo_ok (fun (j : X7) E => j (E 0) (E 288) (E 384)) (fun _ _ _ _ _ => rfl) ?_
 intro n j E M m I i
 kernel_rfl
 intro j
 kernel_rfl
 intro j
 kernel_rfl
 intro j
 kernel_rfl
 intro j
 kernel_rfl
theorem e307 : FOkS Tryz.prog 243 307 g307 := fok3 fun call t0 t1 t2 M m I i kf => by
 refine top_ok Tryz.func307 rfl rfl ?_
 refine sq_ok (fun (j : X7) E => j (E 96) (E 192) (E 288)) ?_ ?_
 intro E M m I i
 refine sq_ok (fun (j : X8) E => j (E 96) (E 192) (E 288) (E 672)) ?_ ?_
 intro E M m I i
 refine sq_ok (fun (j : X5) E => j (E 672)) ?_ ?_
 intro E M m I i
 kernel_rfl
 intro j
 refine sq_ok (fun (j : X9) E => j (E 96) (E 288) (E 672) (E 864) (E 960)) ?_ ?_
 intro E M m I i
 refine bl_ok ?_
 refine lo_ok (fun (j : X9) E => j (E 96) (E 288) (E 672) (E 864) (E 960)) (fun _ _ _ _ _ => rfl) ?_
 intro n j E M m I i
 kernel_rfl
 intro j
 kernel_rfl
 intro j
 kernel_rfl
 intro j
 kernel_rfl
theorem e80 : FOkS Tryz.prog 243 80 g80 := fok3 fun call t0 t1 t2 M m I i kf => by
 refine top_ok Tryz.func80 rfl rfl ?_
 refine sq_ok (fun (j : X7) E => j (E 0) (E 96) (E 192)) ?_ ?_
 intro E M m I i
 refine sq_ok (fun (j : X7) E => j (E 96) (E 192) (E 672)) ?_ ?_
 intro E M m I i
 refine sq_ok (fun (j : X7) E => j (E 96) (E 192) (E 672)) ?_ ?_
 intro E M m I i
 kernel_rfl
 intro j
 refine sq_ok (fun (j : X9) E => j (E 96) (E 192) (E 672) (E 1056) (E 1152)) ?_ ?_
 intro E M m I i
 refine bl_ok ?_
 refine lo_ok (fun (j : X9) E => j (E 96) (E 192) (E 672) (E 1056) (E 1152)) (fun _ _ _ _ _ => rfl) ?_
 intro n j E M m I i
 kernel_rfl
 intro j
 kernel_rfl
 intro j
 kernel_rfl
 intro j
 kernel_rfl
theorem e174 : FOkS Tryz.prog 243 174 g174 := fok2 fun call t0 t1 M m I i kf => by
 refine top_ok Tryz.func174 rfl rfl ?_
 kernel_rfl
theorem e416 : FOkS Tryz.prog 243 416 g416 := fok2 fun call t0 t1 M m I i kf => by
 refine top_ok Tryz.func416 rfl rfl ?_
 kernel_rfl
theorem e289 : FOkS Tryz.prog 243 289 g289 := fok2 fun call t0 t1 M m I i kf => by
 refine top_ok Tryz.func289 rfl rfl ?_
 refine sq_ok (fun (j : X6) E => j (E 0) (E 96)) ?_ ?_
 intro E M m I i
 refine sq_ok (fun (j : X4) _ => j) ?_ ?_
 intro E M m I i
 kernel_rfl
 intro j
 refine sq_ok (fun (j : X8) E => j (E 0) (E 96) (E 672) (E 768)) ?_ ?_
 intro E M m I i
 refine bl_ok ?_
 refine lo_ok (fun (j : X8) E => j (E 0) (E 96) (E 672) (E 768)) (fun _ _ _ _ _ => rfl) ?_
 intro n j E M m I i
 kernel_rfl
 intro j
 kernel_rfl
 intro j
 kernel_rfl
theorem e110 : FOkS Tryz.prog 243 110 g110 := fok2 fun call t0 t1 M m I i kf => by
 refine top_ok Tryz.func110 rfl rfl ?_
 kernel_rfl
theorem e129 : FOkS Tryz.prog 243 129 g129 := fok2 fun call t0 t1 M m I i kf => by
 refine top_ok Tryz.func129 rfl rfl ?_
 kernel_rfl
theorem e252 : FOkS Tryz.prog 243 252 g252 := fok1 fun call t0 M m I i kf => by
 refine top_ok Tryz.func252 rfl rfl ?_
 refine sq_ok (fun (j : X6) E => j (E 0) (E 192)) ?_ ?_
 intro E M m I i
 refine sq_ok (fun (j : X6) E => j (E 0) (E 192)) ?_ ?_
 intro E M m I i
 refine sq_ok (fun (j : X6) E => j (E 0) (E 192)) ?_ ?_
 intro E M m I i
 refine sq_ok (fun (j : X7) E => j (E 0) (E 192) (E 384)) ?_ ?_
 intro E M m I i
 refine sq_ok (fun (j : X7) E => j (E 0) (E 192) (E 384)) ?_ ?_
 intro E M m I i
 refine sq_ok (fun (j : X8) E => j (E 0) (E 192) (E 384) (E 480)) ?_ ?_
 intro E M m I i
 refine sq_ok (fun (j : X7) E => j (E 192) (E 384) (E 480)) ?_ ?_
 intro E M m I i
 refine sq_ok (fun (j : X6) E => j (E 192) (E 480)) ?_ ?_
 intro E M m I i
 kernel_rfl
 intro j
 kernel_rfl
 intro j
 kernel_rfl
 intro j
 kernel_rfl
 intro j
 kernel_rfl
 intro j
 kernel_rfl
 intro j
 kernel_rfl
 intro j
 kernel_rfl
 intro j
 kernel_rfl
theorem e262 : FOkS Tryz.prog 243 262 g262 := fok3 fun call t0 t1 t2 M m I i kf => by
 refine top_ok Tryz.func262 rfl rfl ?_
 kernel_rfl
theorem e290 : FOkS Tryz.prog 243 290 g290 := fok1 fun call t0 M m I i kf => by
 refine top_ok Tryz.func290 rfl rfl ?_
 kernel_rfl
theorem e132 : FOkS Tryz.prog 243 132 g132 := fok2 fun call t0 t1 M m I i kf => by
 refine top_ok Tryz.func132 rfl rfl ?_
 kernel_rfl
theorem e105 : FOkS Tryz.prog 243 105 g105 := fok2 fun call t0 t1 M m I i kf => by
 refine top_ok Tryz.func105 rfl rfl ?_
 refine sq_ok (fun (j : X7) E => j (E 0) (E 96) (E 384)) ?_ ?_
 intro E M m I i
 refine sq_ok (fun (j : X7) E => j (E 0) (E 96) (E 384)) ?_ ?_
 intro E M m I i
 kernel_rfl
 intro j
 kernel_rfl
 intro j
 kernel_rfl
theorem e81 : FOkS Tryz.prog 243 81 g81 := fok2 fun call t0 t1 M m I i kf => by
 refine top_ok Tryz.func81 rfl rfl ?_
 kernel_rfl
theorem e60 : FOkS Tryz.prog 243 60 g60 := fok2 fun call t0 t1 M m I i kf => by
 refine top_ok Tryz.func60 rfl rfl ?_
 kernel_rfl
theorem e211 : FOkS Tryz.prog 243 211 g211 := fok2 fun call t0 t1 M m I i kf => by
 refine top_ok Tryz.func211 rfl rfl ?_
 kernel_rfl
theorem e210 : FOkS Tryz.prog 243 210 g210 := fok2 fun call t0 t1 M m I i kf => by
 refine top_ok Tryz.func210 rfl rfl ?_
 kernel_rfl
end Go.Proofs.YtpjhkpmmbeoghaaGreatDoor.Ev
set_option maxRecDepth 100000
set_option linter.unusedVariables false
namespace Go.Proofs.YtpjhkpmmbeoghaaGreatDoor.Ev
open Go
open Go.Proofs
theorem e37 : FOkS Tryz.prog 243 37 g37 := fok1 fun call t0 M m I i kf => by
 refine top_ok Tryz.func37 rfl rfl ?_
 refine sq_ok (fun (j : X5) E => j (E 96)) ?_ ?_
 intro E M m I i
 refine sq_ok (fun (j : X5) E => j (E 96)) ?_ ?_
 intro E M m I i
 refine sq_ok (fun (j : X4) _ => j) ?_ ?_
 intro E M m I i
 kernel_rfl
 intro j
 refine sq_ok (fun (j : X8) E => j (E 96) (E 1920) (E 2016) (E 2112)) ?_ ?_
 intro E M m I i
 refine bl_ok ?_
 refine lo_ok (fun (j : X8) E => j (E 96) (E 1920) (E 2016) (E 2112)) (fun _ _ _ _ _ => rfl) ?_
 intro n j E M m I i
 kernel_rfl
 intro j
 kernel_rfl
 intro j
 kernel_rfl
 intro j
 kernel_rfl
theorem e226 : FOkS Tryz.prog 243 226 g226 := fok3 fun call t0 t1 t2 M m I i kf => by
 refine top_ok Tryz.func226 rfl rfl ?_
 refine sq_ok (fun (j : X8) E => j (E 0) (E 96) (E 192) (E 576)) ?_ ?_
 intro E M m I i
 refine bl_ok ?_
 refine lo_ok (fun (j : X8) E => j (E 0) (E 96) (E 192) (E 576)) (fun _ _ _ _ _ => rfl) ?_
 intro n j E M m I i
 refine sq_ok (fun (j : X8) E => j (E 0) (E 96) (E 192) (E 576)) ?_ ?_
 intro E M m I i
 refine sq_ok (fun (j : X8) E => j (E 0) (E 96) (E 192) (E 576)) ?_ ?_
 intro E M m I i
 kernel_rfl
 intro j
 refine bl_ok ?_
 refine sq_ok (fun (j : X9) E => j (E 0) (E 96) (E 192) (E 576) (E 672)) ?_ ?_
 intro E M m I i
 refine bl_ok ?_
 refine lo_ok (fun (j : X9) E => j (E 0) (E 96) (E 192) (E 576) (E 672)) (fun _ _ _ _ _ => rfl) ?_
 intro n j E M m I i
 kernel_rfl
 intro j
 kernel_rfl
 intro j
 kernel_rfl
 intro j
 kernel_rfl
theorem e79 : FOkS Tryz.prog 243 79 g79 := fok2 fun call t0 t1 M m I i kf => by
 refine top_ok Tryz.func79 rfl rfl ?_
 refine sq_ok (fun (j : X6) E => j (E 0) (E 96)) ?_ ?_
 intro E M m I i
 refine sq_ok (fun (j : X7) E => j (E 0) (E 96) (E 480)) ?_ ?_
 intro E M m I i
 refine sq_ok (fun (j : X7) E => j (E 0) (E 96) (E 480)) ?_ ?_
 intro E M m I i
 refine sq_ok (fun (j : X8) E => j (E 0) (E 96) (E 480) (E 576)) ?_ ?_
 intro E M m I i
 refine sq_ok (fun (j : X9) E => j (E 0) (E 96) (E 480) (E 576) (E 672)) ?_ ?_
 intro E M m I i
 refine bl_ok ?_
 refine lo_ok (fun (j : X9) E => j (E 0) (E 96) (E 480) (E 576) (E 672)) (fun _ _ _ _ _ => rfl) ?_
 intro n j E M m I i
 refine bl_ok ?_
 refine sq_ok (fun (j : X10) E => j (E 0) (E 96) (E 480) (E 576) (E 672) (E 768)) ?_ ?_
 intro E M m I i
 refine sq_ok (fun (j : X10) E => j (E 0) (E 96) (E 480) (E 576) (E 672) (E 768)) ?_ ?_
 intro E M m I i
 refine sq_ok (fun (j : X11) E => j (E 0) (E 96) (E 480) (E 576) (E 672) (E 768) (E 1344)) ?_ ?_
 intro E M m I i
 refine sq_ok (fun (j : X11) E => j (E 0) (E 96) (E 480) (E 576) (E 672) (E 768) (E 1344)) ?_ ?_
 intro E M m I i
 refine sq_ok (fun (j : X11) E => j (E 0) (E 96) (E 480) (E 576) (E 672) (E 768) (E 1344)) ?_ ?_
 intro E M m I i
 refine sq_ok (fun (j : X11) E => j (E 0) (E 96) (E 480) (E 576) (E 672) (E 768) (E 1344)) ?_ ?_
 intro E M m I i
 refine sq_ok (fun (j : X10) E => j (E 0) (E 96) (E 480) (E 576) (E 672) (E 1344)) ?_ ?_
 intro E M m I i
 kernel_rfl
 intro j
 refine sq_ok (fun (j : X13) E => j (E 0) (E 96) (E 480) (E 576) (E 672) (E 1344) (E 7392) (E 7488) (E 7584)) ?_ ?_
 intro E M m I i
 refine bl_ok ?_
 refine lo_ok (fun (j : X13) E => j (E 0) (E 96) (E 480) (E 576) (E 672) (E 1344) (E 7392) (E 7488) (E 7584)) (fun _ _ _ _ _ => rfl) ?_
 intro n j E M m I i
 kernel_rfl
 intro j
 kernel_rfl
 intro j
 kernel_rfl
 intro j
 refine sq_ok (fun (j : X14) E => j (E 0) (E 96) (E 480) (E 576) (E 672) (E 768) (E 1344) (E 6240) (E 6336) (E 6432)) ?_ ?_
 intro E M m I i
 refine bl_ok ?_
 refine lo_ok (fun (j : X14) E => j (E 0) (E 96) (E 480) (E 576) (E 672) (E 768) (E 1344) (E 6240) (E 6336) (E 6432)) (fun _ _ _ _ _ => rfl) ?_
 intro n j E M m I i
 kernel_rfl
 intro j
 kernel_rfl
 intro j
 kernel_rfl
 intro j
 kernel_rfl
 intro j
 refine sq_ok (fun (j : X13) E => j (E 0) (E 96) (E 480) (E 576) (E 672) (E 768) (E 2400) (E 2496) (E 2592)) ?_ ?_
 intro E M m I i
 refine bl_ok ?_
 refine lo_ok (fun (j : X13) E => j (E 0) (E 96) (E 480) (E 576) (E 672) (E 768) (E 2400) (E 2496) (E 2592)) (fun _ _ _ _ _ => rfl) ?_
 intro n j E M m I i
 refine sq_ok (fun (j : X14) E => j (E 0) (E 96) (E 480) (E 576) (E 672) (E 768) (E 2400) (E 2496) (E 2592) (E 2688)) ?_ ?_
 intro E M m I i
 refine sq_ok (fun (j : X13) E => j (E 0) (E 96) (E 480) (E 576) (E 672) (E 768) (E 2400) (E 2496) (E 2592)) ?_ ?_
 intro E M m I i
 refine sq_ok (fun (j : X13) E => j (E 0) (E 96) (E 480) (E 576) (E 672) (E 768) (E 2400) (E 2496) (E 2592)) ?_ ?_
 intro E M m I i
 kernel_rfl
 intro j
 refine bl_ok ?_
 refine sq_ok (fun (j : X15) E => j (E 0) (E 96) (E 480) (E 576) (E 672) (E 768) (E 864) (E 960) (E 2400) (E 2496) (E 2592)) ?_ ?_
 intro E M m I i
 refine sq_ok (fun (j : X16) E => j (E 0) (E 96) (E 480) (E 576) (E 672) (E 768) (E 864) (E 960) (E 1056) (E 2400) (E 2496) (E 2592)) ?_ ?_
 intro E M m I i
 refine sq_ok (fun (j : X15) E => j (E 0) (E 96) (E 480) (E 576) (E 672) (E 768) (E 864) (E 1056) (E 2400) (E 2496) (E 2592)) ?_ ?_
 intro E M m I i
 kernel_rfl
 intro j
 refine sq_ok (fun (j : X18) E => j (E 0) (E 96) (E 480) (E 576) (E 672) (E 768) (E 864) (E 1056) (E 2400) (E 2496) (E 2592) (E 3744) (E 3840) (E 3936)) ?_ ?_
 intro E M m I i
 refine bl_ok ?_
 refine lo_ok (fun (j : X18) E => j (E 0) (E 96) (E 480) (E 576) (E 672) (E 768) (E 864) (E 1056) (E 2400) (E 2496) (E 2592) (E 3744) (E 3840) (E 3936)) (fun _ _ _ _ _ => rfl) ?_
 intro n j E M m I i
 kernel_rfl
 intro j
 kernel_rfl
 intro j
 kernel_rfl
 intro j
 kernel_rfl
 intro j
 kernel_rfl
 intro j
 kernel_rfl
 intro j
 kernel_rfl
 intro j
 kernel_rfl
 intro j
 kernel_rfl
 intro j
 kernel_rfl
 intro j
 kernel_rfl
 intro j
 kernel_rfl
 intro j
 kernel_rfl
theorem e203 : FOkS Tryz.prog 243 203 g203 := fok1 fun call t0 M m I i kf => by
 refine top_ok Tryz.func203 rfl rfl ?_
 refine sq_ok (fun (j : X5) E => j (E 0)) ?_ ?_
 intro E M m I i
 refine sq_ok (fun (j : X5) E => j (E 0)) ?_ ?_
 intro E M m I i
 refine sq_ok (fun (j : X5) E => j (E 0)) ?_ ?_
 intro E M m I i
 kernel_rfl
 intro j
 refine sq_ok (fun (j : X6) E => j (E 0) (E 288)) ?_ ?_
 intro E M m I i
 refine bl_ok ?_
 refine lo_ok (fun (j : X6) E => j (E 0) (E 288)) (fun _ _ _ _ _ => rfl) ?_
 intro n j E M m I i
 refine sq_ok (fun (j : X6) E => j (E 0) (E 288)) ?_ ?_
 intro E M m I i
 refine sq_ok (fun (j : X6) E => j (E 0) (E 288)) ?_ ?_
 intro E M m I i
 kernel_rfl
 intro j
 refine bl_ok ?_
 refine sq_ok (fun (j : X7) E => j (E 0) (E 288) (E 2400)) ?_ ?_
 intro E M m I i
 refine cn_ok rfl ?_ ?_
 refine sq_ok (fun (j : X7) E => j (E 0) (E 288) (E 384)) ?_ ?_
 intro E M m I i
 refine sq_ok (fun (j : X6) E => j (E 0) (E 288)) ?_ ?_
 intro E M m I i
 kernel_rfl
 intro j
 refine sq_ok (fun (j : X8) E => j (E 0) (E 288) (E 384) (E 480)) ?_ ?_
 intro E M m I i
 refine bl_ok ?_
 refine lo_ok (fun (j : X8) E => j (E 0) (E 288) (E 384) (E 480)) (fun _ _ _ _ _ => rfl) ?_
 intro n j E M m I i
 kernel_rfl
 intro j
 kernel_rfl
 intro j
 kernel_rfl
 kernel_rfl
 intro j
 kernel_rfl
 intro j
 kernel_rfl
 intro j
 kernel_rfl
 intro j
 kernel_rfl
 intro j
 kernel_rfl
theorem e95 : FOkS Tryz.prog 243 95 g95 := fok1 fun call t0 M m I i kf => by
 refine top_ok Tryz.func95 rfl rfl ?_
 refine sq_ok (fun (j : X5) E => j (E 96)) ?_ ?_
 intro E M m I i
 refine sq_ok (fun (j : X7) E => j (E 96) (E 288) (E 384)) ?_ ?_
 intro E M m I i
 refine sq_ok (fun (j : X6) E => j (E 96) (E 288)) ?_ ?_
 intro E M m I i
 refine sq_ok (fun (j : X7) E => j (E 96) (E 288) (E 480)) ?_ ?_
 intro E M m I i
 refine sq_ok (fun (j : X8) E => j (E 96) (E 288) (E 480) (E 576)) ?_ ?_
 intro E M m I i
 refine sq_ok (fun (j : X5) E => j (E 480)) ?_ ?_
 intro E M m I i
 kernel_rfl
 intro j
 refine sq_ok (fun (j : X9) E => j (E 288) (E 480) (E 576) (E 2304) (E 2400)) ?_ ?_
 intro E M m I i
 refine bl_ok ?_
 refine lo_ok (fun (j : X9) E => j (E 288) (E 480) (E 576) (E 2304) (E 2400)) (fun _ _ _ _ _ => rfl) ?_
 intro n j E M m I i
 refine sq_ok (fun (j : X10) E => j (E 288) (E 480) (E 576) (E 2304) (E 2400) (E 2496)) ?_ ?_
 intro E M m I i
 refine sq_ok (fun (j : X9) E => j (E 288) (E 480) (E 576) (E 2304) (E 2400)) ?_ ?_
 intro E M m I i
 refine sq_ok (fun (j : X9) E => j (E 288) (E 480) (E 576) (E 2304) (E 2400)) ?_ ?_
 intro E M m I i
 kernel_rfl
 intro j
 refine bl_ok ?_
 refine sq_ok (fun (j : X10) E => j (E 288) (E 480) (E 576) (E 672) (E 2304) (E 2400)) ?_ ?_
 intro E M m I i
 refine sq_ok (fun (j : X10) E => j (E 288) (E 480) (E 576) (E 672) (E 2304) (E 2400)) ?_ ?_
 intro E M m I i
 refine sq_ok (fun (j : X10) E => j (E 288) (E 480) (E 576) (E 768) (E 2304) (E 2400)) ?_ ?_
 intro E M m I i
 refine sq_ok (fun (j : X10) E => j (E 288) (E 480) (E 576) (E 768) (E 2304) (E 2400)) ?_ ?_
 intro E M m I i
 kernel_rfl
 intro j
 refine sq_ok (fun (j : X13) E => j (E 288) (E 480) (E 576) (E 768) (E 2304) (E 2400) (E 3648) (E 3744) (E 3840)) ?_ ?_
 intro E M m I i
 refine bl_ok ?_
 refine lo_ok (fun (j : X13) E => j (E 288) (E 480) (E 576) (E 768) (E 2304) (E 2400) (E 3648) (E 3744) (E 3840)) (fun _ _ _ _ _ => rfl) ?_
 intro n j E M m I i
 kernel_rfl
 intro j
 kernel_rfl
 intro j
 kernel_rfl
 intro j
 kernel_rfl
 intro j
 kernel_rfl
 intro j
 kernel_rfl
 intro j
 kernel_rfl
 intro j
 kernel_rfl
 intro j
 kernel_rfl
 intro j
 kernel_rfl
 intro j
 kernel_rfl
 intro j
 kernel_rfl
 intro j
 kernel_rfl
theorem e338 : FOkS Tryz.prog 243 338 g338 := fok2 fun call t0 t1 M m I i kf => by
 refine top_ok Tryz.func338 rfl rfl ?_
 refine sq_ok (fun (j : X6) E => j (E 0) (E 96)) ?_ ?_
 intro E M m I i
 refine sq_ok (fun (j : X7) E => j (E 0) (E 96) (E 576)) ?_ ?_
 intro E M m I i
 refine sq_ok (fun (j : X6) E => j (E 0) (E 576)) ?_ ?_
 intro E M m I i
 kernel_rfl
 intro j
 refine sq_ok (fun (j : X10) E => j (E 0) (E 96) (E 576) (E 2208) (E 2304) (E 2400)) ?_ ?_
 intro E M m I i
 refine bl_ok ?_
 refine lo_ok (fun (j : X10) E => j (E 0) (E 96) (E 576) (E 2208) (E 2304) (E 2400)) (fun _ _ _ _ _ => rfl) ?_
 intro n j E M m I i
 refine sq_ok (fun (j : X11) E => j (E 0) (E 96) (E 576) (E 2208) (E 2304) (E 2400) (E 2496)) ?_ ?_
 intro E M m I i
 refine sq_ok (fun (j : X10) E => j (E 0) (E 96) (E 576) (E 2208) (E 2304) (E 2400)) ?_ ?_
 intro E M m I i
 refine sq_ok (fun (j : X10) E => j (E 0) (E 96) (E 576) (E 2208) (E 2304) (E 2400)) ?_ ?_
 intro E M m I i
 kernel_rfl
 intro j
 refine bl_ok ?_
 refine sq_ok (fun (j : X11) E => j (E 0) (E 96) (E 576) (E 768) (E 2208) (E 2304) (E 2400)) ?_ ?_
 intro E M m I i
 refine sq_ok (fun (j : X12) E => j (E 0) (E 96) (E 576) (E 768) (E 864) (E 2208) (E 2304) (E 2400)) ?_ ?_
 intro E M m I i
 refine sq_ok (fun (j : X11) E => j (E 0) (E 96) (E 576) (E 864) (E 2208) (E 2304) (E 2400)) ?_ ?_
 intro E M m I i
 kernel_rfl
 intro j
 kernel_rfl
 intro j
 kernel_rfl
 intro j
 kernel_rfl
 intro j
 kernel_rfl
 intro j
 kernel_rfl
 intro j
 kernel_rfl
 intro j
 kernel_rfl
 intro j
 kernel_rfl
theorem e196 : FOkS Tryz.prog 243 196 g196 := fok4 fun call t0 t1 t2 t3 M m I i kf => by
 refine top_ok Tryz.func196 rfl rfl ?_
 refine sq_ok (fun (j : X8) E => j (E 96) (E 192) (E 288) (E 384)) ?_ ?_
 intro E M m I i
 refine sq_ok (fun (j : X10) E => j (E 96) (E 192) (E 288) (E 384) (E 864) (E 960)) ?_ ?_
 intro E M m I i
 refine bl_ok ?_
 refine lo_ok (fun (j : X10) E => j (E 96) (E 192) (E 288) (E 384) (E 864) (E 960)) (fun _ _ _ _ _ => rfl) ?_
 intro n j E M m I i
 kernel_rfl
 intro j
 kernel_rfl
 intro j
 kernel_rfl
theorem e337 : FOkS Tryz.prog 243 337 g337 := fok2 fun call t0 t1 M m I i kf => by
 refine top_ok Tryz.func337 rfl rfl ?_
 refine sq_ok (fun (j : X6) E => j (E 0) (E 96)) ?_ ?_
 intro E M m I i
 refine sq_ok (fun (j : X9) E => j (E 0) (E 96) (E 2688) (E 2784) (E 2880)) ?_ ?_
 intro E M m I i
 refine bl_ok ?_
 refine lo_ok (fun (j : X9) E => j (E 0) (E 96) (E 2688) (E 2784) (E 2880)) (fun _ _ _ _ _ => rfl) ?_
 intro n j E M m I i
 kernel_rfl
 intro j
 kernel_rfl
 intro j
 refine sq_ok (fun (j : X9) E => j (E 0) (E 96) (E 1344) (E 1440) (E 1536)) ?_ ?_
 intro E M m I i
 refine bl_ok ?_
 refine lo_ok (fun (j : X9) E => j (E 0) (E 96) (E 1344) (E 1440) (E 1536)) (fun _ _ _ _ _ => rfl) ?_
 intro n j E M m I i
 kernel_rfl
 intro j
 kernel_rfl
theorem e341 : FOkS Tryz.prog 243 341 g341 := fok2 fun call t0 t1 M m I i kf => by
 refine top_ok Tryz.func341 rfl rfl ?_
 refine sq_ok (fun (j : X6) E => j (E 0) (E 96)) ?_ ?_
 intro E M m I i
 refine sq_ok (fun (j : X6) E => j (E 0) (E 96)) ?_ ?_
 intro E M m I i
 refine sq_ok (fun (j : X6) E => j (E 0) (E 96)) ?_ ?_
 intro E M m I i
 kernel_rfl
 intro j
 refine sq_ok (fun (j : X9) E => j (E 0) (E 96) (E 1056) (E 1152) (E 1248)) ?_ ?_
 intro E M m I i
 refine bl_ok ?_
 refine lo_ok (fun (j : X9) E => j (E 0) (E 96) (E 1056) (E 1152) (E 1248)) (fun _ _ _ _ _ => rfl) ?_
 intro n j E M m I i
 kernel_rfl
 intro j
 kernel_rfl
 intro j
 kernel_rfl
 intro j
 kernel_rfl
theorem e351 : FOkS Tryz.prog 243 351 g351 := fok2 fun call t0 t1 M m I i kf => by
 refine top_ok Tryz.func351 rfl rfl ?_
 refine sq_ok (fun (j : X6) E => j (E 0) (E 96)) ?_ ?_
 intro E M m I i
 refine sq_ok (fun (j : X6) E => j (E 0) (E 96)) ?_ ?_
 intro E M m I i
 refine sq_ok (fun (j : X7) E => j (E 0) (E 96) (E 480)) ?_ ?_
 intro E M m I i
 refine sq_ok (fun (j : X4) _ => j) ?_ ?_
 intro E M m I i
 kernel_rfl
 intro j
 refine sq_ok (fun (j : X9) E => j (E 96) (E 480) (E 1344) (E 1440) (E 1536)) ?_ ?_
 intro E M m I i
 refine bl_ok ?_
 refine lo_ok (fun (j : X9) E => j (E 96) (E 480) (E 1344) (E 1440) (E 1536)) (fun _ _ _ _ _ => rfl) ?_
 intro n j E M m I i
 kernel_rfl
 intro j
 kernel_rfl
 intro j
 kernel_rfl
 intro j
 kernel_rfl
 intro j
 kernel_rfl
theorem e346 : FOkS Tryz.prog 243 346 g346 := fok1 fun call t0 M m I i kf => by
 refine top_ok Tryz.func346 rfl rfl ?_
 kernel_rfl
theorem e340 : FOkS Tryz.prog 243 340 g340 := fok2 fun call t0 t1 M m I i kf => by
 refine top_ok Tryz.func340 rfl rfl ?_
 refine sq_ok (fun (j : X7) E => j (E 0) (E 96) (E 384)) ?_ ?_
 intro E M m I i
 refine sq_ok (fun (j : X7) E => j (E 0) (E 96) (E 384)) ?_ ?_
 intro E M m I i
 refine sq_ok (fun (j : X8) E => j (E 0) (E 96) (E 384) (E 576)) ?_ ?_
 intro E M m I i
 refine sq_ok (fun (j : X9) E => j (E 0) (E 96) (E 384) (E 576) (E 672)) ?_ ?_
 intro E M m I i
 refine sq_ok (fun (j : X8) E => j (E 0) (E 96) (E 384) (E 672)) ?_ ?_
 intro E M m I i
 kernel_rfl
 intro j
 kernel_rfl
 intro j
 kernel_rfl
 intro j
 kernel_rfl
 intro j
 kernel_rfl
 intro j
 kernel_rfl
theorem e117 : FOkS Tryz.prog 243 117 g117 := fok2 fun call t0 t1 M m I i kf => by
 refine top_ok Tryz.func117 rfl rfl ?_
 refine sq_ok (fun (j : X6) E => j (E 0) (E 96)) ?_ ?_
 intro E M m I i
 refine sq_ok (fun (j : X7) E => j (E 0) (E 96) (E 480)) ?_ ?_
 intro E M m I i
 refine sq_ok (fun (j : X7) E => j (E 0) (E 96) (E 480)) ?_ ?_
 intro E M m I i
 refine sq_ok (fun (j : X8) E => j (E 0) (E 96) (E 480) (E 576)) ?_ ?_
 intro E M m I i
 refine sq_ok (fun (j : X9) E => j (E 0) (E 96) (E 480) (E 576) (E 672)) ?_ ?_
 intro E M m I i
 refine sq_ok (fun (j : X10) E => j (E 0) (E 96) (E 480) (E 576) (E 672) (E 768)) ?_ ?_
 intro E M m I i
 refine sq_ok (fun (j : X11) E => j (E 0) (E 96) (E 480) (E 576) (E 672) (E 768) (E 864)) ?_ ?_
 intro E M m I i
 refine sq_ok (fun (j : X12) E => j (E 0) (E 96) (E 480) (E 576) (E 672) (E 768) (E 864) (E 960)) ?_ ?_
 intro E M m I i
 refine sq_ok (fun (j : X4) _ => j) ?_ ?_
 intro E M m I i
 kernel_rfl
 intro j
 refine bl_ok ?_
 refine lo_ok (fun (j : X12) E => j (E 0) (E 96) (E 480) (E 576) (E 672) (E 768) (E 864) (E 960)) (fun _ _ _ _ _ => rfl) ?_
 intro n j E M m I i
 refine sq_ok (fun (j : X12) E => j (E 0) (E 96) (E 480) (E 576) (E 672) (E 768) (E 864) (E 960)) ?_ ?_
 intro E M m I i
 refine bl_ok ?_
 refine sq_ok (fun (j : X12) E => j (E 0) (E 96) (E 480) (E 576) (E 672) (E 768) (E 864) (E 960)) ?_ ?_
 intro E M m I i
 refine sq_ok (fun (j : X12) E => j (E 0) (E 96) (E 480) (E 576) (E 672) (E 768) (E 864) (E 960)) ?_ ?_
 intro E M m I i
 kernel_rfl
 intro j
 kernel_rfl
 intro j
 kernel_rfl
 intro j
 kernel_rfl
 intro j
 kernel_rfl
 intro j
 kernel_rfl
 intro j
 kernel_rfl
 intro j
 kernel_rfl
 intro j
 kernel_rfl
 intro j
 kernel_rfl
 intro j
 kernel_rfl
 intro j
 kernel_rfl
theorem e478 : FOkS Tryz.prog 243 478 g478 := fok2 fun call t0 t1 M m I i kf => by
 refine top_ok Tryz.func478 rfl rfl ?_
 refine sq_ok (fun (j : X6) E => j (E 0) (E 96)) ?_ ?_
 intro E M m I i
 refine sq_ok (fun (j : X7) E => j (E 0) (E 96) (E 576)) ?_ ?_
 intro E M m I i
 refine sq_ok (fun (j : X5) E => j (E 576)) ?_ ?_
 intro E M m I i
 kernel_rfl
 intro j
 refine sq_ok (fun (j : X9) E => j (E 96) (E 576) (E 2400) (E 2496) (E 2592)) ?_ ?_
 intro E M m I i
 refine bl_ok ?_
 refine lo_ok (fun (j : X9) E => j (E 96) (E 576) (E 2400) (E 2496) (E 2592)) (fun _ _ _ _ _ => rfl) ?_
 intro n j E M m I i
 kernel_rfl
 intro j
 kernel_rfl
 intro j
 kernel_rfl
 intro j
 kernel_rfl
theorem e225 : FOkS Tryz.prog 243 225 g225 := fok1 fun call t0 M m I i kf => by
 refine top_ok Tryz.func225 rfl rfl ?_
 kernel_rfl
theorem e158 : FOkS Tryz.prog 243 158 g158 := fok2 fun call t0 t1 M m I i kf => by
 refine top_ok Tryz.func158 rfl rfl ?_
 kernel_rfl
theorem e97 : FOkS Tryz.prog 243 97 g97 := fok1 fun call t0 M m I i kf => by
 refine top_ok Tryz.func97 rfl rfl ?_
 refine sq_ok (fun (j : X5) E => j (E 0)) ?_ ?_
 intro E M m I i
 refine sq_ok (fun (j : X6) E => j (E 0) (E 288)) ?_ ?_
 intro E M m I i
 refine sq_ok (fun (j : X5) E => j (E 288)) ?_ ?_
 intro E M m I i
 kernel_rfl
 intro j
 refine sq_ok (fun (j : X8) E => j (E 288) (E 864) (E 960) (E 1056)) ?_ ?_
 intro E M m I i
 refine bl_ok ?_
 refine lo_ok (fun (j : X8) E => j (E 288) (E 864) (E 960) (E 1056)) (fun _ _ _ _ _ => rfl) ?_
 intro n j E M m I i
 kernel_rfl
 intro j
 kernel_rfl
 intro j
 kernel_rfl
 intro j
 kernel_rfl
theorem e212 : FOkS Tryz.prog 243 212 g212 := fok1 fun call t0 M m I i kf => by
 refine top_ok Tryz.func212 rfl rfl ?_
 refine sq_ok (fun (j : X6) E => j (E 0) (E 192)) ?_ ?_
 intro E M m I i
 refine sq_ok (fun (j : X7) E => j (E 192) (E 384) (E 480)) ?_ ?_
 intro E M m I i
 refine sq_ok (fun (j : X6) E => j (E 192) (E 384)) ?_ ?_
 intro E M m I i
 refine sq_ok (fun (j : X9) E => j (E 192) (E 384) (E 576) (E 672) (E 768)) ?_ ?_
 intro E M m I i
 refine sq_ok (fun (j : X8) E => j (E 192) (E 384) (E 576) (E 672)) ?_ ?_
 intro E M m I i
 refine sq_ok (fun (j : X10) E => j (E 192) (E 384) (E 576) (E 672) (E 768) (E 864)) ?_ ?_
 intro E M m I i
 refine sq_ok (fun (j : X9) E => j (E 192) (E 384) (E 576) (E 672) (E 864)) ?_ ?_
 intro E M m I i
 refine sq_ok (fun (j : X8) E => j (E 192) (E 384) (E 672) (E 960)) ?_ ?_
 intro E M m I i
 refine sq_ok (fun (j : X8) E => j (E 192) (E 384) (E 672) (E 960)) ?_ ?_
 intro E M m I i
 kernel_rfl
 intro j
 refine sq_ok (fun (j : X10) E => j (E 192) (E 384) (E 672) (E 960) (E 4416) (E 4512)) ?_ ?_
 intro E M m I i
 refine bl_ok ?_
 refine lo_ok (fun (j : X10) E => j (E 192) (E 384) (E 672) (E 960) (E 4416) (E 4512)) (fun _ _ _ _ _ => rfl) ?_
 intro n j E M m I i
 refine sq_ok (fun (j : X11) E => j (E 192) (E 384) (E 672) (E 960) (E 4416) (E 4512) (E 4608)) ?_ ?_
 intro E M m I i
 refine sq_ok (fun (j : X10) E => j (E 192) (E 384) (E 672) (E 960) (E 4416) (E 4512)) ?_ ?_
 intro E M m I i
 refine sq_ok (fun (j : X10) E => j (E 192) (E 384) (E 672) (E 960) (E 4416) (E 4512)) ?_ ?_
 intro E M m I i
 kernel_rfl
 intro j
 refine bl_ok ?_
 refine sq_ok (fun (j : X11) E => j (E 192) (E 384) (E 672) (E 960) (E 1056) (E 4416) (E 4512)) ?_ ?_
 intro E M m I i
 refine sq_ok (fun (j : X12) E => j (E 192) (E 384) (E 672) (E 960) (E 1056) (E 4416) (E 4512) (E 4800)) ?_ ?_
 intro E M m I i
 refine bl_ok ?_
 refine lo_ok (fun (j : X12) E => j (E 192) (E 384) (E 672) (E 960) (E 1056) (E 4416) (E 4512) (E 4800)) (fun _ _ _ _ _ => rfl) ?_
 intro n j E M m I i
 kernel_rfl
 intro j
 kernel_rfl
 intro j
 kernel_rfl
 intro j
 kernel_rfl
 intro j
 kernel_rfl
 intro j
 kernel_rfl
 intro j
 kernel_rfl
 intro j
 kernel_rfl
 intro j
 kernel_rfl
 intro j
 kernel_rfl
 intro j
 kernel_rfl
 intro j
 kernel_rfl
 intro j
 kernel_rfl
 intro j
 kernel_rfl
theorem e63 : FOkS Tryz.prog 243 63 g63 := fok1 fun call t0 M m I i kf => by
 refine top_ok Tryz.func63 rfl rfl ?_
 kernel_rfl
theorem e142 : FOkS Tryz.prog 243 142 g142 := fok2 fun call t0 t1 M m I i kf => by
 refine top_ok Tryz.func142 rfl rfl ?_
 kernel_rfl
theorem e191 : FOkS Tryz.prog 243 191 g191 := fok3 fun call t0 t1 t2 M m I i kf => by
 refine top_ok Tryz.func191 rfl rfl ?_
 refine sq_ok (fun (j : X8) E => j (E 0) (E 96) (E 192) (E 576)) ?_ ?_
 intro E M m I i
 refine sq_ok (fun (j : X10) E => j (E 0) (E 96) (E 192) (E 576) (E 672) (E 768)) ?_ ?_
 intro E M m I i
 refine sq_ok (fun (j : X9) E => j (E 0) (E 96) (E 192) (E 576) (E 672)) ?_ ?_
 intro E M m I i
 refine sq_ok (fun (j : X8) E => j (E 0) (E 96) (E 192) (E 576)) ?_ ?_
 intro E M m I i
 refine bl_ok ?_
 refine lo_ok (fun (j : X8) E => j (E 0) (E 96) (E 192) (E 576)) (fun _ _ _ _ _ => rfl) ?_
 intro n j E M m I i
 refine sq_ok (fun (j : X8) E => j (E 0) (E 96) (E 192) (E 576)) ?_ ?_
 intro E M m I i
 refine bl_ok ?_
 refine sq_ok (fun (j : X10) E => j (E 0) (E 96) (E 192) (E 576) (E 672) (E 768)) ?_ ?_
 intro E M m I i
 refine sq_ok (fun (j : X9) E => j (E 0) (E 96) (E 192) (E 576) (E 672)) ?_ ?_
 intro E M m I i
 kernel_rfl
 intro j
 refine bl_ok ?_
 refine lo_ok (fun (j : X10) E => j (E 0) (E 96) (E 192) (E 576) (E 672) (E 768)) (fun _ _ _ _ _ => rfl) ?_
 intro n j E M m I i
 kernel_rfl
 intro j
 kernel_rfl
 intro j
 kernel_rfl
 intro j
 kernel_rfl
 intro j
 refine bl_ok ?_
 refine lo_ok (fun (j : X10) E => j (E 0) (E 96) (E 192) (E 576) (E 672) (E 768)) (fun _ _ _ _ _ => rfl) ?_
 intro n j E M m I i
 kernel_rfl
 intro j
 kernel_rfl
 intro j
 kernel_rfl
theorem e61 : FOkS Tryz.prog 243 61 g61 := fok2 fun call t0 t1 M m I i kf => by
 refine top_ok Tryz.func61 rfl rfl ?_
 kernel_rfl
theorem e85 : FOkS Tryz.prog 243 85 g85 := fok1 fun call t0 M m I i kf => by
 refine top_ok Tryz.func85 rfl rfl ?_
 refine sq_ok (fun (j : X5) E => j (E 0)) ?_ ?_
 intro E M m I i
 refine sq_ok (fun (j : X6) E => j (E 0) (E 288)) ?_ ?_
 intro E M m I i
 refine sq_ok (fun (j : X6) E => j (E 0) (E 288)) ?_ ?_
 intro E M m I i
 refine sq_ok (fun (j : X6) E => j (E 0) (E 576)) ?_ ?_
 intro E M m I i
 refine sq_ok (fun (j : X5) E => j (E 576)) ?_ ?_
 intro E M m I i
 kernel_rfl
 intro j
 refine sq_ok (fun (j : X8) E => j (E 576) (E 2400) (E 2496) (E 2592)) ?_ ?_
 intro E M m I i
 refine bl_ok ?_
 refine lo_ok (fun (j : X8) E => j (E 576) (E 2400) (E 2496) (E 2592)) (fun _ _ _ _ _ => rfl) ?_
 intro n j E M m I i
 kernel_rfl
 intro j
 kernel_rfl
 intro j
 kernel_rfl
 intro j
 refine sq_ok (fun (j : X9) E => j (E 0) (E 288) (E 864) (E 960) (E 1056)) ?_ ?_
 intro E M m I i
 refine bl_ok ?_
 refine lo_ok (fun (j : X9) E => j (E 0) (E 288) (E 864) (E 960) (E 1056)) (fun _ _ _ _ _ => rfl) ?_
 intro n j E M m I i
 kernel_rfl
 intro j
 kernel_rfl
 intro j
 kernel_rfl
 intro j
 kernel_rfl
theorem e48 : FOkS Tryz.prog 243 48 g48 := fok2 fun call t0 t1 M m I i kf => by
 refine top_ok Tryz.func48 rfl rfl ?_
 refine sq_ok (fun (j : X6) E => j (E 0) (E 96)) ?_ ?_
 intro E M m I i
 refine sq_ok (fun (j : X8) E => j (E 0) (E 96) (E 576) (E 672)) ?_ ?_
 intro E M m I i
 refine sq_ok (fun (j : X9) E => j (E 0) (E 96) (E 576) (E 672) (E 768)) ?_ ?_
 intro E M m I i
 refine sq_ok (fun (j : X9) E => j (E 0) (E 96) (E 576) (E 672) (E 768)) ?_ ?_
 intro E M m I i
 refine sq_ok (fun (j : X9) E => j (E 0) (E 96) (E 576) (E 672) (E 768)) ?_ ?_
 intro E M m I i
 kernel_rfl
 intro j
 refine sq_ok (fun (j : X12) E => j (E 0) (E 96) (E 576) (E 672) (E 768) (E 3264) (E 3360) (E 3456)) ?_ ?_
 intro E M m I i
 refine bl_ok ?_
 refine lo_ok (fun (j : X12) E => j (E 0) (E 96) (E 576) (E 672) (E 768) (E 3264) (E 3360) (E 3456)) (fun _ _ _ _ _ => rfl) ?_
 intro n j E M m I i
 kernel_rfl
 intro j
 kernel_rfl
 intro j
 kernel_rfl
 intro j
 kernel_rfl
 intro j
 kernel_rfl
 intro j
 kernel_rfl
theorem e25 : FOkS Tryz.prog 243 25 g25 := fok2 fun call t0 t1 M m I i kf => by
 refine top_ok Tryz.func25 rfl rfl ?_
 kernel_rfl
theorem e222 : FOkS Tryz.prog 243 222 g222 := fok4 fun call t0 t1 t2 t3 M m I i kf => by
 refine top_ok Tryz.func222 rfl rfl ?_
 refine sq_ok (fun (j : X9) E => j (E 0) (E 96) (E 192) (E 288) (E 768)) ?_ ?_
 intro E M m I i
 refine bl_ok ?_
 refine lo_ok (fun (j : X9) E => j (E 0) (E 96) (E 192) (E 288) (E 768)) (fun _ _ _ _ _ => rfl) ?_
 intro n j E M m I i
 refine sq_ok (fun (j : X9) E => j (E 0) (E 96) (E 192) (E 288) (E 768)) ?_ ?_
 intro E M m I i
 refine sq_ok (fun (j : X9) E => j (E 0) (E 96) (E 192) (E 288) (E 768)) ?_ ?_
 intro E M m I i
 kernel_rfl
 intro j
 refine bl_ok ?_
 refine sq_ok (fun (j : X10) E => j (E 0) (E 96) (E 192) (E 288) (E 768) (E 864)) ?_ ?_
 intro E M m I i
 refine bl_ok ?_
 refine lo_ok (fun (j : X10) E => j (E 0) (E 96) (E 192) (E 288) (E 768) (E 864)) (fun _ _ _ _ _ => rfl) ?_
 intro n j E M m I i
 kernel_rfl
 intro j
 kernel_rfl
 intro j
 kernel_rfl
 intro j
 kernel_rfl
theorem e169 : FOkS Tryz.prog 243 169 g169 := fok1 fun call t0 M m I i kf => by
 refine top_ok Tryz.func169 rfl rfl ?_
 kernel_rfl
theorem e249 : FOkS Tryz.prog 243 249 g249 := fok1 fun call t0 M m I i kf => by
 refine top_ok Tryz.func249 rfl rfl ?_
 kernel_rfl
theorem e59 : FOkS Tryz.prog 243 59 g59 := fok2 fun call t0 t1 M m I i kf => by
 refine top_ok Tryz.func59 rfl rfl ?_
 kernel_rfl
theorem e55 : FOkS Tryz.prog 243 55 g55 := fok2 fun call t0 t1 M m I i kf => by
 refine top_ok Tryz.func55 rfl rfl ?_
 kernel_rfl
theorem e50 : FOkS Tryz.prog 243 50 g50 := fok2 fun call t0 t1 M m I i kf => by
 refine top_ok Tryz.func50 rfl rfl ?_
 kernel_rfl
end Go.Proofs.YtpjhkpmmbeoghaaGreatDoor.Ev
set_option maxRecDepth 100000
set_option linter.unusedVariables false
namespace Go.Proofs.YtpjhkpmmbeoghaaGreatDoor.Ev
open Go
open Go.Proofs
theorem e224 : FOkS Tryz.prog 243 224 g224 := fok1 fun call t0 M m I i kf => by
 refine top_ok Tryz.func224 rfl rfl ?_
 kernel_rfl
theorem e254 : FOkS Tryz.prog 243 254 g254 := fok2 fun call t0 t1 M m I i kf => by
 refine top_ok Tryz.func254 rfl rfl ?_
 refine sq_ok (fun (j : X6) E => j (E 0) (E 96)) ?_ ?_
 intro E M m I i
 refine sq_ok (fun (j : X7) E => j (E 0) (E 96) (E 576)) ?_ ?_
 intro E M m I i
 refine sq_ok (fun (j : X9) E => j (E 0) (E 96) (E 576) (E 672) (E 768)) ?_ ?_
 intro E M m I i
 refine sq_ok (fun (j : X8) E => j (E 0) (E 96) (E 576) (E 672)) ?_ ?_
 intro E M m I i
 kernel_rfl
 intro j
 refine bl_ok ?_
 refine lo_ok (fun (j : X9) E => j (E 0) (E 96) (E 576) (E 672) (E 768)) (fun _ _ _ _ _ => rfl) ?_
 intro n j E M m I i
 kernel_rfl
 intro j
 kernel_rfl
 intro j
 kernel_rfl
 intro j
 kernel_rfl
theorem e162 : FOkS Tryz.prog 243 162 g162 := fok1 fun call t0 M m I i kf => by
 refine top_ok Tryz.func162 rfl rfl ?_
 refine sq_ok (fun (j : X5) E => j (E 96)) ?_ ?_
 intro E M m I i
 refine sq_ok (fun (j : X5) E => j (E 96)) ?_ ?_
 intro E M m I i
 refine sq_ok (fun (j : X6) E => j (E 96) (E 288)) ?_ ?_
 intro E M m I i
 refine sq_ok (fun (j : X5) E => j (E 288)) ?_ ?_
 intro E M m I i
 kernel_rfl
 intro j
 refine sq_ok (fun (j : X8) E => j (E 288) (E 1248) (E 1344) (E 1440)) ?_ ?_
 intro E M m I i
 refine bl_ok ?_
 refine lo_ok (fun (j : X8) E => j (E 288) (E 1248) (E 1344) (E 1440)) (fun _ _ _ _ _ => rfl) ?_
 intro n j E M m I i
 kernel_rfl
 intro j
 kernel_rfl
 intro j
 kernel_rfl
 intro j
 kernel_rfl
 intro j
 kernel_rfl
theorem e147 : FOkS Tryz.prog 243 147 g147 := fok3 fun call t0 t1 t2 M m I i kf => by
 refine top_ok Tryz.func147 rfl rfl ?_
 refine sq_ok (fun (j : X7) E => j (E 0) (E 96) (E 192)) ?_ ?_
 intro E M m I i
 refine sq_ok (fun (j : X8) E => j (E 0) (E 96) (E 192) (E 768)) ?_ ?_
 intro E M m I i
 refine sq_ok (fun (j : X10) E => j (E 0) (E 96) (E 192) (E 768) (E 864) (E 960)) ?_ ?_
 intro E M m I i
 refine sq_ok (fun (j : X9) E => j (E 0) (E 96) (E 192) (E 768) (E 864)) ?_ ?_
 intro E M m I i
 kernel_rfl
 intro j
 refine bl_ok ?_
 refine lo_ok (fun (j : X10) E => j (E 0) (E 96) (E 192) (E 768) (E 864) (E 960)) (fun _ _ _ _ _ => rfl) ?_
 intro n j E M m I i
 kernel_rfl
 intro j
 kernel_rfl
 intro j
 kernel_rfl
 intro j
 kernel_rfl
theorem e221 : FOkS Tryz.prog 243 221 g221 := fok1 fun call t0 M m I i kf => by
 refine top_ok Tryz.func221 rfl rfl ?_
 refine sq_ok (fun (j : X5) E => j (E 0)) ?_ ?_
 intro E M m I i
 refine sq_ok (fun (j : X4) _ => j) ?_ ?_
 intro E M m I i
 kernel_rfl
 intro j
 refine sq_ok (fun (j : X6) E => j (E 0) (E 288)) ?_ ?_
 intro E M m I i
 refine bl_ok ?_
 refine lo_ok (fun (j : X6) E => j (E 0) (E 288)) (fun _ _ _ _ _ => rfl) ?_
 intro n j E M m I i
 refine sq_ok (fun (j : X6) E => j (E 0) (E 288)) ?_ ?_
 intro E M m I i
 refine sq_ok (fun (j : X6) E => j (E 0) (E 288)) ?_ ?_
 intro E M m I i
 kernel_rfl
 intro j
 refine bl_ok ?_
 refine sq_ok (fun (j : X7) E => j (E 0) (E 288) (E 384)) ?_ ?_
 intro E M m I i
 refine sq_ok (fun (j : X8) E => j (E 0) (E 288) (E 384) (E 480)) ?_ ?_
 intro E M m I i
 refine sq_ok (fun (j : X8) E => j (E 0) (E 288) (E 384) (E 480)) ?_ ?_
 intro E M m I i
 refine sq_ok (fun (j : X9) E => j (E 0) (E 288) (E 384) (E 480) (E 960)) ?_ ?_
 intro E M m I i
 refine sq_ok (fun (j : X10) E => j (E 0) (E 288) (E 384) (E 480) (E 960) (E 1056)) ?_ ?_
 intro E M m I i
 refine sq_ok (fun (j : X10) E => j (E 0) (E 288) (E 384) (E 480) (E 960) (E 1056)) ?_ ?_
 intro E M m I i
 refine sq_ok (fun (j : X10) E => j (E 0) (E 288) (E 384) (E 480) (E 960) (E 1056)) ?_ ?_
 intro E M m I i
 refine sq_ok (fun (j : X12) E => j (E 0) (E 288) (E 480) (E 960) (E 1056) (E 6528) (E 6624) (E 6720)) ?_ ?_
 intro E M m I i
 refine bl_ok ?_
 refine lo_ok (fun (j : X12) E => j (E 0) (E 288) (E 480) (E 960) (E 1056) (E 6528) (E 6624) (E 6720)) (fun _ _ _ _ _ => rfl) ?_
 intro n j E M m I i
 kernel_rfl
 intro j
 kernel_rfl
 intro j
 kernel_rfl
 intro j
 kernel_rfl
 intro j
 kernel_rfl
 intro j
 kernel_rfl
 intro j
 refine sq_ok (fun (j : X11) E => j (E 0) (E 288) (E 384) (E 480) (E 2496) (E 2592) (E 2688)) ?_ ?_
 intro E M m I i
 refine bl_ok ?_
 refine lo_ok (fun (j : X11) E => j (E 0) (E 288) (E 384) (E 480) (E 2496) (E 2592) (E 2688)) (fun _ _ _ _ _ => rfl) ?_
 intro n j E M m I i
 kernel_rfl
 intro j
 kernel_rfl
 intro j
 kernel_rfl
 intro j
 kernel_rfl
 intro j
 kernel_rfl
 intro j
 kernel_rfl
 intro j
 kernel_rfl
theorem e188 : FOkS Tryz.prog 243 188 g188 := fok2 fun call t0 t1 M m I i kf => by
 refine top_ok Tryz.func188 rfl rfl ?_
 refine sq_ok (fun (j : X6) E => j (E 0) (E 96)) ?_ ?_
 intro E M m I i
 refine sq_ok (fun (j : X5) E => j (E 0)) ?_ ?_
 intro E M m I i
 refine sq_ok (fun (j : X4) _ => j) ?_ ?_
 intro E M m I i
 kernel_rfl
 intro j
 refine sq_ok (fun (j : X7) E => j (E 1056) (E 1152) (E 1248)) ?_ ?_
 intro E M m I i
 refine bl_ok ?_
 refine lo_ok (fun (j : X7) E => j (E 1056) (E 1152) (E 1248)) (fun _ _ _ _ _ => rfl) ?_
 intro n j E M m I i
 kernel_rfl
 intro j
 kernel_rfl
 intro j
 kernel_rfl
 intro j
 kernel_rfl
theorem e9 : FOkS Tryz.prog 243 9 g9 := fok2 fun call t0 t1 M m I i kf => by
 refine top_ok Tryz.func9 rfl rfl ?_
 refine sq_ok (fun (j : X6) E => j (E 0) (E 96)) ?_ ?_
 intro E M m I i
 refine sq_ok (fun (j : X6) E => j (E 0) (E 96)) ?_ ?_
 intro E M m I i
 refine sq_ok (fun (j : X6) E => j (E 0) (E 576)) ?_ ?_
 intro E M m I i
 refine sq_ok (fun (j : X8) E => j (E 0) (E 576) (E 672) (E 768)) ?_ ?_
 intro E M m I i
 refine sq_ok (fun (j : X8) E => j (E 0) (E 576) (E 672) (E 768)) ?_ ?_
 intro E M m I i
 refine sq_ok (fun (j : X7) E => j (E 0) (E 576) (E 672)) ?_ ?_
 intro E M m I i
 refine sq_ok (fun (j : X8) E => j (E 0) (E 576) (E 672) (E 864)) ?_ ?_
 intro E M m I i
 refine sq_ok (fun (j : X8) E => j (E 0) (E 576) (E 672) (E 864)) ?_ ?_
 intro E M m I i
 refine sq_ok (fun (j : X8) E => j (E 0) (E 576) (E 672) (E 864)) ?_ ?_
 intro E M m I i
 refine sq_ok (fun (j : X8) E => j (E 0) (E 576) (E 672) (E 864)) ?_ ?_
 intro E M m I i
 refine sq_ok (fun (j : X7) E => j (E 0) (E 576) (E 672)) ?_ ?_
 intro E M m I i
 kernel_rfl
 intro j
 kernel_rfl
 intro j
 refine sq_ok (fun (j : X11) E => j (E 0) (E 576) (E 672) (E 864) (E 6336) (E 6432) (E 6528)) ?_ ?_
 intro E M m I i
 refine bl_ok ?_
 refine lo_ok (fun (j : X11) E => j (E 0) (E 576) (E 672) (E 864) (E 6336) (E 6432) (E 6528)) (fun _ _ _ _ _ => rfl) ?_
 intro n j E M m I i
 kernel_rfl
 intro j
 kernel_rfl
 intro j
 refine sq_ok (fun (j : X11) E => j (E 0) (E 576) (E 672) (E 864) (E 4992) (E 5088) (E 5184)) ?_ ?_
 intro E M m I i
 refine bl_ok ?_
 refine lo_ok (fun (j : X11) E => j (E 0) (E 576) (E 672) (E 864) (E 4992) (E 5088) (E 5184)) (fun _ _ _ _ _ => rfl) ?_
 intro n j E M m I i
 kernel_rfl
 intro j
 kernel_rfl
 intro j
 kernel_rfl
 intro j
 kernel_rfl
 intro j
 kernel_rfl
 intro j
 kernel_rfl
 intro j
 kernel_rfl
 intro j
 kernel_rfl
 intro j
 kernel_rfl
 intro j
 kernel_rfl
theorem e14 : FOkS Tryz.prog 243 14 g14 := fok2 fun call t0 t1 M m I i kf => by
 refine top_ok Tryz.func14 rfl rfl ?_
 refine sq_ok (fun (j : X7) E => j (E 0) (E 96) (E 384)) ?_ ?_
 intro E M m I i
 refine sq_ok (fun (j : X7) E => j (E 0) (E 96) (E 384)) ?_ ?_
 intro E M m I i
 refine sq_ok (fun (j : X7) E => j (E 0) (E 96) (E 384)) ?_ ?_
 intro E M m I i
 refine sq_ok (fun (j : X8) E => j (E 0) (E 96) (E 384) (E 576)) ?_ ?_
 intro E M m I i
 refine sq_ok (fun (j : X9) E => j (E 0) (E 96) (E 384) (E 576) (E 672)) ?_ ?_
 intro E M m I i
 refine sq_ok (fun (j : X7) E => j (E 0) (E 384) (E 672)) ?_ ?_
 intro E M m I i
 kernel_rfl
 intro j
 refine sq_ok (fun (j : X11) E => j (E 0) (E 384) (E 576) (E 672) (E 2688) (E 2784) (E 2880)) ?_ ?_
 intro E M m I i
 refine bl_ok ?_
 refine lo_ok (fun (j : X11) E => j (E 0) (E 384) (E 576) (E 672) (E 2688) (E 2784) (E 2880)) (fun _ _ _ _ _ => rfl) ?_
 intro n j E M m I i
 refine sq_ok (fun (j : X12) E => j (E 0) (E 384) (E 576) (E 672) (E 2688) (E 2784) (E 2880) (E 2976)) ?_ ?_
 intro E M m I i
 refine sq_ok (fun (j : X11) E => j (E 0) (E 384) (E 576) (E 672) (E 2688) (E 2784) (E 2880)) ?_ ?_
 intro E M m I i
 refine sq_ok (fun (j : X11) E => j (E 0) (E 384) (E 576) (E 672) (E 2688) (E 2784) (E 2880)) ?_ ?_
 intro E M m I i
 kernel_rfl
 intro j
 refine bl_ok ?_
 refine sq_ok (fun (j : X13) E => j (E 0) (E 384) (E 576) (E 672) (E 768) (E 864) (E 2688) (E 2784) (E 2880)) ?_ ?_
 intro E M m I i
 refine sq_ok (fun (j : X13) E => j (E 0) (E 384) (E 576) (E 672) (E 768) (E 960) (E 2688) (E 2784) (E 2880)) ?_ ?_
 intro E M m I i
 kernel_rfl
 intro j
 kernel_rfl
 intro j
 kernel_rfl
 intro j
 kernel_rfl
 intro j
 kernel_rfl
 intro j
 kernel_rfl
 intro j
 kernel_rfl
 intro j
 kernel_rfl
 intro j
 kernel_rfl
 intro j
 kernel_rfl
 intro j
 kernel_rfl
theorem e75 : FOkS Tryz.prog 243 75 g75 := fok2 fun call t0 t1 M m I i kf => by
 refine top_ok Tryz.func75 rfl rfl ?_
 refine sq_ok (fun (j : X7) E => j (E 96) (E 192) (E 384)) ?_ ?_
 intro E M m I i
 refine sq_ok (fun (j : X7) E => j (E 96) (E 192) (E 384)) ?_ ?_
 intro E M m I i
 refine sq_ok (fun (j : X8) E => j (E 96) (E 192) (E 384) (E 576)) ?_ ?_
 intro E M m I i
 refine sq_ok (fun (j : X9) E => j (E 96) (E 192) (E 384) (E 576) (E 672)) ?_ ?_
 intro E M m I i
 refine sq_ok (fun (j : X8) E => j (E 96) (E 192) (E 384) (E 672)) ?_ ?_
 intro E M m I i
 refine sq_ok (fun (j : X8) E => j (E 96) (E 192) (E 384) (E 672)) ?_ ?_
 intro E M m I i
 refine sq_ok (fun (j : X9) E => j (E 96) (E 192) (E 384) (E 672) (E 1344)) ?_ ?_
 intro E M m I i
 refine sq_ok (fun (j : X8) E => j (E 96) (E 192) (E 384) (E 1344)) ?_ ?_
 intro E M m I i
 kernel_rfl
 intro j
 refine sq_ok (fun (j : X11) E => j (E 96) (E 192) (E 384) (E 1344) (E 7200) (E 7296) (E 7392)) ?_ ?_
 intro E M m I i
 refine bl_ok ?_
 refine lo_ok (fun (j : X11) E => j (E 96) (E 192) (E 384) (E 1344) (E 7200) (E 7296) (E 7392)) (fun _ _ _ _ _ => rfl) ?_
 intro n j E M m I i
 kernel_rfl
 intro j
 kernel_rfl
 intro j
 kernel_rfl
 intro j
 kernel_rfl
 intro j
 refine sq_ok (fun (j : X11) E => j (E 96) (E 192) (E 384) (E 672) (E 2688) (E 2784) (E 2880)) ?_ ?_
 intro E M m I i
 refine bl_ok ?_
 refine lo_ok (fun (j : X11) E => j (E 96) (E 192) (E 384) (E 672) (E 2688) (E 2784) (E 2880)) (fun _ _ _ _ _ => rfl) ?_
 intro n j E M m I i
 refine sq_ok (fun (j : X12) E => j (E 96) (E 192) (E 384) (E 672) (E 2688) (E 2784) (E 2880) (E 2976)) ?_ ?_
 intro E M m I i
 refine sq_ok (fun (j : X11) E => j (E 96) (E 192) (E 384) (E 672) (E 2688) (E 2784) (E 2880)) ?_ ?_
 intro E M m I i
 refine sq_ok (fun (j : X11) E => j (E 96) (E 192) (E 384) (E 672) (E 2688) (E 2784) (E 2880)) ?_ ?_
 intro E M m I i
 kernel_rfl
 intro j
 refine bl_ok ?_
 refine sq_ok (fun (j : X13) E => j (E 96) (E 192) (E 384) (E 672) (E 768) (E 864) (E 2688) (E 2784) (E 2880)) ?_ ?_
 intro E M m I i
 refine sq_ok (fun (j : X15) E => j (E 96) (E 192) (E 384) (E 672) (E 768) (E 864) (E 960) (E 1056) (E 2688) (E 2784) (E 2880)) ?_ ?_
 intro E M m I i
 refine sq_ok (fun (j : X14) E => j (E 96) (E 192) (E 384) (E 672) (E 768) (E 864) (E 960) (E 2688) (E 2784) (E 2880)) ?_ ?_
 intro E M m I i
 refine sq_ok (fun (j : X13) E => j (E 96) (E 192) (E 384) (E 672) (E 768) (E 960) (E 2688) (E 2784) (E 2880)) ?_ ?_
 intro E M m I i
 kernel_rfl
 intro j
 refine sq_ok (fun (j : X17) E => j (E 96) (E 192) (E 384) (E 672) (E 768) (E 864) (E 960) (E 2688) (E 2784) (E 2880) (E 4608) (E 4704) (E 4800)) ?_ ?_
 intro E M m I i
 refine bl_ok ?_
 refine lo_ok (fun (j : X17) E => j (E 96) (E 192) (E 384) (E 672) (E 768) (E 864) (E 960) (E 2688) (E 2784) (E 2880) (E 4608) (E 4704) (E 4800)) (fun _ _ _ _ _ => rfl) ?_
 intro n j E M m I i
 kernel_rfl
 intro j
 kernel_rfl
 intro j
 kernel_rfl
 intro j
 kernel_rfl
 intro j
 kernel_rfl
 intro j
 kernel_rfl
 intro j
 kernel_rfl
 intro j
 kernel_rfl
 intro j
 kernel_rfl
 intro j
 kernel_rfl
 intro j
 kernel_rfl
 intro j
 kernel_rfl
theorem e479 : FOkS Tryz.prog 243 479 g479 := fok2 fun call t0 t1 M m I i kf => by
 refine top_ok Tryz.func479 rfl rfl ?_
 refine sq_ok (fun (j : X6) E => j (E 96) (E 192)) ?_ ?_
 intro E M m I i
 refine sq_ok (fun (j : X7) E => j (E 96) (E 192) (E 480)) ?_ ?_
 intro E M m I i
 refine sq_ok (fun (j : X6) E => j (E 192) (E 480)) ?_ ?_
 intro E M m I i
 kernel_rfl
 intro j
 refine sq_ok (fun (j : X10) E => j (E 96) (E 192) (E 480) (E 1344) (E 1440) (E 1536)) ?_ ?_
 intro E M m I i
 refine bl_ok ?_
 refine lo_ok (fun (j : X10) E => j (E 96) (E 192) (E 480) (E 1344) (E 1440) (E 1536)) (fun _ _ _ _ _ => rfl) ?_
 intro n j E M m I i
 kernel_rfl
 intro j
 kernel_rfl
 intro j
 kernel_rfl
 intro j
 kernel_rfl
theorem e40 : FOkS Tryz.prog 243 40 g40 := fok2 fun call t0 t1 M m I i kf => by
 refine top_ok Tryz.func40 rfl rfl ?_
 refine sq_ok (fun (j : X6) E => j (E 0) (E 96)) ?_ ?_
 intro E M m I i
 refine sq_ok (fun (j : X6) E => j (E 96) (E 480)) ?_ ?_
 intro E M m I i
 refine sq_ok (fun (j : X6) E => j (E 96) (E 480)) ?_ ?_
 intro E M m I i
 refine sq_ok (fun (j : X7) E => j (E 96) (E 480) (E 672)) ?_ ?_
 intro E M m I i
 refine sq_ok (fun (j : X5) E => j (E 672)) ?_ ?_
 intro E M m I i
 kernel_rfl
 intro j
 refine sq_ok (fun (j : X9) E => j (E 480) (E 672) (E 2592) (E 2688) (E 2784)) ?_ ?_
 intro E M m I i
 refine bl_ok ?_
 refine lo_ok (fun (j : X9) E => j (E 480) (E 672) (E 2592) (E 2688) (E 2784)) (fun _ _ _ _ _ => rfl) ?_
 intro n j E M m I i
 refine sq_ok (fun (j : X10) E => j (E 480) (E 672) (E 2592) (E 2688) (E 2784) (E 2880)) ?_ ?_
 intro E M m I i
 refine sq_ok (fun (j : X9) E => j (E 480) (E 672) (E 2592) (E 2688) (E 2784)) ?_ ?_
 intro E M m I i
 refine sq_ok (fun (j : X9) E => j (E 480) (E 672) (E 2592) (E 2688) (E 2784)) ?_ ?_
 intro E M m I i
 kernel_rfl
 intro j
 refine bl_ok ?_
 refine sq_ok (fun (j : X10) E => j (E 480) (E 672) (E 864) (E 2592) (E 2688) (E 2784)) ?_ ?_
 intro E M m I i
 refine sq_ok (fun (j : X12) E => j (E 480) (E 672) (E 2592) (E 2688) (E 2784) (E 3168) (E 3264) (E 3360)) ?_ ?_
 intro E M m I i
 refine bl_ok ?_
 refine lo_ok (fun (j : X12) E => j (E 480) (E 672) (E 2592) (E 2688) (E 2784) (E 3168) (E 3264) (E 3360)) (fun _ _ _ _ _ => rfl) ?_
 intro n j E M m I i
 kernel_rfl
 intro j
 kernel_rfl
 intro j
 kernel_rfl
 intro j
 kernel_rfl
 intro j
 kernel_rfl
 intro j
 kernel_rfl
 intro j
 kernel_rfl
 intro j
 refine sq_ok (fun (j : X8) E => j (E 96) (E 480) (E 1632) (E 1728)) ?_ ?_
 intro E M m I i
 refine bl_ok ?_
 refine lo_ok (fun (j : X8) E => j (E 96) (E 480) (E 1632) (E 1728)) (fun _ _ _ _ _ => rfl) ?_
 intro n j E M m I i
 kernel_rfl
 intro j
 kernel_rfl
 intro j
 kernel_rfl
 intro j
 kernel_rfl
theorem e27 : FOkS Tryz.prog 243 27 g27 := fok2 fun call t0 t1 M m I i kf => by
 refine top_ok Tryz.func27 rfl rfl ?_
 kernel_rfl
theorem e201 : FOkS Tryz.prog 243 201 g201 := fok2 fun call t0 t1 M m I i kf => by
 refine top_ok Tryz.func201 rfl rfl ?_
 kernel_rfl
theorem e100 : FOkS Tryz.prog 243 100 g100 := fok1 fun call t0 M m I i kf => by
 refine top_ok Tryz.func100 rfl rfl ?_
 refine sq_ok (fun (j : X5) E => j (E 0)) ?_ ?_
 intro E M m I i
 refine sq_ok (fun (j : X7) E => j (E 0) (E 384) (E 480)) ?_ ?_
 intro E M m I i
 refine sq_ok (fun (j : X6) E => j (E 0) (E 384)) ?_ ?_
 intro E M m I i
 refine sq_ok (fun (j : X7) E => j (E 0) (E 384) (E 576)) ?_ ?_
 intro E M m I i
 refine sq_ok (fun (j : X6) E => j (E 384) (E 576)) ?_ ?_
 intro E M m I i
 refine sq_ok (fun (j : X7) E => j (E 384) (E 576) (E 1056)) ?_ ?_
 intro E M m I i
 refine sq_ok (fun (j : X8) E => j (E 384) (E 576) (E 1056) (E 1152)) ?_ ?_
 intro E M m I i
 refine sq_ok (fun (j : X5) E => j (E 1056)) ?_ ?_
 intro E M m I i
 kernel_rfl
 intro j
 refine sq_ok (fun (j : X10) E => j (E 576) (E 1056) (E 1152) (E 5856) (E 5952) (E 6048)) ?_ ?_
 intro E M m I i
 refine bl_ok ?_
 refine lo_ok (fun (j : X10) E => j (E 576) (E 1056) (E 1152) (E 5856) (E 5952) (E 6048)) (fun _ _ _ _ _ => rfl) ?_
 intro n j E M m I i
 refine sq_ok (fun (j : X11) E => j (E 576) (E 1056) (E 1152) (E 5856) (E 5952) (E 6048) (E 6144)) ?_ ?_
 intro E M m I i
 refine sq_ok (fun (j : X10) E => j (E 576) (E 1056) (E 1152) (E 5856) (E 5952) (E 6048)) ?_ ?_
 intro E M m I i
 refine sq_ok (fun (j : X10) E => j (E 576) (E 1056) (E 1152) (E 5856) (E 5952) (E 6048)) ?_ ?_
 intro E M m I i
 kernel_rfl
 intro j
 refine bl_ok ?_
 refine sq_ok (fun (j : X12) E => j (E 576) (E 1056) (E 1152) (E 1248) (E 1344) (E 5856) (E 5952) (E 6048)) ?_ ?_
 intro E M m I i
 refine sq_ok (fun (j : X14) E => j (E 576) (E 1056) (E 1152) (E 1248) (E 5856) (E 5952) (E 6048) (E 6528) (E 6624) (E 6720)) ?_ ?_
 intro E M m I i
 refine bl_ok ?_
 refine lo_ok (fun (j : X14) E => j (E 576) (E 1056) (E 1152) (E 1248) (E 5856) (E 5952) (E 6048) (E 6528) (E 6624) (E 6720)) (fun _ _ _ _ _ => rfl) ?_
 intro n j E M m I i
 refine sq_ok (fun (j : X15) E => j (E 576) (E 1056) (E 1152) (E 1248) (E 5856) (E 5952) (E 6048) (E 6528) (E 6624) (E 6720) (E 6816)) ?_ ?_
 intro E M m I i
 refine sq_ok (fun (j : X14) E => j (E 576) (E 1056) (E 1152) (E 1248) (E 5856) (E 5952) (E 6048) (E 6528) (E 6624) (E 6720)) ?_ ?_
 intro E M m I i
 refine sq_ok (fun (j : X14) E => j (E 576) (E 1056) (E 1152) (E 1248) (E 5856) (E 5952) (E 6048) (E 6528) (E 6624) (E 6720)) ?_ ?_
 intro E M m I i
 kernel_rfl
 intro j
 refine bl_ok ?_
 refine sq_ok (fun (j : X15) E => j (E 576) (E 1056) (E 1152) (E 1248) (E 1536) (E 5856) (E 5952) (E 6048) (E 6528) (E 6624) (E 6720)) ?_ ?_
 intro E M m I i
 refine sq_ok (fun (j : X15) E => j (E 576) (E 1056) (E 1152) (E 1248) (E 1632) (E 5856) (E 5952) (E 6048) (E 6528) (E 6624) (E 6720)) ?_ ?_
 intro E M m I i
 refine sq_ok (fun (j : X15) E => j (E 576) (E 1056) (E 1152) (E 1248) (E 1632) (E 5856) (E 5952) (E 6048) (E 6528) (E 6624) (E 6720)) ?_ ?_
 intro E M m I i
 refine sq_ok (fun (j : X16) E => j (E 576) (E 1056) (E 1152) (E 1248) (E 1632) (E 1728) (E 5856) (E 5952) (E 6048) (E 6528) (E 6624) (E 6720)) ?_ ?_
 intro E M m I i
 refine sq_ok (fun (j : X15) E => j (E 576) (E 1056) (E 1152) (E 1248) (E 1728) (E 5856) (E 5952) (E 6048) (E 6528) (E 6624) (E 6720)) ?_ ?_
 intro E M m I i
 kernel_rfl
 intro j
 refine sq_ok (fun (j : X16) E => j (E 576) (E 1056) (E 1152) (E 1248) (E 1728) (E 1824) (E 5856) (E 5952) (E 6048) (E 6528) (E 6624) (E 6720)) ?_ ?_
 intro E M m I i
 refine bl_ok ?_
 refine lo_ok (fun (j : X16) E => j (E 576) (E 1056) (E 1152) (E 1248) (E 1728) (E 1824) (E 5856) (E 5952) (E 6048) (E 6528) (E 6624) (E 6720)) (fun _ _ _ _ _ => rfl) ?_
 intro n j E M m I i
 kernel_rfl
 intro j
 kernel_rfl
 intro j
 kernel_rfl
 intro j
 kernel_rfl
 intro j
 kernel_rfl
 intro j
 kernel_rfl
 intro j
 kernel_rfl
 intro j
 kernel_rfl
 intro j
 kernel_rfl
 intro j
 kernel_rfl
 intro j
 kernel_rfl
 intro j
 kernel_rfl
 intro j
 kernel_rfl
 intro j
 kernel_rfl
 intro j
 kernel_rfl
 intro j
 refine sq_ok (fun (j : X9) E => j (E 384) (E 576) (E 2688) (E 2784) (E 2880)) ?_ ?_
 intro E M m I i
 refine bl_ok ?_
 refine lo_ok (fun (j : X9) E => j (E 384) (E 576) (E 2688) (E 2784) (E 2880)) (fun _ _ _ _ _ => rfl) ?_
 intro n j E M m I i
 refine sq_ok (fun (j : X10) E => j (E 384) (E 576) (E 2688) (E 2784) (E 2880) (E 2976)) ?_ ?_
 intro E M m I i
 refine sq_ok (fun (j : X9) E => j (E 384) (E 576) (E 2688) (E 2784) (E 2880)) ?_ ?_
 intro E M m I i
 refine sq_ok (fun (j : X9) E => j (E 384) (E 576) (E 2688) (E 2784) (E 2880)) ?_ ?_
 intro E M m I i
 kernel_rfl
 intro j
 refine bl_ok ?_
 refine sq_ok (fun (j : X11) E => j (E 384) (E 576) (E 672) (E 768) (E 2688) (E 2784) (E 2880)) ?_ ?_
 intro E M m I i
 refine sq_ok (fun (j : X14) E => j (E 384) (E 576) (E 672) (E 768) (E 2688) (E 2784) (E 2880) (E 3360) (E 3456) (E 3552)) ?_ ?_
 intro E M m I i
 refine bl_ok ?_
 refine lo_ok (fun (j : X14) E => j (E 384) (E 576) (E 672) (E 768) (E 2688) (E 2784) (E 2880) (E 3360) (E 3456) (E 3552)) (fun _ _ _ _ _ => rfl) ?_
 intro n j E M m I i
 kernel_rfl
 intro j
 kernel_rfl
 intro j
 kernel_rfl
 intro j
 kernel_rfl
 intro j
 kernel_rfl
 intro j
 kernel_rfl
 intro j
 kernel_rfl
 intro j
 kernel_rfl
 intro j
 kernel_rfl
 intro j
 kernel_rfl
theorem e15 : FOkS Tryz.prog 243 15 g15 := fok1 fun call t0 M m I i kf => by
 refine top_ok Tryz.func15 rfl rfl ?_
 refine sq_ok (fun (j : X6) E => j (E 96) (E 192)) ?_ ?_
 intro E M m I i
 refine sq_ok (fun (j : X6) E => j (E 96) (E 192)) ?_ ?_
 intro E M m I i
 refine sq_ok (fun (j : X6) E => j (E 96) (E 192)) ?_ ?_
 intro E M m I i
 refine sq_ok (fun (j : X6) E => j (E 96) (E 192)) ?_ ?_
 intro E M m I i
 refine sq_ok (fun (j : X7) E => j (E 96) (E 192) (E 576)) ?_ ?_
 intro E M m I i
 refine sq_ok (fun (j : X6) E => j (E 192) (E 576)) ?_ ?_
 intro E M m I i
 kernel_rfl
 intro j
 refine sq_ok (fun (j : X8) E => j (E 96) (E 192) (E 576) (E 672)) ?_ ?_
 intro E M m I i
 refine bl_ok ?_
 refine lo_ok (fun (j : X8) E => j (E 96) (E 192) (E 576) (E 672)) (fun _ _ _ _ _ => rfl) ?_
 intro n j E M m I i
 refine sq_ok (fun (j : X8) E => j (E 96) (E 192) (E 576) (E 672)) ?_ ?_
 intro E M m I i
 refine sq_ok (fun (j : X8) E => j (E 96) (E 192) (E 576) (E 672)) ?_ ?_
 intro E M m I i
 kernel_rfl
 intro j
 refine bl_ok ?_
 refine sq_ok (fun (j : X10) E => j (E 96) (E 192) (E 576) (E 672) (E 768) (E 864)) ?_ ?_
 intro E M m I i
 refine sq_ok (fun (j : X9) E => j (E 96) (E 192) (E 576) (E 672) (E 768)) ?_ ?_
 intro E M m I i
 refine sq_ok (fun (j : X8) E => j (E 96) (E 192) (E 576) (E 672)) ?_ ?_
 intro E M m I i
 refine sq_ok (fun (j : X9) E => j (E 96) (E 192) (E 576) (E 672) (E 960)) ?_ ?_
 intro E M m I i
 refine sq_ok (fun (j : X11) E => j (E 96) (E 192) (E 576) (E 672) (E 960) (E 6048) (E 6144)) ?_ ?_
 intro E M m I i
 refine bl_ok ?_
 refine lo_ok (fun (j : X11) E => j (E 96) (E 192) (E 576) (E 672) (E 960) (E 6048) (E 6144)) (fun _ _ _ _ _ => rfl) ?_
 intro n j E M m I i
 kernel_rfl
 intro j
 kernel_rfl
 intro j
 kernel_rfl
 intro j
 kernel_rfl
 intro j
 kernel_rfl
 intro j
 kernel_rfl
 intro j
 kernel_rfl
 intro j
 kernel_rfl
 intro j
 kernel_rfl
 intro j
 kernel_rfl
 intro j
 kernel_rfl
 intro j
 kernel_rfl
 intro j
 kernel_rfl
theorem e78 : FOkS Tryz.prog 243 78 g78 := fok1 fun call t0 M m I i kf => by
 refine top_ok Tryz.func78 rfl rfl ?_
 refine sq_ok (fun (j : X5) E => j (E 96)) ?_ ?_
 intro E M m I i
 refine sq_ok (fun (j : X6) E => j (E 96) (E 288)) ?_ ?_
 intro E M m I i
 refine sq_ok (fun (j : X5) E => j (E 288)) ?_ ?_
 intro E M m I i
 kernel_rfl
 intro j
 refine sq_ok (fun (j : X8) E => j (E 288) (E 960) (E 1056) (E 1152)) ?_ ?_
 intro E M m I i
 refine bl_ok ?_
 refine lo_ok (fun (j : X8) E => j (E 288) (E 960) (E 1056) (E 1152)) (fun _ _ _ _ _ => rfl) ?_
 intro n j E M m I i
 kernel_rfl
 intro j
 kernel_rfl
 intro j
 kernel_rfl
 intro j
 kernel_rfl
theorem e131 : FOkS Tryz.prog 243 131 g131 := fok2 fun call t0 t1 M m I i kf => by
 refine top_ok Tryz.func131 rfl rfl ?_
 refine sq_ok (fun (j : X7) E => j (E 96) (E 192) (E 384)) ?_ ?_
 intro E M m I i
 refine sq_ok (fun (j : X7) E => j (E 96) (E 192) (E 384)) ?_ ?_
 intro E M m I i
 refine sq_ok (fun (j : X8) E => j (E 96) (E 192) (E 384) (E 576)) ?_ ?_
 intro E M m I i
 refine sq_ok (fun (j : X8) E => j (E 96) (E 192) (E 384) (E 576)) ?_ ?_
 intro E M m I i
 kernel_rfl
 intro j
 kernel_rfl
 intro j
 kernel_rfl
 intro j
 kernel_rfl
 intro j
 kernel_rfl
theorem e291 : FOkS Tryz.prog 243 291 g291 := fok5 fun call t0 t1 t2 t3 t4 M m I i kf => by
 refine top_ok Tryz.func291 rfl rfl ?_
 refine sq_ok (fun (j : X10) E => j (E 0) (E 96) (E 192) (E 288) (E 384) (E 960)) ?_ ?_
 intro E M m I i
 refine sq_ok (fun (j : X11) E => j (E 0) (E 96) (E 192) (E 288) (E 384) (E 960) (E 1056)) ?_ ?_
 intro E M m I i
 refine bl_ok ?_
 refine lo_ok (fun (j : X11) E => j (E 0) (E 96) (E 192) (E 288) (E 384) (E 960) (E 1056)) (fun _ _ _ _ _ => rfl) ?_
 intro n j E M m I i
 refine bl_ok ?_
 refine sq_ok (fun (j : X12) E => j (E 0) (E 96) (E 192) (E 288) (E 384) (E 960) (E 1056) (E 1152)) ?_ ?_
 intro E M m I i
 refine sq_ok (fun (j : X12) E => j (E 0) (E 96) (E 192) (E 288) (E 384) (E 960) (E 1056) (E 1152)) ?_ ?_
 intro E M m I i
 refine sq_ok (fun (j : X12) E => j (E 0) (E 96) (E 192) (E 288) (E 384) (E 960) (E 1056) (E 1152)) ?_ ?_
 intro E M m I i
 refine sq_ok (fun (j : X12) E => j (E 0) (E 96) (E 192) (E 288) (E 384) (E 960) (E 1056) (E 1152)) ?_ ?_
 intro E M m I i
 refine sq_ok (fun (j : X14) E => j (E 0) (E 96) (E 192) (E 288) (E 384) (E 960) (E 1056) (E 1152) (E 1248) (E 1344)) ?_ ?_
 intro E M m I i
 refine sq_ok (fun (j : X14) E => j (E 0) (E 96) (E 192) (E 288) (E 384) (E 960) (E 1056) (E 1152) (E 1248) (E 1344)) ?_ ?_
 intro E M m I i
 refine sq_ok (fun (j : X13) E => j (E 0) (E 96) (E 192) (E 288) (E 384) (E 960) (E 1056) (E 1152) (E 1248)) ?_ ?_
 intro E M m I i
 kernel_rfl
 intro j
 kernel_rfl
 intro j
 kernel_rfl
 intro j
 kernel_rfl
 intro j
 kernel_rfl
 intro j
 kernel_rfl
 intro j
 kernel_rfl
 intro j
 kernel_rfl
 intro j
 kernel_rfl
 intro j
 kernel_rfl
theorem e189 : FOkS Tryz.prog 243 189 g189 := fok2 fun call t0 t1 M m I i kf => by
 refine top_ok Tryz.func189 rfl rfl ?_
 kernel_rfl
theorem e146 : FOkS Tryz.prog 243 146 g146 := fok2 fun call t0 t1 M m I i kf => by
 refine top_ok Tryz.func146 rfl rfl ?_
 kernel_rfl
theorem e208 : FOkS Tryz.prog 243 208 g208 := fok2 fun call t0 t1 M m I i kf => by
 refine top_ok Tryz.func208 rfl rfl ?_
 refine sq_ok (fun (j : X6) E => j (E 96) (E 192)) ?_ ?_
 intro E M m I i
 refine sq_ok (fun (j : X6) E => j (E 96) (E 192)) ?_ ?_
 intro E M m I i
 refine sq_ok (fun (j : X4) _ => j) ?_ ?_
 intro E M m I i
 kernel_rfl
 intro j
 refine sq_ok (fun (j : X8) E => j (E 96) (E 1728) (E 1824) (E 1920)) ?_ ?_
 intro E M m I i
 refine bl_ok ?_
 refine lo_ok (fun (j : X8) E => j (E 96) (E 1728) (E 1824) (E 1920)) (fun _ _ _ _ _ => rfl) ?_
 intro n j E M m I i
 kernel_rfl
 intro j
 kernel_rfl
 intro j
 kernel_rfl
 intro j
 kernel_rfl
theorem e91 : FOkS Tryz.prog 243 91 g91 := fok2 fun call t0 t1 M m I i kf => by
 refine top_ok Tryz.func91 rfl rfl ?_
 kernel_rfl
theorem e49 : FOkS Tryz.prog 243 49 g49 := fok2 fun call t0 t1 M m I i kf => by
 refine top_ok Tryz.func49 rfl rfl ?_
 refine sq_ok (fun (j : X6) E => j (E 0) (E 96)) ?_ ?_
 intro E M m I i
 refine sq_ok (fun (j : X7) E => j (E 0) (E 96) (E 576)) ?_ ?_
 intro E M m I i
 refine sq_ok (fun (j : X8) E => j (E 0) (E 96) (E 576) (E 672)) ?_ ?_
 intro E M m I i
 refine sq_ok (fun (j : X8) E => j (E 0) (E 96) (E 576) (E 672)) ?_ ?_
 intro E M m I i
 refine sq_ok (fun (j : X8) E => j (E 0) (E 96) (E 576) (E 672)) ?_ ?_
 intro E M m I i
 refine sq_ok (fun (j : X9) E => j (E 0) (E 96) (E 576) (E 672) (E 864)) ?_ ?_
 intro E M m I i
 refine sq_ok (fun (j : X8) E => j (E 0) (E 96) (E 576) (E 864)) ?_ ?_
 intro E M m I i
 kernel_rfl
 intro j
 refine sq_ok (fun (j : X12) E => j (E 0) (E 96) (E 576) (E 672) (E 864) (E 4416) (E 4512) (E 4608)) ?_ ?_
 intro E M m I i
 refine bl_ok ?_
 refine lo_ok (fun (j : X12) E => j (E 0) (E 96) (E 576) (E 672) (E 864) (E 4416) (E 4512) (E 4608)) (fun _ _ _ _ _ => rfl) ?_
 intro n j E M m I i
 kernel_rfl
 intro j
 kernel_rfl
 intro j
 kernel_rfl
 intro j
 kernel_rfl
 intro j
 kernel_rfl
 intro j
 kernel_rfl
 intro j
 kernel_rfl
 intro j
 kernel_rfl
theorem e172 : FOkS Tryz.prog 243 172 g172 := fok1 fun call t0 M m I i kf => by
 refine top_ok Tryz.func172 rfl rfl ?_
 kernel_rfl
theorem e170 : FOkS Tryz.prog 243 170 g170 := fok3 fun call t0 t1 t2 M m I i kf => by
 refine top_ok Tryz.func170 rfl rfl ?_
 kernel_rfl
theorem e99 : FOkS Tryz.prog 243 99 g99 := fok1 fun call t0 M m I i kf => by
 refine top_ok Tryz.func99 rfl rfl ?_
 refine sq_ok (fun (j : X5) E => j (E 96)) ?_ ?_
 intro E M m I i
 refine sq_ok (fun (j : X5) E => j (E 96)) ?_ ?_
 intro E M m I i
 refine sq_ok (fun (j : X7) E => j (E 96) (E 480) (E 576)) ?_ ?_
 intro E M m I i
 refine sq_ok (fun (j : X6) E => j (E 96) (E 480)) ?_ ?_
 intro E M m I i
 refine sq_ok (fun (j : X7) E => j (E 96) (E 480) (E 672)) ?_ ?_
 intro E M m I i
 refine sq_ok (fun (j : X5) E => j (E 672)) ?_ ?_
 intro E M m I i
 kernel_rfl
 intro j
 refine sq_ok (fun (j : X9) E => j (E 96) (E 672) (E 2496) (E 2592) (E 2688)) ?_ ?_
 intro E M m I i
 refine bl_ok ?_
 refine lo_ok (fun (j : X9) E => j (E 96) (E 672) (E 2496) (E 2592) (E 2688)) (fun _ _ _ _ _ => rfl) ?_
 intro n j E M m I i
 kernel_rfl
 intro j
 kernel_rfl
 intro j
 kernel_rfl
 intro j
 kernel_rfl
 intro j
 kernel_rfl
 intro j
 kernel_rfl
 intro j
 kernel_rfl
theorem e149 : FOkS Tryz.prog 243 149 g149 := fok2 fun call t0 t1 M m I i kf => by
 refine top_ok Tryz.func149 rfl rfl ?_
 refine sq_ok (fun (j : X6) E => j (E 0) (E 96)) ?_ ?_
 intro E M m I i
 refine sq_ok (fun (j : X4) _ => j) ?_ ?_
 intro E M m I i
 kernel_rfl
 intro j
 refine sq_ok (fun (j : X8) E => j (E 0) (E 96) (E 672) (E 768)) ?_ ?_
 intro E M m I i
 refine bl_ok ?_
 refine lo_ok (fun (j : X8) E => j (E 0) (E 96) (E 672) (E 768)) (fun _ _ _ _ _ => rfl) ?_
 intro n j E M m I i
 kernel_rfl
 intro j
 kernel_rfl
 intro j
 kernel_rfl
theorem e108 : FOkS Tryz.prog 243 108 g108 := fok1 fun call t0 M m I i kf => by
 refine top_ok Tryz.func108 rfl rfl ?_
 refine sq_ok (fun (j : X5) E => j (E 0)) ?_ ?_
 intro E M m I i
 refine sq_ok (fun (j : X5) E => j (E 0)) ?_ ?_
 intro E M m I i
 refine sq_ok (fun (j : X6) E => j (E 0) (E 288)) ?_ ?_
 intro E M m I i
 refine sq_ok (fun (j : X5) E => j (E 288)) ?_ ?_
 intro E M m I i
 kernel_rfl
 intro j
 refine sq_ok (fun (j : X9) E => j (E 0) (E 288) (E 1728) (E 1824) (E 1920)) ?_ ?_
 intro E M m I i
 refine bl_ok ?_
 refine lo_ok (fun (j : X9) E => j (E 0) (E 288) (E 1728) (E 1824) (E 1920)) (fun _ _ _ _ _ => rfl) ?_
 intro n j E M m I i
 kernel_rfl
 intro j
 kernel_rfl
 intro j
 kernel_rfl
 intro j
 kernel_rfl
 intro j
 kernel_rfl
theorem e283 : FOkS Tryz.prog 243 283 g283 := fok1 fun call t0 M m I i kf => by
 refine top_ok Tryz.func283 rfl rfl ?_
 kernel_rfl
theorem e250 : FOkS Tryz.prog 243 250 g250 := fok1 fun call t0 M m I i kf => by
 refine top_ok Tryz.func250 rfl rfl ?_
 kernel_rfl
theorem e20 : FOkS Tryz.prog 243 20 g20 := fok1 fun call t0 M m I i kf => by
 refine top_ok Tryz.func20 rfl rfl ?_
 kernel_rfl
end Go.Proofs.YtpjhkpmmbeoghaaGreatDoor.Ev
set_option maxRecDepth 100000
set_option linter.unusedVariables false
namespace Go.Proofs.YtpjhkpmmbeoghaaGreatDoor.Ev
open Go
open Go.Proofs
theorem e156 : FOkS Tryz.prog 243 156 g156 := fok2 fun call t0 t1 M m I i kf => by
 refine top_ok Tryz.func156 rfl rfl ?_
 refine sq_ok (fun (j : X6) E => j (E 0) (E 96)) ?_ ?_
 intro E M m I i
 refine sc_ok ?_
 refine sq_ok (fun (j : X7) E => j (E 0) (E 96) (E 576)) ?_ ?_
 intro E M m I i
 refine sq_ok (fun (j : X8) E => j (E 0) (E 96) (E 576) (E 672)) ?_ ?_
 intro E M m I i
 refine sq_ok (fun (j : X9) E => j (E 0) (E 96) (E 576) (E 672) (E 768)) ?_ ?_
 intro E M m I i
 refine sq_ok (fun (j : X11) E => j (E 0) (E 96) (E 576) (E 672) (E 768) (E 864) (E 960)) ?_ ?_
 intro E M m I i
 refine sq_ok (fun (j : X10) E => j (E 0) (E 576) (E 672) (E 768) (E 864) (E 960)) ?_ ?_
 intro E M m I i
 refine sq_ok (fun (j : X10) E => j (E 0) (E 576) (E 672) (E 768) (E 864) (E 960)) ?_ ?_
 intro E M m I i
 refine sq_ok (fun (j : X6) E => j (E 576) (E 864)) ?_ ?_
 intro E M m I i
 kernel_rfl
 intro j
 refine bl_ok ?_
 refine lo_ok (fun (j : X10) E => j (E 0) (E 576) (E 672) (E 768) (E 864) (E 960)) (fun _ _ _ _ _ => rfl) ?_
 intro n j E M m I i
 refine sq_ok (fun (j : X10) E => j (E 0) (E 576) (E 672) (E 768) (E 864) (E 960)) ?_ ?_
 intro E M m I i
 refine bl_ok ?_
 refine sq_ok (fun (j : X11) E => j (E 0) (E 576) (E 672) (E 768) (E 864) (E 960) (E 1056)) ?_ ?_
 intro E M m I i
 refine sq_ok (fun (j : X10) E => j (E 0) (E 576) (E 672) (E 768) (E 864) (E 960)) ?_ ?_
 intro E M m I i
 kernel_rfl
 intro j
 refine bl_ok ?_
 refine lo_ok (fun (j : X11) E => j (E 0) (E 576) (E 672) (E 768) (E 864) (E 960) (E 1056)) (fun _ _ _ _ _ => rfl) ?_
 intro n j E M m I i
 refine sq_ok (fun (j : X11) E => j (E 0) (E 576) (E 672) (E 768) (E 864) (E 960) (E 1056)) ?_ ?_
 intro E M m I i
 kernel_rfl
 intro j
 kernel_rfl
 intro j
 kernel_rfl
 intro j
 kernel_rfl
 intro j
 kernel_rfl
 intro j
 kernel_rfl
 intro j
 kernel_rfl
 intro j
 kernel_rfl
 intro j
 kernel_rfl
 intro j
 kernel_rfl
 intro j
 kernel_rfl
theorem e157 : FOkS Tryz.prog 243 157 g157 := fok1 fun call t0 M m I i kf => by
 refine top_ok Tryz.func157 rfl rfl ?_
 refine sq_ok (fun (j : X5) E => j (E 96)) ?_ ?_
 intro E M m I i
 refine sq_ok (fun (j : X5) E => j (E 96)) ?_ ?_
 intro E M m I i
 refine sq_ok (fun (j : X6) E => j (E 96) (E 480)) ?_ ?_
 intro E M m I i
 refine sq_ok (fun (j : X7) E => j (E 96) (E 480) (E 576)) ?_ ?_
 intro E M m I i
 refine sq_ok (fun (j : X7) E => j (E 96) (E 480) (E 576)) ?_ ?_
 intro E M m I i
 refine sq_ok (fun (j : X6) E => j (E 480) (E 576)) ?_ ?_
 intro E M m I i
 refine sq_ok (fun (j : X6) E => j (E 480) (E 576)) ?_ ?_
 intro E M m I i
 kernel_rfl
 intro j
 refine sq_ok (fun (j : X7) E => j (E 480) (E 576) (E 12576)) ?_ ?_
 intro E M m I i
 refine bl_ok ?_
 refine rf_ok 132 133 (by kernel_rfl) rfl (by kernel_rfl) ?_ ?_
 intro iw v M m I i k
 kernel_rfl
 intro M m I i
 kernel_rfl
 intro j
 kernel_rfl
 intro j
 refine sq_ok (fun (j : X9) E => j (E 480) (E 576) (E 7200) (E 7296) (E 7392)) ?_ ?_
 intro E M m I i
 refine bl_ok ?_
 refine lo_ok (fun (j : X9) E => j (E 480) (E 576) (E 7200) (E 7296) (E 7392)) (fun _ _ _ _ _ => rfl) ?_
 intro n j E M m I i
 refine sq_ok (fun (j : X10) E => j (E 480) (E 576) (E 7200) (E 7296) (E 7392) (E 7488)) ?_ ?_
 intro E M m I i
 refine sq_ok (fun (j : X9) E => j (E 480) (E 576) (E 7200) (E 7296) (E 7392)) ?_ ?_
 intro E M m I i
 refine sq_ok (fun (j : X9) E => j (E 480) (E 576) (E 7200) (E 7296) (E 7392)) ?_ ?_
 intro E M m I i
 kernel_rfl
 intro j
 refine bl_ok ?_
 refine sq_ok (fun (j : X10) E => j (E 480) (E 576) (E 1344) (E 7200) (E 7296) (E 7392)) ?_ ?_
 intro E M m I i
 refine sq_ok (fun (j : X12) E => j (E 480) (E 576) (E 1344) (E 1440) (E 1536) (E 7200) (E 7296) (E 7392)) ?_ ?_
 intro E M m I i
 refine sq_ok (fun (j : X11) E => j (E 480) (E 576) (E 1440) (E 1536) (E 7200) (E 7296) (E 7392)) ?_ ?_
 intro E M m I i
 kernel_rfl
 intro j
 kernel_rfl
 intro j
 kernel_rfl
 intro j
 kernel_rfl
 intro j
 kernel_rfl
 intro j
 kernel_rfl
 intro j
 kernel_rfl
 intro j
 refine sq_ok (fun (j : X9) E => j (E 96) (E 480) (E 576) (E 2880) (E 2976)) ?_ ?_
 intro E M m I i
 refine bl_ok ?_
 refine lo_ok (fun (j : X9) E => j (E 96) (E 480) (E 576) (E 2880) (E 2976)) (fun _ _ _ _ _ => rfl) ?_
 intro n j E M m I i
 refine sq_ok (fun (j : X10) E => j (E 96) (E 480) (E 576) (E 2880) (E 2976) (E 3072)) ?_ ?_
 intro E M m I i
 refine sq_ok (fun (j : X9) E => j (E 96) (E 480) (E 576) (E 2880) (E 2976)) ?_ ?_
 intro E M m I i
 refine sq_ok (fun (j : X9) E => j (E 96) (E 480) (E 576) (E 2880) (E 2976)) ?_ ?_
 intro E M m I i
 kernel_rfl
 intro j
 refine bl_ok ?_
 refine sq_ok (fun (j : X10) E => j (E 96) (E 480) (E 576) (E 672) (E 2880) (E 2976)) ?_ ?_
 intro E M m I i
 refine sq_ok (fun (j : X10) E => j (E 96) (E 480) (E 576) (E 672) (E 2880) (E 2976)) ?_ ?_
 intro E M m I i
 refine sq_ok (fun (j : X12) E => j (E 96) (E 480) (E 576) (E 768) (E 864) (E 960) (E 2880) (E 2976)) ?_ ?_
 intro E M m I i
 refine sq_ok (fun (j : X11) E => j (E 96) (E 480) (E 576) (E 768) (E 864) (E 2880) (E 2976)) ?_ ?_
 intro E M m I i
 refine sq_ok (fun (j : X13) E => j (E 96) (E 480) (E 576) (E 864) (E 2880) (E 2976) (E 4800) (E 4896) (E 4992)) ?_ ?_
 intro E M m I i
 refine bl_ok ?_
 refine lo_ok (fun (j : X13) E => j (E 96) (E 480) (E 576) (E 864) (E 2880) (E 2976) (E 4800) (E 4896) (E 4992)) (fun _ _ _ _ _ => rfl) ?_
 intro n j E M m I i
 kernel_rfl
 intro j
 kernel_rfl
 intro j
 kernel_rfl
 intro j
 kernel_rfl
 intro j
 kernel_rfl
 intro j
 kernel_rfl
 intro j
 kernel_rfl
 intro j
 kernel_rfl
 intro j
 kernel_rfl
 intro j
 kernel_rfl
 intro j
 kernel_rfl
 intro j
 kernel_rfl
 intro j
 kernel_rfl
theorem e232 : FOkS Tryz.prog 243 232 g232 := fok2 fun call t0 t1 M m I i kf => by
 refine top_ok Tryz.func232 rfl rfl ?_
 kernel_rfl
theorem e36 : FOkS Tryz.prog 243 36 g36 := fok2 fun call t0 t1 M m I i kf => by
 refine top_ok Tryz.func36 rfl rfl ?_
 kernel_rfl
theorem e197 : FOkS Tryz.prog 243 197 g197 := fok4 fun call t0 t1 t2 t3 M m I i kf => by
 refine top_ok Tryz.func197 rfl rfl ?_
 refine sq_ok (fun (j : X9) E => j (E 0) (E 96) (E 192) (E 288) (E 768)) ?_ ?_
 intro E M m I i
 refine sq_ok (fun (j : X10) E => j (E 0) (E 96) (E 192) (E 288) (E 768) (E 864)) ?_ ?_
 intro E M m I i
 refine bl_ok ?_
 refine lo_ok (fun (j : X10) E => j (E 0) (E 96) (E 192) (E 288) (E 768) (E 864)) (fun _ _ _ _ _ => rfl) ?_
 intro n j E M m I i
 refine bl_ok ?_
 refine sq_ok (fun (j : X11) E => j (E 0) (E 96) (E 192) (E 288) (E 768) (E 864) (E 960)) ?_ ?_
 intro E M m I i
 refine sq_ok (fun (j : X11) E => j (E 0) (E 96) (E 192) (E 288) (E 768) (E 864) (E 960)) ?_ ?_
 intro E M m I i
 refine sq_ok (fun (j : X11) E => j (E 0) (E 96) (E 192) (E 288) (E 768) (E 864) (E 960)) ?_ ?_
 intro E M m I i
 refine sq_ok (fun (j : X11) E => j (E 0) (E 96) (E 192) (E 288) (E 768) (E 864) (E 960)) ?_ ?_
 intro E M m I i
 refine sq_ok (fun (j : X13) E => j (E 0) (E 96) (E 192) (E 288) (E 768) (E 864) (E 960) (E 1056) (E 1152)) ?_ ?_
 intro E M m I i
 refine sq_ok (fun (j : X13) E => j (E 0) (E 96) (E 192) (E 288) (E 768) (E 864) (E 960) (E 1056) (E 1152)) ?_ ?_
 intro E M m I i
 refine sq_ok (fun (j : X12) E => j (E 0) (E 96) (E 192) (E 288) (E 768) (E 864) (E 960) (E 1056)) ?_ ?_
 intro E M m I i
 kernel_rfl
 intro j
 kernel_rfl
 intro j
 kernel_rfl
 intro j
 kernel_rfl
 intro j
 kernel_rfl
 intro j
 kernel_rfl
 intro j
 kernel_rfl
 intro j
 kernel_rfl
 intro j
 kernel_rfl
 intro j
 kernel_rfl
theorem e140 : FOkS Tryz.prog 243 140 g140 := fok1 fun call t0 M m I i kf => by
 refine top_ok Tryz.func140 rfl rfl ?_
 kernel_rfl
theorem e130 : FOkS Tryz.prog 243 130 g130 := fok2 fun call t0 t1 M m I i kf => by
 refine top_ok Tryz.func130 rfl rfl ?_
 refine sq_ok (fun (j : X6) E => j (E 96) (E 192)) ?_ ?_
 intro E M m I i
 refine sq_ok (fun (j : X7) E => j (E 96) (E 192) (E 480)) ?_ ?_
 intro E M m I i
 refine sq_ok (fun (j : X8) E => j (E 96) (E 192) (E 480) (E 576)) ?_ ?_
 intro E M m I i
 refine sq_ok (fun (j : X9) E => j (E 96) (E 192) (E 480) (E 576) (E 672)) ?_ ?_
 intro E M m I i
 refine sq_ok (fun (j : X8) E => j (E 192) (E 480) (E 576) (E 672)) ?_ ?_
 intro E M m I i
 refine sq_ok (fun (j : X5) E => j (E 480)) ?_ ?_
 intro E M m I i
 kernel_rfl
 intro j
 refine sq_ok (fun (j : X10) E => j (E 480) (E 576) (E 672) (E 6240) (E 6336) (E 6432)) ?_ ?_
 intro E M m I i
 refine bl_ok ?_
 refine lo_ok (fun (j : X10) E => j (E 480) (E 576) (E 672) (E 6240) (E 6336) (E 6432)) (fun _ _ _ _ _ => rfl) ?_
 intro n j E M m I i
 kernel_rfl
 intro j
 kernel_rfl
 intro j
 refine sq_ok (fun (j : X12) E => j (E 96) (E 192) (E 480) (E 576) (E 672) (E 2208) (E 2304) (E 2400)) ?_ ?_
 intro E M m I i
 refine bl_ok ?_
 refine lo_ok (fun (j : X12) E => j (E 96) (E 192) (E 480) (E 576) (E 672) (E 2208) (E 2304) (E 2400)) (fun _ _ _ _ _ => rfl) ?_
 intro n j E M m I i
 refine sq_ok (fun (j : X13) E => j (E 96) (E 192) (E 480) (E 576) (E 672) (E 2208) (E 2304) (E 2400) (E 2496)) ?_ ?_
 intro E M m I i
 refine sq_ok (fun (j : X12) E => j (E 96) (E 192) (E 480) (E 576) (E 672) (E 2208) (E 2304) (E 2400)) ?_ ?_
 intro E M m I i
 refine sq_ok (fun (j : X12) E => j (E 96) (E 192) (E 480) (E 576) (E 672) (E 2208) (E 2304) (E 2400)) ?_ ?_
 intro E M m I i
 kernel_rfl
 intro j
 refine bl_ok ?_
 refine sq_ok (fun (j : X14) E => j (E 96) (E 192) (E 480) (E 576) (E 672) (E 768) (E 864) (E 2208) (E 2304) (E 2400)) ?_ ?_
 intro E M m I i
 refine sq_ok (fun (j : X15) E => j (E 96) (E 192) (E 480) (E 576) (E 672) (E 768) (E 864) (E 960) (E 2208) (E 2304) (E 2400)) ?_ ?_
 intro E M m I i
 refine sq_ok (fun (j : X13) E => j (E 96) (E 192) (E 480) (E 576) (E 672) (E 960) (E 2208) (E 2304) (E 2400)) ?_ ?_
 intro E M m I i
 kernel_rfl
 intro j
 refine sq_ok (fun (j : X17) E => j (E 96) (E 192) (E 480) (E 576) (E 672) (E 768) (E 960) (E 2208) (E 2304) (E 2400) (E 3360) (E 3456) (E 3552)) ?_ ?_
 intro E M m I i
 refine bl_ok ?_
 refine lo_ok (fun (j : X17) E => j (E 96) (E 192) (E 480) (E 576) (E 672) (E 768) (E 960) (E 2208) (E 2304) (E 2400) (E 3360) (E 3456) (E 3552)) (fun _ _ _ _ _ => rfl) ?_
 intro n j E M m I i
 kernel_rfl
 intro j
 kernel_rfl
 intro j
 kernel_rfl
 intro j
 kernel_rfl
 intro j
 kernel_rfl
 intro j
 kernel_rfl
 intro j
 kernel_rfl
 intro j
 kernel_rfl
 intro j
 kernel_rfl
 intro j
 kernel_rfl
 intro j
 kernel_rfl
theorem e219 : FOkS Tryz.prog 243 219 g219 := fok1 fun call t0 M m I i kf => by
 refine top_ok Tryz.func219 rfl rfl ?_
 refine sq_ok (fun (j : X6) E => j (E 96) (E 192)) ?_ ?_
 intro E M m I i
 refine sq_ok (fun (j : X6) E => j (E 96) (E 192)) ?_ ?_
 intro E M m I i
 refine sq_ok (fun (j : X6) E => j (E 96) (E 192)) ?_ ?_
 intro E M m I i
 refine sq_ok (fun (j : X8) E => j (E 96) (E 192) (E 384) (E 480)) ?_ ?_
 intro E M m I i
 refine sq_ok (fun (j : X7) E => j (E 96) (E 192) (E 384)) ?_ ?_
 intro E M m I i
 refine sq_ok (fun (j : X9) E => j (E 96) (E 192) (E 384) (E 480) (E 576)) ?_ ?_
 intro E M m I i
 refine sq_ok (fun (j : X8) E => j (E 96) (E 192) (E 384) (E 576)) ?_ ?_
 intro E M m I i
 refine sq_ok (fun (j : X9) E => j (E 96) (E 192) (E 384) (E 576) (E 672)) ?_ ?_
 intro E M m I i
 refine sq_ok (fun (j : X8) E => j (E 192) (E 384) (E 576) (E 672)) ?_ ?_
 intro E M m I i
 kernel_rfl
 intro j
 refine sq_ok (fun (j : X12) E => j (E 96) (E 192) (E 384) (E 576) (E 672) (E 4704) (E 4800) (E 4896)) ?_ ?_
 intro E M m I i
 refine bl_ok ?_
 refine lo_ok (fun (j : X12) E => j (E 96) (E 192) (E 384) (E 576) (E 672) (E 4704) (E 4800) (E 4896)) (fun _ _ _ _ _ => rfl) ?_
 intro n j E M m I i
 refine sq_ok (fun (j : X13) E => j (E 96) (E 192) (E 384) (E 576) (E 672) (E 4704) (E 4800) (E 4896) (E 4992)) ?_ ?_
 intro E M m I i
 refine sq_ok (fun (j : X12) E => j (E 96) (E 192) (E 384) (E 576) (E 672) (E 4704) (E 4800) (E 4896)) ?_ ?_
 intro E M m I i
 refine sq_ok (fun (j : X12) E => j (E 96) (E 192) (E 384) (E 576) (E 672) (E 4704) (E 4800) (E 4896)) ?_ ?_
 intro E M m I i
 kernel_rfl
 intro j
 refine bl_ok ?_
 refine sq_ok (fun (j : X14) E => j (E 96) (E 192) (E 384) (E 576) (E 672) (E 768) (E 864) (E 4704) (E 4800) (E 4896)) ?_ ?_
 intro E M m I i
 refine sq_ok (fun (j : X15) E => j (E 96) (E 192) (E 384) (E 576) (E 672) (E 768) (E 864) (E 960) (E 4704) (E 4800) (E 4896)) ?_ ?_
 intro E M m I i
 refine sq_ok (fun (j : X14) E => j (E 96) (E 192) (E 384) (E 576) (E 672) (E 768) (E 960) (E 4704) (E 4800) (E 4896)) ?_ ?_
 intro E M m I i
 refine sq_ok (fun (j : X17) E => j (E 96) (E 192) (E 384) (E 576) (E 672) (E 768) (E 960) (E 4704) (E 4800) (E 4896) (E 7104) (E 7200) (E 7296)) ?_ ?_
 intro E M m I i
 refine bl_ok ?_
 refine lo_ok (fun (j : X17) E => j (E 96) (E 192) (E 384) (E 576) (E 672) (E 768) (E 960) (E 4704) (E 4800) (E 4896) (E 7104) (E 7200) (E 7296)) (fun _ _ _ _ _ => rfl) ?_
 intro n j E M m I i
 kernel_rfl
 intro j
 kernel_rfl
 intro j
 refine sq_ok (fun (j : X17) E => j (E 96) (E 192) (E 384) (E 576) (E 672) (E 768) (E 960) (E 4704) (E 4800) (E 4896) (E 5664) (E 5760) (E 5856)) ?_ ?_
 intro E M m I i
 refine bl_ok ?_
 refine lo_ok (fun (j : X17) E => j (E 96) (E 192) (E 384) (E 576) (E 672) (E 768) (E 960) (E 4704) (E 4800) (E 4896) (E 5664) (E 5760) (E 5856)) (fun _ _ _ _ _ => rfl) ?_
 intro n j E M m I i
 kernel_rfl
 intro j
 kernel_rfl
 intro j
 kernel_rfl
 intro j
 kernel_rfl
 intro j
 kernel_rfl
 intro j
 kernel_rfl
 intro j
 kernel_rfl
 intro j
 kernel_rfl
 intro j
 kernel_rfl
 intro j
 kernel_rfl
 intro j
 kernel_rfl
 intro j
 kernel_rfl
 intro j
 kernel_rfl
 intro j
 kernel_rfl
 intro j
 kernel_rfl
theorem e83 : FOkS Tryz.prog 243 83 g83 := fok2 fun call t0 t1 M m I i kf => by
 refine top_ok Tryz.func83 rfl rfl ?_
 refine sq_ok (fun (j : X6) E => j (E 0) (E 96)) ?_ ?_
 intro E M m I i
 refine sq_ok (fun (j : X6) E => j (E 0) (E 96)) ?_ ?_
 intro E M m I i
 refine sq_ok (fun (j : X4) _ => j) ?_ ?_
 intro E M m I i
 kernel_rfl
 intro j
 refine sq_ok (fun (j : X8) E => j (E 0) (E 96) (E 1152) (E 1248)) ?_ ?_
 intro E M m I i
 refine bl_ok ?_
 refine lo_ok (fun (j : X8) E => j (E 0) (E 96) (E 1152) (E 1248)) (fun _ _ _ _ _ => rfl) ?_
 intro n j E M m I i
 kernel_rfl
 intro j
 kernel_rfl
 intro j
 kernel_rfl
 intro j
 kernel_rfl
theorem e155 : FOkS Tryz.prog 243 155 g155 := fok2 fun call t0 t1 M m I i kf => by
 refine top_ok Tryz.func155 rfl rfl ?_
 refine sq_ok (fun (j : X6) E => j (E 96) (E 192)) ?_ ?_
 intro E M m I i
 refine sq_ok (fun (j : X6) E => j (E 96) (E 192)) ?_ ?_
 intro E M m I i
 refine sq_ok (fun (j : X5) E => j (E 192)) ?_ ?_
 intro E M m I i
 kernel_rfl
 intro j
 refine sq_ok (fun (j : X8) E => j (E 192) (E 1056) (E 1152) (E 1248)) ?_ ?_
 intro E M m I i
 refine bl_ok ?_
 refine lo_ok (fun (j : X8) E => j (E 192) (E 1056) (E 1152) (E 1248)) (fun _ _ _ _ _ => rfl) ?_
 intro n j E M m I i
 kernel_rfl
 intro j
 kernel_rfl
 intro j
 kernel_rfl
 intro j
 kernel_rfl
theorem e339 : FOkS Tryz.prog 243 339 g339 := fok2 fun call t0 t1 M m I i kf => by
 refine top_ok Tryz.func339 rfl rfl ?_
 kernel_rfl
theorem e86 : FOkS Tryz.prog 243 86 g86 := fok2 fun call t0 t1 M m I i kf => by
 refine top_ok Tryz.func86 rfl rfl ?_
 refine sq_ok (fun (j : X6) E => j (E 0) (E 96)) ?_ ?_
 intro E M m I i
 refine sq_ok (fun (j : X5) E => j (E 0)) ?_ ?_
 intro E M m I i
 kernel_rfl
 intro j
 refine bl_ok ?_
 refine lo_ok (fun (j : X6) E => j (E 0) (E 96)) (fun _ _ _ _ _ => rfl) ?_
 intro n j E M m I i
 kernel_rfl
 intro j
 kernel_rfl
theorem e71 : FOkS Tryz.prog 243 71 g71 := fok5 fun call t0 t1 t2 t3 t4 M m I i kf => by
 refine top_ok Tryz.func71 rfl rfl ?_
 refine sq_ok (fun (j : X10) E => j (E 0) (E 96) (E 192) (E 288) (E 384) (E 960)) ?_ ?_
 intro E M m I i
 refine sq_ok (fun (j : X11) E => j (E 0) (E 96) (E 192) (E 288) (E 384) (E 960) (E 1056)) ?_ ?_
 intro E M m I i
 refine bl_ok ?_
 refine lo_ok (fun (j : X11) E => j (E 0) (E 96) (E 192) (E 288) (E 384) (E 960) (E 1056)) (fun _ _ _ _ _ => rfl) ?_
 intro n j E M m I i
 refine bl_ok ?_
 refine sq_ok (fun (j : X12) E => j (E 0) (E 96) (E 192) (E 288) (E 384) (E 960) (E 1056) (E 1152)) ?_ ?_
 intro E M m I i
 refine sq_ok (fun (j : X12) E => j (E 0) (E 96) (E 192) (E 288) (E 384) (E 960) (E 1056) (E 1152)) ?_ ?_
 intro E M m I i
 refine sq_ok (fun (j : X12) E => j (E 0) (E 96) (E 192) (E 288) (E 384) (E 960) (E 1056) (E 1152)) ?_ ?_
 intro E M m I i
 refine sq_ok (fun (j : X12) E => j (E 0) (E 96) (E 192) (E 288) (E 384) (E 960) (E 1056) (E 1152)) ?_ ?_
 intro E M m I i
 refine sq_ok (fun (j : X14) E => j (E 0) (E 96) (E 192) (E 288) (E 384) (E 960) (E 1056) (E 1152) (E 1248) (E 1344)) ?_ ?_
 intro E M m I i
 refine sq_ok (fun (j : X14) E => j (E 0) (E 96) (E 192) (E 288) (E 384) (E 960) (E 1056) (E 1152) (E 1248) (E 1344)) ?_ ?_
 intro E M m I i
 refine sq_ok (fun (j : X13) E => j (E 0) (E 96) (E 192) (E 288) (E 384) (E 960) (E 1056) (E 1152) (E 1248)) ?_ ?_
 intro E M m I i
 kernel_rfl
 intro j
 kernel_rfl
 intro j
 kernel_rfl
 intro j
 kernel_rfl
 intro j
 kernel_rfl
 intro j
 kernel_rfl
 intro j
 kernel_rfl
 intro j
 kernel_rfl
 intro j
 kernel_rfl
 intro j
 kernel_rfl
theorem e39 : FOkS Tryz.prog 243 39 g39 := fok3 fun call t0 t1 t2 M m I i kf => by
 refine top_ok Tryz.func39 rfl rfl ?_
 refine sq_ok (fun (j : X7) E => j (E 96) (E 192) (E 288)) ?_ ?_
 intro E M m I i
 refine sq_ok (fun (j : X8) E => j (E 96) (E 192) (E 288) (E 768)) ?_ ?_
 intro E M m I i
 refine sq_ok (fun (j : X9) E => j (E 96) (E 192) (E 288) (E 768) (E 864)) ?_ ?_
 intro E M m I i
 refine sq_ok (fun (j : X10) E => j (E 96) (E 192) (E 288) (E 768) (E 864) (E 960)) ?_ ?_
 intro E M m I i
 refine sq_ok (fun (j : X11) E => j (E 96) (E 192) (E 288) (E 768) (E 864) (E 960) (E 1056)) ?_ ?_
 intro E M m I i
 refine sq_ok (fun (j : X12) E => j (E 96) (E 192) (E 288) (E 768) (E 864) (E 960) (E 1056) (E 1152)) ?_ ?_
 intro E M m I i
 refine sq_ok (fun (j : X13) E => j (E 96) (E 192) (E 288) (E 768) (E 864) (E 960) (E 1056) (E 1152) (E 1248)) ?_ ?_
 intro E M m I i
 refine sq_ok (fun (j : X5) E => j (E 768)) ?_ ?_
 intro E M m I i
 kernel_rfl
 intro j
 refine sq_ok (fun (j : X14) E => j (E 96) (E 192) (E 288) (E 768) (E 864) (E 960) (E 1056) (E 1152) (E 1248) (E 1344)) ?_ ?_
 intro E M m I i
 refine bl_ok ?_
 refine lo_ok (fun (j : X14) E => j (E 96) (E 192) (E 288) (E 768) (E 864) (E 960) (E 1056) (E 1152) (E 1248) (E 1344)) (fun _ _ _ _ _ => rfl) ?_
 intro n j E M m I i
 refine sq_ok (fun (j : X14) E => j (E 96) (E 192) (E 288) (E 768) (E 864) (E 960) (E 1056) (E 1152) (E 1248) (E 1344)) ?_ ?_
 intro E M m I i
 refine sq_ok (fun (j : X14) E => j (E 96) (E 192) (E 288) (E 768) (E 864) (E 960) (E 1056) (E 1152) (E 1248) (E 1344)) ?_ ?_
 intro E M m I i
 kernel_rfl
 intro j
 refine bl_ok ?_
 refine sq_ok (fun (j : X14) E => j (E 96) (E 192) (E 288) (E 768) (E 864) (E 960) (E 1056) (E 1152) (E 1248) (E 1344)) ?_ ?_
 intro E M m I i
 refine sq_ok (fun (j : X14) E => j (E 96) (E 192) (E 288) (E 768) (E 864) (E 960) (E 1056) (E 1152) (E 1248) (E 1344)) ?_ ?_
 intro E M m I i
 refine sq_ok (fun (j : X14) E => j (E 96) (E 192) (E 288) (E 768) (E 864) (E 960) (E 1056) (E 1152) (E 1248) (E 1344)) ?_ ?_
 intro E M m I i
 refine sq_ok (fun (j : X16) E => j (E 96) (E 192) (E 288) (E 768) (E 864) (E 960) (E 1056) (E 1152) (E 1248) (E 1344) (E 1632) (E 1728)) ?_ ?_
 intro E M m I i
 refine sq_ok (fun (j : X15) E => j (E 96) (E 192) (E 288) (E 768) (E 864) (E 960) (E 1056) (E 1152) (E 1248) (E 1344) (E 1632)) ?_ ?_
 intro E M m I i
 refine sq_ok (fun (j : X15) E => j (E 96) (E 192) (E 288) (E 768) (E 864) (E 960) (E 1056) (E 1152) (E 1248) (E 1344) (E 1632)) ?_ ?_
 intro E M m I i
 refine sq_ok (fun (j : X16) E => j (E 96) (E 192) (E 288) (E 768) (E 864) (E 960) (E 1056) (E 1152) (E 1248) (E 1344) (E 1632) (E 1824)) ?_ ?_
 intro E M m I i
 refine sq_ok (fun (j : X15) E => j (E 96) (E 192) (E 288) (E 768) (E 864) (E 960) (E 1056) (E 1152) (E 1248) (E 1344) (E 1824)) ?_ ?_
 intro E M m I i
 kernel_rfl
 intro j
 refine sq_ok (fun (j : X19) E => j (E 96) (E 192) (E 288) (E 768) (E 864) (E 960) (E 1056) (E 1152) (E 1248) (E 1344) (E 1632) (E 1824) (E 10848) (E 10944) (E 11040)) ?_ ?_
 intro E M m I i
 refine bl_ok ?_
 refine lo_ok (fun (j : X19) E => j (E 96) (E 192) (E 288) (E 768) (E 864) (E 960) (E 1056) (E 1152) (E 1248) (E 1344) (E 1632) (E 1824) (E 10848) (E 10944) (E 11040)) (fun _ _ _ _ _ => rfl) ?_
 intro n j E M m I i
 kernel_rfl
 intro j
 kernel_rfl
 intro j
 kernel_rfl
 intro j
 kernel_rfl
 intro j
 kernel_rfl
 intro j
 kernel_rfl
 intro j
 kernel_rfl
 intro j
 kernel_rfl
 intro j
 kernel_rfl
 intro j
 kernel_rfl
 intro j
 kernel_rfl
 intro j
 kernel_rfl
 intro j
 kernel_rfl
 intro j
 kernel_rfl
 intro j
 kernel_rfl
 intro j
 kernel_rfl
 intro j
 kernel_rfl
 intro j
 kernel_rfl
theorem e477 : FOkS Tryz.prog 243 477 g477 := fok2 fun call t0 t1 M m I i kf => by
 refine top_ok Tryz.func477 rfl rfl ?_
 refine sq_ok (fun (j : X6) E => j (E 0) (E 96)) ?_ ?_
 intro E M m I i
 refine sq_ok (fun (j : X8) E => j (E 96) (E 1632) (E 1728) (E 1824)) ?_ ?_
 intro E M m I i
 refine bl_ok ?_
 refine lo_ok (fun (j : X8) E => j (E 96) (E 1632) (E 1728) (E 1824)) (fun _ _ _ _ _ => rfl) ?_
 intro n j E M m I i
 kernel_rfl
 intro j
 kernel_rfl
 intro j
 kernel_rfl
theorem e308 : FOkS Tryz.prog 243 308 g308 := fok4 fun call t0 t1 t2 t3 M m I i kf => by
 refine top_ok Tryz.func308 rfl rfl ?_
 refine sq_ok (fun (j : X9) E => j (E 0) (E 96) (E 192) (E 288) (E 768)) ?_ ?_
 intro E M m I i
 refine bl_ok ?_
 refine lo_ok (fun (j : X9) E => j (E 0) (E 96) (E 192) (E 288) (E 768)) (fun _ _ _ _ _ => rfl) ?_
 intro n j E M m I i
 refine sq_ok (fun (j : X9) E => j (E 0) (E 96) (E 192) (E 288) (E 768)) ?_ ?_
 intro E M m I i
 refine sq_ok (fun (j : X9) E => j (E 0) (E 96) (E 192) (E 288) (E 768)) ?_ ?_
 intro E M m I i
 kernel_rfl
 intro j
 refine bl_ok ?_
 refine sq_ok (fun (j : X10) E => j (E 0) (E 96) (E 192) (E 288) (E 768) (E 864)) ?_ ?_
 intro E M m I i
 refine bl_ok ?_
 refine lo_ok (fun (j : X10) E => j (E 0) (E 96) (E 192) (E 288) (E 768) (E 864)) (fun _ _ _ _ _ => rfl) ?_
 intro n j E M m I i
 kernel_rfl
 intro j
 kernel_rfl
 intro j
 kernel_rfl
 intro j
 kernel_rfl
theorem e193 : FOkS Tryz.prog 243 193 g193 := fok2 fun call t0 t1 M m I i kf => by
 refine top_ok Tryz.func193 rfl rfl ?_
 kernel_rfl
theorem e433 : FOkS Tryz.prog 243 433 g433 := fok5 fun call t0 t1 t2 t3 t4 M m I i kf => by
 refine top_ok Tryz.func433 rfl rfl ?_
 refine sq_ok (fun (j : X10) E => j (E 0) (E 96) (E 192) (E 288) (E 384) (E 960)) ?_ ?_
 intro E M m I i
 refine sq_ok (fun (j : X11) E => j (E 0) (E 96) (E 192) (E 288) (E 384) (E 960) (E 1056)) ?_ ?_
 intro E M m I i
 refine bl_ok ?_
 refine lo_ok (fun (j : X11) E => j (E 0) (E 96) (E 192) (E 288) (E 384) (E 960) (E 1056)) (fun _ _ _ _ _ => rfl) ?_
 intro n j E M m I i
 refine bl_ok ?_
 refine sq_ok (fun (j : X12) E => j (E 0) (E 96) (E 192) (E 288) (E 384) (E 960) (E 1056) (E 1152)) ?_ ?_
 intro E M m I i
 refine sq_ok (fun (j : X12) E => j (E 0) (E 96) (E 192) (E 288) (E 384) (E 960) (E 1056) (E 1152)) ?_ ?_
 intro E M m I i
 refine sq_ok (fun (j : X12) E => j (E 0) (E 96) (E 192) (E 288) (E 384) (E 960) (E 1056) (E 1152)) ?_ ?_
 intro E M m I i
 refine sq_ok (fun (j : X12) E => j (E 0) (E 96) (E 192) (E 288) (E 384) (E 960) (E 1056) (E 1152)) ?_ ?_
 intro E M m I i
 refine sq_ok (fun (j : X14) E => j (E 0) (E 96) (E 192) (E 288) (E 384) (E 960) (E 1056) (E 1152) (E 1248) (E 1344)) ?_ ?_
 intro E M m I i
 refine sq_ok (fun (j : X14) E => j (E 0) (E 96) (E 192) (E 288) (E 384) (E 960) (E 1056) (E 1152) (E 1248) (E 1344)) ?_ ?_
 intro E M m I i
 refine sq_ok (fun (j : X13) E => j (E 0) (E 96) (E 192) (E 288) (E 384) (E 960) (E 1056) (E 1152) (E 1248)) ?_ ?_
 intro E M m I i
 kernel_rfl
 intro j
 kernel_rfl
 intro j
 kernel_rfl
 intro j
 kernel_rfl
 intro j
 kernel_rfl
 intro j
 kernel_rfl
 intro j
 kernel_rfl
 intro j
 kernel_rfl
 intro j
 kernel_rfl
 intro j
 kernel_rfl
theorem e274 : FOkS Tryz.prog 243 274 g274 := fok1 fun call t0 M m I i kf => by
 refine top_ok Tryz.func274 rfl rfl ?_
 refine sq_ok (fun (j : X7) E => j (E 0) (E 192) (E 288)) ?_ ?_
 intro E M m I i
 refine bl_ok ?_
 refine lo_ok (fun (j : X7) E => j (E 0) (E 192) (E 288)) (fun _ _ _ _ _ => rfl) ?_
 intro n j E M m I i
 kernel_rfl
 intro j
 kernel_rfl
theorem e23 : FOkS Tryz.prog 243 23 g23 := fok2 fun call t0 t1 M m I i kf => by
 refine top_ok Tryz.func23 rfl rfl ?_
 kernel_rfl
theorem e70 : FOkS Tryz.prog 243 70 g70 := fok2 fun call t0 t1 M m I i kf => by
 refine top_ok Tryz.func70 rfl rfl ?_
 kernel_rfl
theorem e159 : FOkS Tryz.prog 243 159 g159 := fok2 fun call t0 t1 M m I i kf => by
 refine top_ok Tryz.func159 rfl rfl ?_
 refine sq_ok (fun (j : X6) E => j (E 0) (E 96)) ?_ ?_
 intro E M m I i
 refine sq_ok (fun (j : X6) E => j (E 0) (E 96)) ?_ ?_
 intro E M m I i
 refine sq_ok (fun (j : X7) E => j (E 0) (E 96) (E 672)) ?_ ?_
 intro E M m I i
 refine sq_ok (fun (j : X7) E => j (E 0) (E 96) (E 672)) ?_ ?_
 intro E M m I i
 refine sq_ok (fun (j : X7) E => j (E 0) (E 96) (E 672)) ?_ ?_
 intro E M m I i
 refine sq_ok (fun (j : X7) E => j (E 0) (E 96) (E 672)) ?_ ?_
 intro E M m I i
 refine sq_ok (fun (j : X8) E => j (E 0) (E 96) (E 672) (E 960)) ?_ ?_
 intro E M m I i
 refine sq_ok (fun (j : X8) E => j (E 0) (E 96) (E 672) (E 960)) ?_ ?_
 intro E M m I i
 refine sq_ok (fun (j : X9) E => j (E 0) (E 96) (E 672) (E 960) (E 1248)) ?_ ?_
 intro E M m I i
 refine sq_ok (fun (j : X7) E => j (E 0) (E 672) (E 1248)) ?_ ?_
 intro E M m I i
 refine sq_ok (fun (j : X8) E => j (E 0) (E 672) (E 1536) (E 1632)) ?_ ?_
 intro E M m I i
 refine sq_ok (fun (j : X7) E => j (E 0) (E 672) (E 1536)) ?_ ?_
 intro E M m I i
 refine sq_ok (fun (j : X4) _ => j) ?_ ?_
 intro E M m I i
 kernel_rfl
 intro j
 refine sq_ok (fun (j : X9) E => j (E 0) (E 672) (E 11136) (E 11232) (E 11328)) ?_ ?_
 intro E M m I i
 refine bl_ok ?_
 refine lo_ok (fun (j : X9) E => j (E 0) (E 672) (E 11136) (E 11232) (E 11328)) (fun _ _ _ _ _ => rfl) ?_
 intro n j E M m I i
 refine sq_ok (fun (j : X10) E => j (E 0) (E 672) (E 11136) (E 11232) (E 11328) (E 11424)) ?_ ?_
 intro E M m I i
 refine sq_ok (fun (j : X9) E => j (E 0) (E 672) (E 11136) (E 11232) (E 11328)) ?_ ?_
 intro E M m I i
 refine sq_ok (fun (j : X9) E => j (E 0) (E 672) (E 11136) (E 11232) (E 11328)) ?_ ?_
 intro E M m I i
 kernel_rfl
 intro j
 refine bl_ok ?_
 refine sq_ok (fun (j : X11) E => j (E 0) (E 672) (E 1728) (E 1824) (E 11136) (E 11232) (E 11328)) ?_ ?_
 intro E M m I i
 refine sq_ok (fun (j : X13) E => j (E 0) (E 672) (E 1728) (E 11136) (E 11232) (E 11328) (E 11808) (E 11904) (E 12000)) ?_ ?_
 intro E M m I i
 refine bl_ok ?_
 refine lo_ok (fun (j : X13) E => j (E 0) (E 672) (E 1728) (E 11136) (E 11232) (E 11328) (E 11808) (E 11904) (E 12000)) (fun _ _ _ _ _ => rfl) ?_
 intro n j E M m I i
 kernel_rfl
 intro j
 kernel_rfl
 intro j
 kernel_rfl
 intro j
 kernel_rfl
 intro j
 kernel_rfl
 intro j
 kernel_rfl
 intro j
 kernel_rfl
 intro j
 kernel_rfl
 intro j
 refine sq_ok (fun (j : X11) E => j (E 0) (E 672) (E 960) (E 1248) (E 8448) (E 8544) (E 8640)) ?_ ?_
 intro E M m I i
 refine bl_ok ?_
 refine lo_ok (fun (j : X11) E => j (E 0) (E 672) (E 960) (E 1248) (E 8448) (E 8544) (E 8640)) (fun _ _ _ _ _ => rfl) ?_
 intro n j E M m I i
 kernel_rfl
 intro j
 kernel_rfl
 intro j
 kernel_rfl
 intro j
 refine sq_ok (fun (j : X11) E => j (E 0) (E 96) (E 672) (E 960) (E 7104) (E 7200) (E 7296)) ?_ ?_
 intro E M m I i
 refine bl_ok ?_
 refine lo_ok (fun (j : X11) E => j (E 0) (E 96) (E 672) (E 960) (E 7104) (E 7200) (E 7296)) (fun _ _ _ _ _ => rfl) ?_
 intro n j E M m I i
 kernel_rfl
 intro j
 kernel_rfl
 intro j
 kernel_rfl
 intro j
 kernel_rfl
 intro j
 kernel_rfl
 intro j
 refine sq_ok (fun (j : X10) E => j (E 0) (E 96) (E 672) (E 5088) (E 5184) (E 5280)) ?_ ?_
 intro E M m I i
 refine bl_ok ?_
 refine lo_ok (fun (j : X10) E => j (E 0) (E 96) (E 672) (E 5088) (E 5184) (E 5280)) (fun _ _ _ _ _ => rfl) ?_
 intro n j E M m I i
 kernel_rfl
 intro j
 kernel_rfl
 intro j
 kernel_rfl
 intro j
 kernel_rfl
 intro j
 kernel_rfl
theorem e107 : FOkS Tryz.prog 243 107 g107 := fok2 fun call t0 t1 M m I i kf => by
 refine top_ok Tryz.func107 rfl rfl ?_
 refine sq_ok (fun (j : X6) E => j (E 0) (E 96)) ?_ ?_
 intro E M m I i
 refine sq_ok (fun (j : X6) E => j (E 0) (E 96)) ?_ ?_
 intro E M m I i
 refine sq_ok (fun (j : X7) E => j (E 0) (E 96) (E 576)) ?_ ?_
 intro E M m I i
 refine sq_ok (fun (j : X9) E => j (E 0) (E 96) (E 576) (E 672) (E 768)) ?_ ?_
 intro E M m I i
 refine sq_ok (fun (j : X8) E => j (E 0) (E 96) (E 576) (E 672)) ?_ ?_
 intro E M m I i
 refine sq_ok (fun (j : X8) E => j (E 0) (E 96) (E 576) (E 672)) ?_ ?_
 intro E M m I i
 kernel_rfl
 intro j
 refine sq_ok (fun (j : X10) E => j (E 0) (E 96) (E 576) (E 672) (E 3264) (E 3360)) ?_ ?_
 intro E M m I i
 refine bl_ok ?_
 refine lo_ok (fun (j : X10) E => j (E 0) (E 96) (E 576) (E 672) (E 3264) (E 3360)) (fun _ _ _ _ _ => rfl) ?_
 intro n j E M m I i
 refine sq_ok (fun (j : X11) E => j (E 0) (E 96) (E 576) (E 672) (E 3264) (E 3360) (E 3456)) ?_ ?_
 intro E M m I i
 refine sq_ok (fun (j : X10) E => j (E 0) (E 96) (E 576) (E 672) (E 3264) (E 3360)) ?_ ?_
 intro E M m I i
 refine sq_ok (fun (j : X10) E => j (E 0) (E 96) (E 576) (E 672) (E 3264) (E 3360)) ?_ ?_
 intro E M m I i
 kernel_rfl
 intro j
 refine bl_ok ?_
 refine sq_ok (fun (j : X12) E => j (E 0) (E 576) (E 672) (E 864) (E 960) (E 1056) (E 3264) (E 3360)) ?_ ?_
 intro E M m I i
 refine sq_ok (fun (j : X11) E => j (E 0) (E 576) (E 672) (E 864) (E 960) (E 3264) (E 3360)) ?_ ?_
 intro E M m I i
 kernel_rfl
 intro j
 kernel_rfl
 intro j
 kernel_rfl
 intro j
 kernel_rfl
 intro j
 kernel_rfl
 intro j
 kernel_rfl
 intro j
 kernel_rfl
 intro j
 kernel_rfl
 intro j
 kernel_rfl
 intro j
 kernel_rfl
 intro j
 kernel_rfl
theorem e32 : FOkS Tryz.prog 243 32 g32 := fok2 fun call t0 t1 M m I i kf => by
 refine top_ok Tryz.func32 rfl rfl ?_
 kernel_rfl
theorem e168 : FOkS Tryz.prog 243 168 g168 := fok2 fun call t0 t1 M m I i kf => by
 refine top_ok Tryz.func168 rfl rfl ?_
 refine sq_ok (fun (j : X6) E => j (E 0) (E 96)) ?_ ?_
 intro E M m I i
 refine sq_ok (fun (j : X6) E => j (E 0) (E 96)) ?_ ?_
 intro E M m I i
 refine sq_ok (fun (j : X7) E => j (E 0) (E 96) (E 576)) ?_ ?_
 intro E M m I i
 refine sq_ok (fun (j : X5) E => j (E 576)) ?_ ?_
 intro E M m I i
 kernel_rfl
 intro j
 refine sq_ok (fun (j : X9) E => j (E 96) (E 576) (E 2592) (E 2688) (E 2784)) ?_ ?_
 intro E M m I i
 refine bl_ok ?_
 refine lo_ok (fun (j : X9) E => j (E 96) (E 576) (E 2592) (E 2688) (E 2784)) (fun _ _ _ _ _ => rfl) ?_
 intro n j E M m I i
 kernel_rfl
 intro j
 kernel_rfl
 intro j
 kernel_rfl
 intro j
 kernel_rfl
 intro j
 kernel_rfl
theorem e92 : FOkS Tryz.prog 243 92 g92 := fok4 fun call t0 t1 t2 t3 M m I i kf => by
 refine top_ok Tryz.func92 rfl rfl ?_
 kernel_rfl
theorem e167 : FOkS Tryz.prog 243 167 g167 := fok1 fun call t0 M m I i kf => by
 refine top_ok Tryz.func167 rfl rfl ?_
 refine sq_ok (fun (j : X5) E => j (E 0)) ?_ ?_
 intro E M m I i
 refine sq_ok (fun (j : X5) E => j (E 0)) ?_ ?_
 intro E M m I i
 refine sq_ok (fun (j : X6) E => j (E 0) (E 384)) ?_ ?_
 intro E M m I i
 refine sq_ok (fun (j : X5) E => j (E 384)) ?_ ?_
 intro E M m I i
 kernel_rfl
 intro j
 refine sq_ok (fun (j : X8) E => j (E 384) (E 1248) (E 1344) (E 1440)) ?_ ?_
 intro E M m I i
 refine bl_ok ?_
 refine lo_ok (fun (j : X8) E => j (E 384) (E 1248) (E 1344) (E 1440)) (fun _ _ _ _ _ => rfl) ?_
 intro n j E M m I i
 kernel_rfl
 intro j
 kernel_rfl
 intro j
 kernel_rfl
 intro j
 kernel_rfl
 intro j
 kernel_rfl
theorem e51 : FOkS Tryz.prog 243 51 g51 := fok2 fun call t0 t1 M m I i kf => by
 refine top_ok Tryz.func51 rfl rfl ?_
 kernel_rfl
theorem e54 : FOkS Tryz.prog 243 54 g54 := fok2 fun call t0 t1 M m I i kf => by
 refine top_ok Tryz.func54 rfl rfl ?_
 kernel_rfl
theorem e56 : FOkS Tryz.prog 243 56 g56 := fok2 fun call t0 t1 M m I i kf => by
 refine top_ok Tryz.func56 rfl rfl ?_
 kernel_rfl
theorem e285 : FOkS Tryz.prog 243 285 g285 := fok1 fun call t0 M m I i kf => by
 refine top_ok Tryz.func285 rfl rfl ?_
 kernel_rfl
end Go.Proofs.YtpjhkpmmbeoghaaGreatDoor.Ev
set_option maxRecDepth 100000
set_option linter.unusedVariables false
namespace Go.Proofs.YtpjhkpmmbeoghaaGreatDoor.Ev
open Go
open Go.Proofs
theorem e74 : FOkS Tryz.prog 243 74 g74 := fok2 fun call t0 t1 M m I i kf => by
 refine top_ok Tryz.func74 rfl rfl ?_
 kernel_rfl
theorem e135 : FOkS Tryz.prog 243 135 g135 := fok3 fun call t0 t1 t2 M m I i kf => by
 refine top_ok Tryz.func135 rfl rfl ?_
 refine sq_ok (fun (j : X7) E => j (E 0) (E 96) (E 192)) ?_ ?_
 intro E M m I i
 refine sq_ok (fun (j : X8) E => j (E 0) (E 96) (E 192) (E 672)) ?_ ?_
 intro E M m I i
 refine sq_ok (fun (j : X9) E => j (E 0) (E 96) (E 192) (E 672) (E 768)) ?_ ?_
 intro E M m I i
 refine sq_ok (fun (j : X7) E => j (E 192) (E 672) (E 768)) ?_ ?_
 intro E M m I i
 refine sq_ok (fun (j : X8) E => j (E 192) (E 672) (E 768) (E 1056)) ?_ ?_
 intro E M m I i
 refine sq_ok (fun (j : X6) E => j (E 768) (E 1056)) ?_ ?_
 intro E M m I i
 refine sq_ok (fun (j : X6) E => j (E 768) (E 1056)) ?_ ?_
 intro E M m I i
 refine sq_ok (fun (j : X6) E => j (E 768) (E 1056)) ?_ ?_
 intro E M m I i
 refine sq_ok (fun (j : X5) E => j (E 768)) ?_ ?_
 intro E M m I i
 kernel_rfl
 intro j
 refine sq_ok (fun (j : X8) E => j (E 768) (E 7680) (E 7776) (E 7872)) ?_ ?_
 intro E M m I i
 refine bl_ok ?_
 refine lo_ok (fun (j : X8) E => j (E 768) (E 7680) (E 7776) (E 7872)) (fun _ _ _ _ _ => rfl) ?_
 intro n j E M m I i
 kernel_rfl
 intro j
 kernel_rfl
 intro j
 kernel_rfl
 intro j
 kernel_rfl
 intro j
 refine sq_ok (fun (j : X10) E => j (E 672) (E 768) (E 1056) (E 4416) (E 4512) (E 4608)) ?_ ?_
 intro E M m I i
 refine bl_ok ?_
 refine lo_ok (fun (j : X10) E => j (E 672) (E 768) (E 1056) (E 4416) (E 4512) (E 4608)) (fun _ _ _ _ _ => rfl) ?_
 intro n j E M m I i
 kernel_rfl
 intro j
 kernel_rfl
 intro j
 kernel_rfl
 intro j
 refine sq_ok (fun (j : X11) E => j (E 0) (E 192) (E 672) (E 768) (E 2304) (E 2400) (E 2496)) ?_ ?_
 intro E M m I i
 refine bl_ok ?_
 refine lo_ok (fun (j : X11) E => j (E 0) (E 192) (E 672) (E 768) (E 2304) (E 2400) (E 2496)) (fun _ _ _ _ _ => rfl) ?_
 intro n j E M m I i
 kernel_rfl
 intro j
 kernel_rfl
 intro j
 kernel_rfl
 intro j
 kernel_rfl
 intro j
 kernel_rfl
theorem e73 : FOkS Tryz.prog 243 73 g73 := fok1 fun call t0 M m I i kf => by
 refine top_ok Tryz.func73 rfl rfl ?_
 refine sq_ok (fun (j : X5) E => j (E 0)) ?_ ?_
 intro E M m I i
 refine sq_ok (fun (j : X6) E => j (E 0) (E 288)) ?_ ?_
 intro E M m I i
 refine sq_ok (fun (j : X5) E => j (E 288)) ?_ ?_
 intro E M m I i
 kernel_rfl
 intro j
 refine sq_ok (fun (j : X8) E => j (E 288) (E 576) (E 672) (E 768)) ?_ ?_
 intro E M m I i
 refine bl_ok ?_
 refine lo_ok (fun (j : X8) E => j (E 288) (E 576) (E 672) (E 768)) (fun _ _ _ _ _ => rfl) ?_
 intro n j E M m I i
 kernel_rfl
 intro j
 kernel_rfl
 intro j
 kernel_rfl
 intro j
 kernel_rfl
theorem e288 : FOkS Tryz.prog 243 288 g288 := fok1 fun call t0 M m I i kf => by
 refine top_ok Tryz.func288 rfl rfl ?_
 refine sq_ok (fun (j : X6) E => j (E 96) (E 192)) ?_ ?_
 intro E M m I i
 refine sq_ok (fun (j : X7) E => j (E 96) (E 192) (E 384)) ?_ ?_
 intro E M m I i
 refine sq_ok (fun (j : X7) E => j (E 96) (E 192) (E 384)) ?_ ?_
 intro E M m I i
 refine sq_ok (fun (j : X8) E => j (E 96) (E 192) (E 384) (E 480)) ?_ ?_
 intro E M m I i
 refine sq_ok (fun (j : X8) E => j (E 96) (E 192) (E 384) (E 480)) ?_ ?_
 intro E M m I i
 refine sq_ok (fun (j : X9) E => j (E 96) (E 192) (E 384) (E 480) (E 960)) ?_ ?_
 intro E M m I i
 refine sq_ok (fun (j : X10) E => j (E 96) (E 192) (E 384) (E 480) (E 960) (E 1056)) ?_ ?_
 intro E M m I i
 refine sq_ok (fun (j : X9) E => j (E 192) (E 384) (E 480) (E 960) (E 1056)) ?_ ?_
 intro E M m I i
 refine sq_ok (fun (j : X9) E => j (E 192) (E 384) (E 480) (E 960) (E 1056)) ?_ ?_
 intro E M m I i
 refine sq_ok (fun (j : X9) E => j (E 192) (E 384) (E 480) (E 960) (E 1152)) ?_ ?_
 intro E M m I i
 refine sq_ok (fun (j : X8) E => j (E 192) (E 384) (E 480) (E 1152)) ?_ ?_
 intro E M m I i
 kernel_rfl
 intro j
 refine sq_ok (fun (j : X10) E => j (E 192) (E 384) (E 480) (E 960) (E 1152) (E 1248)) ?_ ?_
 intro E M m I i
 refine bl_ok ?_
 refine lo_ok (fun (j : X10) E => j (E 192) (E 384) (E 480) (E 960) (E 1152) (E 1248)) (fun _ _ _ _ _ => rfl) ?_
 intro n j E M m I i
 refine sq_ok (fun (j : X10) E => j (E 192) (E 384) (E 480) (E 960) (E 1152) (E 1248)) ?_ ?_
 intro E M m I i
 refine sq_ok (fun (j : X10) E => j (E 192) (E 384) (E 480) (E 960) (E 1152) (E 1248)) ?_ ?_
 intro E M m I i
 kernel_rfl
 intro j
 refine bl_ok ?_
 refine sq_ok (fun (j : X11) E => j (E 192) (E 384) (E 480) (E 960) (E 1152) (E 1248) (E 1344)) ?_ ?_
 intro E M m I i
 refine sq_ok (fun (j : X14) E => j (E 192) (E 384) (E 480) (E 960) (E 1152) (E 1248) (E 1344) (E 13440) (E 13536) (E 13632)) ?_ ?_
 intro E M m I i
 refine bl_ok ?_
 refine lo_ok (fun (j : X14) E => j (E 192) (E 384) (E 480) (E 960) (E 1152) (E 1248) (E 1344) (E 13440) (E 13536) (E 13632)) (fun _ _ _ _ _ => rfl) ?_
 intro n j E M m I i
 kernel_rfl
 intro j
 kernel_rfl
 intro j
 kernel_rfl
 intro j
 kernel_rfl
 intro j
 kernel_rfl
 intro j
 kernel_rfl
 intro j
 kernel_rfl
 intro j
 kernel_rfl
 intro j
 kernel_rfl
 intro j
 kernel_rfl
 intro j
 refine sq_ok (fun (j : X11) E => j (E 96) (E 192) (E 384) (E 480) (E 4320) (E 4416) (E 4512)) ?_ ?_
 intro E M m I i
 refine bl_ok ?_
 refine lo_ok (fun (j : X11) E => j (E 96) (E 192) (E 384) (E 480) (E 4320) (E 4416) (E 4512)) (fun _ _ _ _ _ => rfl) ?_
 intro n j E M m I i
 refine sq_ok (fun (j : X12) E => j (E 96) (E 192) (E 384) (E 480) (E 4320) (E 4416) (E 4512) (E 4608)) ?_ ?_
 intro E M m I i
 refine sq_ok (fun (j : X11) E => j (E 96) (E 192) (E 384) (E 480) (E 4320) (E 4416) (E 4512)) ?_ ?_
 intro E M m I i
 refine sq_ok (fun (j : X11) E => j (E 96) (E 192) (E 384) (E 480) (E 4320) (E 4416) (E 4512)) ?_ ?_
 intro E M m I i
 kernel_rfl
 intro j
 refine bl_ok ?_
 refine sq_ok (fun (j : X12) E => j (E 96) (E 192) (E 384) (E 480) (E 672) (E 4320) (E 4416) (E 4512)) ?_ ?_
 intro E M m I i
 refine sq_ok (fun (j : X13) E => j (E 96) (E 192) (E 384) (E 480) (E 768) (E 864) (E 4320) (E 4416) (E 4512)) ?_ ?_
 intro E M m I i
 refine sq_ok (fun (j : X13) E => j (E 96) (E 192) (E 384) (E 480) (E 768) (E 864) (E 4320) (E 4416) (E 4512)) ?_ ?_
 intro E M m I i
 kernel_rfl
 intro j
 kernel_rfl
 intro j
 kernel_rfl
 intro j
 kernel_rfl
 intro j
 kernel_rfl
 intro j
 kernel_rfl
 intro j
 kernel_rfl
 intro j
 kernel_rfl
 intro j
 kernel_rfl
 intro j
 kernel_rfl
 intro j
 kernel_rfl
theorem e67 : FOkS Tryz.prog 243 67 g67 := fok2 fun call t0 t1 M m I i kf => by
 refine top_ok Tryz.func67 rfl rfl ?_
 kernel_rfl
theorem e344 : FOkS Tryz.prog 243 344 g344 := fok3 fun call t0 t1 t2 M m I i kf => by
 refine top_ok Tryz.func344 rfl rfl ?_
 refine sq_ok (fun (j : X7) E => j (E 0) (E 96) (E 192)) ?_ ?_
 intro E M m I i
 refine sq_ok (fun (j : X7) E => j (E 0) (E 96) (E 192)) ?_ ?_
 intro E M m I i
 refine sq_ok (fun (j : X8) E => j (E 0) (E 96) (E 192) (E 768)) ?_ ?_
 intro E M m I i
 refine sq_ok (fun (j : X9) E => j (E 0) (E 96) (E 192) (E 768) (E 864)) ?_ ?_
 intro E M m I i
 refine sq_ok (fun (j : X8) E => j (E 0) (E 96) (E 768) (E 864)) ?_ ?_
 intro E M m I i
 refine sq_ok (fun (j : X8) E => j (E 0) (E 96) (E 768) (E 864)) ?_ ?_
 intro E M m I i
 refine sq_ok (fun (j : X9) E => j (E 0) (E 96) (E 768) (E 864) (E 1344)) ?_ ?_
 intro E M m I i
 refine sq_ok (fun (j : X7) E => j (E 96) (E 864) (E 1344)) ?_ ?_
 intro E M m I i
 kernel_rfl
 intro j
 refine sq_ok (fun (j : X11) E => j (E 96) (E 768) (E 864) (E 1344) (E 5472) (E 5568) (E 5664)) ?_ ?_
 intro E M m I i
 refine bl_ok ?_
 refine lo_ok (fun (j : X11) E => j (E 96) (E 768) (E 864) (E 1344) (E 5472) (E 5568) (E 5664)) (fun _ _ _ _ _ => rfl) ?_
 intro n j E M m I i
 kernel_rfl
 intro j
 kernel_rfl
 intro j
 kernel_rfl
 intro j
 kernel_rfl
 intro j
 refine sq_ok (fun (j : X11) E => j (E 0) (E 96) (E 768) (E 864) (E 2880) (E 2976) (E 3072)) ?_ ?_
 intro E M m I i
 refine bl_ok ?_
 refine lo_ok (fun (j : X11) E => j (E 0) (E 96) (E 768) (E 864) (E 2880) (E 2976) (E 3072)) (fun _ _ _ _ _ => rfl) ?_
 intro n j E M m I i
 kernel_rfl
 intro j
 kernel_rfl
 intro j
 kernel_rfl
 intro j
 kernel_rfl
 intro j
 kernel_rfl
 intro j
 kernel_rfl
theorem e352 : FOkS Tryz.prog 243 352 g352 := fok1 fun call t0 M m I i kf => by
 refine top_ok Tryz.func352 rfl rfl ?_
 refine sq_ok (fun (j : X5) E => j (E 0)) ?_ ?_
 intro E M m I i
 refine sq_ok (fun (j : X5) E => j (E 0)) ?_ ?_
 intro E M m I i
 refine sq_ok (fun (j : X4) _ => j) ?_ ?_
 intro E M m I i
 kernel_rfl
 intro j
 refine sq_ok (fun (j : X8) E => j (E 0) (E 768) (E 864) (E 960)) ?_ ?_
 intro E M m I i
 refine bl_ok ?_
 refine lo_ok (fun (j : X8) E => j (E 0) (E 768) (E 864) (E 960)) (fun _ _ _ _ _ => rfl) ?_
 intro n j E M m I i
 refine sq_ok (fun (j : X9) E => j (E 0) (E 768) (E 864) (E 960) (E 1056)) ?_ ?_
 intro E M m I i
 refine sq_ok (fun (j : X8) E => j (E 0) (E 768) (E 864) (E 960)) ?_ ?_
 intro E M m I i
 refine sq_ok (fun (j : X8) E => j (E 0) (E 768) (E 864) (E 960)) ?_ ?_
 intro E M m I i
 kernel_rfl
 intro j
 refine bl_ok ?_
 refine sq_ok (fun (j : X10) E => j (E 0) (E 288) (E 384) (E 768) (E 864) (E 960)) ?_ ?_
 intro E M m I i
 kernel_rfl
 intro j
 kernel_rfl
 intro j
 kernel_rfl
 intro j
 kernel_rfl
 intro j
 kernel_rfl
 intro j
 kernel_rfl
 intro j
 kernel_rfl
theorem e137 : FOkS Tryz.prog 243 137 g137 := fok2 fun call t0 t1 M m I i kf => by
 refine top_ok Tryz.func137 rfl rfl ?_
 refine sq_ok (fun (j : X7) E => j (E 96) (E 192) (E 384)) ?_ ?_
 intro E M m I i
 kernel_rfl
 intro j
 kernel_rfl
theorem e45 : FOkS Tryz.prog 243 45 g45 := fok4 fun call t0 t1 t2 t3 M m I i kf => by
 refine top_ok Tryz.func45 rfl rfl ?_
 refine sq_ok (fun (j : X8) E => j (E 0) (E 96) (E 192) (E 288)) ?_ ?_
 intro E M m I i
 refine sq_ok (fun (j : X8) E => j (E 0) (E 96) (E 192) (E 288)) ?_ ?_
 intro E M m I i
 refine sq_ok (fun (j : X8) E => j (E 0) (E 96) (E 192) (E 288)) ?_ ?_
 intro E M m I i
 refine sq_ok (fun (j : X8) E => j (E 0) (E 96) (E 192) (E 288)) ?_ ?_
 intro E M m I i
 refine sq_ok (fun (j : X8) E => j (E 0) (E 96) (E 192) (E 288)) ?_ ?_
 intro E M m I i
 refine sq_ok (fun (j : X9) E => j (E 0) (E 96) (E 192) (E 288) (E 864)) ?_ ?_
 intro E M m I i
 refine sq_ok (fun (j : X9) E => j (E 0) (E 96) (E 192) (E 288) (E 864)) ?_ ?_
 intro E M m I i
 refine sq_ok (fun (j : X10) E => j (E 0) (E 96) (E 192) (E 288) (E 864) (E 960)) ?_ ?_
 intro E M m I i
 refine sq_ok (fun (j : X7) E => j (E 0) (E 864) (E 960)) ?_ ?_
 intro E M m I i
 kernel_rfl
 intro j
 refine bl_ok ?_
 refine lo_ok (fun (j : X10) E => j (E 0) (E 96) (E 192) (E 288) (E 864) (E 960)) (fun _ _ _ _ _ => rfl) ?_
 intro n j E M m I i
 kernel_rfl
 intro j
 kernel_rfl
 intro j
 kernel_rfl
 intro j
 kernel_rfl
 intro j
 kernel_rfl
 intro j
 kernel_rfl
 intro j
 kernel_rfl
 intro j
 kernel_rfl
 intro j
 kernel_rfl
theorem e62 : FOkS Tryz.prog 243 62 g62 := fok1 fun call t0 M m I i kf => by
 refine top_ok Tryz.func62 rfl rfl ?_
 refine sq_ok (fun (j : X5) E => j (E 0)) ?_ ?_
 intro E M m I i
 refine sq_ok (fun (j : X5) E => j (E 0)) ?_ ?_
 intro E M m I i
 refine sq_ok (fun (j : X6) E => j (E 0) (E 384)) ?_ ?_
 intro E M m I i
 refine sq_ok (fun (j : X5) E => j (E 384)) ?_ ?_
 intro E M m I i
 kernel_rfl
 intro j
 refine sq_ok (fun (j : X8) E => j (E 0) (E 384) (E 2400) (E 2496)) ?_ ?_
 intro E M m I i
 refine bl_ok ?_
 refine lo_ok (fun (j : X8) E => j (E 0) (E 384) (E 2400) (E 2496)) (fun _ _ _ _ _ => rfl) ?_
 intro n j E M m I i
 kernel_rfl
 intro j
 kernel_rfl
 intro j
 kernel_rfl
 intro j
 kernel_rfl
 intro j
 kernel_rfl
theorem e148 : FOkS Tryz.prog 243 148 g148 := fok2 fun call t0 t1 M m I i kf => by
 refine top_ok Tryz.func148 rfl rfl ?_
 kernel_rfl
theorem e444 : FOkS Tryz.prog 243 444 g444 := fok4 fun call t0 t1 t2 t3 M m I i kf => by
 refine top_ok Tryz.func444 rfl rfl ?_
 refine sq_ok (fun (j : X9) E => j (E 0) (E 96) (E 192) (E 288) (E 768)) ?_ ?_
 intro E M m I i
 refine bl_ok ?_
 refine lo_ok (fun (j : X9) E => j (E 0) (E 96) (E 192) (E 288) (E 768)) (fun _ _ _ _ _ => rfl) ?_
 intro n j E M m I i
 refine sq_ok (fun (j : X9) E => j (E 0) (E 96) (E 192) (E 288) (E 768)) ?_ ?_
 intro E M m I i
 refine sq_ok (fun (j : X9) E => j (E 0) (E 96) (E 192) (E 288) (E 768)) ?_ ?_
 intro E M m I i
 kernel_rfl
 intro j
 refine bl_ok ?_
 refine sq_ok (fun (j : X10) E => j (E 0) (E 96) (E 192) (E 288) (E 768) (E 864)) ?_ ?_
 intro E M m I i
 refine bl_ok ?_
 refine lo_ok (fun (j : X10) E => j (E 0) (E 96) (E 192) (E 288) (E 768) (E 864)) (fun _ _ _ _ _ => rfl) ?_
 intro n j E M m I i
 kernel_rfl
 intro j
 kernel_rfl
 intro j
 kernel_rfl
 intro j
 kernel_rfl
theorem e345 : FOkS Tryz.prog 243 345 g345 := fok1 fun call t0 M m I i kf => by
 refine top_ok Tryz.func345 rfl rfl ?_
 refine sq_ok (fun (j : X5) E => j (E 0)) ?_ ?_
 intro E M m I i
 refine sq_ok (fun (j : X5) E => j (E 0)) ?_ ?_
 intro E M m I i
 refine sq_ok (fun (j : X6) E => j (E 0) (E 288)) ?_ ?_
 intro E M m I i
 refine sq_ok (fun (j : X6) E => j (E 0) (E 288)) ?_ ?_
 intro E M m I i
 refine sq_ok (fun (j : X7) E => j (E 0) (E 288) (E 384)) ?_ ?_
 intro E M m I i
 refine sq_ok (fun (j : X7) E => j (E 0) (E 288) (E 384)) ?_ ?_
 intro E M m I i
 refine sq_ok (fun (j : X7) E => j (E 0) (E 384) (E 672)) ?_ ?_
 intro E M m I i
 refine sq_ok (fun (j : X5) E => j (E 672)) ?_ ?_
 intro E M m I i
 kernel_rfl
 intro j
 refine sq_ok (fun (j : X9) E => j (E 384) (E 672) (E 4224) (E 4320) (E 4416)) ?_ ?_
 intro E M m I i
 refine bl_ok ?_
 refine lo_ok (fun (j : X9) E => j (E 384) (E 672) (E 4224) (E 4320) (E 4416)) (fun _ _ _ _ _ => rfl) ?_
 intro n j E M m I i
 kernel_rfl
 intro j
 kernel_rfl
 intro j
 kernel_rfl
 intro j
 refine sq_ok (fun (j : X10) E => j (E 0) (E 288) (E 384) (E 2880) (E 2976) (E 3072)) ?_ ?_
 intro E M m I i
 refine bl_ok ?_
 refine lo_ok (fun (j : X10) E => j (E 0) (E 288) (E 384) (E 2880) (E 2976) (E 3072)) (fun _ _ _ _ _ => rfl) ?_
 intro n j E M m I i
 kernel_rfl
 intro j
 kernel_rfl
 intro j
 kernel_rfl
 intro j
 kernel_rfl
 intro j
 kernel_rfl
 intro j
 kernel_rfl
 intro j
 kernel_rfl
theorem e306 : FOkS Tryz.prog 243 306 g306 := fok2 fun call t0 t1 M m I i kf => by
 refine top_ok Tryz.func306 rfl rfl ?_
 kernel_rfl
theorem e480 : FOkS Tryz.prog 243 480 g480 := fok3 fun call t0 t1 t2 M m I i kf => by
 refine top_ok Tryz.func480 rfl rfl ?_
 kernel_rfl
theorem e261 : FOkS Tryz.prog 243 261 g261 := fok2 fun call t0 t1 M m I i kf => by
 refine top_ok Tryz.func261 rfl rfl ?_
 refine sq_ok (fun (j : X6) E => j (E 0) (E 96)) ?_ ?_
 intro E M m I i
 refine sq_ok (fun (j : X6) E => j (E 0) (E 96)) ?_ ?_
 intro E M m I i
 refine sq_ok (fun (j : X5) E => j (E 0)) ?_ ?_
 intro E M m I i
 kernel_rfl
 intro j
 refine sq_ok (fun (j : X7) E => j (E 0) (E 96) (E 480)) ?_ ?_
 intro E M m I i
 refine bl_ok ?_
 refine lo_ok (fun (j : X7) E => j (E 0) (E 96) (E 480)) (fun _ _ _ _ _ => rfl) ?_
 intro n j E M m I i
 refine sq_ok (fun (j : X7) E => j (E 0) (E 96) (E 480)) ?_ ?_
 intro E M m I i
 refine sq_ok (fun (j : X7) E => j (E 0) (E 96) (E 480)) ?_ ?_
 intro E M m I i
 kernel_rfl
 intro j
 refine bl_ok ?_
 refine sq_ok (fun (j : X8) E => j (E 0) (E 96) (E 480) (E 2688)) ?_ ?_
 intro E M m I i
 refine cn_ok rfl ?_ ?_
 refine sq_ok (fun (j : X8) E => j (E 0) (E 96) (E 480) (E 576)) ?_ ?_
 intro E M m I i
 refine sq_ok (fun (j : X6) E => j (E 0) (E 480)) ?_ ?_
 intro E M m I i
 kernel_rfl
 intro j
 refine sq_ok (fun (j : X9) E => j (E 0) (E 96) (E 480) (E 576) (E 672)) ?_ ?_
 intro E M m I i
 refine bl_ok ?_
 refine lo_ok (fun (j : X9) E => j (E 0) (E 96) (E 480) (E 576) (E 672)) (fun _ _ _ _ _ => rfl) ?_
 intro n j E M m I i
 kernel_rfl
 intro j
 kernel_rfl
 intro j
 kernel_rfl
 kernel_rfl
 intro j
 kernel_rfl
 intro j
 kernel_rfl
 intro j
 kernel_rfl
 intro j
 kernel_rfl
 intro j
 kernel_rfl
theorem e139 : FOkS Tryz.prog 243 139 g139 := fok1 fun call t0 M m I i kf => by
 refine top_ok Tryz.func139 rfl rfl ?_
 kernel_rfl
theorem e198 : FOkS Tryz.prog 243 198 g198 := fok5 fun call t0 t1 t2 t3 t4 M m I i kf => by
 refine top_ok Tryz.func198 rfl rfl ?_
 refine sq_ok (fun (j : X10) E => j (E 0) (E 96) (E 192) (E 288) (E 384) (E 960)) ?_ ?_
 intro E M m I i
 refine sq_ok (fun (j : X11) E => j (E 0) (E 96) (E 192) (E 288) (E 384) (E 960) (E 1056)) ?_ ?_
 intro E M m I i
 refine bl_ok ?_
 refine lo_ok (fun (j : X11) E => j (E 0) (E 96) (E 192) (E 288) (E 384) (E 960) (E 1056)) (fun _ _ _ _ _ => rfl) ?_
 intro n j E M m I i
 refine bl_ok ?_
 refine sq_ok (fun (j : X12) E => j (E 0) (E 96) (E 192) (E 288) (E 384) (E 960) (E 1056) (E 1152)) ?_ ?_
 intro E M m I i
 refine sq_ok (fun (j : X12) E => j (E 0) (E 96) (E 192) (E 288) (E 384) (E 960) (E 1056) (E 1152)) ?_ ?_
 intro E M m I i
 refine sq_ok (fun (j : X12) E => j (E 0) (E 96) (E 192) (E 288) (E 384) (E 960) (E 1056) (E 1152)) ?_ ?_
 intro E M m I i
 refine sq_ok (fun (j : X12) E => j (E 0) (E 96) (E 192) (E 288) (E 384) (E 960) (E 1056) (E 1152)) ?_ ?_
 intro E M m I i
 refine sq_ok (fun (j : X14) E => j (E 0) (E 96) (E 192) (E 288) (E 384) (E 960) (E 1056) (E 1152) (E 1248) (E 1344)) ?_ ?_
 intro E M m I i
 refine sq_ok (fun (j : X14) E => j (E 0) (E 96) (E 192) (E 288) (E 384) (E 960) (E 1056) (E 1152) (E 1248) (E 1344)) ?_ ?_
 intro E M m I i
 refine sq_ok (fun (j : X13) E => j (E 0) (E 96) (E 192) (E 288) (E 384) (E 960) (E 1056) (E 1152) (E 1248)) ?_ ?_
 intro E M m I i
 kernel_rfl
 intro j
 kernel_rfl
 intro j
 kernel_rfl
 intro j
 kernel_rfl
 intro j
 kernel_rfl
 intro j
 kernel_rfl
 intro j
 kernel_rfl
 intro j
 kernel_rfl
 intro j
 kernel_rfl
 intro j
 kernel_rfl
theorem e138 : FOkS Tryz.prog 243 138 g138 := fok1 fun call t0 M m I i kf => by
 refine top_ok Tryz.func138 rfl rfl ?_
 kernel_rfl
theorem e64 : FOkS Tryz.prog 243 64 g64 := fok2 fun call t0 t1 M m I i kf => by
 refine top_ok Tryz.func64 rfl rfl ?_
 kernel_rfl
theorem e259 : FOkS Tryz.prog 243 259 g259 := fok1 fun call t0 M m I i kf => by
 refine top_ok Tryz.func259 rfl rfl ?_
 kernel_rfl
theorem e17 : FOkS Tryz.prog 243 17 g17 := fok1 fun call t0 M m I i kf => by
 refine top_ok Tryz.func17 rfl rfl ?_
 refine sq_ok (fun (j : X5) E => j (E 96)) ?_ ?_
 intro E M m I i
 refine sq_ok (fun (j : X7) E => j (E 96) (E 384) (E 480)) ?_ ?_
 intro E M m I i
 refine sq_ok (fun (j : X6) E => j (E 96) (E 384)) ?_ ?_
 intro E M m I i
 refine sq_ok (fun (j : X6) E => j (E 96) (E 576)) ?_ ?_
 intro E M m I i
 refine sq_ok (fun (j : X7) E => j (E 96) (E 576) (E 672)) ?_ ?_
 intro E M m I i
 refine sq_ok (fun (j : X8) E => j (E 96) (E 576) (E 672) (E 768)) ?_ ?_
 intro E M m I i
 refine sq_ok (fun (j : X5) E => j (E 672)) ?_ ?_
 intro E M m I i
 kernel_rfl
 intro j
 refine sq_ok (fun (j : X9) E => j (E 576) (E 672) (E 768) (E 2592) (E 2688)) ?_ ?_
 intro E M m I i
 refine bl_ok ?_
 refine lo_ok (fun (j : X9) E => j (E 576) (E 672) (E 768) (E 2592) (E 2688)) (fun _ _ _ _ _ => rfl) ?_
 intro n j E M m I i
 refine sq_ok (fun (j : X10) E => j (E 576) (E 672) (E 768) (E 2592) (E 2688) (E 2784)) ?_ ?_
 intro E M m I i
 refine sq_ok (fun (j : X9) E => j (E 576) (E 672) (E 768) (E 2592) (E 2688)) ?_ ?_
 intro E M m I i
 refine sq_ok (fun (j : X9) E => j (E 576) (E 672) (E 768) (E 2592) (E 2688)) ?_ ?_
 intro E M m I i
 kernel_rfl
 intro j
 refine bl_ok ?_
 refine sq_ok (fun (j : X10) E => j (E 576) (E 672) (E 768) (E 864) (E 2592) (E 2688)) ?_ ?_
 intro E M m I i
 refine sq_ok (fun (j : X12) E => j (E 576) (E 672) (E 768) (E 864) (E 960) (E 1056) (E 2592) (E 2688)) ?_ ?_
 intro E M m I i
 refine sq_ok (fun (j : X11) E => j (E 576) (E 672) (E 768) (E 864) (E 960) (E 2592) (E 2688)) ?_ ?_
 intro E M m I i
 kernel_rfl
 intro j
 kernel_rfl
 intro j
 kernel_rfl
 intro j
 kernel_rfl
 intro j
 kernel_rfl
 intro j
 kernel_rfl
 intro j
 kernel_rfl
 intro j
 kernel_rfl
 intro j
 kernel_rfl
 intro j
 kernel_rfl
 intro j
 kernel_rfl
 intro j
 kernel_rfl
 intro j
 kernel_rfl
theorem e202 : FOkS Tryz.prog 243 202 g202 := fok1 fun call t0 M m I i kf => by
 refine top_ok Tryz.func202 rfl rfl ?_
 kernel_rfl
theorem e21 : FOkS Tryz.prog 243 21 g21 := fok2 fun call t0 t1 M m I i kf => by
 refine top_ok Tryz.func21 rfl rfl ?_
 kernel_rfl
theorem e46 : FOkS Tryz.prog 243 46 g46 := fok2 fun call t0 t1 M m I i kf => by
 refine top_ok Tryz.func46 rfl rfl ?_
 refine sq_ok (fun (j : X6) E => j (E 0) (E 96)) ?_ ?_
 intro E M m I i
 refine sq_ok (fun (j : X7) E => j (E 0) (E 96) (E 576)) ?_ ?_
 intro E M m I i
 refine sq_ok (fun (j : X8) E => j (E 0) (E 96) (E 576) (E 768)) ?_ ?_
 intro E M m I i
 refine sq_ok (fun (j : X8) E => j (E 0) (E 96) (E 576) (E 768)) ?_ ?_
 intro E M m I i
 kernel_rfl
 intro j
 refine sq_ok (fun (j : X11) E => j (E 0) (E 96) (E 576) (E 768) (E 2208) (E 2304) (E 2400)) ?_ ?_
 intro E M m I i
 refine bl_ok ?_
 refine lo_ok (fun (j : X11) E => j (E 0) (E 96) (E 576) (E 768) (E 2208) (E 2304) (E 2400)) (fun _ _ _ _ _ => rfl) ?_
 intro n j E M m I i
 kernel_rfl
 intro j
 kernel_rfl
 intro j
 kernel_rfl
 intro j
 kernel_rfl
 intro j
 kernel_rfl
theorem e171 : FOkS Tryz.prog 243 171 g171 := fok1 fun call t0 M m I i kf => by
 refine top_ok Tryz.func171 rfl rfl ?_
 kernel_rfl
theorem e102 : FOkS Tryz.prog 243 102 g102 := fok2 fun call t0 t1 M m I i kf => by
 refine top_ok Tryz.func102 rfl rfl ?_
 refine sq_ok (fun (j : X6) E => j (E 192) (E 288)) ?_ ?_
 intro E M m I i
 refine sq_ok (fun (j : X6) E => j (E 192) (E 288)) ?_ ?_
 intro E M m I i
 kernel_rfl
 intro j
 kernel_rfl
 intro j
 kernel_rfl
theorem e93 : FOkS Tryz.prog 243 93 g93 := fok3 fun call t0 t1 t2 M m I i kf => by
 refine top_ok Tryz.func93 rfl rfl ?_
 kernel_rfl
theorem e251 : FOkS Tryz.prog 243 251 g251 := fok2 fun call t0 t1 M m I i kf => by
 refine top_ok Tryz.func251 rfl rfl ?_
 refine sq_ok (fun (j : X6) E => j (E 0) (E 96)) ?_ ?_
 intro E M m I i
 refine sq_ok (fun (j : X4) _ => j) ?_ ?_
 intro E M m I i
 kernel_rfl
 intro j
 refine sq_ok (fun (j : X8) E => j (E 0) (E 96) (E 672) (E 768)) ?_ ?_
 intro E M m I i
 refine bl_ok ?_
 refine lo_ok (fun (j : X8) E => j (E 0) (E 96) (E 672) (E 768)) (fun _ _ _ _ _ => rfl) ?_
 intro n j E M m I i
 kernel_rfl
 intro j
 kernel_rfl
 intro j
 kernel_rfl
theorem e7 : FOkS Tryz.prog 243 7 g7 := fok0 fun call  M m I i kf => by
 refine top_ok Tryz.func7 rfl rfl ?_
 kernel_rfl
theorem e109 : FOkS Tryz.prog 243 109 g109 := fok1 fun call t0 M m I i kf => by
 refine top_ok Tryz.func109 rfl rfl ?_
 kernel_rfl
end Go.Proofs.YtpjhkpmmbeoghaaGreatDoor.Ev
set_option maxRecDepth 100000
set_option linter.unusedVariables false
namespace Go.Proofs.YtpjhkpmmbeoghaaGreatDoor.Ev
open Go Go.Proofs
theorem back1 : BackSnd Tryz.prog 243 := backSnd (fun args w => run_callFunc_at Tryz.func243 (by rfl) (noNG 243 _ Tryz.func243 (by rfl)) args w) backIt
theorem fs {f : Nat} {g : GT} (h : FOkS Tryz.prog 243 f g) : FSnd Tryz.prog f g := fsnd_of noNG back1 follows1 h
theorem dr {f : Nat} {g : GT} (h : FOkS Tryz.prog 243 f g) : FSnd Tryz.prog f (dropG 8 g) := boxOk_drop _ (fs h)
theorem tabP_all : AllT Tryz.prog tabP := ⟨⟨⟨⟨⟨⟨⟨(fs e7), ⟨(fs e9), it_snd⟩⟩, ⟨rep_snd, ⟨(dr e14), (dr e15)⟩⟩⟩, ⟨⟨size_snd, ⟨(dr e17), (fs e20)⟩⟩, ⟨(fs e21), ⟨(fs e22), (dr e23)⟩⟩⟩⟩, ⟨⟨⟨(dr e24), ⟨(dr e25), (dr e27)⟩⟩, ⟨(dr e32), ⟨join_snd, (dr e35)⟩⟩⟩, ⟨⟨(dr e36), ⟨(dr e37), (dr e38)⟩⟩, ⟨(dr e39), ⟨(fs e40), (fs e44)⟩⟩⟩⟩⟩, ⟨⟨⟨⟨(fs e45), ⟨(dr e46), (dr e47)⟩⟩, ⟨(dr e48), ⟨(fs e49), (fs e50)⟩⟩⟩, ⟨⟨(fs e51), ⟨(fs e53), (fs e54)⟩⟩, ⟨(fs e55), ⟨(fs e56), (dr e57)⟩⟩⟩⟩, ⟨⟨⟨(fs e59), ⟨(dr e60), (dr e61)⟩⟩, ⟨(dr e62), ⟨(dr e63), (dr e64)⟩⟩⟩, ⟨⟨(dr e67), ⟨(dr e70), (dr e71)⟩⟩, ⟨⟨(dr e72), (dr e73)⟩, ⟨(dr e74), (dr e75)⟩⟩⟩⟩⟩⟩, ⟨⟨⟨⟨⟨(dr e76), ⟨(dr e77), (dr e78)⟩⟩, ⟨(dr e79), ⟨(dr e80), (dr e81)⟩⟩⟩, ⟨⟨(dr e82), ⟨(dr e83), (dr e84)⟩⟩, ⟨(dr e85), ⟨(dr e86), ct_snd⟩⟩⟩⟩, ⟨⟨⟨(dr e91), ⟨(dr e92), (dr e93)⟩⟩, ⟨(fs e94), ⟨(dr e95), (dr e96)⟩⟩⟩, ⟨⟨(fs e97), ⟨(dr e98), (dr e99)⟩⟩, ⟨(dr e100), ⟨(dr e102), (dr e103)⟩⟩⟩⟩⟩, ⟨⟨⟨⟨(dr e105), ⟨(fs e106), (fs e107)⟩⟩, ⟨(dr e108), ⟨(dr e109), (dr e110)⟩⟩⟩, ⟨⟨(dr e117), ⟨(dr e118), (dr e127)⟩⟩, ⟨(dr e128), ⟨(dr e129), (dr e130)⟩⟩⟩⟩, ⟨⟨⟨(dr e131), ⟨(dr e132), (dr e134)⟩⟩, ⟨(dr e135), ⟨(dr e136), (dr e137)⟩⟩⟩, ⟨⟨(dr e138), ⟨(dr e139), (dr e140)⟩⟩, ⟨⟨(dr e141), (dr e142)⟩, ⟨(dr e143), (dr e144)⟩⟩⟩⟩⟩⟩⟩, ⟨⟨⟨⟨⟨⟨(dr e145), ⟨(dr e146), (dr e147)⟩⟩, ⟨(dr e148), ⟨(dr e149), grow_snd⟩⟩⟩, ⟨⟨(dr e154), ⟨(dr e155), (dr e156)⟩⟩, ⟨(dr e157), ⟨(dr e158), (dr e159)⟩⟩⟩⟩, ⟨⟨⟨(dr e161), ⟨(dr e162), (dr e166)⟩⟩, ⟨(dr e167), ⟨(dr e168), (dr e169)⟩⟩⟩, ⟨⟨(dr e170), ⟨(dr e171), (dr e172)⟩⟩, ⟨(dr e173), ⟨(dr e174), ib_snd⟩⟩⟩⟩⟩, ⟨⟨⟨⟨(dr e188), ⟨(dr e189), (dr e190)⟩⟩, ⟨(dr e191), ⟨(dr e192), (dr e193)⟩⟩⟩, ⟨⟨(dr e194), ⟨(dr e195), (dr e196)⟩⟩, ⟨(dr e197), ⟨(dr e198), (dr e200)⟩⟩⟩⟩, ⟨⟨⟨(dr e201), ⟨(fs e202), (dr e203)⟩⟩, ⟨(dr e208), ⟨(dr e210), (dr e211)⟩⟩⟩, ⟨⟨(dr e212), ⟨(dr e213), (dr e219)⟩⟩, ⟨⟨(fs e220), (dr e221)⟩, ⟨(dr e222), (dr e224)⟩⟩⟩⟩⟩⟩, ⟨⟨⟨⟨⟨(dr e225), ⟨(dr e226), (dr e232)⟩⟩, ⟨(dr e235), ⟨(dr e249), (fs e250)⟩⟩⟩, ⟨⟨(dr e251), ⟨(dr e252), (dr e253)⟩⟩, ⟨(dr e254), ⟨(dr e255), (dr e256)⟩⟩⟩⟩, ⟨⟨⟨(dr e257), ⟨(dr e258), (dr e259)⟩⟩, ⟨(dr e260), ⟨(dr e261), (dr e262)⟩⟩⟩, ⟨⟨(dr e263), ⟨(dr e274), (dr e283)⟩⟩, ⟨(dr e285), ⟨(dr e286), (dr e288)⟩⟩⟩⟩⟩, ⟨⟨⟨⟨(dr e289), ⟨(dr e290), (dr e291)⟩⟩, ⟨seq_snd, ⟨(dr e306), (dr e307)⟩⟩⟩, ⟨⟨(dr e308), ⟨(dr e337), (dr e338)⟩⟩, ⟨(dr e339), ⟨(dr e340), (dr e341)⟩⟩⟩⟩, ⟨⟨⟨(dr e342), ⟨(dr e344), (dr e345)⟩⟩, ⟨(dr e346), ⟨(dr e351), (dr e352)⟩⟩⟩, ⟨⟨(dr e416), ⟨(dr e433), (dr e444)⟩⟩, ⟨⟨(dr e477), (dr e478)⟩, ⟨(dr e479), (dr e480)⟩⟩⟩⟩⟩⟩⟩⟩
theorem tabP_snd : TabSnd Tryz.prog (lookT tabP) := lookT_snd tabP_all
end Go.Proofs.YtpjhkpmmbeoghaaGreatDoor.Ev
