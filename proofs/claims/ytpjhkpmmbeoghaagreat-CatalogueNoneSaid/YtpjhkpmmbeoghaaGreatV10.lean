/- Part 10 of a verified evaluator and the run that it reckons. -/
import Derived.Test.YtpjhkpmmbeoghaaGreatV09
import Derived.Test.YtpjhkpmmbeoghaaGreatChecked
import Derived.RangeFuncNested
import Derived.RangeFuncBound
import Derived.RangeFuncCalls
import Derived.RangeFuncLeaves
import Derived.RangeFuncFrom
import Derived.Shelf.Abstract
import Derived.Shelf.RegionOpen
import Derived.WalkKit
import Derived.OwnWalkIn
import Derived.TacticsInMore
import Derived.LoopNIn
import Derived.LoopIn
import Derived.OwnWalk
import Derived.BigRegion
import Derived.BigQuiet
import Derived.Deep.QuietTactic
import Derived.Deep.DeepCutAuto
import Derived.Deep.LoopGhost
import Derived.Tactics
import Derived.Tactics2
import Derived.WalkSpells
import Derived.WalkLawsBesides
set_option linter.unusedVariables false
set_option linter.unusedSimpArgs false
namespace Go.Proofs.YtpjhkpmmbeoghaaGreat.Ev
open Go Go.RowKit Go.Shelf Go.Proofs
attribute [local go_sem] Oper.semAt_some
theorem FOK.calls {F : Fence} (hF : FOK F) {n m : Nat} {P : Program} {f : FuncId} {args : Array Value} {w : World} {R : Ending → World → Prop} (h : CallsIn F n P f args w R) : CallsIn F m P f args w R :=
  ⟨h.1, fun cs _ => h.2 cs (hF.room _)⟩
theorem FOK.yield {F : Fence} (hF : FOK F) {n m : Nat} {P : Program} {l : Nat} {args : Array Value} {w : World} {R : Ending → World → Prop} (h : YieldAt F n P l args w R) : YieldAt F m P l args w R := by
  obtain ⟨fn, tmps, assign, body, h1, h2⟩ := h
  exact ⟨fn, tmps, assign, body, h1, h2.1, fun c cs _ => h2.2 c cs (hF.room _)⟩
set_option maxRecDepth 100000 in
set_option maxHeartbeats 2000000 in
theorem backIt5 (F : Fence) (hF : FOK F) (hro : F.round = none) (l Ab Ao len : Nat) (J : Nat → World → Prop) (hlen : len < 524288)
    (hJ : ∀ k W, k < len → J (k + 1) W → ∃ b off cap v, W.cell? ⟨Ab, Ao, none⟩ = some (.slice (some ⟨b, off, none⟩) len cap) ∧ W.cell? ⟨b, off + k, none⟩ = some v ∧
      YieldAt F 4 Tryz.prog l #[.int .i64 (k : Nat), v] W fun e W' => e = .returned (.bool true) ∧ J k W')
    (W : World) (hW : J len W) (a : Option Addr) (cap : Nat) (hc : W.cell? ⟨Ab, Ao, none⟩ = some (.slice a len cap)) :
    CallsIn F 5 Tryz.prog 201 #[.func (.yield l) #[] #[], .pointer (some ⟨Ab, Ao, none⟩)] W fun e W' => (∃ v, e = .returned v) ∧ J 0 W' := by
  have hFn : F.fn 201 := hF.1 201
  refine callsIn_of_wp Tryz.func201 rfl hFn ?_ hro
  simp only [Tryz.ntmps201, List.size_toArray, List.length_cons, List.length_nil, Nat.reduceAdd, Nat.reduceSub, Array.replicate_succ, Array.replicate_zero, List.push_toArray, List.append_toArray, List.nil_append, List.cons_append]
  gi_wp2
  gi_loopw [3] (fun i wr => ∃ (k : Nat), k ≤ len ∧ i = .int .i64 ((k : Int) - 1) ∧ J k wr)
    (fun i _ => (intOf i + 1).toNat)
  case atStart => exact ⟨len, Nat.le_refl _, rfl, hW⟩
  case round =>
    obtain ⟨k, hk, rfl, hJs⟩ := hrel
    cases k with
    | zero =>
      gi_wp2
      go_end0
      exact ⟨⟨_, rfl⟩, hJs⟩
    | succ k =>
      obtain ⟨b, off, cap', v, hBx, hcx, fn, tmps, assign, body, hy, hR⟩ := hJ k wr (by omega) hJs
      rw [show ((k + 1 : Nat) : Int) - 1 = (k : Int) by omega]
      have i1 : (k : Int) < (len : Int) := by omega
      gi_wp2
      refine hR.mono ?_
      rintro e W3 ⟨rfl, hJ3⟩
      gi_wp2
      go_roundw
      case rel => exact ⟨k, by omega, rfl, hJ3⟩
      case measure => simp [intOf] <;> omega
theorem backIt : BackIt Tryz.prog 201 := by
  intro F n hF hro l A len J hA hlen hJ W hW hc
  obtain ⟨Ab, Ao, As⟩ := A
  have hA : As = none := hA
  subst hA
  obtain ⟨a, cap, hc⟩ := hc
  exact hF.calls (backIt5 F hF hro l Ab Ao len J hlen (fun k W hk hj => by
    obtain ⟨b, off, cap, v, h1, h2, h3⟩ := hJ k W hk hj
    exact ⟨b, off, cap, v, h1, h2, hF.yield h3⟩) W hW a cap hc)
end Go.Proofs.YtpjhkpmmbeoghaaGreat.Ev

namespace Go.Proofs.YtpjhkpmmbeoghaaGreat.Ev
open Go Go.Proofs
theorem follows1 : Tryz.prog.follows .mixedOrders = true := by kernel_rfl
theorem allNG : (Tryz.prog.funcs.toList.all fun fn => !(fn.name == "runtime.NumGoroutine")) = true := by kernel_rfl
theorem noNG : NoNG Tryz.prog := by
  intro f fn h _
  obtain ⟨hlt, h⟩ := Array.getElem?_eq_some_iff.1 h
  have hm : fn ∈ Tryz.prog.funcs.toList := by rw [← h]; simp
  have := List.all_eq_true.1 allNG fn hm
  simpa using this
end Go.Proofs.YtpjhkpmmbeoghaaGreat.Ev

namespace Go.Proofs.YtpjhkpmmbeoghaaGreat.Ev
open Go Go.RowKit Go.Proofs
theorem HR.empty (w : World) : HR { lay := fun _ => none, f := fun _ => none, M := 0, nm := 0, I := 0, ni := 0, w := w } where
  mlt := (by decide : (0 : Nat) < 2 ^ (96 * 0))
  ilt := (by decide : (0 : Nat) < 2 ^ (96 * 0))
  lay0 b n h := by cases h
  apart b n b' n' h := by cases h
  dom b F h := by cases h
  hdr b n h := by cases h
  cells b F h := by cases h
  maps b F h := by cases h
  lt b F h := by cases h
  inj b b' F F' h := by cases h
/-- a run from nothing that tells true -/
theorem run_true {P : Program} {call : CallT} (hc : CallSnd P call) {f : Nat} {kf : KF} (hk : ∀ w M nm I ni, kf w M nm I ni = .ok → w = 33) (hrun : call f [] 0 0 0 0 kf = .ok) (w : World) :
    Calls P f #[] w fun e w' => e = .returned (.bool true) ∧ Below w.heap.size w w' := by
  obtain ⟨-, h⟩ := hc f [] { lay := fun _ => none, f := fun _ => none, M := 0, nm := 0, I := 0, ni := 0, w := w } kf #[] hrun (HR.empty w) ⟨(by decide : (0 : Nat) < 2 ^ (96 * 0)), (by decide : (0 : Nat) < 16777216)⟩ rfl (fun i h => absurd h (by simp))
  refine (callsIn_wide.1 (h Fence.wide 0 ⟨fun _ => trivial, rfl⟩)).mono ?_
  rintro e w' ⟨word, v, c', rfl, rfl, h1, h2, h3, h4, h5⟩
  have hw := hk _ _ _ _ _ h1
  subst hw
  refine ⟨by rw [(h5.isBool true).1 rfl], ?_⟩
  exact ⟨h4.tape.2.1, h4.tape.1, h4.tape.2.2, h4.size, fun k hk => h4.frame k hk fun b F e => by cases e⟩
theorem kfin_ok {w M nm I ni : Nat} (h : kfin w M nm I ni = .ok) : w = 33 := Nat.eq_of_beq_eq_true (iff_bad h).1
theorem back1 : BackSnd Tryz.prog 201 := backSnd (fun args w => run_callFunc_at Tryz.func201 (by rfl) (noNG 201 _ Tryz.func201 (by rfl)) args w) backIt
theorem awake25_walk (w : World) : Calls Tryz.prog 13 #[] w fun e w' => e = .returned (.bool true) ∧ Below w.heap.size w w' :=
  run_true (evS_ok tab_ok noNG back1 follows1 100000).1 (fun _ _ _ _ _ => kfin_ok) (isOk_ok run25) w
end Go.Proofs.YtpjhkpmmbeoghaaGreat.Ev

namespace Go.Proofs.YtpjhkpmmbeoghaaGreat.Ev
open Go Go.RowKit Go.Proofs
/-- what is no catalogue: nil, or what no call made -/
def NoCat (w : World) (v : Value) : Prop := v = .pointer none ∨ ∃ b, v = .pointer (some ⟨b, 0, none⟩) ∧ w.cell? ⟨b, 0, none⟩ = some (.pointer none)
theorem run_neq_nil_ptr (w : World) (A : Addr) : (binOp .neq 23 (.pointer none) (.pointer (some A))).run Tryz.prog w = .ok (.bool true) w := by
  have hp : Tryz.prog.underlying 23 = some (.pointer (Tryz.prog.pointee 23)) := by kernel_rfl
  have h : ∀ d : Nat, (Op.equalIn (d + 1) 23 (.pointer none) (.pointer (some A))).run Tryz.prog w = .ok false w := fun d => by
    simp [Op.equalIn, run_underlying hp]
  simp only [binOp]
  simp [Op.equal, Op.maxDepth, h 9999]
set_option maxRecDepth 100000 in
theorem none_walk (v : Value) (w : World) (h : NoCat w v) : Calls Tryz.prog 20 #[v] w fun e w' => e = .returned (.bool true) ∧ w' = w := by
  rcases h with rfl | ⟨b, rfl, hc⟩
  · go_enter Tryz.func20, Tryz.ntmps20
    go_wp2_with fail
    go_ret
    exact ⟨rfl, rfl⟩
  · have hq := run_neq_nil_ptr
    go_enter Tryz.func20, Tryz.ntmps20
    go_wp2_with fail
    go_ret
    exact ⟨rfl, rfl⟩
set_option maxRecDepth 100000 in
theorem len_walk (v : Value) (w : World) (h : NoCat w v) : Calls Tryz.prog 7 #[v] w fun e w' => e = .returned (.int .i64 0) ∧ w' = w := by
  go_enter Tryz.func7, Tryz.ntmps7
  go_wp2_with (go_at_call 20; refine (none_walk v _ h).mono ?_; rintro e w2 ⟨rfl, rfl⟩)
  go_ret
  exact ⟨rfl, rfl⟩
set_option maxRecDepth 100000 in
theorem export_walk (v : Value) (w : World) (h : NoCat w v) : Calls Tryz.prog 12 #[v] w fun e w' => e = .returned (.slice none 0 0) ∧ w' = w := by
  go_enter Tryz.func12, Tryz.ntmps12
  go_wp2_with (go_at_call 20; refine (none_walk v _ h).mono ?_; rintro e w2 ⟨rfl, rfl⟩)
  go_ret
  exact ⟨rfl, rfl⟩
end Go.Proofs.YtpjhkpmmbeoghaaGreat.Ev

namespace Go.Proofs.YtpjhkpmmbeoghaaGreat.Ev
open Go Go.RowKit Go.Proofs
theorem NoCat.below {w w' : World} {v : Value} (h : NoCat w v) (hb : Below w.heap.size w w') : NoCat w' v := by
  rcases h with rfl | ⟨b, rfl, hc⟩
  · exact .inl rfl
  · refine .inr ⟨b, rfl, ?_⟩
    have hlt : b < w.heap.size := by
      unfold World.cell? at hc
      cases ho : w.heap[b]? with
      | none => simp [ho] at hc
      | some o => exact (Array.getElem?_eq_some_iff.1 ho).1
    exact (hb.cell (p := ⟨b, 0, none⟩) hlt).trans hc
theorem NoCat.alloc {w : World} {v : Value} (h : NoCat w v) (o : Obj) : NoCat (w.alloc o) v := h.below ((Below.refl _ w).alloc (Nat.le_refl _) o)
set_option maxRecDepth 100000 in
theorem put_walk (v g : Value) (hg : ∃ n a l c, g = .agg #[.int .i64 n, .slice a l c]) (w : World) (h : NoCat w v) : Calls Tryz.prog 10 #[v, g] w fun e w' => e = .returned (.tuple #[.int .i64 0, .bool false, .int .i64 1]) ∧ Below w.heap.size w w' := by
  obtain ⟨n, a, l, c, rfl⟩ := hg
  go_enter Tryz.func10, Tryz.ntmps10
  go_wp2_with fail
  refine (none_walk v _ (h.alloc _)).mono ?_
  rintro e w2 ⟨rfl, rfl⟩
  go_wp2_with fail
  go_ret3
  exact ⟨rfl, (Below.refl _ w).alloc (Nat.le_refl _) _⟩
set_option maxRecDepth 100000 in
theorem find_walk (v g : Value) (hg : ∃ n a l c, g = .agg #[.int .i64 n, .slice a l c]) (w : World) (h : NoCat w v) : Calls Tryz.prog 11 #[v, g] w fun e w' => e = .returned (.tuple #[.int .i64 0, .slice none 0 0, .int .i64 1]) ∧ Below w.heap.size w w' := by
  obtain ⟨n, a, l, c, rfl⟩ := hg
  go_enter Tryz.func11, Tryz.ntmps11
  go_wp2_with fail
  refine (none_walk v _ (h.alloc _)).mono ?_
  rintro e w2 ⟨rfl, rfl⟩
  go_wp2_with fail
  go_ret3
  exact ⟨rfl, (Below.refl _ w).alloc (Nat.le_refl _) _⟩
set_option maxRecDepth 100000 in
theorem at_walk (v : Value) (n : Int) (w : World) (h : NoCat w v) : Calls Tryz.prog 8 #[v, .int .i64 n] w fun e w' => e = .returned (.tuple #[.agg #[.int .i64 0, .slice none 0 0], .int .i64 0, .bool false]) ∧ Below w.heap.size w w' := by
  go_enter Tryz.func8, Tryz.ntmps8
  go_wp2_with fail
  refine (none_walk v _ (h.alloc _)).mono ?_
  rintro e w2 ⟨rfl, rfl⟩
  go_wp2_with fail
  refine bodyPost_ret (v := .tuple #[.agg #[.int .i64 0, .slice none 0 0], .int .i64 0, .bool false]) (by simp [results, Tryz.results8, go_sem]) rfl ?_
  exact ⟨rfl, (Below.refl _ w).alloc (Nat.le_refl _) _⟩
end Go.Proofs.YtpjhkpmmbeoghaaGreat.Ev

namespace Go.Proofs.YtpjhkpmmbeoghaaGreat.Ev
open Go Go.RowKit Go.Proofs
/-- the law's memory: the graph handed in, a Cat that no call made, the list of the two -/
structure CnW (B : Nat) (N : Int) (a : Option Addr) (l c : Nat) (w wr : World) : Prop where
  c1 : wr.cell? ⟨B, 0, none⟩ = some (.int .i64 N)
  c2 : wr.cell? ⟨B, 1, none⟩ = some (.slice a l c)
  c3 : wr.cell? ⟨B + 1, 0, none⟩ = some (.pointer none)
  c4 : wr.cell? ⟨B + 2, 0, none⟩ = some (.pointer none)
  c5 : wr.cell? ⟨B + 2, 1, none⟩ = some (.pointer (some ⟨B + 1, 0, none⟩))
  sz : B + 3 ≤ wr.heap.size
  bl : Below B w wr
theorem CnW.below {B : Nat} {N : Int} {a : Option Addr} {l c : Nat} {w wr w' : World} (h : CnW B N a l c w wr) (hb : Below wr.heap.size wr w') : CnW B N a l c w w' :=
  ⟨(hb.cell (p := ⟨B, 0, none⟩) (by have := h.sz; show B < _; omega)).trans h.c1, (hb.cell (p := ⟨B, 1, none⟩) (by have := h.sz; show B < _; omega)).trans h.c2,
   (hb.cell (p := ⟨B + 1, 0, none⟩) (by have := h.sz; show B + 1 < _; omega)).trans h.c3, (hb.cell (p := ⟨B + 2, 0, none⟩) (by have := h.sz; show B + 2 < _; omega)).trans h.c4,
   (hb.cell (p := ⟨B + 2, 1, none⟩) (by have := h.sz; show B + 2 < _; omega)).trans h.c5, Nat.le_trans h.sz hb.size, h.bl.trans (hb.mono (by have := h.sz; omega))⟩
theorem CnW.start (w : World) (N : Int) (a : Option Addr) (l c : Nat) (t1 t2 t3 : TypeId) (rest : List Value) :
    CnW w.heap.size N a l c w (((w.alloc (.cells #[.int .i64 N, .slice a l c] t1)).alloc (.cells (Value.pointer none :: rest).toArray t2)).alloc (.cells #[.pointer none, .pointer (some ⟨w.heap.size + 1, 0, none⟩)] t3)) := by
  have h1 : (((w.alloc (.cells #[.int .i64 N, .slice a l c] t1)).alloc (.cells (Value.pointer none :: rest).toArray t2)).alloc (.cells #[.pointer none, .pointer (some ⟨w.heap.size + 1, 0, none⟩)] t3)).heap[w.heap.size]? = some (.cells #[.int .i64 N, .slice a l c] t1) :=
    (Below.heap_alloc _ _ _ (by simp; omega)).trans ((Below.heap_alloc _ _ _ (by simp)).trans (World.alloc_heap_new w _))
  have h2 : (((w.alloc (.cells #[.int .i64 N, .slice a l c] t1)).alloc (.cells (Value.pointer none :: rest).toArray t2)).alloc (.cells #[.pointer none, .pointer (some ⟨w.heap.size + 1, 0, none⟩)] t3)).heap[w.heap.size + 1]? = some (.cells (Value.pointer none :: rest).toArray t2) := by
    refine (Below.heap_alloc _ _ _ (by simp)).trans ?_
    have := World.alloc_heap_new (w.alloc (.cells #[.int .i64 N, .slice a l c] t1)) (.cells (Value.pointer none :: rest).toArray t2)
    rwa [World.size_alloc] at this
  have h3 : (((w.alloc (.cells #[.int .i64 N, .slice a l c] t1)).alloc (.cells (Value.pointer none :: rest).toArray t2)).alloc (.cells #[.pointer none, .pointer (some ⟨w.heap.size + 1, 0, none⟩)] t3)).heap[w.heap.size + 2]? = some (.cells #[.pointer none, .pointer (some ⟨w.heap.size + 1, 0, none⟩)] t3) := by
    have := World.alloc_heap_new ((w.alloc (.cells #[.int .i64 N, .slice a l c] t1)).alloc (.cells (Value.pointer none :: rest).toArray t2)) (.cells #[.pointer none, .pointer (some ⟨w.heap.size + 1, 0, none⟩)] t3)
    rwa [World.size_alloc, World.size_alloc] at this
  refine ⟨?_, ?_, ?_, ?_, ?_, by simp, (((Below.refl _ w).alloc (Nat.le_refl _) _).alloc (by simp) _).alloc (by simp; omega) _⟩
  · unfold World.cell?; simp only; rw [h1]; rfl
  · unfold World.cell?; simp only; rw [h1]; rfl
  · unfold World.cell?; simp only; rw [h2]; rfl
  · unfold World.cell?; simp only; rw [h3]; rfl
  · unfold World.cell?; simp only; rw [h3]; rfl
set_option maxRecDepth 100000 in
set_option maxHeartbeats 4000000 in
theorem catalogueNone_walk (N : Int) (a : Option Addr) (l c : Nat) (n : Int) (w : World) : Calls Tryz.prog 4 #[.agg #[.int .i64 N, .slice a l c], .int .i64 n] w fun e w' => e = .returned (.bool true) ∧ Below w.heap.size w w' := by
  go_enter Tryz.func4, Tryz.ntmps4
  go_wp2_with fail
  go_loopg [20] 2 (fun r iv wr => ∃ i : Nat, i + r = 2 ∧ iv = .int .i64 (i : Int) ∧ CnW w.heap.size N a l c w wr)
  case atStart => 
    exact ⟨0, rfl, rfl, CnW.start w N a l c _ _ _ _⟩
  case round =>
    obtain ⟨i, hi, rfl, hcw⟩ := hrel
    rcases i with _ | _ | i
    · have h1 := hcw.c1; have h2 := hcw.c2; have h3 := hcw.c4
      have hn : NoCat wr (.pointer none) := .inl rfl
      go_wp2_with fail
      refine (put_walk _ _ ⟨_, _, _, _, rfl⟩ _ hn).mono ?_
      rintro e w4 ⟨rfl, hb4⟩
      replace hcw := hcw.below hb4
      clear h1 h2 h3
      have h1 := hcw.c1; have h2 := hcw.c2
      go_wp2_with fail
      refine (find_walk _ _ ⟨_, _, _, _, rfl⟩ _ (hn.below hb4)).mono ?_
      rintro e w5 ⟨rfl, hb5⟩
      replace hcw := hcw.below hb5
      clear h1 h2
      have h1 := hcw.c1; have h2 := hcw.c2
      have hn5 := (hn.below hb4).below hb5
      go_wp2_with fail
      refine (at_walk _ n _ hn5).mono ?_
      rintro e w6 ⟨rfl, hb6⟩
      replace hcw := hcw.below hb6
      have hn6 := hn5.below hb6
      clear h1 h2
      go_wp2_with fail
      refine (len_walk _ _ (hn6.alloc _)).mono ?_
      rintro e w7 ⟨rfl, rfl⟩
      go_wp2_with fail
      refine (export_walk _ _ (hn6.alloc _)).mono ?_
      rintro e w8 ⟨rfl, rfl⟩
      go_wp2_with fail
      go_roundg 1
      case measure => omega
      case rel => exact ⟨1, by omega, rfl, hcw.below ((Below.refl _ _).alloc (Nat.le_refl _) _)⟩
    · have h1 := hcw.c1; have h2 := hcw.c2; have h3 := hcw.c5
      have hn : NoCat wr (.pointer (some ⟨w.heap.size + 1, 0, none⟩)) := .inr ⟨_, rfl, hcw.c3⟩
      go_wp2_with fail
      refine (put_walk _ _ ⟨_, _, _, _, rfl⟩ _ hn).mono ?_
      rintro e w4 ⟨rfl, hb4⟩
      replace hcw := hcw.below hb4
      clear h1 h2 h3
      have h1 := hcw.c1; have h2 := hcw.c2
      go_wp2_with fail
      refine (find_walk _ _ ⟨_, _, _, _, rfl⟩ _ (hn.below hb4)).mono ?_
      rintro e w5 ⟨rfl, hb5⟩
      replace hcw := hcw.below hb5
      clear h1 h2
      have h1 := hcw.c1; have h2 := hcw.c2
      have hn5 := (hn.below hb4).below hb5
      go_wp2_with fail
      refine (at_walk _ n _ hn5).mono ?_
      rintro e w6 ⟨rfl, hb6⟩
      replace hcw := hcw.below hb6
      have hn6 := hn5.below hb6
      clear h1 h2
      go_wp2_with fail
      refine (len_walk _ _ (hn6.alloc _)).mono ?_
      rintro e w7 ⟨rfl, rfl⟩
      go_wp2_with fail
      refine (export_walk _ _ (hn6.alloc _)).mono ?_
      rintro e w8 ⟨rfl, rfl⟩
      go_wp2_with fail
      go_roundg 0
      case measure => omega
      case rel => exact ⟨2, by omega, rfl, hcw.below ((Below.refl _ _).alloc (Nat.le_refl _) _)⟩
    · obtain rfl : i = 0 := by omega
      go_wp2_with fail
      refine (awake25_walk _).mono ?_
      rintro e w4 ⟨rfl, hb4⟩
      go_wp2_with fail
      go_ret
      exact ⟨rfl, hcw.bl.trans (hb4.mono (by have := hcw.sz; omega))⟩
end Go.Proofs.YtpjhkpmmbeoghaaGreat.Ev
