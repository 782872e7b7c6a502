/- Facts that the claim rests on, part 14. -/
import Derived.Test.YtagjdkkfmfombaaGreatKB12
namespace Go.Proofs.YtagjdkkfmfombaaGreat
open Go Go.RowKit
def visF (D : Kt) (wo : Nat → Nat) (f k : Nat) (a : List Nat) (v : Nat) : List Nat := match D.kn v with
 | some q => if (q : Int) = D.up k then a else D.visit wo f q a
 | none => a
theorem VisE.nmFix {D : Kt} {A : Lay} {nv : Nat} {F : Int → Option Int} {wo : Nat → Nat} {base : Nat} {w0 : World} (E : VisE D A nv F wo base w0) {k : Nat} (hk : k < D.m) :
  ∃ g2 c2, ∀ acc ob w, VisI A nv w0 acc ob w → w.cell? ⟨A.bo k, 4, none⟩ = some (.slice (some ⟨g2, 0, none⟩) 2 c2) ∧ Row w g2 3 1 c2 ((D.ordB wo k).map vN) := by
 obtain ⟨g2, c2, h1, h2, h3, -⟩ := E.nm k hk
 have hgp := E.gp
 have hT := E.T
 refine ⟨g2, c2, fun acc ob w hI => ⟨hI.bx.keep (World.block_lt_of_cell? w0 _ h1) (fun hx => ?_) h1, hI.bx.row h2 h2.lt fun o hx => ?_⟩⟩
 ·
  rcases hx with e | e
  · exact (E.bo k hk).1 e
  · simp at e
 ·
  rcases hx with e | e
  · simp only at e; omega
  ·
   have e2 : g2 = A.T := congrArg Addr.block e; omega
set_option maxRecDepth 100000 in
set_option maxHeartbeats 4000000 in
theorem blockVisit_walk {D : Kt} {A : Lay} {nv : Nat} {F : Int → Option Int} {wo : Nat → Nat} {base : Nat} {w0 : World} (E : VisE D A nv F wo base w0) (f k : Nat) (hm : k < D.m)
  (ih : ∀ q acc ob w, q < D.n → D.dep q = D.dep k + 1 → VisI A nv w0 acc ob w → Calls Tryz.prog (if q < D.m then 167 else 340) #[.pointer (some ⟨A.bo q, 0, none⟩), .pointer (some ⟨A.T, 0, none⟩)] w (RetVis A nv w0 (D.visit wo f q acc) ob w))
  (acc : List Nat) (ob : Option Nat) (w : World) (hI : VisI A nv w0 acc ob w) :
  Calls Tryz.prog 167 #[.pointer (some ⟨A.bo k, 0, none⟩), .pointer (some ⟨A.T, 0, none⟩)] w (RetVis A nv w0 (D.visit wo (f + 1) k acc) ob w) := by
 have hv : D.visit wo (f + 1) k acc = (D.ordB wo k).foldl (visF D wo f k) ((D.ordB wo k).foldl Kt.put acc) := by
  conv => lhs; unfold Kt.visit
  rw [if_pos hm]
  rfl
 rw [hv]
 obtain ⟨hxy, hyn⟩ := E.ok.ends k hm
 have hLv : ∀ v ∈ D.ordB wo k, (v = D.ex k ∨ v = D.ey k) ∧ v < nv := fun v hv => by
  have : v = D.ex k ∨ v = D.ey k := by
   unfold Kt.ordB ord2 at hv; split at hv <;> simp at hv <;> omega
  exact ⟨this, by omega⟩
 have hLl : (D.ordB wo k).length = 2 := by unfold Kt.ordB ord2; split <;> rfl
 have hpl := fun (acc : List Nat) (ob : Option Nat) (w : World) (hI : VisI A nv w0 acc ob w) (v : Nat) (hv : v < nv) => place_walk w0 E.tr (by have := E.gp; have := E.bs; omega) E.ok.nvl hI v hv
 obtain ⟨g2, c2, hnm⟩ := E.nmFix hm
 have p4 := (hnm acc ob w hI).1
 obtain ⟨L, hL⟩ : ∃ L, L = D.ordB wo k := ⟨_, rfl⟩
 rw [← hL] at hLv hLl hnm ⊢
 obtain ⟨acc2, hacc⟩ : ∃ acc2, acc2 = L.foldl Kt.put acc := ⟨_, rfl⟩
 rw [← hacc]
 have Hacc := Lib.hid hacc
 clear hacc
 have Hpl := Lib.hid hpl; have HE := Lib.hid E; have Hih := Lib.hid ih; have HI := Lib.hid hI; have HL := Lib.hid hL; have HLv := Lib.hid hLv; have HLl := Lib.hid hLl; have Hnm := Lib.hid hnm
 clear hpl E ih hI hL hLv hLl hnm hv
 go_enter Tryz.func167, Tryz.ntmps167
 go_wp2_with fail
 go_loopg [16] 2 (fun r iv wj => ∃ (i : Nat) (oj : Option Nat), i + r = 2 ∧ iv = .int .i64 (i : Nat) ∧ VisI A nv w0 ((L.take i).foldl Kt.put acc) oj wj ∧ VisTo A w ob wj oj)
 case atStart => exact ⟨0, ob, by omega, rfl, by rw [List.take_zero]; exact HI.out, VisTo.refl _ _ _⟩
 case round =>
  obtain ⟨i, oj, hi, rfl, hIj, hVj⟩ := hrel
  by_cases hil : i < 2
  ·
   have hiL : i < L.length := by rw [HLl.out]; exact hil
   obtain ⟨v, hvq⟩ : ∃ v, v = L[i] := ⟨_, rfl⟩
   have hvn := (HLv.out v (by rw [hvq]; exact List.getElem_mem _)).2; have hrj := (Hnm.out _ _ _ hIj).2; have qv : wr.cell? ⟨g2, i, none⟩ = some (.int .i64 (v : Nat)) := by rw [hrj.cell? i (by simpa using hiL), List.getElem?_map, List.getElem?_eq_getElem hiL, ← hvq]; rfl
   have hcall := Hpl.out _ _ _ hIj v hvn; have i0 : (0 : Int) ≤ (i : Int) := by omega
   have i1 : (i : Int) < 2 := by omega
   have Hcall := Lib.hid hcall; have HVj := Lib.hid hVj; have Hvq := Lib.hid hvq; have Hi := Lib.hid hi; clear hcall hVj hvq hi hrj hIj; go_wp2_with fail; refine Hcall.out.mono ?_; rintro e w5 ⟨rfl, o5, hI5, hV5⟩; have htk : L.take (i + 1) = L.take i ++ [v] := by rw [Hvq.out, List.take_add_one, List.getElem?_eq_getElem hiL]; rfl
   have hI6 : VisI A nv w0 ((L.take (i + 1)).foldl Kt.put acc) o5 w5 := by rw [htk, List.foldl_append]; exact hI5
   have HI6 := Lib.hid hI6; have HV6 := Lib.hid (HVj.out.trans hV5); clear hI5 hI6 htk hV5 Hcall; go_wp2_with fail; go_roundg (gk - 1)
   case measure => have := Hi.out; omega
   case rel => exact ⟨i + 1, o5, by have := Hi.out; omega, by go_num, HI6.out, HV6.out⟩
  ·
   have i4 : ¬ (i : Int) < 2 := by omega
   rw [List.take_of_length_le (by rw [HLl.out]; omega), ← Hacc.out] at hIj; have p5 := (Hnm.out _ _ _ hIj).1; have HIj := Lib.hid hIj; have HVj := Lib.hid hVj; clear hIj hVj hi p4; go_wp2_with fail; go_loopg [30] 2 (fun r iv wj => ∃ (i : Nat) (oj : Option Nat), i + r = 2 ∧ iv = .int .i64 (i : Nat) ∧ VisI A nv w0 ((L.take i).foldl (visF D wo f k) acc2) oj wj ∧ VisTo A w ob wj oj)
   case atStart => exact ⟨0, oj, by omega, rfl, by rw [List.take_zero]; exact HIj.out, HVj.out⟩
   case round =>
    clear HIj HVj; obtain ⟨i, oj, hi, rfl, hIj, hVj⟩ := hrel; by_cases hil : i < 2
    ·
     have hiL : i < L.length := by rw [HLl.out]; exact hil
     obtain ⟨v, hvq⟩ : ∃ v, v = L[i] := ⟨_, rfl⟩
     obtain ⟨hve, hvn⟩ := HLv.out v (by rw [hvq]; exact List.getElem_mem _); have hrj := (Hnm.out _ _ _ hIj).2; have qv : wr.cell? ⟨g2, i, none⟩ = some (.int .i64 (v : Nat)) := by rw [hrj.cell? i (by simpa using hiL), List.getElem?_map, List.getElem?_eq_getElem hiL, ← hvq]; rfl
     have hT := HE.out.tree hIj; have qt8 := hT.t8.1; have qt3 := hT.t3.1; have qa := (hT.at_ k (by have := HE.out.ok.ml; omega)).1; have qu := (hT.up k (by have := HE.out.ok.ml; omega)).1; obtain ⟨cm, hmz⟩ := hT.map; have hlk := hmz.lookOk (v := (v : Int)) (wfZ_of (by have := HE.out.ok.nvl; omega)); have hFv := HE.out.ok.kn v hvn; have htk : L.take (i + 1) = L.take i ++ [v] := by rw [hvq, List.take_add_one, List.getElem?_eq_getElem hiL]; rfl
     have i0 : (0 : Int) ≤ (i : Int) := by omega
     have i1 : (i : Int) < 2 := by omega
     have i3 : (k : Int) < (D.n : Int) := by have := HE.out.ok.ml; omega
     have i5 : (0 : Int) ≤ (k : Int) := by omega
     obtain ⟨u, hu⟩ : ∃ u, u = D.up k := ⟨_, rfl⟩
     rw [← hu] at qu; have hstep : (L.take (i + 1)).foldl (visF D wo f k) acc2 = visF D wo f k ((L.take i).foldl (visF D wo f k) acc2) v := by rw [htk, List.foldl_append]; rfl
     obtain ⟨kq, hkq⟩ : ∃ kq, kq = D.kn v := ⟨_, rfl⟩
     rw [← hkq] at hFv; have Hkq := Lib.hid hkq; have Hu := Lib.hid hu; have Hstep := Lib.hid hstep; have HIj := Lib.hid hIj; have HVj := Lib.hid hVj; have Hi := Lib.hid hi; have Hve := Lib.hid hve; have HT := Lib.hid hT; clear hkq hu hstep htk hIj hVj hi hve hT hmz hrj hvq; cases kq with
     | none =>
      rw [show F (v : Int) = none from hFv] at hlk; clear hFv; go_wp2_with fail; go_quiet (fail)
      obtain ⟨hI6, hV6⟩ := HIj.out.below (below_drewN (RowKit.Below.refl wr.heap.size wr) nq); have hz : (L.take (i + 1)).foldl (visF D wo f k) acc2 = (L.take i).foldl (visF D wo f k) acc2 := by rw [Hstep.out]; unfold visF; rw [← Hkq.out]
      have HI6 := Lib.hid hI6; have HV6 := Lib.hid (HVj.out.trans hV6); have Hz := Lib.hid hz; clear hI6 hV6 hz; go_wp2_with fail; go_roundg (gk - 1)
      case measure => have := Hi.out; omega
      case rel => exact ⟨i + 1, oj, by have := Hi.out; omega, by go_num, by rw [Hz.out]; exact HI6.out, HV6.out⟩
     | some q =>
      rw [show F (v : Int) = some (q : Int) from hFv] at hlk; clear hFv; obtain ⟨hqm, hqn⟩ := HE.out.ok.knl v q Hkq.out.symm; by_cases hqu : (q : Int) = u
      ·
       have e1 : ((q : Int) != u) = false := by rw [hqu]; exact bne_self_eq_false _
       have hz : (L.take (i + 1)).foldl (visF D wo f k) acc2 = (L.take i).foldl (visF D wo f k) acc2 := by rw [Hstep.out]; unfold visF; rw [← Hkq.out, ← Hu.out]; simp only; rw [if_pos hqu]
       have Hz := Lib.hid hz; clear hqu hz; go_wp2_with fail; go_quiet (fail)
       obtain ⟨hI6, hV6⟩ := HIj.out.below (below_drewN (RowKit.Below.refl wr.heap.size wr) nq); have HI6 := Lib.hid hI6; have HV6 := Lib.hid (HVj.out.trans hV6); clear hI6 hV6; go_wp2_with fail; go_roundg (gk - 1)
       case measure => have := Hi.out; omega
       case rel => exact ⟨i + 1, oj, by have := Hi.out; omega, by go_num, by rw [Hz.out]; exact HI6.out, HV6.out⟩
      ·
       have e1 : ((q : Int) != u) = true := by simpa using hqu
       have hqd := HE.out.ok.adj k q (by have := HE.out.ok.ml; omega) (HE.out.ok.knb k v q hm Hve.out Hkq.out.symm) (by rw [← Hu.out]; exact hqu); have hz : (L.take (i + 1)).foldl (visF D wo f k) acc2 = D.visit wo f q ((L.take i).foldl (visF D wo f k) acc2) := by rw [Hstep.out]; unfold visF; rw [← Hkq.out, ← Hu.out]; simp only; rw [if_neg hqu]
       have Hz := Lib.hid hz; clear hqu hz; go_wp2_with fail; go_quiet (fail)
       obtain ⟨hI6, hV6⟩ := HIj.out.below (below_drewN (RowKit.Below.refl wr.heap.size wr) nq); generalize wr.drewN nq = wd at *
       have hTd := HE.out.tree hI6; obtain ⟨c0, h0⟩ := hTd.t0; have q0 := h0.1; have qk := (hTd.knot q hqn).1; rw [if_neg (by omega)] at qk; have hcall := Hih.out q _ oj wd hqn hqd hI6; rw [if_neg (by omega)] at hcall; have i6 : (0 : Int) ≤ (q : Int) := by omega
       have i7 : (q : Int) < (D.n : Int) := by omega
       have hmC : ∀ (w : World) (b : Nat), (method 533 121 (.pointer (some ⟨b, 0, none⟩)) "fretwork/bough.visit").run Tryz.prog w = .ok (340, .pointer (some ⟨b, 0, none⟩)) w := fun _ _ => by kernel_rfl
       have Hcall := Lib.hid hcall; have HV6 := Lib.hid (HVj.out.trans hV6); clear hcall hI6 hV6 hTd h0; go_wp2_with fail; refine Hcall.out.mono ?_; rintro e w5 ⟨rfl, o5, hI5, hV5⟩; have HI7 := Lib.hid hI5; have HV7 := Lib.hid (HV6.out.trans hV5); clear hI5 hV5 Hcall; go_wp2_with fail; go_roundg (gk - 1)
       case measure => have := Hi.out; omega
       case rel => exact ⟨i + 1, o5, by have := Hi.out; omega, by go_num, by rw [Hz.out]; exact HI7.out, HV7.out⟩
    ·
     have i4 : ¬ (i : Int) < 2 := by omega
     rw [List.take_of_length_le (by rw [HLl.out]; omega)] at hIj; have HIj := Lib.hid hIj; have HVj := Lib.hid hVj; clear hIj hVj hi; go_wp2_with fail; go_end0; exact ⟨rfl, oj, HIj.out, HVj.out⟩
end Go.Proofs.YtagjdkkfmfombaaGreat
namespace Go.Proofs.YtagjdkkfmfombaaGreat
open Go Go.RowKit
def lvS (D : Kt) (d i : Nat) : List Nat := (List.range i).filter fun k => D.dep k == d
theorem lvS_succ (D : Kt) (d i : Nat) : lvS D d (i + 1) = lvS D d i ++ if D.dep i = d then [i] else [] := by
 unfold lvS
 rw [List.range_succ, List.filter_append]
 congr 1
 by_cases e : D.dep i = d <;> simp [e]
theorem lvS_lt {D : Kt} {d i k : Nat} (h : k ∈ lvS D d i) : k < i ∧ D.dep k = d := by
 unfold lvS at h
 rw [List.mem_filter, List.mem_range] at h
 exact ⟨h.1, by simpa using h.2⟩
theorem lvS_mem {D : Kt} {d i k : Nat} (h : k < i) (e : D.dep k = d) : k ∈ lvS D d i := by
 unfold lvS
 rw [List.mem_filter, List.mem_range]
 exact ⟨h, by simpa using e⟩
theorem lvS_len (D : Kt) (d i : Nat) : (lvS D d i).length ≤ i := by
 unfold lvS
 have := List.length_filter_le (fun k => D.dep k == d) (List.range i)
 simpa using this
def nwo (D : Kt) (wo : Nat → Nat) (d : Nat) (S : List Nat) (k : Nat) : Nat := if k ∈ S then rankB (D.keysAt wo d) (D.key wo k) else wo k
theorem nwo_nil (D : Kt) (wo : Nat → Nat) (d : Nat) : nwo D wo d [] = wo := by funext k; simp [nwo]
theorem nwo_push (D : Kt) (wo : Nat → Nat) (d : Nat) (S : List Nat) (x : Nat) : (fun k => ((nwo D wo d (S ++ [x]) k : Nat) : Int)) = updI (fun k => ((nwo D wo d S k : Nat) : Int)) x (rankB (D.keysAt wo d) (D.key wo x) : Nat) := by
 funext k
 unfold nwo updI
 by_cases e : k = x
 · subst e; simp
 · simp [e]
theorem LvW.done {D : Kt} {nv : Nat} {F : Int → Option Int} {A : Lay} {w0 w w' : World} {wo : Nat → Nat} {d : Nat} {ks : List Ky} {lv4 lv5 : Value} (ok : D.Ok nv F) (sp : Sep D A w0.heap.size) (h : LvW D A w0 wo (d + 1) (lvS D d D.n) ks lv4 lv5 w)
  (hb : BelX w.heap.size (fun a => a.block = A.gw) w w') (hr : Row w' A.gw 3 1 D.n (intsF D.n fun k => (nwo D wo d (lvS D d D.n) k : Nat))) : WgI D A w0 (nwo D wo d (lvS D d D.n)) d (fun _ => True) w' := by
 have deep : ∀ q, q < D.n → d < D.dep q → nwo D wo d (lvS D d D.n) q = wo q := fun q _ hd => by
  unfold nwo
  rw [if_neg fun hm => by have := (lvS_lt hm).2; omega]
 have hrank : ∀ k, k < D.n → D.dep k = d → rankB (D.keysAt wo d) (D.key wo k) < D.n := fun k hk hd => by
  have h1 : D.key wo k ∈ D.keysAt wo d := List.mem_map.2 ⟨k, by rw [List.mem_filter, List.mem_range]; exact ⟨hk, by simpa using hd⟩, rfl⟩
  have h2 := rankB_lt h1
  have h3 : (D.keysAt wo d).length ≤ D.n := by
   unfold Kt.keysAt; rw [List.length_map]; have := List.length_filter_le (fun k => D.dep k == d) (List.range D.n); simpa using this
  omega
 have hnl := ok.nl
 have far : ∀ k, k < D.m → A.bo k ≠ A.gw := fun k hk => (sp.bw k hk).1
 have hm : ∀ p : Addr, p.block = A.gw → A.mutW D.m p := fun p hp => .inl hp
 refine ⟨h.wg.bx.trans ⟨hb.os, hb.tape, hb.output, hb.size, fun a ha hma => hb.cell a (by have := h.wg.bx.size; omega) fun e => hma (hm a e), fun a ha hma => hb.froz a (by have := h.wg.bx.size; omega) fun e => hma (hm a e), fun k hk hmk => hb.obj k (by have := h.wg.bx.size; omega) fun o e => hmk o (hm _ e)⟩, hr, fun q hq => ?_, fun k hk hd => ?_, fun k hk => (h.wg.nm k hk).keep hb fun i => far k hk, fun k hk hd => ?_⟩
 ·
  unfold nwo
  split
  ·
   rename_i hq2; have := hrank q hq (lvS_lt hq2).2; omega
  · exact h.wg.bd q hq
 ·
  have e1 : D.key (nwo D wo d (lvS D d D.n)) k = D.key wo k := ok.keyEq hk fun q hq hdq => deep q hq (by omega)
  have e2 : D.keysAt (nwo D wo d (lvS D d D.n)) (D.dep k) = D.keysAt wo (D.dep k) := ok.keysEq fun q hq hdq => deep q hq (by omega)
  rw [e1, e2]
  by_cases e : D.dep k = d
  ·
   unfold nwo; rw [if_pos (lvS_mem hk e), e]
  ·
   rw [deep k hk (by omega)]; exact h.wg.wt k hk (by omega)
 ·
  have e1 : D.ordB (nwo D wo d (lvS D d D.n)) k = D.ordB wo k := (ok.ordEq hk fun q hq hdq => deep q hq (by omega)).2
  rw [e1]
  have hx : ∀ g o, w0.heap.size ≤ g → (lv4.ownBlock ≠ some g ∧ lv5.ownBlock ≠ some g) → ¬ (⟨g, o, none⟩ : Addr).block = A.gw := fun g o hg _ e => by have := sp.w; simp only at e; omega
  by_cases e : D.dep k = d
  · exact ((h.nml k (lvS_mem (by have := ok.ml; omega) e) hk).keep hb (far k hk) hx).imp fun _ _ _ => trivial
  · exact ((h.wg.nms k hk (by omega)).keep hb (far k hk) hx).imp fun _ _ _ => trivial
theorem KyI.keepW {D : Kt} {A : Lay} {w0 w w' : World} {wo : Nat → Nat} {d1 g cap : Nat} {S : List Nat} {ks ts : List Ky} {lv4 lv5 : Value} (h : KyI w g cap ts) (hsub : ∀ p ∈ ts, p ∈ ks) (hL : LvW D A w0 wo d1 S ks lv4 lv5 w) (sp : Sep D A w0.heap.size) (hg : g ≠ A.gw) (hb : BelX w.heap.size (fun a => a.block = A.gw) w w') : KyI w' g cap ts :=
 ⟨hb.row h.row h.row.lt fun _ e => hg e, fun p hp => by
  obtain ⟨h1, h2, h3⟩ := h.each p hp
  obtain ⟨g1, e1, -, e3, -, -⟩ := hL.ps p (hsub p hp)
  refine ⟨fun i u hu => ?_, h2, h3⟩
  obtain ⟨b, o, f1, f2⟩ := h1 i u hu
  refine ⟨b, o, f1, hb.keep (World.block_lt_of_cell? w _ f2) (fun e => ?_) f2⟩
  rw [e1] at f1
  simp at f1
  have := sp.w
  simp only at e
  omega⟩
theorem rankB_at {l : List (List Int)} {x : List Int} (hx : x ∈ l) : (sortU l)[rankB l x]? = some x := by
 unfold rankB
 have h1 := List.idxOf_lt_length_iff.2 (mem_sortU.2 hx)
 rw [List.getElem?_eq_getElem h1, List.getElem_idxOf h1]
end Go.Proofs.YtagjdkkfmfombaaGreat
namespace Go.Proofs.YtagjdkkfmfombaaGreat
open Go Go.RowKit
def KeyR (w0 w : World) (lv4 lv5 : Value) (p : Ky) : Prop := ∃ g, p.2.1 = some ⟨g, 0, none⟩ ∧ Row w g 5 1 p.2.2 (p.1.map byteV) ∧ w0.heap.size ≤ g ∧ lv4.ownBlock ≠ some g ∧ lv5.ownBlock ≠ some g
theorem KeyR.grown2 {w0 w w1 w2 : World} {lv4 lv5 : Value} {p : Ky} {g4 n c4 : Nat} (h : KeyR w0 w lv4 lv5 p) (hb : RowKit.Below w.heap.size w w1) (hg : w1.grownBy w2 lv4.ownBlock) (ho : lv4.ownBlock = some g4 ∨ w1.heap.size ≤ g4) : KeyR w0 w2 (.slice (some ⟨g4, 0, none⟩) n c4) lv5 p := by
 obtain ⟨g, h1, h2, h3, h4, h5⟩ := h
 refine ⟨g, h1, (h2.below hb h2.lt).grown hg h4, h3, fun e => ?_, h5⟩
 simp [Value.ownBlock] at e
 subst e
 have := h2.lt
 have := hb.size
 rcases ho with ho | ho
 · exact h4 ho
 · omega
theorem KeyR.below {w0 w w' : World} {lv4 lv5 : Value} {p : Ky} (h : KeyR w0 w lv4 lv5 p) (hb : RowKit.Below w.heap.size w w') : KeyR w0 w' lv4 lv5 p := by
 obtain ⟨g, h1, h2, h3, h4, h5⟩ := h
 exact ⟨g, h1, h2.below hb h2.lt, h3, h4, h5⟩
theorem dep_lt {D : Kt} {nv : Nat} {F : Int → Option Int} (ok : D.Ok nv F) {k : Nat} (hk : k < D.n) : D.dep k < D.n := by
 have h := nodup_len_le (l := List.range (D.dep k + 1)) (m := (List.range D.n).map D.dep) List.nodup_range fun d hd => by
  rw [List.mem_range] at hd
  obtain ⟨p, hp, he⟩ := ok.level hk (D.dep k - d) d (by omega)
  exact List.mem_map.2 ⟨p, List.mem_range.2 hp, he⟩
 simp at h
 omega
set_option maxRecDepth 100000 in
set_option maxHeartbeats 8000000 in
theorem weigh_walk {D : Kt} {nv : Nat} {A : Lay} {F : Int → Option Int} (ok : D.Ok nv F) (w0 : World) (sp : Sep D A w0.heap.size) (hT : TreeW D nv A F w0) (hw : Row w0 A.gw 3 1 D.n (intsF D.n fun _ => ((0 : Nat) : Int))) (hnm : ∀ k, k < D.m → NmOk w0 (A.bo k)) :
  Calls Tryz.prog 36 #[.pointer (some ⟨A.T, 0, none⟩)] w0 fun e w' => e = .returned (.int .i64 0) ∧ ∃ wo, D.Weighed wo ∧ WgI D A w0 wo 0 (fun _ => True) w' := by
 have hmax := max_walk A.gd D.n D.n (fun k => (D.dep k : Nat)) w0 ok.ne (by have := ok.nl; omega) (fun k hk => (hT.dep k hk).1)
 have p4 := hT.t4.1
 obtain ⟨n, hn⟩ : ∃ n, n = D.n := ⟨_, rfl⟩
 have hn1 : n ≤ 1000 := by rw [hn]; exact ok.nl
 have hmn : D.m ≤ n := by rw [hn]; exact ok.ml
 rw [← hn] at p4 hmax
 have Hmax := Lib.hid hmax; have HT := Lib.hid hT; have Hw := Lib.hid hw; have Hnm := Lib.hid hnm; have Hok := Lib.hid ok; have Hn := Lib.hid hn
 clear hmax hT hw hnm ok hn
 go_enter Tryz.func36, Tryz.ntmps36
 go_wp2_with fail
 refine Hmax.out.mono ?_
 rintro e w1 ⟨km, hkm, hall, rfl, rfl⟩
 obtain ⟨dm, hdm⟩ : ∃ dm, dm = D.dep km := ⟨_, rfl⟩
 have hst : WgI D A w1 (fun _ => 0) (dm + 1) (fun _ => True) w1 := ⟨BelX.refl _ _ _, Hw.out, fun q _ => by omega, fun k hk hd => by have h1 := hall k (by rw [Hn.out]; exact hk); omega, Hnm.out, fun k hk hd => by have h1 := hall k (by rw [Hn.out]; have := Hok.out.ml; omega); omega⟩
 have hdn : dm ≤ 1000 := by
  have h1 := dep_lt Hok.out (by have := Hn.out; omega : km < D.n)
  have h2 := Hok.out.nl
  omega
 rw [← hdm]
 have Hst := Lib.hid hst; have Hall := Lib.hid hall; have Hdm := Lib.hid hdm
 clear hst hall hdm Hw Hnm
 go_wp2_with fail
 go_loopg [3] (dm + 1) (fun r zv wj => ∃ (z : Int) (wo : Nat → Nat), zv = .int .i64 z ∧ z + 1 = (r : Int) ∧ r ≤ dm + 1 ∧ WgI D A w1 wo r (fun _ => True) wj)
 case atStart => exact ⟨(dm : Int), fun _ => 0, rfl, by omega, by omega, Hst.out⟩
 case round =>
  clear Hst
  obtain ⟨z, wo, rfl, hz, hrd, hW⟩ := hrel
  by_cases hz0 : 0 ≤ z
  ·
   obtain ⟨d, rfl⟩ : ∃ d : Nat, z = (d : Int) := ⟨z.toNat, by omega⟩
   have hgk : gk = d + 1 := by omega
   subst hgk; have i1 : (0 : Int) ≤ (d : Int) := by omega
   obtain ⟨c0, h0⟩ := (HT.out.keep hW.bx.mut).t0; have q0 := h0.1; rw [← Hn.out] at q0; have hL := LvW.start hW; have HL := Lib.hid hL; obtain ⟨wo_, rfl⟩ : ∃ w_ : World, w_ = wr := ⟨_, rfl⟩
   clear hW hL h0; go_upto_region 7 with (fail)
   go_loopg [4, 5, 28] n (fun r u4 u5 iv wj => ∃ (i : Nat) (S : List Nat) (ks : List Ky), i + r = n ∧ iv = .int .i64 (i : Nat) ∧ S = lvS D d i ∧ kyB ks = S.map (D.key wo) ∧ LvW D A w1 wo (d + 1) S ks u4 u5 wj)
   case atStart => exact ⟨0, [], [], by omega, rfl, by simp [lvS], rfl, HL.out⟩
   case round =>
    clear HL q0; obtain ⟨i, S, ks, hi, rfl, hS, hks, hL⟩ := hrel; have Hi := Lib.hid hi; have HS := Lib.hid hS; have Hks := Lib.hid hks; by_cases hin : i < n
    ·
     have hS0 := hS; clear hi hS hks; have hTr := HT.out.keep hL.wg.bx.mut; obtain ⟨c0, h0⟩ := hTr.t0; have q0 := h0.1; have q4 := hTr.t4.1; have hiD : i < D.n := by rw [← Hn.out]; exact hin
     have qk := (hTr.knot i hiD).1; have qd := (hTr.dep i hiD).1; rw [← Hn.out] at q0 q4; obtain ⟨di, hdi⟩ : ∃ di, di = D.dep i := ⟨_, rfl⟩
     rw [← hdi] at qd; have i2 : (i : Int) < (n : Int) := by omega
     have Hdi := Lib.hid hdi; have HL := Lib.hid hL; have HTr := Lib.hid hTr; clear hdi hL hTr h0; by_cases hd : di = d
     ·
      subst hd; have hnS : i ∉ S := by rw [hS0]; intro h; have := (lvS_lt h).1; omega
      have HnS := Lib.hid hnS; clear hnS; have hsl : S.length = ks.length := by have := congrArg List.length Hks.out; rw [kyB_len, List.length_map] at this; exact this.symm
      have hsn : S.length ≤ 1000 := by rw [hS0]; have := lvS_len D di i; omega
      have Hsl := Lib.hid hsl; have Hks0 : ks.length ≤ 1000 := by omega
      clear hsl hS0; by_cases him : i < D.m
      ·
       rw [if_pos him] at qk; have hmB : ∀ (w : World) (b : Nat), (method 533 115 (.pointer (some ⟨b, 0, none⟩)) "fretwork/bough.weigh").run Tryz.prog w = .ok (168, .pointer (some ⟨b, 0, none⟩)) w := fun _ _ => by kernel_rfl
       go_upto_region 10 with (fail)
       go_wp2_with fail; refine (blockWeigh_walk Hok.out i him wo HL.out.wg.bd _ HTr.out HL.out.wg.row (HL.out.wg.nm i him) (sp.bw i him).1).mono ?_; rintro e w5 ⟨gk5, ck5, rfl, hrk, hck, hgk5, hnis, hnok, hbx⟩; have hL5 := HL.out.call sp hbx (fun p hp => ⟨him, hp⟩) (fun _ => hnok) (fun _ => ⟨by have := Hdi.out; omega, HnS.out⟩); have hnm5 : i < D.m → NmAt w5 w1.heap.size (A.bo i) (D.ordB wo i) (fun g => u4.ownBlock ≠ some g ∧ u5.ownBlock ≠ some g) := fun _ => by
        obtain ⟨g2, c2, _, h2, h3, h4⟩ := hnis; exact ⟨g2, c2, h2, h3, by have := HL.out.size; omega, fun e => by have := Own.lt HL.out.at_ e; omega, fun e => by have := Own.lt HL.out.ky e; omega⟩
       have hps : KeyR w1 w5 u4 u5 (D.keyB wo i, some ⟨gk5, 0, none⟩, ck5) := ⟨gk5, rfl, hrk, by have := HL.out.size; omega, fun e => by have := Own.lt HL.out.at_ e; omega, fun e => by have := Own.lt HL.out.ky e; omega⟩
       have hkey : D.key wo i = D.keyB wo i := by unfold Kt.key; rw [if_pos him]
       have hkl : (D.keyB wo i).length ≤ 1000000 := by rw [← hkey]; exact Hok.out.keyLen wo
       obtain ⟨key, hkq⟩ : ∃ key, key = D.keyB wo i := ⟨_, rfl⟩
       rw [← hkq] at hps hkey hkl hrk; rw [← hkq]; have HL5 := Lib.hid hL5; have Hnm5 := Lib.hid hnm5; have Hps := Lib.hid hps; have Hkey := Lib.hid hkey; have Hgr := Lib.hid hrk; clear hL5 hnm5 hps hkey hkq hrk; have hLA := HL5.out.below sp (bl_alloc w5 (.cells #[.int .i64 (i : Nat)] 3)); have hnmA : ∀ k ∈ S ++ [i], k < D.m → NmAt (w5.alloc (.cells #[.int .i64 (i : Nat)] 3)) w1.heap.size (A.bo k) (D.ordB wo k) (fun g => u4.ownBlock ≠ some g ∧ u5.ownBlock ≠ some g) := fun k hk hkm => ((HL5.out.named Hnm5.out) k hk hkm).keep (X := fun _ => False) (BelX.ofBelow (bl_alloc _ _)) (fun h => h) (fun _ _ _ _ h => h); have HLA := Lib.hid hLA; have HnmA := Lib.hid hnmA; clear hLA hnmA HL5 Hnm5
       go_wp2_with (first
        | (at_builtin; (refine wpList_append_row _ rfl (.tmp 51) (.tmp 53) 25 rfl 3 (.int .i64 0) 1 8 Tryz.underlying25 int_info rfl u4 S.length _ rfl HLA.out.at_ ⟨w5.heap.size, 0, none⟩ 1 1 [.int .i64 (i : Nat)] rfl rfl (one_new (by simp)) (one_ok _ _) (by omega) (by unfold maxLen; omega) (by omega) ?_; intro g4 c4 w6 hr4 hc4 hg4 ho4; have hr4' : Row w6 g4 3 1 c4 ((S ++ [i]).map vN) := (by rw [List.map_append]; exact hr4); have HL6 := Lib.hid (HLA.out.pushA sp HnmA.out hr4' hg4 ho4); have HLB := Lib.hid (HL6.out.below sp (bl_alloc w6 (.cells #[.slice (some ⟨gk5, 0, none⟩) key.length ck5] 28))); have Hp6 := Lib.hid (Hps.out.grown2 (n := S.length + 1) (c4 := c4) (bl_alloc w5 (.cells #[.int .i64 (i : Nat)] 3)) hg4 ho4); clear hr4 hr4'))
        | (at_builtin; (refine wpList_append_row _ rfl (.tmp 55) (.tmp 57) 127 rfl 28 (.slice none 0 0) 1 24 Tryz.underlying127 bys_info rfl u5 ks.length _ rfl HLB.out.ky ⟨w6.heap.size, 0, none⟩ 1 1 [.slice (some ⟨gk5, 0, none⟩) key.length ck5] rfl rfl (one_new (by simp)) (by intro u hu; simp at hu; subst hu; rfl) (by omega) (by unfold maxLen; omega) (by omega) ?_; intro g5 c5 w7 hr5 hc5 hg5 ho5)))
       have hL7 := HLB.out.pushK (p0 := (key, some ⟨gk5, 0, none⟩, ck5)) sp (Hp6.out.below (bl_alloc _ _)) (by rw [List.map_append]; exact hr5) hg5 ho5; have HL7 := Lib.hid hL7; clear hL7 hr5 hg5; go_roundg (gk - 1)
       case measure => have := Hi.out; omega
       case rel => exact ⟨i + 1, S ++ [i], ks ++ [(key, some ⟨gk5, 0, none⟩, ck5)], by have := Hi.out; omega, by go_num, by rw [lvS_succ, if_pos Hdi.out.symm, HS.out], by unfold kyB; rw [List.map_append, List.map_append]; exact congr (congrArg _ Hks.out) (by simp [Hkey.out]), by simpa using HL7.out⟩
      ·
       rw [if_neg him] at qk; have hmC : ∀ (w : World) (b : Nat), (method 533 121 (.pointer (some ⟨b, 0, none⟩)) "fretwork/bough.weigh").run Tryz.prog w = .ok (341, .pointer (some ⟨b, 0, none⟩)) w := fun _ _ => by kernel_rfl
       go_upto_region 10 with (fail)
       go_wp2_with fail; refine (cutWeigh_walk Hok.out i (by omega) hiD wo _ HTr.out HL.out.wg.row).mono ?_; rintro e w5 ⟨gk5, ck5, rfl, hrk, hck, hgk5, hbx⟩; have hL5 := HL.out.below sp hbx; have hnm5 : i < D.m → NmAt w5 w1.heap.size (A.bo i) (D.ordB wo i) (fun g => u4.ownBlock ≠ some g ∧ u5.ownBlock ≠ some g) := fun h => absurd h him; have hps : KeyR w1 w5 u4 u5 (D.keyC wo i, some ⟨gk5, 0, none⟩, ck5) := ⟨gk5, rfl, hrk, by have := HL.out.size; omega, fun e => by have := Own.lt HL.out.at_ e; omega, fun e => by have := Own.lt HL.out.ky e; omega⟩
       have hkey : D.key wo i = D.keyC wo i := by unfold Kt.key; rw [if_neg him]
       have hkl : (D.keyC wo i).length ≤ 1000000 := by rw [← hkey]; exact Hok.out.keyLen wo
       obtain ⟨key, hkq⟩ : ∃ key, key = D.keyC wo i := ⟨_, rfl⟩
       rw [← hkq] at hps hkey hkl hrk; rw [← hkq]; have HL5 := Lib.hid hL5; have Hnm5 := Lib.hid hnm5; have Hps := Lib.hid hps; have Hkey := Lib.hid hkey; have Hgr := Lib.hid hrk; clear hL5 hnm5 hps hkey hkq hrk; have hLA := HL5.out.below sp (bl_alloc w5 (.cells #[.int .i64 (i : Nat)] 3)); have hnmA : ∀ k ∈ S ++ [i], k < D.m → NmAt (w5.alloc (.cells #[.int .i64 (i : Nat)] 3)) w1.heap.size (A.bo k) (D.ordB wo k) (fun g => u4.ownBlock ≠ some g ∧ u5.ownBlock ≠ some g) := fun k hk hkm => ((HL5.out.named Hnm5.out) k hk hkm).keep (X := fun _ => False) (BelX.ofBelow (bl_alloc _ _)) (fun h => h) (fun _ _ _ _ h => h); have HLA := Lib.hid hLA; have HnmA := Lib.hid hnmA; clear hLA hnmA HL5 Hnm5
       go_wp2_with (first
        | (at_builtin; (refine wpList_append_row _ rfl (.tmp 51) (.tmp 53) 25 rfl 3 (.int .i64 0) 1 8 Tryz.underlying25 int_info rfl u4 S.length _ rfl HLA.out.at_ ⟨w5.heap.size, 0, none⟩ 1 1 [.int .i64 (i : Nat)] rfl rfl (one_new (by simp)) (one_ok _ _) (by omega) (by unfold maxLen; omega) (by omega) ?_; intro g4 c4 w6 hr4 hc4 hg4 ho4; have hr4' : Row w6 g4 3 1 c4 ((S ++ [i]).map vN) := (by rw [List.map_append]; exact hr4); have HL6 := Lib.hid (HLA.out.pushA sp HnmA.out hr4' hg4 ho4); have HLB := Lib.hid (HL6.out.below sp (bl_alloc w6 (.cells #[.slice (some ⟨gk5, 0, none⟩) key.length ck5] 28))); have Hp6 := Lib.hid (Hps.out.grown2 (n := S.length + 1) (c4 := c4) (bl_alloc w5 (.cells #[.int .i64 (i : Nat)] 3)) hg4 ho4); clear hr4 hr4'))
        | (at_builtin; (refine wpList_append_row _ rfl (.tmp 55) (.tmp 57) 127 rfl 28 (.slice none 0 0) 1 24 Tryz.underlying127 bys_info rfl u5 ks.length _ rfl HLB.out.ky ⟨w6.heap.size, 0, none⟩ 1 1 [.slice (some ⟨gk5, 0, none⟩) key.length ck5] rfl rfl (one_new (by simp)) (by intro u hu; simp at hu; subst hu; rfl) (by omega) (by unfold maxLen; omega) (by omega) ?_; intro g5 c5 w7 hr5 hc5 hg5 ho5)))
       have hL7 := HLB.out.pushK (p0 := (key, some ⟨gk5, 0, none⟩, ck5)) sp (Hp6.out.below (bl_alloc _ _)) (by rw [List.map_append]; exact hr5) hg5 ho5; have HL7 := Lib.hid hL7; clear hL7 hr5 hg5; go_roundg (gk - 1)
       case measure => have := Hi.out; omega
       case rel => exact ⟨i + 1, S ++ [i], ks ++ [(key, some ⟨gk5, 0, none⟩, ck5)], by have := Hi.out; omega, by go_num, by rw [lvS_succ, if_pos Hdi.out.symm, HS.out], by unfold kyB; rw [List.map_append, List.map_append]; exact congr (congrArg _ Hks.out) (by simp [Hkey.out]), by simpa using HL7.out⟩
     ·
      have e1 : ((di : Int) != (d : Int)) = true := by simp; omega
      generalize (if i < D.m then 115 else 121) = ty at qk; clear hS0; have hS2 : S = lvS D d (i + 1) := by rw [lvS_succ, if_neg (by rw [← Hdi.out]; exact hd), List.append_nil]; exact HS.out
      have HS2 := Lib.hid hS2; clear hd hS2; go_wp2_with fail; go_roundg (gk - 1)
      case measure => have := Hi.out; omega
      case rel => exact ⟨i + 1, S, ks, by have := Hi.out; omega, by go_num, HS2.out, Hks.out, HL.out⟩
    ·
     obtain rfl : i = n := by omega
     have hSm : ∀ x, x ∈ S ↔ x < D.n ∧ D.dep x = d := fun x => by rw [hS, Hn.out, lvS, List.mem_filter, List.mem_range, beq_iff_eq]
     have hSn : S ≠ [] := by
      obtain ⟨q, hq1, hq2⟩ := Hok.out.level (k := km) (by have := Hn.out; omega) (D.dep km - d) d (by have := Hdm.out; omega); exact List.ne_nil_of_mem ((hSm q).2 ⟨hq1, hq2⟩)
     have hkl : ks.length = S.length := by have := congrArg List.length hks; rwa [kyB_len, List.length_map] at this
     have hS1 : 0 < S.length := by have := List.length_pos_iff.2 hSn; omega
     have hsn : S.length ≤ 1000 := by rw [hS]; have := lvS_len D d i; omega
     rcases hL.at_.2 with ⟨_, hz⟩ | ⟨g4, c4, rfl, hc4, hr4⟩
     · omega
     rcases hL.ky.2 with ⟨_, hz⟩ | ⟨g5, c5, rfl, hc5, hr5⟩
     · omega
     have hkeys : kyB ks = D.keysAt wo d := by rw [hks, hS, Hn.out]; rfl
     have hlen : ∀ p ∈ ks, p.1.length ≤ 1000000 ∧ p.1 ≠ [] := fun p hp => by
      have h1 : p.1 ∈ S.map (D.key wo) := by rw [← hks]; exact List.mem_map.2 ⟨p, hp, rfl⟩
      obtain ⟨q, -, hq⟩ := List.mem_map.1 h1; rw [← hq]; exact ⟨Hok.out.keyLen wo, Hok.out.keyNe wo q⟩
     have hB := bl_alloc wr (.cells #[.func (.func 61) #[] #[]] 129); have hbox : (wr.alloc (.cells #[.func (.func 61) #[] #[]] 129)).cell? ⟨wr.heap.size, 0, none⟩ = some (.func (.func 61) #[] #[]) := by simp
     obtain ⟨wB, hwB⟩ : ∃ wB, wB = wr.alloc (.cells #[.func (.func 61) #[] #[]] 129) := ⟨_, rfl⟩
     have hszB : wr.heap.size < wB.heap.size := by rw [hwB]; simp
     rw [← hwB] at hB hbox; have hLB := hL.below sp hB
     have hKB : KyI wB g5 c5 ks := ⟨hr5.below hB hr5.lt, fun p hp => by
      obtain ⟨g, h1, h2, -, -, h5⟩ := hLB.ps p hp; unfold KyR; rw [h1]; refine ⟨fun j u hu => ⟨g, 0, rfl, ?_⟩, (hlen p hp).1, fun ad had e => ?_⟩
      · rw [Nat.zero_add, h2.cell? j (List.getElem?_eq_some_iff.1 hu).1]; exact hu
      ·
       cases had
       exact h5 (by simp [Value.ownBlock, ← e])⟩
     have hcl := cloneB_walk g5 c5 ks wB hKB (fun p hp => (hlen p hp).2) (by omega); have hBsz := hL.size; have HLB0 := Lib.hid hL; have HLB := Lib.hid hLB; have Hcl := Lib.hid hcl; have Hbox := Lib.hid hbox; have HB := Lib.hid hB; have HwB := Lib.hid hwB; have HSm := Lib.hid hSm; have Hlen := Lib.hid hlen; have Hkeys := Lib.hid hkeys; have HKB := Lib.hid hKB; have Hkl := Lib.hid hkl; clear hLB hcl hbox hB hwB hSm hlen hkeys hKB hkl hi hS hks hL hr4 hr5 hSn; go_wp2_with fail; rw [← HwB.out]; refine Hcl.out.mono ?_; rintro e w2 ⟨g', cap', rfl, hK2, hcap, hg', hB2⟩; have hB02 : RowKit.Below wr.heap.size wr w2 := bl_trans HB.out hB2; have hne2 : ks ≠ [] := fun e => by have := Hkl.out; rw [e] at this; simp at this; omega
     have hbox2 := keep_cell hB2 Hbox.out; have hsr := sortB_walk g' cap' ks w2 hK2 hne2 (by have := Hkl.out; omega); have Hsr := Lib.hid hsr; have HB02 := Lib.hid hB02; have Hne2 := Lib.hid hne2; clear hsr hB02 hne2 hK2 hB2 HKB Hcl Hbox HB; go_wp2_with fail; refine Hsr.out.mono ?_; rintro e w3 ⟨rfl, ts, hperm, hsort, hK3, hgr3⟩; have htl : ts.length = ks.length := hperm.length_eq; have hbox3 := hgr3.cell hbox2 (by simp; omega); have hB03 := HB02.out.grown hgr3 HB02.out.size (fun k hk => by cases hk; omega); have hco := compactB_walk g' cap' wr.heap.size ts w3 hK3 (by omega) (by have := Hkl.out; omega) hbox3 (by omega); have hsz3 := hgr3.size; rw [← htl]; have Hco := Lib.hid hco; have HB03 := Lib.hid hB03; have Htl := Lib.hid htl; have Hsort := Lib.hid hsort; have Hbox3 := Lib.hid hbox3; have Hperm := Lib.hid hperm; clear hco hB03 htl hsort hbox3 hK3 hgr3 hperm HB02 Hsr hbox2; go_wp2_with fail; refine Hco.out.mono ?_; rintro e w4 ⟨ts2, rfl, honce, hsub, hK4, hgr4⟩; have hbox4 := hgr4.cell Hbox3.out (by simp; omega); have hB04 := HB03.out.grown hgr4 HB03.out.size (fun k hk => by cases hk; omega); have hL4 := HLB0.out.below sp hB04; have hku : kyB ts2 = sortU (D.keysAt wo d) := by rw [honce, Hsort.out, Hkeys.out]; rfl
     have hgw : g' ≠ A.gw ∧ g4 ≠ A.gw ∧ g5 ≠ A.gw := by
      have h1 := sp.w; have h2 := hL4.y4 g4 rfl; have h3 := (hL4.y5 g5 rfl).1; have h4 := HLB0.out.size; omega
     obtain ⟨hg'w, hg4w, hg5w⟩ := hgw; have hsub2 : ∀ p ∈ ts2, p ∈ ks := fun p hp => Hperm.out.mem_iff.1 (hsub p hp); have hr44 : Row w4 g4 3 1 c4 (S.map vN) := by
      rcases hL4.at_.2 with ⟨hz, _⟩ | ⟨g, c, hv, _, hr⟩
      · cases hz
      · cases hv; exact hr
     have hr54 : Row w4 g5 28 1 c5 (ks.map kyV) := by
      rcases hL4.ky.2 with ⟨hz, _⟩ | ⟨g, c, hv, _, hr⟩
      · cases hz
      · cases hv; exact hr
     have hts2 : ts2.length ≤ 100000 := by
      have h1 := congrArg List.length honce; rw [kyB_len] at h1; have h2 := onceB_len (kyB ts); rw [kyB_len] at h2; have := Htl.out; have := Hkl.out; omega
     have hst : nwo D wo d (S.take 0) = wo := by rw [List.take_zero]; exact nwo_nil D wo d
     have HK4 := Lib.hid hK4; have Hku := Lib.hid hku; have HL4 := Lib.hid hL4; have Hsub2 := Lib.hid hsub2; have Hr44 := Lib.hid hr44; have Hr54 := Lib.hid hr54; have Hst := Lib.hid hst; clear hK4 hku hL4 hsub2 hr44 hr54 hst honce hsub hgr4 Hco HB03 Hbox3 HLB0 HLB hB04; have hbw : wr.heap.size ≠ A.gw := by have := sp.w; have := hBsz; omega
     have Hbox4 := Lib.hid hbox4; clear hbox4; obtain ⟨bb, hbb⟩ : ∃ b, b = wr.heap.size := ⟨_, rfl⟩
     rw [← hbb] at Hbox4 hbw ⊢; clear hbb; go_wp2_with fail; go_loopg [70] S.length (fun r iv wj => ∃ j : Nat, j + r = S.length ∧ iv = .int .i64 (j : Nat) ∧ BelX w4.heap.size (fun a => a.block = A.gw) w4 wj ∧ Row wj A.gw 3 1 D.n (intsF D.n fun k => (nwo D wo d (S.take j) k : Nat)))
     case atStart => exact ⟨0, by omega, rfl, BelX.refl _ _ _, by rw [Hst.out]; exact HL4.out.wg.row⟩
     case round =>
      obtain ⟨j, hj, rfl, hbx, hrow⟩ := hrel; by_cases hjn : j < S.length
      ·
       have hT4 := HT.out.keep HL4.out.wg.bx.mut; have qT := hbx.keep (World.block_lt_of_cell? w4 _ hT4.t5.1) (fun e => hT4.t5.2 (.inl e)) hT4.t5.1; have hTw : A.gw ≠ A.T := fun e => hT4.t5.2 (.inl e.symm); have hjk : j < ks.length := by have := Hkl.out; omega
       obtain ⟨x, hx⟩ : ∃ x, x = S[j] := ⟨_, rfl⟩
       obtain ⟨kp, hkp⟩ : ∃ kp, kp = ks[j] := ⟨_, rfl⟩
       have hxm : x < D.n ∧ D.dep x = d := (HSm.out x).1 (by rw [hx]; exact List.getElem_mem _); have q4 : w4.cell? ⟨g4, j, none⟩ = some (.int .i64 (x : Nat)) := by rw [Hr44.out.cell? j (by simpa using hjn), List.getElem?_map, List.getElem?_eq_getElem hjn, ← hx]; rfl
       have q5 : w4.cell? ⟨g5, j, none⟩ = some (.slice kp.2.1 kp.1.length kp.2.2) := by rw [Hr54.out.cell? j (by simpa using hjk), List.getElem?_map, List.getElem?_eq_getElem hjk, ← hkp]; rfl
       have qS := hbx.keep (World.block_lt_of_cell? w4 _ q4) (fun e => hg4w e) q4; have qK := hbx.keep (World.block_lt_of_cell? w4 _ q5) (fun e => hg5w e) q5; have qB := hbx.keep (World.block_lt_of_cell? w4 _ Hbox4.out) (fun e => hbw e) Hbox4.out; have hkx : kp.1 = D.key wo x := by
        have h1 : (kyB ks)[j]? = (S.map (D.key wo))[j]? := by rw [Hks.out]
        unfold kyB at h1; rw [List.getElem?_map, List.getElem?_map, List.getElem?_eq_getElem hjk, List.getElem?_eq_getElem hjn, ← hx, ← hkp] at h1; simpa using h1
       have hkm : D.key wo x ∈ D.keysAt wo d := List.mem_map.2 ⟨x, by rw [List.mem_filter, List.mem_range]; exact ⟨hxm.1, by simpa using hxm.2⟩, rfl⟩; have hKr := HK4.out.keepW Hsub2.out HL4.out sp hg'w hbx; obtain ⟨g1, e1, e2, e3, -, -⟩ := HL4.out.ps kp (by rw [hkp]; exact List.getElem_mem _); have hKx : CellsAt wr kp.2.1 (kp.1.map byteV) := fun u v hv => ⟨g1, 0, e1, by rw [Nat.zero_add, (hbx.row e2 e2.lt fun _ e => by have := sp.w; simp only at e; omega).cell? u (List.getElem?_eq_some_iff.1 hv).1]; exact hv⟩
       have hse := searchB_walk g' cap' (rankB (D.keysAt wo d) (D.key wo x)) ts2 kp.2.1 kp.2.2 kp.1 wr.drew ⟨hKr.row.drew, fun p hp => hKr.each p hp⟩ hts2 (by rw [Hku.out]; exact sortU_ris _) (by rw [Hku.out, hkx]; exact rankB_at hkm) hKx (Hlen.out kp (by rw [hkp]; exact List.getElem_mem _)).1; have i1 : (j : Int) < (S.length : Int) := by omega
       have i2 : (j : Int) < (ts.length : Int) := by have := Htl.out; omega
       have i3 : (x : Int) < (D.n : Int) := by have := hxm.1; omega
       have i0 : (0 : Int) ≤ (j : Int) ∧ (0 : Int) ≤ (x : Int) := by omega
       obtain ⟨i01, i02⟩ := i0; have qW := hrow.ints hxm.1; have qF := hrow.frozen x; have Hse := Lib.hid hse; have Hrow := Lib.hid hrow; have Hbx := Lib.hid hbx; have Hj := Lib.hid hj; have Hkx := Lib.hid hkx; have Hx := Lib.hid hx; obtain ⟨rk, hrk⟩ : ∃ rk, rk = rankB (D.keysAt wo d) (D.key wo x) := ⟨_, rfl⟩
       rw [← hrk] at Hse; have Hrk := Lib.hid hrk; clear hse hrow hbx hj hkx hx hrk hkp hT4 q4 q5 hkm hKr e1 e2 e3 hKx; go_upto_region 22 with (fail)
       refine regionT (fun w' => w'.cell? ⟨A.T, 5, none⟩ = some (.slice (some ⟨A.gw, 0, none⟩) D.n D.n) ∧ w'.cell? ⟨g5, j, none⟩ = some (.slice kp.2.1 kp.1.length kp.2.2) ∧ w'.cell? ⟨bb, 0, none⟩ = some (.func (.func 61) #[] #[])) 17 (by kernel_rfl) ?_; have hS : wr.drew.cell? ⟨A.T, 5, none⟩ = some (.slice (some ⟨A.gw, 0, none⟩) D.n D.n) ∧ wr.drew.cell? ⟨g5, j, none⟩ = some (.slice kp.2.1 kp.1.length kp.2.2) ∧ wr.drew.cell? ⟨bb, 0, none⟩ = some (.func (.func 61) #[] #[]) := ⟨qT, qK, qB⟩
       refine tkT 0 ?_ rfl hS ?_ ?_ (by kernel_rfl) (fun _ _ _ h => h) (by rfl); rotate_left; (· intro wS hSw; (try dsimp only at hSw); go_simp; try with_reducible rfl); simp only [Act.put, zT]; refine tkT 1 ?_ rfl hS ?_ ?_ (by kernel_rfl) (fun _ _ _ h => h) (by rfl); rotate_left; (· intro wS hSw; (try dsimp only at hSw); go_simp; try with_reducible rfl); simp only [Act.put, zT]; refine tkT 2 ?_ rfl hS ?_ ?_ (by kernel_rfl) (fun _ _ _ h => h) (by rfl); rotate_left; (· intro wS hSw; (try dsimp only at hSw); go_simp; try with_reducible rfl); simp only [Act.put, zT]; refine tkT 3 ?_ rfl hS ?_ ?_ (by kernel_rfl) (fun _ _ _ h => h) (by rfl); rotate_left; (· intro wS hSw; (try dsimp only at hSw); go_simp; try with_reducible rfl); simp only [Act.put, zT]; refine tkT 4 ?_ rfl hS ?_ ?_ (by kernel_rfl) (fun _ _ _ h => h) (by rfl); rotate_left; (· intro wS hSw; (try dsimp only at hSw); go_simp; try with_reducible rfl); simp only [Act.put, zT]; refine tkT 5 ?_ rfl hS ?_ ?_ (by kernel_rfl) (fun _ _ _ h => h) (by rfl); rotate_left; (· intro wS hSw; (try dsimp only at hSw); go_simp; try with_reducible rfl); simp only [Act.put, zT]; refine tkT 6 ?_ rfl hS ?_ ?_ (by kernel_rfl) (fun _ _ _ h => h) (by rfl); rotate_left; (· intro wS hSw; (try dsimp only at hSw); go_simp; try with_reducible rfl); simp only [Act.put, zT]; refine tkT 7 ?_ rfl hS ?_ ?_ (by kernel_rfl) (fun _ _ _ h => h) (by rfl); rotate_left; (· intro wS hSw; (try dsimp only at hSw); go_simp; try with_reducible rfl); simp only [Act.put, zT]
       refine tkT 8 ?_ rfl hS ?_ ?_ (by kernel_rfl) (fun _ _ _ h => h) (by rfl); rotate_left; (· intro wS hSw; (try dsimp only at hSw); go_simp; try with_reducible rfl); simp only [Act.put, zT]; refine tkT 9 ?_ rfl hS ?_ ?_ (by kernel_rfl) (fun _ _ _ h => h) (by rfl); rotate_left; (· intro wS hSw; (try dsimp only at hSw); go_simp; try with_reducible rfl); simp only [Act.put, zT]; refine tkT 10 ?_ rfl hS ?_ ?_ (by kernel_rfl) (fun _ _ _ h => h) (by rfl); rotate_left; (· intro wS hSw; (try dsimp only at hSw); go_simp; try with_reducible rfl); simp only [Act.put, zT]; refine oneT (i := 11) rfl (by kernel_rfl) (fun K hK => ?_); go_simp; refine Hse.out.mono ?_; rintro e w5 ⟨rfl, rfl⟩; simp only; refine hK _ _ (fun _ => hS) ?_; clear hK K; refine tkT 12 ?_ rfl hS ?_ ?_ (by kernel_rfl) (fun _ _ _ h => h) (by rfl); rotate_left; (· intro wS hSw; (try dsimp only at hSw); go_simp; try with_reducible rfl); simp only [Act.put, zT]; refine tkT 13 ?_ rfl hS ?_ ?_ (by kernel_rfl) (fun _ _ _ h => h) (by rfl); rotate_left; (· intro wS hSw; (try dsimp only at hSw); go_simp; try with_reducible rfl); simp only [Act.put, zT]; refine tkT 14 ?_ rfl hS ?_ ?_ (by kernel_rfl) (fun _ _ _ h => h) (by rfl); rotate_left; (· intro wS hSw; (try dsimp only at hSw); go_simp; try with_reducible rfl); simp only [Act.put, zT]; refine tkT 15 ?_ rfl hS ?_ ?_ (by kernel_rfl) (fun _ _ _ h => h) (by rfl); rotate_left; (· intro wS hSw; (try dsimp only at hSw); go_simp; try with_reducible rfl); simp only [Act.put, zT]; refine oneT (i := 16) rfl (by kernel_rfl) (fun K hK => ?_)
       go_simp; refine hK _ _ (fun _ => ⟨(World.cell?_setCell_far wr.drew ⟨A.gw, x, none⟩ ⟨A.T, 5, none⟩ _ hTw).trans qT, (World.cell?_setCell_far wr.drew ⟨A.gw, x, none⟩ ⟨g5, j, none⟩ _ (fun e => hg5w e.symm)).trans qK, (World.cell?_setCell_far wr.drew ⟨A.gw, x, none⟩ ⟨bb, 0, none⟩ _ (fun e => hbw e.symm)).trans qB⟩) ?_; clear hK K; refine doneT (by kernel_rfl) ?_ _; have hbx2 := (Hbx.out.setCell (b := A.gw) (o := x) (.inr rfl) (.int .i64 (rk : Nat))).drew; have htk : S.take (j + 1) = S.take j ++ [x] := by rw [Hx.out, List.take_add_one, List.getElem?_eq_getElem hjn]; rfl
       have hrow2 : Row (wr.setCell ⟨A.gw, x, none⟩ (.int .i64 (rk : Nat))).drew A.gw 3 1 D.n (intsF D.n fun k => (nwo D wo d (S.take (j + 1)) k : Nat)) := by
        have h := (Hrow.out.intSet x (rk : Nat)).drew; rw [htk, nwo_push, ← Hrk.out]; exact h
       clear htk; have Hbx2 := Lib.hid hbx2; have Hrow2 := Lib.hid hrow2; clear hbx2 hrow2 Hbx Hrow qT qS qK qB qW qF hS Hse; generalize (wr.setCell ⟨A.gw, x, none⟩ (.int .i64 (rk : Nat))).drew = wz at *
       go_wp2_with fail; go_roundg (gk - 1)
       case measure => have := Hj.out; omega
       case rel => exact ⟨j + 1, by have := Hj.out; omega, by go_num, Hbx2.out, Hrow2.out⟩
      ·
       have hje : S.take j = lvS D d D.n := by rw [List.take_of_length_le (by omega), HS.out, Hn.out]
       rw [hje] at hrow; have hL9 := HL4.out; rw [show S = lvS D d D.n by rw [HS.out, Hn.out]] at hL9; have hW9 := hL9.done Hok.out sp hbx hrow; have HW9 := Lib.hid hW9; have i4 : ¬ (j : Int) < (S.length : Int) := by omega
       clear hje hrow hL9 hbx hW9 hj; go_wp2_with fail; go_roundg d
       case measure => omega
       case rel => exact ⟨(d : Int) - 1, _, by go_num, by omega, by omega, HW9.out⟩
  ·
   have hz1 : z = -1 := by omega
   obtain rfl : gk = 0 := by omega
   have HW := Lib.hid hW; clear hW hz hrd; go_wp2_with fail; go_ret; exact ⟨rfl, wo, fun k hk => HW.out.wt k hk (Nat.zero_le _), HW.out⟩
end Go.Proofs.YtagjdkkfmfombaaGreat
namespace Go.Proofs.YtagjdkkfmfombaaGreat
open Go Go.RowKit
theorem visit_walk {D : Kt} {A : Lay} {nv : Nat} {F : Int → Option Int} {wo : Nat → Nat} {base : Nat} {w0 : World} (E : VisE D A nv F wo base w0) : ∀ (f k : Nat), k < D.n → D.n ≤ D.dep k + f → ∀ (acc : List Nat) (ob : Option Nat) (w : World), VisI A nv w0 acc ob w →
  Calls Tryz.prog (if k < D.m then 167 else 340) #[.pointer (some ⟨A.bo k, 0, none⟩), .pointer (some ⟨A.T, 0, none⟩)] w (RetVis A nv w0 (D.visit wo f k acc) ob w) := by
 intro f
 induction f with
 | zero =>
  intro k hk hd
  have := dep_lt E.ok hk
  omega
 | succ f ih =>
  intro k hk hd acc ob w hI
  have ih' : ∀ q acc ob w, q < D.n → D.dep q = D.dep k + 1 → VisI A nv w0 acc ob w → Calls Tryz.prog (if q < D.m then 167 else 340) #[.pointer (some ⟨A.bo q, 0, none⟩), .pointer (some ⟨A.T, 0, none⟩)] w (RetVis A nv w0 (D.visit wo f q acc) ob w) := fun q acc ob w hq hqd hI => ih q hq (by omega) acc ob w hI
  by_cases hm : k < D.m
  ·
   rw [if_pos hm]; exact blockVisit_walk E f k hm ih' acc ob w hI
  ·
   rw [if_neg hm]; exact cutVisit_walk E f k (by omega) hk ih' acc ob w hI
end Go.Proofs.YtagjdkkfmfombaaGreat
namespace Go.Proofs.YtagjdkkfmfombaaGreat
open Go Go.RowKit
structure TC (w : World) (T : Nat) (vs : List Value) : Prop where
 at_ : ∀ (i : Nat) v, vs[i]? = some v → w.cell? ⟨T, i, none⟩ = some v
 fz : ∀ i, w.frozen? ⟨T, i, none⟩ = false
 lt : T < w.heap.size
namespace TC
variable {w w' : World} {T : Nat} {vs : List Value}
theorem below (h : TC w T vs) (hb : Below w.heap.size w w') : TC w' T vs :=
 ⟨fun i v hv => keep_cell hb (h.at_ i v hv), fun i => (hb.frozen (p := ⟨T, i, none⟩) h.lt).trans (h.fz i), by have := hb.size; have := h.lt; omega⟩
theorem grown (h : TC w T vs) {r : Option Nat} (hg : w.grownBy w' r) (hne : r ≠ some T) : TC w' T vs :=
 ⟨fun i v hv => grown_cell hg (h.at_ i v hv) hne, fun i => grown_frozen hg h.lt (h.fz i) hne, by have := hg.size; have := h.lt; omega⟩
theorem set (h : TC w T vs) (i : Nat) (v : Value) : TC (w.setCell ⟨T, i, none⟩ v) T (vs.set i v) := by
 refine ⟨fun j u hu => ?_, fun j => (World.frozen?_setCell ..).trans (h.fz j), by simp; exact h.lt⟩
 rw [List.getElem?_set] at hu
 by_cases e : i = j
 ·
  subst e
  rw [if_pos rfl] at hu
  split at hu
  ·
   rename_i hi; cases hu; exact World.cell?_setCell_same _ _ _ (h.at_ i _ (List.getElem?_eq_getElem hi))
  · cases hu
 ·
  rw [if_neg e] at hu
  rw [World.cell?_setCell_other _ _ _ _ fun e2 => e (by injection e2)]
  exact h.at_ j u hu
theorem drewN (h : TC w T vs) (n : Nat) : TC (w.drewN n) T vs := ⟨h.at_, h.fz, h.lt⟩
theorem drew (h : TC w T vs) : TC w.drew T vs := ⟨h.at_, h.fz, h.lt⟩
theorem bel {X : Addr → Prop} {B : Nat} (h : TC w T vs) (hb : BelX B X w w') (hT : T < B) (hx : ∀ o, ¬ X ⟨T, o, none⟩) : TC w' T vs :=
 ⟨fun i v hv => hb.keep hT (hx i) (h.at_ i v hv), fun i => (hb.froz _ hT (hx i)).trans (h.fz i), by have := hb.size; have := h.lt; omega⟩
end TC
theorem TC.made (w : World) (cs : Array Value) (t : TypeId) : TC (w.alloc (.cells cs t)) w.heap.size cs.toList :=
 ⟨fun i v hv => by simpa using hv, fun i => by simp, by simp⟩
def StepX (X : Addr → Prop) (w : World) (ob : Option Nat) (w' : World) (ob' : Option Nat) : Prop :=
 BelX w.heap.size (fun a => X a ∨ some a.block = ob) w w' ∧ (ob' = ob ∨ ∀ g, ob' = some g → w.heap.size ≤ g)
namespace StepX
variable {X : Addr → Prop} {w w1 w2 : World} {ob o1 o2 : Option Nat}
theorem refl (X : Addr → Prop) (w : World) (ob : Option Nat) : StepX X w ob w ob := ⟨BelX.refl _ _ _, .inl rfl⟩
theorem trans (h : StepX X w ob w1 o1) (k : StepX X w1 o1 w2 o2) : StepX X w ob w2 o2 := by
 have hs := h.1.size
 have hx : ∀ a : Addr, a.block < w.heap.size → ¬ (X a ∨ some a.block = ob) → ¬ (X a ∨ some a.block = o1) := fun a ha hn => by
  rintro (h1 | h1)
  · exact hn (.inl h1)
  ·
   rcases h.2 with e | e
   · exact hn (.inr (h1.trans e))
   · have := e _ h1.symm; omega
 refine ⟨⟨k.1.os.trans h.1.os, k.1.tape.trans h.1.tape, k.1.output.trans h.1.output, Nat.le_trans hs k.1.size, fun a ha hn => (k.1.cell a (by omega) (hx a ha hn)).trans (h.1.cell a ha hn), fun a ha hn => (k.1.froz a (by omega) (hx a ha hn)).trans (h.1.froz a ha hn), fun g hg hn => (k.1.obj g (by omega) fun o => hx _ hg (hn o)).trans (h.1.obj g hg hn)⟩, ?_⟩
 rcases k.2 with e | e
 · rw [e]; exact h.2
 · exact .inr fun g hg => by have := e g hg; omega
theorem ofBelow (h : RowKit.Below w.heap.size w w1) (ob : Option Nat) : StepX X w ob w1 ob := ⟨BelX.ofBelow h, .inl rfl⟩
theorem toBelow (h : StepX X w ob w1 o1) {B : Nat} (hB : B ≤ w.heap.size) (hX : ∀ p, X p → B ≤ p.block) (ho : ∀ g, ob = some g → B ≤ g) : RowKit.Below B w w1 :=
 h.1.toBelow hB fun p hp => hp.elim (hX p) fun e => ho _ e.symm
end StepX
structure Fld (T i : Nat) (e : TypeId) (T0 vals : List Value) (sv : Value) (w : World) : Prop where
 tc : TC w T (T0.set i sv)
 own : Own w sv e 1 vals.length vals
 ne : sv.ownBlock ≠ some T
namespace Fld
variable {T i : Nat} {e : TypeId} {T0 vals : List Value} {sv : Value} {w w' wA w3 : World}
theorem below (h : Fld T i e T0 vals sv w) (hb : RowKit.Below w.heap.size w w') : Fld T i e T0 vals sv w' := ⟨h.tc.below hb, h.own.ext hb, h.ne⟩
theorem drewN (h : Fld T i e T0 vals sv w) (n : Nat) : Fld T i e T0 vals sv (w.drewN n) := ⟨h.tc.drewN n, h.own.below fun _ _ => rfl, h.ne⟩
theorem grown (h : Fld T i e T0 vals sv w) {r : Option Nat} (hg : w.grownBy w' r) (hT : r ≠ some T) (ho : ∀ g, sv.ownBlock = some g → r ≠ some g) : Fld T i e T0 vals sv w' :=
 ⟨h.tc.grown hg hT, h.own.below fun g hgg => hg.block g (Own.lt h.own hgg) fun e => ho g hgg e.symm, h.ne⟩
theorem cell (h : Fld T i e T0 vals sv w) (hi : i < T0.length) : w.cell? ⟨T, i, none⟩ = some sv := h.tc.at_ i sv (by simp [hi])
theorem push (h : Fld T i e T0 vals sv w) {g c : Nat} {x : Value} (hA : RowKit.Below w.heap.size w wA) (hg : wA.grownBy w3 sv.ownBlock) (ho : sv.ownBlock = some g ∨ wA.heap.size ≤ g) (hr : Row w3 g e 1 c (vals ++ [x])) :
  Fld T i e T0 (vals ++ [x]) (.slice (some ⟨g, 0, none⟩) (vals.length + 1) c) (w3.setCell ⟨T, i, none⟩ (.slice (some ⟨g, 0, none⟩) (vals.length + 1) c)) ∧
  StepX (fun a => a.block = T) w sv.ownBlock (w3.setCell ⟨T, i, none⟩ (.slice (some ⟨g, 0, none⟩) (vals.length + 1) c)) (some g) := by
 have hT := h.tc.lt
 have hs := hA.size
 have hgT : g ≠ T := fun e2 => by
  rcases ho with h1 | h1
  · exact h.ne (by rw [h1, e2])
  · omega
 have t3 := (h.tc.below hA).grown hg h.ne
 refine ⟨⟨?_, ?_, ?_⟩, ?_, ?_⟩
 ·
  have := t3.set i (.slice (some ⟨g, 0, none⟩) (vals.length + 1) c)
  rwa [List.set_set] at this
 ·
  have := (hr.other (a := ⟨T, i, none⟩) (fun e2 => hgT e2) (.slice (some ⟨g, 0, none⟩) (vals.length + 1) c)).own1
  rw [List.length_append, List.length_singleton] at this
  rw [List.length_append, List.length_singleton]
  exact this
 ·
  intro e2
  have : some g = some T := e2
  exact hgT (by injection this)
 · refine (((BelX.ofBelow hA).grown hg (by omega) fun k hk => .inr fun o s => .inr hk.symm)).setCell (.inr (.inl rfl)) _
 ·
  rcases ho with h1 | h1
  · exact .inl h1.symm
  · exact .inr fun k hk => by cases hk; omega
end Fld
theorem newsA (w : World) (cs : Array Value) (t : TypeId) : ∀ (j : Nat) u, cs.toList[j]? = some u → (w.alloc (.cells cs t)).cell? ((⟨w.heap.size, 0, none⟩ : Addr).add j) = some u := by
 intro j u hj
 cases j with
 | zero => simpa [Addr.add] using hj
 | succ j => simpa [Addr.add] using hj
theorem sort2 {x y : Int} (h : x < y) : [x, y].mergeSort (fun x y => decide (x ≤ y)) = [x, y] := by
 refine List.mergeSort_of_pairwise ?_
 simp
 omega
theorem compact2 {x y : Int} (h : x < y) : Lib.compact [x, y] = [x, y] := by
 obtain ⟨h1, h2⟩ := compact_strict [x, y] (by simp; omega)
 exact rise_eq h1 (by simpa using h) h2
structure BlkW (w : World) (b k x y : Nat) (P : Nat → Prop) : Prop where
 tc : ∃ gl cl gv cv, TC w b [.int .i64 (k : Nat), .slice (some ⟨gl, 0, none⟩) 1 cl, .slice (some ⟨gv, 0, none⟩) 2 cv, .slice none 0 0, .slice none 0 0] ∧ Row w gl 120 3 cl (lkCells (lk1 x y)) ∧ Row w gv 3 1 cv ([x, y].map vN) ∧ P gl ∧ P gv
 p : P b
theorem BlkW.keep {w w' : World} {b k x y : Nat} {P Q : Nat → Prop} {X : Addr → Prop} (h : BlkW w b k x y P) (hb : BelX w.heap.size X w w') (hx : ∀ g, g < w.heap.size → P g → (∀ o, ¬ X ⟨g, o, none⟩) ∧ Q g) : BlkW w' b k x y Q := by
 obtain ⟨gl, cl, gv, cv, h1, h2, h3, h4, h5⟩ := h.tc
 exact ⟨⟨gl, cl, gv, cv, h1.bel hb h1.lt (hx b h1.lt h.p).1, hb.row h2 h2.lt (hx gl h2.lt h4).1, hb.row h3 h3.lt (hx gv h3.lt h5).1, (hx gl h2.lt h4).2, (hx gv h3.lt h5).2⟩, (hx b h1.lt h.p).2⟩
theorem BlkW.lt {w : World} {b k x y : Nat} {P : Nat → Prop} (h : BlkW w b k x y P) : b < w.heap.size := by
 obtain ⟨gl, cl, gv, cv, h1, _⟩ := h.tc
 exact h1.lt
theorem OwnRows.cells {w : World} {G : Nat} {tO e : TypeId} {cap : Nat} {vals : List Value} {rows : List (List Value)} (h : OwnRows w G tO e cap vals rows) {k : Nat} {r : List Value} (hr : rows[k]? = some r) :
  ∃ au cu u, w.cell? ⟨G, k, none⟩ = some (.slice au r.length cu) ∧ CellsAt w au r ∧ vals[k]? = some u ∧ ∀ b o, au = some ⟨b, o, none⟩ → u.ownBlock = some b := by
 obtain ⟨hk, rfl⟩ := List.getElem?_eq_some_iff.1 hr
 have hkv : k < vals.length := by rw [h.len]; exact hk
 have hu : vals[k]? = some vals[k] := List.getElem?_eq_getElem hkv
 have hown := h.own k _ _ hu hr
 have hc : w.cell? ⟨G, k, none⟩ = some vals[k] := by rw [h.outer.cell? k hkv, hu]
 rcases hown.2 with ⟨h1, h0⟩ | ⟨g, c, h1, h2, h3⟩
 ·
  refine ⟨none, 0, _, ?_, fun i u hu => ?_, hu, fun b o e => by cases e⟩
  · rw [hc, h1, h0]
  ·
   rw [List.eq_nil_of_length_eq_zero h0] at hu; simp at hu
 ·
  refine ⟨some ⟨g, 0, none⟩, c, _, by rw [hc, h1], fun i u hu => ⟨g, 0, rfl, ?_⟩, hu, fun b o e => ?_⟩
  · rw [Nat.zero_add, h3.cell? i (List.getElem?_eq_some_iff.1 hu).1]; exact hu
  ·
   rw [h1]; cases e; rfl
def rowsB (m N : Nat) (L : List (Nat × Nat)) : List (List Value) := (List.range N).map fun x => (bsT m L x).map vN
theorem rowsB_len (m N : Nat) (L : List (Nat × Nat)) : (rowsB m N L).length = N := by simp [rowsB]
theorem rowsB_get {m N x : Nat} {L : List (Nat × Nat)} (h : x < N) : (rowsB m N L)[x]? = some ((bsT m L x).map vN) := by simp [rowsB, h]
theorem rowsB_nil (m N : Nat) : rowsB m N [] = List.replicate N [] := by
 refine List.eq_replicate_iff.2 ⟨rowsB_len _ _ _, fun r hr => ?_⟩
 obtain ⟨x, _, rfl⟩ := List.mem_map.1 hr
 simp [bsT, rowT]
theorem bsT_snoc {m x y : Nat} (L : List (Nat × Nat)) (hx : x < m) (z : Nat) : bsT m (L ++ [(x, y)]) z = bsT m L z ++ if z = x then [m + y] else if z = m + y then [x] else [] := by
 unfold bsT
 rw [rowT_snoc, rowT_snoc]
 simp only [if_true, Nat.one_ne_zero, if_false]
 by_cases hz : z < m
 ·
  rw [if_pos hz, if_pos hz, List.map_append]
  congr 1
  by_cases e : x = z
  · rw [if_pos e, if_pos e.symm]; rfl
  · rw [if_neg e, if_neg (Ne.symm e), if_neg (by omega)]; rfl
 ·
  rw [if_neg hz, if_neg hz]
  congr 1
  rw [if_neg (show ¬ z = x by omega)]
  by_cases e : y = z - m
  · rw [if_pos e, if_pos (by omega)]
  · rw [if_neg e, if_neg (by omega)]
theorem rowsB_snoc {m N x y : Nat} (L : List (Nat × Nat)) (hx : x < m) (hm : m ≤ N) (hy : m + y < N) :
  rowsB m N (L ++ [(x, y)]) = ((rowsB m N L).set x ((bsT m L x).map vN ++ [vN (m + y)])).set (m + y) ((bsT m L (m + y)).map vN ++ [vN x]) := by
 apply List.ext_getElem?
 intro z
 rw [List.getElem?_set, List.getElem?_set, List.length_set, rowsB_len]
 by_cases hz : z < N
 ·
  rw [rowsB_get hz, rowsB_get hz, bsT_snoc L hx]
  by_cases e1 : m + y = z
  ·
   subst e1; rw [if_pos rfl, if_pos hz, if_neg (by omega), if_pos rfl, List.map_append]; rfl
  ·
   rw [if_neg e1]; by_cases e2 : x = z
   ·
    subst e2; rw [if_pos rfl, if_pos hz, if_pos rfl, List.map_append]; rfl
   · rw [if_neg e2, if_neg (Ne.symm e2), if_neg (Ne.symm e1), List.append_nil]
 ·
  rw [List.getElem?_eq_none (by rw [rowsB_len]; omega), List.getElem?_eq_none (l := rowsB m N L) (by rw [rowsB_len]; omega)]
  split
  · omega
  ·
   split
   · omega
   · rfl
theorem bsT_len (m : Nat) (L : List (Nat × Nat)) (z : Nat) : (bsT m L z).length ≤ L.length := by
 unfold bsT
 split
 · rw [List.length_map]; exact rowT_len _ _ _
 · exact rowT_len _ _ _
def cutF (cuts : List Nat) (m j : Nat) : Int → Option Int := fun z => if 0 ≤ z ∧ z.toNat ∈ cuts.take j then some ((m + cuts.idxOf z.toNat : Nat) : Int) else none
theorem cutF_zero (cuts : List Nat) (m : Nat) : cutF cuts m 0 = fun _ => none := by funext z; simp [cutF]
theorem cutF_succ {cuts : List Nat} (hn : cuts.Nodup) {m j v : Nat} (hv : cuts[j]? = some v) : updF (cutF cuts m j) (v : Int) ((m + j : Nat) : Int) = cutF cuts m (j + 1) := by
 obtain ⟨hj, rfl⟩ := List.getElem?_eq_some_iff.1 hv
 have hi : cuts.idxOf cuts[j] = j := hn.idxOf_getElem j hj
 funext z
 unfold updF cutF
 by_cases e : z = (cuts[j] : Int)
 ·
  subst e
  rw [if_pos rfl, Int.toNat_natCast, if_pos ⟨by omega, List.mem_take_iff_getElem.2 ⟨j, by omega, rfl⟩⟩, hi]
 ·
  rw [if_neg e]
  have : (0 ≤ z ∧ z.toNat ∈ cuts.take j) ↔ (0 ≤ z ∧ z.toNat ∈ cuts.take (j + 1)) := by
   rw [List.take_succ_eq_append_getElem hj, List.mem_append, List.mem_singleton]; constructor
   · rintro ⟨h1, h2⟩; exact ⟨h1, .inl h2⟩
   ·
    rintro ⟨h1, h2 | h2⟩
    · exact ⟨h1, h2⟩
    · exact absurd (by omega) e
  by_cases h : 0 ≤ z ∧ z.toNat ∈ cuts.take j
  · rw [if_pos h, if_pos (this.1 h)]
  · rw [if_neg h, if_neg fun h2 => h (this.2 h2)]
def CutsW (v3 : World) (cuts : List Nat) (m : Nat) (bo : Nat → Nat) (j : Nat) (ob : Option Nat) (w : World) : Prop :=
 ∀ i, i < j → TC w (bo (m + i)) [.int .i64 (m + i : Nat), .int .i64 (cuts.getD i 0 : Nat)] ∧ v3.heap.size ≤ bo (m + i) ∧ ob ≠ some (bo (m + i))
theorem CutsW.keep {v3 w w' : World} {cuts : List Nat} {m j : Nat} {bo : Nat → Nat} {ob ob' : Option Nat} {X : Addr → Prop} (h : CutsW v3 cuts m bo j ob w) (hX : ∀ p, X p → p.block < v3.heap.size) (hs : StepX X w ob w' ob') : CutsW v3 cuts m bo j ob' w' := fun i hi => by
 obtain ⟨h1, h2, h3⟩ := h i hi
 refine ⟨h1.bel hs.1 h1.lt fun o hx => ?_, h2, fun e => ?_⟩
 ·
  rcases hx with e | e
  · have := hX _ e; simp only at this; omega
  · exact h3 e.symm
 ·
  rcases hs.2 with e2 | e2
  · exact h3 (e2 ▸ e)
  · have := e2 _ e; have := h1.lt; omega
end Go.Proofs.YtagjdkkfmfombaaGreat
namespace Go.Proofs.YtagjdkkfmfombaaGreat
open Go Go.RowKit Go.Maps
theorem countP_idx : ∀ {U : List Int} {x : Int}, U.Pairwise (· < ·) → x ∈ U → U.countP (· < x) = U.idxOf x
 | [], _, _, h => by simp at h
 | a :: U, x, hp, hx => by
  obtain ⟨p1, p2⟩ := List.pairwise_cons.1 hp
  rw [List.countP_cons, List.idxOf_cons]
  by_cases e : a = x
  ·
   subst e
   have : U.countP (· < a) = 0 := List.countP_eq_zero.2 fun y hy => by have := p1 y hy; simp; omega
   simp [this]
  ·
   have hxU : x ∈ U := by
    rcases List.mem_cons.1 hx with e2 | e2
    · exact absurd e2.symm e
    · exact e2
   have hlt := p1 x hxU; rw [countP_idx p2 hxU]; have : (a == x) = false := by simpa using e
   rw [this]; simp [hlt]
theorem cloneZ_walk (a : Option Addr) (c : Nat) (l : List Int) (w : World) (hr : RdI w a l) (hl : l.length ≤ 1000000) (h0 : 0 < l.length) :
  Calls Tryz.prog 55 #[.slice a l.length c] w fun e w' => ∃ g c', e = .returned (.slice (some ⟨g, 0, none⟩) l.length c') ∧ Row w' g 3 1 c' (l.map (Value.int .i64)) ∧ w.heap.size ≤ g ∧ Below w.heap.size w w' := by
 obtain ⟨b, o, rfl, _⟩ := hr.at 0 h0
 refine (Tryz.slices_Clone_int b o l.length c l w (Nat.le_refl _) (by omega) (fun j hj => ?_)).mono ?_
 ·
  obtain ⟨b', o', hb', hc⟩ := hr.at j hj
  cases hb'
  rw [hc]
  simp [List.getD, hj]
 ·
  rintro e w' ⟨v', rfl, ho, hne, hb⟩
  obtain ⟨g, cap, rfl, h1, h2, h3⟩ := Row.ofOwns ho hne
  rw [List.take_of_length_le (Nat.le_refl _)] at h3
  exact ⟨g, cap, rfl, h3, h2, hb⟩
def uz (ts : List Int) : List Int := Lib.compact (ts.mergeSort fun x y => decide (x ≤ y))
def shL (ts : List Int) : List Nat := ts.map fun t => (uz ts).idxOf t
theorem uz_ok (ts : List Int) : (uz ts).Pairwise (· < ·) ∧ (∀ x, x ∈ uz ts ↔ x ∈ ts) ∧ (uz ts).length ≤ ts.length := by
 have hp : (ts.mergeSort fun x y => decide (x ≤ y)).Pairwise (· ≤ ·) := by
  have := List.pairwise_mergeSort (le := fun x y : Int => decide (x ≤ y)) (fun a b c h1 h2 => by simp only [decide_eq_true_eq] at *; omega) (fun a b => by simp only [Bool.or_eq_true, decide_eq_true_eq]; omega) ts
  exact this.imp fun h => by simpa using h
 obtain ⟨h1, h2⟩ := compact_strict _ hp
 refine ⟨h1, fun x => ?_, ?_⟩
 ·
  unfold uz
  rw [h2, List.mem_mergeSort]
 ·
  have := compact_len_le (ts.mergeSort fun x y => decide (x ≤ y))
  rw [List.length_mergeSort] at this
  exact this
theorem knot_info : (Tryz.prog.info? 85).map (fun i => (i.zero, i.size, i.bytes)) = some (some .nilIface, 1, 16) := by kernel_rfl
theorem seek_walk (ga ca : Nat) (U : List Int) (x : Int) (w : World) (hr : Row w ga 3 1 ca (U.map (Value.int .i64))) (hU : U.Pairwise (· < ·)) (hx : x ∈ U) (hl : U.length ≤ 1000) :
  Calls Tryz.prog 57 #[.slice (some ⟨ga, 0, none⟩) U.length ca, .int .i64 x] w fun e w' => e = .returned (.tuple #[.int .i64 (U.idxOf x : Nat), .bool true]) ∧ ∃ q, w' = w.drewN q := by
 refine (Tryz.slices_BinarySearch_int ga 0 U.length ca U x w (Nat.le_refl _) (by omega) (fun j hj => ?_) ?_).mono ?_
 ·
  rw [Nat.zero_add, hr.cell? j (by simpa using hj)]
  simp [List.getD, hj]
 ·
  rw [List.take_of_length_le (Nat.le_refl _)]
  exact hU.imp fun h => by omega
 ·
  rintro e w' ⟨rfl, hq⟩
  rw [List.take_of_length_le (Nat.le_refl _), countP_idx hU hx]
  refine ⟨?_, hq⟩
  have : U.contains x = true := by simpa using hx
  rw [this]
structure GrW (n : Nat) (es : List (Int × Int)) (cuts : List Nat) (ts : List Int) (root : Nat) (up : Nat → Int) (dep : Nat → Nat) (A : Lay) (F : Int → Option Int) (w w' : World) : Prop where
 tr : TreeW (ktOf es cuts (uz ts) ts root up dep) n A F w'
 f : ∀ v : Nat, v < n → F v = Option.map (fun q : Nat => (q : Int)) ((ktOf es cuts (uz ts) ts root up dep).kn v)
 gw : Row w' A.gw 3 1 (es.length + cuts.length) (intsF (es.length + cuts.length) fun _ => ((0 : Nat) : Int))
 gp : Row w' A.gp 4 1 n (pldF [] n)
 ord : w'.cell? ⟨A.T, 10, none⟩ = some (.slice none 0 0)
 fz : w'.frozen? ⟨A.T, 10, none⟩ = false
 nm : ∀ k, k < es.length → NmOk w' (A.bo k)
 sep : Sep (ktOf es cuts (uz ts) ts root up dep) A w'.heap.size
 ne : A.gw ≠ A.gp ∧ A.gw ≠ A.T
 bo : ∀ k, k < es.length → A.bo k ≠ A.gp ∧ A.bo k ≠ A.T
 bel : Below w.heap.size w w'
 low : w.heap.size ≤ A.gw ∧ w.heap.size ≤ A.gp ∧ w.heap.size ≤ A.T ∧ ∀ k, k < es.length → w.heap.size ≤ A.bo k
def knV (t : TypeId) (bo : Nat → Nat) (s i : Nat) : List Value := (List.range i).map fun j => .iface t (.pointer (some ⟨bo (s + j), 0, none⟩))
theorem knV_len (t : TypeId) (bo : Nat → Nat) (s i : Nat) : (knV t bo s i).length = i := by simp [knV]
theorem knV_succ (t : TypeId) (bo : Nat → Nat) (s i : Nat) : knV t bo s (i + 1) = knV t bo s i ++ [.iface t (.pointer (some ⟨bo (s + i), 0, none⟩))] := by simp [knV, List.range_succ]
theorem knV_congr {t : TypeId} {bo bo' : Nat → Nat} {s i : Nat} (h : ∀ j, j < i → bo (s + j) = bo' (s + j)) : knV t bo s i = knV t bo' s i := List.map_congr_left fun j hj => by rw [h j (List.mem_range.1 hj)]
def InnW (wo : World) (i x y bk : Nat) (w : World) : Prop := ∃ gl cl gv cv, TC w bk [.int .i64 (i : Nat), .slice (some ⟨gl, 0, none⟩) 1 cl, .slice (some ⟨gv, 0, none⟩) 2 cv, .slice none 0 0, .slice none 0 0] ∧
 Row w gl 120 3 cl (lkCells (lk1 x y)) ∧ Row w gv 3 1 cv ([x, y].map vN) ∧ bk < gl ∧ gl < gv ∧ 2 ≤ cv ∧ RowKit.Below wo.heap.size wo w
structure BlksW (v1 : World) (es : List (Int × Int)) (bo : Nat → Nat) (i : Nat) (ob : Option Nat) (w : World) : Prop where
 each : ∀ j, j < i → BlkW w (bo j) j (es.getD j (0, 0)).1.toNat (es.getD j (0, 0)).2.toNat (fun g => v1.heap.size ≤ g ∧ ob ≠ some g)
 inj : ∀ j l, j < i → l < i → bo j = bo l → j = l
theorem BlksW.keep {v1 w w' : World} {es : List (Int × Int)} {bo : Nat → Nat} {i : Nat} {ob ob' : Option Nat} {T : Nat} (h : BlksW v1 es bo i ob w) (hT : T < v1.heap.size) (hs : StepX (fun a => a.block = T) w ob w' ob') (hv : v1.heap.size ≤ w.heap.size) : BlksW v1 es bo i ob' w' := by
 refine ⟨fun j hj => (h.each j hj).keep hs.1 fun g hg hp => ⟨fun o hx => ?_, hp.1, fun e => ?_⟩, h.inj⟩
 ·
  rcases hx with e | e
  · simp only at e; have := hp.1; omega
  · exact hp.2 e.symm
 ·
  rcases hs.2 with e2 | e2
  · exact hp.2 (e2 ▸ e)
  · have := e2 g e; omega
theorem BlksW.keepX {v1 w w' : World} {es : List (Int × Int)} {bo : Nat → Nat} {i : Nat} {ob ob' : Option Nat} {X : Addr → Prop} (h : BlksW v1 es bo i ob w) (hX : ∀ p, X p → p.block < v1.heap.size) (hs : StepX X w ob w' ob') (hv : v1.heap.size ≤ w.heap.size) : BlksW v1 es bo i ob' w' := by
 refine ⟨fun j hj => (h.each j hj).keep hs.1 fun g hg hp => ⟨fun o hx => ?_, hp.1, fun e => ?_⟩, h.inj⟩
 ·
  rcases hx with e | e
  · have h1 := hX _ e; have h2 := hp.1; simp only at h1; omega
  · exact hp.2 e.symm
 ·
  rcases hs.2 with e2 | e2
  · exact hp.2 (e2 ▸ e)
  · have := e2 g e; omega
def MadeW (v4 : World) (T : Nat) (T2 : List Value) (N : Nat) (wx : World) : Prop := ∃ gb gu gd gw,
 TC wx T ((((T2.set 1 (.slice (some ⟨gb, 0, none⟩) N N)).set 3 (.slice (some ⟨gu, 0, none⟩) N N)).set 4 (.slice (some ⟨gd, 0, none⟩) N N)).set 5 (.slice (some ⟨gw, 0, none⟩) N N)) ∧
 OwnRows wx gb 25 3 N (List.replicate N (.slice none 0 0)) (List.replicate N []) ∧
 (Row wx gu 3 1 N (intsF N fun _ => 0) ∧ Row wx gd 3 1 N (intsF N fun _ => 0) ∧ Row wx gw 3 1 N (intsF N fun _ => 0)) ∧
 (gb ≠ gu ∧ gb ≠ gd ∧ gb ≠ gw ∧ gu ≠ gd ∧ gu ≠ gw ∧ gd ≠ gw) ∧ (v4.heap.size ≤ gb ∧ v4.heap.size ≤ gu ∧ v4.heap.size ≤ gd ∧ v4.heap.size ≤ gw) ∧ BelX v4.heap.size (fun a => a.block = T) v4 wx
def RetGr (w : World) (n : Nat) (es : List (Int × Int)) (cuts : List Nat) (ts : List Int) (e : Ending) (w' : World) : Prop :=
 ∃ (root : Nat) (up : Nat → Int) (dep : Nat → Nat) (A : Lay) (F : Int → Option Int), e = .returned (.pointer (some ⟨A.T, 0, none⟩)) ∧
  Hung (es.length + cuts.length) (bsT es.length (linksN es cuts es.length)) root up dep ∧ TreeT.isCentre es.length cuts.length (linksN es cuts es.length) root ∧ GrW n es cuts ts root up dep A F w w'
theorem grown_ends {n m nc N : Nat} {es : List (Int × Int)} {cuts : List Nat} {ts U : List Int} {L : List (Nat × Nat)} {w w9 : World} {root : Nat} {up : Nat → Int} {dep : Nat → Nat} {T gk gb gu gd gs gw gp mb ck cs c s1 s4 s5 : Nat} {bo bc : Nat → Nat}
  (em : m = es.length) (enc : nc = cuts.length) (eN : N = m + nc) (eU : U = uz ts) (eL : L = linksN es cuts es.length) (hl : ts.length = n) (hung : Hung N (bsT m L) root up dep) (hcen : TreeT.isCentre m nc L root)
  (tc : TC w9 T [.slice (some ⟨gk, 0, none⟩) (m + nc) ck, .slice (some ⟨gb, 0, none⟩) N N, .int .i64 (root : Nat), .slice (some ⟨gu, 0, none⟩) N N, .slice (some ⟨gd, 0, none⟩) N N, .slice (some ⟨gw, 0, none⟩) N N, .slice (some ⟨gs, 0, none⟩) n cs, .int .i64 U.length, .map (some mb), .slice (some ⟨gp, 0, none⟩) n n, .slice none 0 0])
  (rk : Row w9 gk 85 1 ck (knV 115 bo 0 m ++ knV 121 bc m nc))
  (bes : ∀ k, k < N → ∃ au cu, w9.cell? ⟨gb, k, none⟩ = some (.slice au (bsT m L k).length cu) ∧ CellsAt w9 au ((bsT m L k).map vN) ∧ ∀ b o, au = some ⟨b, o, none⟩ → s5 ≤ b)
  (ru : Row w9 gu 3 1 N (intsF N up)) (rd : Row w9 gd 3 1 N (intsF N fun k => (dep k : Nat))) (rw : Row w9 gw 3 1 N (intsF N fun _ => 0)) (rs : Row w9 gs 3 1 cs ((shL ts).map vN)) (rp : Row w9 gp 4 1 n (List.replicate n (.bool false)))
  (mz : MZ w9 mb c (cutF cuts m nc)) (bl : ∀ k, k < m → BlkW w9 (bo k) k (es.getD k (0, 0)).1.toNat (es.getD k (0, 0)).2.toNat (fun g => s1 ≤ g ∧ g < s4)) (cw : ∀ i, i < nc → TC w9 (bc (m + i)) [.int .i64 (m + i : Nat), .int .i64 (cuts.getD i 0 : Nat)])
  (inj : ∀ k l, k < m → l < m → bo k = bo l → k = l) (bel : RowKit.Below w.heap.size w w9)
  (ord : mb < gp ∧ gp < T ∧ T < gs ∧ gs < s1 ∧ s1 ≤ gk ∧ gk < s4 ∧ s4 ≤ gb ∧ s4 ≤ gu ∧ s4 ≤ gd ∧ s4 ≤ gw ∧ gb < s5 ∧ gu < s5 ∧ gd < s5 ∧ gw < s5 ∧ s1 ≤ s4) (hne : gw ≠ gb ∧ gw ≠ gu ∧ gw ≠ gd) (hgb : ∀ k, k < m → gk ≠ bo k) (hbc : ∀ i, i < nc → s1 ≤ bc (m + i) ∧ bc (m + i) < s4) (hlow : w.heap.size < mb) :
  RetGr w n es cuts ts (.returned (.pointer (some ⟨T, 0, none⟩))) w9 := by
 obtain ⟨o1, o2, o3, o4, o5, o6, o7, o8, o9, o10, o11, o12, o13, o14, o15⟩ := ord
 obtain ⟨q1, q2, q3⟩ := hne
 subst em enc eN eU eL
 obtain ⟨A, hA⟩ : ∃ A : Lay, A = ⟨T, gk, gb, gu, gd, gs, gw, gp, mb, fun k => if k < es.length then bo k else bc k⟩ := ⟨_, rfl⟩
 have hbo : ∀ k, k < es.length → A.bo k = bo k := fun k hk => by rw [hA]; simp only; rw [if_pos hk]
 have hbc2 : ∀ i, A.bo (es.length + i) = bc (es.length + i) := fun i => by rw [hA]; simp only; rw [if_neg (by omega)]
 have bol : ∀ k, k < es.length → s1 ≤ bo k ∧ bo k < s4 := fun k hk => (bl k hk).p
 have nm : ∀ g o, g ≠ gw → g ≠ gp → (g = T → o ≠ 10) → (o < 3 ∨ ∀ k, k < es.length → g ≠ bo k) → ¬ A.mut es.length ⟨g, o, none⟩ := fun g o h1 h2 h3 h4 => by
  rintro (e | e | e | ⟨k, hk, e, e2⟩)
  · rw [hA] at e; exact h1 e
  · rw [hA] at e; exact h2 e
  ·
   rw [hA] at e; simp only [Addr.mk.injEq, and_true] at e; exact h3 e.1 e.2
  ·
   rw [hbo k hk] at e; simp only at e e2; rcases h4 with h4 | h4
   · omega
   · exact h4 k hk e
 have far : ∀ g, (g < s1 ∨ s4 ≤ g) → ∀ k, k < es.length → g ≠ bo k := fun g hg k hk => by have := bol k hk; omega
 have hT : ∀ i v, i ≠ 10 → [Value.slice (some ⟨gk, 0, none⟩) (es.length + cuts.length) ck, .slice (some ⟨gb, 0, none⟩) (es.length + cuts.length) (es.length + cuts.length), .int .i64 (root : Nat), .slice (some ⟨gu, 0, none⟩) (es.length + cuts.length) (es.length + cuts.length), .slice (some ⟨gd, 0, none⟩) (es.length + cuts.length) (es.length + cuts.length), .slice (some ⟨gw, 0, none⟩) (es.length + cuts.length) (es.length + cuts.length), .slice (some ⟨gs, 0, none⟩) n cs, .int .i64 (uz ts).length, .map (some mb), .slice (some ⟨gp, 0, none⟩) n n, .slice none 0 0][i]? = some v → Fx (A.mut es.length) w9 T i v := fun i v hi hv => ⟨tc.at_ i v hv, nm T i (by omega) (by omega) (fun _ => hi) (.inr (far T (by omega)))⟩
 have hAT : A.T = T ∧ A.gk = gk ∧ A.gb = gb ∧ A.gu = gu ∧ A.gd = gd ∧ A.gs = gs ∧ A.gw = gw ∧ A.gp = gp ∧ A.mb = mb := by rw [hA]; exact ⟨rfl, rfl, rfl, rfl, rfl, rfl, rfl, rfl, rfl⟩
 obtain ⟨a1, a2, a3, a4, a5, a6, a7, a8, a9⟩ := hAT
 have hDn : (ktOf es cuts (uz ts) ts root up dep).n = es.length + cuts.length := rfl
 have hDm : (ktOf es cuts (uz ts) ts root up dep).m = es.length := rfl
 refine ⟨root, up, dep, A, cutF cuts es.length cuts.length, by rw [a1], hung, hcen, ?_⟩
 have rowFx : ∀ {g : Nat} {t : TypeId} {s cc : Nat} {vs : List Value}, Row w9 g t s cc vs → g ≠ gw → g ≠ gp → g ≠ T → (∀ k, k < es.length → g ≠ bo k) → ∀ i v, vs[i]? = some v → Fx (A.mut es.length) w9 g i v := fun hr h1 h2 h3 h4 i v hv => ⟨by rw [hr.cell? i (List.getElem?_eq_some_iff.1 hv).1]; exact hv, nm _ i h1 h2 (fun e => absurd e h3) (.inr h4)⟩
 refine ⟨?_, ?_, ?_, ?_, ?_, ?_, ?_, ?_, ?_, ?_, bel, by rw [a7]; omega, by rw [a8]; omega, by rw [a1]; omega, fun k hk => by have := bol k hk; rw [hbo k hk]; omega⟩
 ·
  refine ⟨⟨ck, ?_⟩, ?_, ?_, ?_, ?_, ?_, ⟨cs, ?_⟩, ?_, ?_, ?_, fun k hk => ?_, fun k hk => ?_, fun k hk => ?_, fun k hk => ?_, fun v hv => ?_, ⟨c, ?_⟩, fun o => ?_, fun k hk => ?_, fun k hk => ?_, fun k hk => ?_, fun k hk1 hk => ?_⟩
  · rw [a1, a2]; exact hT 0 _ (by omega) rfl
  · rw [a1, a3]; exact hT 1 _ (by omega) rfl
  · rw [a1]; exact hT 2 _ (by omega) rfl
  · rw [a1, a4]; exact hT 3 _ (by omega) rfl
  · rw [a1, a5]; exact hT 4 _ (by omega) rfl
  · rw [a1, a7]; exact hT 5 _ (by omega) rfl
  · rw [a1, a6]; exact hT 6 _ (by omega) rfl
  · rw [a1]; exact hT 7 _ (by omega) rfl
  · rw [a1, a9]; exact hT 8 _ (by omega) rfl
  · rw [a1, a8]; exact hT 9 _ (by omega) rfl
  ·
   rw [hDn] at hk; rw [hDm, a2]; refine rowFx rk (by omega) (by omega) (by omega) (fun k hk => hgb k hk) k _ ?_; by_cases hkm : k < es.length
   ·
    rw [if_pos hkm, hbo k hkm, List.getElem?_append_left (by rw [knV_len]; exact hkm)]; simp [knV, hkm]
   ·
    obtain ⟨i, rfl⟩ : ∃ i, k = es.length + i := ⟨k - es.length, by omega⟩
    rw [if_neg hkm, hbc2, List.getElem?_append_right (by rw [knV_len]; omega), knV_len]; have : i < cuts.length := by omega
    simp [knV, this]
  ·
   rw [hDn] at hk; obtain ⟨au, cu, b1, b2, b3⟩ := bes k hk; rw [hDm, a3]; refine ⟨au, cu, ⟨b1, nm gb k (by omega) (by omega) (by omega) (.inr (far gb (by omega)))⟩, fun i u hu => ?_⟩; obtain ⟨b, o, d1, d2⟩ := b2 i u hu; have := b3 b o d1; exact ⟨b, o, d1, d2, nm b _ (by omega) (by omega) (by omega) (.inr (far b (by omega)))⟩
  ·
   rw [hDn] at hk; rw [hDm, a4]; exact rowFx ru (by omega) (by omega) (by omega) (far gu (by omega)) k _ (intsF_get hk)
  ·
   rw [hDn] at hk; rw [hDm, a5]; exact rowFx rd (by omega) (by omega) (by omega) (far gd (by omega)) k _ (intsF_get hk)
  ·
   rw [hDm, a6]; refine rowFx rs (by omega) (by omega) (by omega) (far gs (by omega)) v _ ?_; have hv2 : v < ts.length := by omega
   simp [shL, hv2, vN, ktOf, List.getD_eq_getElem?_getD]
  · rw [a9]; exact mz
  · rw [hDm, a9]; exact nm mb o (by omega) (by omega) (by omega) (.inr (far mb (by omega)))
  ·
   rw [hDn] at hk; rw [hDm]; by_cases hkm : k < es.length
   ·
    obtain ⟨gl, cl, gv, cv, t1, -⟩ := (bl k hkm).tc; have := bol k hkm; rw [hbo k hkm]; exact ⟨t1.at_ 0 _ rfl, nm _ 0 (by omega) (by omega) (by omega) (.inl (by omega))⟩
   ·
    obtain ⟨i, rfl⟩ : ∃ i, k = es.length + i := ⟨k - es.length, by omega⟩
    have hi : i < cuts.length := by omega
    have := hbc i hi; rw [hbc2]; exact ⟨(cw i hi).at_ 0 _ rfl, nm _ 0 (by omega) (by omega) (by omega) (.inl (by omega))⟩
  ·
   rw [hDm] at hk ⊢; obtain ⟨gl, cl, gv, cv, t1, t2, t3, t4, t5⟩ := (bl k hk).tc; have := bol k hk; rw [hbo k hk]; refine ⟨_, cl, ⟨t1.at_ 1 _ rfl, nm _ 1 (by omega) (by omega) (by omega) (.inl (by omega))⟩, fun i u hu => ⟨gl, 0, rfl, ?_, nm gl _ (by omega) (by omega) (by omega) (.inl ?_)⟩⟩
   ·
    have hi := (List.getElem?_eq_some_iff.1 hu).1; rw [Nat.zero_add, t2.cell? i hi]; exact hu
   ·
    have hi := (List.getElem?_eq_some_iff.1 hu).1; rw [lkCells_length] at hi; simp only [lk1, List.length_cons, List.length_nil] at hi; omega
  ·
   rw [hDm] at hk ⊢; obtain ⟨gl, cl, gv, cv, t1, t2, t3, t4, t5⟩ := (bl k hk).tc; have := bol k hk; rw [hbo k hk]; refine ⟨_, cv, ⟨t1.at_ 2 _ rfl, nm _ 2 (by omega) (by omega) (by omega) (.inl (by omega))⟩, fun i u hu => ⟨gv, 0, rfl, ?_, nm gv _ (by omega) (by omega) (by omega) (.inl ?_)⟩⟩
   ·
    have hi := (List.getElem?_eq_some_iff.1 hu).1; rw [Nat.zero_add, t3.cell? i hi]; exact hu
   ·
    have hi := (List.getElem?_eq_some_iff.1 hu).1; simp at hi; omega
  ·
   rw [hDm] at hk1 ⊢; rw [hDn] at hk; obtain ⟨i, rfl⟩ : ∃ i, k = es.length + i := ⟨k - es.length, by omega⟩
   have hi : i < cuts.length := by omega
   have := hbc i hi; rw [hbc2]; have hcv : (ktOf es cuts (uz ts) ts root up dep).cv (es.length + i) = cuts.getD i 0 := by
    show cuts.getD (es.length + i - es.length) 0 = _; rw [show es.length + i - es.length = i by omega]
   rw [hcv]; exact ⟨(cw i hi).at_ 1 _ rfl, nm _ 1 (by omega) (by omega) (by omega) (.inl (by omega))⟩
 ·
  intro v hv
  unfold cutF
  rw [List.take_of_length_le (Nat.le_refl _), Int.toNat_natCast]
  show _ = Option.map (fun q : Nat => (q : Int)) (if v ∈ cuts then some (es.length + cuts.idxOf v) else none)
  by_cases h : v ∈ cuts
  · rw [if_pos ⟨by omega, h⟩, if_pos h]; rfl
  · rw [if_neg fun h2 => h h2.2, if_neg h]; rfl
 · rw [a7]; exact rw
 ·
  rw [a8]
  have : pldF [] n = List.replicate n (.bool false) := by simp [pldF, List.eq_replicate_iff]
  rw [this]; exact rp
 · rw [a1]; exact tc.at_ 10 _ rfl
 · rw [a1]; exact tc.fz 10
 ·
  intro k hk
  obtain ⟨gl, cl, gv, cv, t1, -⟩ := (bl k hk).tc
  rw [hbo k hk]
  exact ⟨⟨_, t1.at_ 3 _ rfl⟩, ⟨_, t1.at_ 4 _ rfl⟩, t1.fz⟩
 ·
  refine ⟨fun k hk => ?_, fun k l hk hl e => ?_, by rw [a7]; exact rw.lt⟩
  ·
   rw [hDm] at hk; have := bol k hk; rw [hbo k hk, a7]; exact ⟨by omega, (bl k hk).lt⟩
  ·
   rw [hDm] at hk hl; rw [hbo k hk, hbo l hl] at e; exact inj k l hk hl e
 · rw [a1, a7, a8]; exact ⟨by omega, by omega⟩
 ·
  intro k hk
  have := bol k hk
  rw [hbo k hk, a1, a8]; exact ⟨by omega, by omega⟩
end Go.Proofs.YtagjdkkfmfombaaGreat
