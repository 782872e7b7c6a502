/- Facts that the claim rests on, part 10. -/
import Derived.Test.YtagcbnpahgfgmaaGreatKC08
namespace Go.Proofs.YtagcbnpahgfgmaaGreat
open Go Go.RowKit Go.Maps
theorem cells_grown {w w' : World} {a : Option Addr} {l : List Value} {r : Option Nat} (h : CellsAt w a l) (hg : w.grownBy w' r) (hne : ∀ x, a = some x → l ≠ [] → r ≠ some x.block) : CellsAt w' a l := by
 intro i u hu
 obtain ⟨b, o, rfl, hc⟩ := h i u hu
 exact ⟨b, o, rfl, grown_cell hg hc (hne _ rfl (fun e => by rw [e] at hu; simp at hu))⟩
set_option maxRecDepth 100000 in
set_option maxHeartbeats 2000000 in
theorem far_walk (hb : Nat) (s : Option Addr) (c : Nat) (T : List Pt) (v : Nat) (w : World) (hc : w.cell? ⟨hb, 0, none⟩ = some (.slice s T.length c)) (hq : RdQ w s T) (hT : T.length ≤ 1000) (h : RightQ T) (hv : v < T.length) :
  Calls Tryz.prog 31 #[.int .i64 v, .pointer (some ⟨hb, 0, none⟩)] w fun e w' => ∃ d : Nat, e = .returned (.int .i64 d) ∧ EccW (besQ T) T.length v d ∧ Below w.heap.size w w' := by
 have Hh := Lib.hid h; have Hv := Lib.hid hv
 have hwv : WfZ (v : Int) := wfZ_of (by omega)
 have hm1 := fun w => run_makeMapN 35 _ _ Tryz.underlying35 w
 have hm0 := MZ.made w
 clear h hv
 go_enter Tryz.func31, Tryz.ntmps31
 go_wp2_with (refine wpList_ins_MZ rfl _ _ _ rfl hm0 (k := (v : Int)) (v := 0) rfl rfl rfl hwv (wfZ_of (by omega)) (by omega) ?_; intro w1 hm2 hg1)
 have hb1 : Below w.heap.size w w1 := (bl_alloc w _).grown hg1 (by simp) (fun j hj => by cases hj; exact Nat.le_refl _)
 have hsz1 := hg1.size
 simp at hsz1
 have hf0 : updF (fun _ => none) (v : Int) 0 = fZ (updN (fun _ => none) v 0) := by
  have := fZ_upd (fun _ => none) v 0
  rw [← this]
  congr 1
  funext x; simp [fZ]
 rw [hf0] at hm2
 simp only [Option.isSome_none, Bool.false_eq_true, if_false, Nat.zero_add] at hm2
 clear hf0 hm0 hg1
 go_loopg [5, 6] T.length (fun r lv uv wj => ∃ (P q : List Nat) (f : Nat → Option Nat) (last : Nat), P.length + r = T.length ∧ uv = .int .i64 last ∧ Tail wj lv 3 (q.map vN) ∧ BfI (besQ T) T.length v P q f last ∧ last ≤ P.length ∧
  MZ wj w.heap.size (P.length + q.length) (fZ f) ∧ (∀ b, lv.ownBlock = some b → w.heap.size < b) ∧ Below w.heap.size w wj)
 case atStart =>
  refine ⟨[], [v], _, 0, by simp, rfl, ?_, BfI.begin Hv.out, by simp, ?_, ?_, bl_trans hb1 (bl_alloc _ _)⟩
  · exact ⟨w1.heap.size, 0, 1, 1, [vN v], rfl, by simpa [vN] using row_lit w1 [vN v] 3 (by unfold maxLen; simp), by simp, rfl, rfl, by simp⟩
  · exact hm2.alloc _
  ·
   intro b hb; simp [Value.ownBlock] at hb; omega
 case round =>
  clear hm2 hb1
  obtain ⟨P, q, f, last, hr, rfl, htl, hbf, hla, hmz, hyg, hB⟩ := hrel
  have Hbf := Lib.hid hbf; have Hr := Lib.hid hr; have Hla := Lib.hid hla
  cases q with
  | nil =>
   obtain ⟨g, o, cap, C, all, rfl, -, -, -, -, -⟩ := htl; clear hbf hr hla hyg hmz; go_wp2_with fail; go_ret; exact ⟨last, rfl, Hbf.out.end fun x y hx hy => Hh.out.cons hx hy, hB⟩
  | cons i q =>
   obtain ⟨d, hfi, hd1, hbj⟩ := hbf.pop; have hin : i < T.length := hbj.lt i (by simp); have hlen := hbj.len; have hlk := hmz.look (v := (i : Int)) (wfZ_of (by omega)); rw [fZ_at, hfi] at hlk; simp only [Option.map_some, Option.getD_some] at hlk; obtain ⟨g, o, cap, C, all, rfl, hrow, hC, hal, hdr, hcp⟩ := htl; have hc0 : wr.cell? ⟨g, o, none⟩ = some (.int .i64 (i : Int)) := by
    rw [hrow.cell? o (by rw [hal]; simp)]; have : all[o]? = (all.drop o)[0]? := by simp
    rw [this, hdr]; rfl
   have hgs : w.heap.size < g := hyg g rfl; have Hbj := Lib.hid hbj; have Hd1 := Lib.hid hd1; have Hfi := Lib.hid hfi; have hqB := hq.below hB; have hcB := keep_cell hB hc; have hwi : WfZ (i : Int) := wfZ_of (by omega); have hbl : besideL T (i : Int) = besQ T i := by unfold besideL; rw [if_pos ⟨by omega, by omega, rightB_iff.2 Hh.out⟩]; rfl
   have Hbl := Lib.hid hbl; have hglt := hrow.lt; clear hbf hbj hd1 hfi hr hla hyg hbl; simp only [List.map_cons, List.length_cons, List.length_map] at hrow hal hdr hcp ⊢; have hqm : (q.map vN).length = q.length := List.length_map _; by_cases hcap1 : cap = 1
   ·
    have hq0 : q.length = 0 := by omega
    obtain rfl : q = [] := List.eq_nil_of_length_eq_zero hq0; have htl : Tail wr (.slice (some ⟨g, o, none⟩) 0 0) 3 (([] : List Nat).map vN) := by
     refine ⟨g, o, 0, C, all.take o, rfl, hrow.take o, by omega, by rw [List.length_take]; simp at hal ⊢; omega, ?_, by simp⟩; rw [List.drop_of_length_le (by rw [List.length_take]; omega)]; rfl
    subst hcap1; clear hrow hal hdr hcp hC hqm; go_wp2_with fail; refine (nbeside_walk s c T (i : Int) _ hqB hT hwi).mono ?_; rintro e w2 ⟨ab, cb, rfl, hcl, hyb, hb2⟩; rw [Hbl.out] at hcl hyb ⊢; have hab : ∀ x, ab = some x → besQ T i ≠ [] → w.heap.size < x.block ∧ x.block ≠ g ∧ x.block < w2.heap.size := fun x hx hne => by
     have h1 := hyb x hx hne; have h2 := hmz.lt; obtain ⟨y, l, hy⟩ : ∃ y l, besQ T i = y :: l := by
      cases hl : besQ T i with
      | nil => exact absurd hl hne
      | cons y l => exact ⟨y, l, rfl⟩
     obtain ⟨b, o2, hbx, hcx⟩ := hcl 0 (vN y) (by rw [hy]; rfl); rw [hx] at hbx; cases hbx; have h3 := World.block_lt_of_cell? w2 _ hcx; exact ⟨by omega, by omega, h3⟩
    have Hab := Lib.hid hab; clear hyb hab; have hB2 := bl_trans hB hb2; have htl2 := htl.below hb2; have hmz2 := hmz.below hb2; clear htl hmz hb2 hB hqB hcB hlk hc0; go_wp2_with fail; obtain ⟨gko, hgko⟩ : ∃ g, g = gk := ⟨_, rfl⟩
    have Hgko := Lib.hid hgko; have hbn : (besQ T i).length ≤ T.length := by
     have := nodup_len_le (Hh.out.treeG.nd i) (m := List.range T.length) fun x hx => List.mem_range.2 (Hh.out.treeG.lt _ _ hx); simpa using this
    clear hgko
    go_loopg [5, 32] (besQ T i).length (fun r lv kv wj => ∃ (k : Nat) (p : List Nat) (f2 : Nat → Option Nat), k + r = (besQ T i).length ∧ kv = .int .i64 k ∧ Tail wj lv 3 (p.map vN) ∧ BfJ (besQ T) T.length v P i ((besQ T i).take k) p f2 d ∧
     MZ wj w.heap.size (P.length + (p.length + 1)) (fZ f2) ∧ (∀ b, lv.ownBlock = some b → w.heap.size < b ∧ ∀ x, ab = some x → besQ T i ≠ [] → b ≠ x.block) ∧ Below w.heap.size w wj ∧ CellsAt wj ab ((besQ T i).map vN) ∧ w2.heap.size ≤ wj.heap.size)
    case atStart => exact ⟨0, [], f, by omega, rfl, htl2, by simpa using Hbj.out, hmz2, fun b hb => (by simp [Value.ownBlock] at hb; subst hb; exact ⟨hgs, fun x hx hne e => (Hab.out x hx hne).2.1 e.symm⟩), hB2, hcl, Nat.le_refl _⟩
    case round =>
     clear htl2 hmz2 hcl hB2; obtain ⟨k, p, f2, hk, rfl, htl, hbj, hmz, hyg, hBj, hcl, hsz2⟩ := hrel; have Hk := Lib.hid hk; have HBj := Lib.hid hBj; by_cases hkl : k < (besQ T i).length
     ·
      clear hk; obtain ⟨z, hz⟩ : ∃ z, (besQ T i)[k] = z := ⟨_, rfl⟩
      have hzn : z < T.length := Hh.out.treeG.lt i z (by rw [← hz]; exact List.getElem_mem hkl); have htk : (besQ T i).take (k + 1) = (besQ T i).take k ++ [z] := by rw [List.take_succ_eq_append_getElem hkl, hz]
      have hzb : z ∈ besQ T i := by rw [← hz]; exact List.getElem_mem hkl
      obtain ⟨bb, oo, rfl, hcz⟩ := hcl k (vN z) (by rw [List.getElem?_map, List.getElem?_eq_getElem hkl, hz]; rfl); unfold vN at hcz; have hwz : WfZ (z : Int) := wfZ_of (by omega); have hlo := hmz.lookOk (v := (z : Int)) hwz; rw [fZ_at] at hlo; have i2 : (k : Int) < ((besQ T i).length : Int) := by omega
      have Htk := Lib.hid htk; have Hzb := Lib.hid hzb; cases hfz : f2 z with
      | some dz =>
       rw [hfz] at hlo; simp only [Option.map_some, Option.getD_some, Option.isSome_some] at hlo; have hnew := hbj.old (z := z) (by rw [hfz]; rfl); rw [← htk] at hnew; have Hnew := Lib.hid hnew; clear hnew hbj hfz hzb hz htk; go_wp2_with fail; go_roundg (gk - 1)
       case measure => have := Hk.out; omega
       case rel => exact ⟨k + 1, p, f2, by have := Hk.out; omega, by go_num, htl, Hnew.out, hmz, hyg, HBj.out, hcl, hsz2⟩
      | none =>
       rw [hfz] at hlo; simp only [Option.map_none, Option.getD_none, Option.isSome_none] at hlo; have hli := hmz.look (v := (i : Int)) hwi; rw [fZ_at, hbj.cur] at hli; simp only [Option.map_some, Option.getD_some] at hli; have hnew := hbj.new hfz hzb hzn; rw [← htk] at hnew; have hlen2 := hbj.len; have hdl : d ≤ T.length := by have := Hr.out; have := Hd1.out; have := Hla.out; simp at *; omega
       have hwd : WfZ ((d : Int) + 1) := wfZ_of (by omega); have hfn : (fZ f2 (z : Int)).isSome = false := by rw [fZ_at, hfz]; rfl
       have Hnew := Lib.hid hnew; clear hnew hbj hfz hzb hz htk; go_upto_region 14 with (at_mapUpdate; refine wpList_put_MZ rfl _ _ _ rfl hmz (k := (z : Int)) (v := (d : Int) + 1) rfl rfl rfl hwz hwd (by omega) ?_; intro w3 hm3 hg3)
       rw [hfn] at hm3; simp only [Bool.false_eq_true, if_false] at hm3; rw [show (d : Int) + 1 = ((d + 1 : Nat) : Int) by omega, fZ_upd] at hm3; have hyg1 : ∀ b, _ = some b → w.heap.size < b := fun b hb => (hyg b hb).1; have htl3 := (htl.grown hg3 hyg1).alloc (.cells #[.int .i64 (z : Int)] 3); have hsz3 := hg3.size; have hcz3 : (w3.alloc (.cells #[.int .i64 (z : Int)] 3)).cell? ((⟨w3.heap.size, 0, none⟩ : Addr).add 0) = some (.int .i64 (z : Int)) := by simp [Addr.add]
       have hws : w.heap.size < wr.heap.size := hmz.lt; have hB4 := bl_trans (HBj.out.grown hg3 (by omega) (fun j hj => by cases hj; exact Nat.le_refl _)) (bl_alloc w3 (.cells #[.int .i64 (z : Int)] 3)); have hne : besQ T i ≠ [] := List.ne_nil_of_mem Hzb.out; have hcl3 := (cells_grown hcl hg3 fun x hx _ e => by have := (Hab.out x hx hne).1; have e2 := Option.some.inj e; omega).below (bl_alloc w3 (.cells #[.int .i64 (z : Int)] 3)); have hm4 := hm3.alloc (.cells #[.int .i64 (z : Int)] 3); have hpl : p.length ≤ T.length := by omega
       have HB4 := Lib.hid hB4; have Hcl3 := Lib.hid hcl3; have Hyg := Lib.hid hyg; have Hne := Lib.hid hne; have Hm4 := Lib.hid hm4; have Htl3 := Lib.hid htl3; have Hyg1 := Lib.hid hyg1; clear htl hlo hli hB4 hcl3 hne hyg hcl hm3 hm4 htl3 hyg1; go_wp2_with (at_builtin; refine wpList_append_tail rfl (.tmp 50) (.tmp 52) 33 rfl 3 (.int .i64 0) 8 Tryz.underlying33 int_info rfl _ _ (by simp [Act.eval]) Htl3.out ⟨w3.heap.size, 0, none⟩ 1 (.int .i64 (z : Int)) (by simp [Act.eval]) hcz3 rfl (by unfold maxLen; simp; omega) (by simp; omega) ?_; intro v4 w4 htl4 hg4 hyg4); go_roundg (gk - 1)
       case measure => have := Hk.out; omega
       case rel =>
        have s4 := hg4.size; simp at s4; refine ⟨k + 1, p ++ [z], _, by have := Hk.out; omega, by go_num, by simpa [vN] using htl4, Hnew.out, ?_, fun b hb => ?_, HB4.out.grown hg4 (by simp; omega) (fun j hj => Nat.le_of_lt (Hyg1.out j hj)), cells_grown Hcl3.out hg4 fun x hx h1 e => (Hyg.out _ e).2 x hx Hne.out rfl, by omega⟩
        ·
         have := Hm4.out.grown hg4 (fun e => by have := Hyg1.out _ e; omega); simpa [Nat.add_assoc] using this
        ·
         rcases hyg4 b hb with h1 | h1
         · exact Hyg.out b h1
         ·
          simp at h1; exact ⟨by omega, fun x hx hn e => by have := (Hab.out x hx hn).2.2; omega⟩
     ·
      have hkn : k = (besQ T i).length := by omega
      subst hkn; rw [List.take_length] at hbj; have hdn := hbj.done; have hlen2 := hbj.len; have Hdn := Lib.hid hdn; have hyg2 : ∀ b, _ = some b → w.heap.size < b := fun b hb => (hyg b hb).1; clear hbj hdn hk; go_wp2_with fail; go_roundg (gko - 1)
      case measure => have := Hr.out; have := Hgko.out; omega
      case rel => exact ⟨P ++ [i], p, f2, d, by have := Hr.out; have := Hgko.out; simp; omega, rfl, htl, Hdn.out, by have := Hd1.out; have := Hla.out; simp; omega, by simpa [Nat.add_assoc, Nat.add_comm 1] using hmz, hyg2, HBj.out⟩
   ·
    have htl : Tail wr (.slice (some ⟨g, o + 1, none⟩) q.length (cap - 1)) 3 (q.map vN) := by
     refine ⟨g, o + 1, cap - 1, C, all, by rw [hqm], hrow, by omega, by rw [hqm]; omega, ?_, by omega⟩; rw [← List.drop_drop, hdr]; rfl
    clear hrow hal hdr hC hqm; go_wp2_with fail; refine (nbeside_walk s c T (i : Int) _ hqB hT hwi).mono ?_; rintro e w2 ⟨ab, cb, rfl, hcl, hyb, hb2⟩; rw [Hbl.out] at hcl hyb ⊢; have hab : ∀ x, ab = some x → besQ T i ≠ [] → w.heap.size < x.block ∧ x.block ≠ g ∧ x.block < w2.heap.size := fun x hx hne => by
     have h1 := hyb x hx hne; have h2 := hmz.lt; obtain ⟨y, l, hy⟩ : ∃ y l, besQ T i = y :: l := by
      cases hl : besQ T i with
      | nil => exact absurd hl hne
      | cons y l => exact ⟨y, l, rfl⟩
     obtain ⟨b, o2, hbx, hcx⟩ := hcl 0 (vN y) (by rw [hy]; rfl); rw [hx] at hbx; cases hbx; have h3 := World.block_lt_of_cell? w2 _ hcx; exact ⟨by omega, by omega, h3⟩
    have Hab := Lib.hid hab; clear hyb hab; have hB2 := bl_trans hB hb2; have htl2 := htl.below hb2; have hmz2 := hmz.below hb2; clear htl hmz hb2 hB hqB hcB hlk hc0; go_wp2_with fail; obtain ⟨gko, hgko⟩ : ∃ g, g = gk := ⟨_, rfl⟩
    have Hgko := Lib.hid hgko; have hbn : (besQ T i).length ≤ T.length := by
     have := nodup_len_le (Hh.out.treeG.nd i) (m := List.range T.length) fun x hx => List.mem_range.2 (Hh.out.treeG.lt _ _ hx); simpa using this
    clear hgko
    go_loopg [5, 32] (besQ T i).length (fun r lv kv wj => ∃ (k : Nat) (p : List Nat) (f2 : Nat → Option Nat), k + r = (besQ T i).length ∧ kv = .int .i64 k ∧ Tail wj lv 3 (p.map vN) ∧ BfJ (besQ T) T.length v P i ((besQ T i).take k) p f2 d ∧
     MZ wj w.heap.size (P.length + (p.length + 1)) (fZ f2) ∧ (∀ b, lv.ownBlock = some b → w.heap.size < b ∧ ∀ x, ab = some x → besQ T i ≠ [] → b ≠ x.block) ∧ Below w.heap.size w wj ∧ CellsAt wj ab ((besQ T i).map vN) ∧ w2.heap.size ≤ wj.heap.size)
    case atStart => exact ⟨0, q, f, by omega, rfl, htl2, by simpa using Hbj.out, hmz2, fun b hb => (by simp [Value.ownBlock] at hb; subst hb; exact ⟨hgs, fun x hx hne e => (Hab.out x hx hne).2.1 e.symm⟩), hB2, hcl, Nat.le_refl _⟩
    case round =>
     clear htl2 hmz2 hcl hB2; obtain ⟨k, p, f2, hk, rfl, htl, hbj, hmz, hyg, hBj, hcl, hsz2⟩ := hrel; have Hk := Lib.hid hk; have HBj := Lib.hid hBj; by_cases hkl : k < (besQ T i).length
     ·
      clear hk; obtain ⟨z, hz⟩ : ∃ z, (besQ T i)[k] = z := ⟨_, rfl⟩
      have hzn : z < T.length := Hh.out.treeG.lt i z (by rw [← hz]; exact List.getElem_mem hkl); have htk : (besQ T i).take (k + 1) = (besQ T i).take k ++ [z] := by rw [List.take_succ_eq_append_getElem hkl, hz]
      have hzb : z ∈ besQ T i := by rw [← hz]; exact List.getElem_mem hkl
      obtain ⟨bb, oo, rfl, hcz⟩ := hcl k (vN z) (by rw [List.getElem?_map, List.getElem?_eq_getElem hkl, hz]; rfl); unfold vN at hcz; have hwz : WfZ (z : Int) := wfZ_of (by omega); have hlo := hmz.lookOk (v := (z : Int)) hwz; rw [fZ_at] at hlo; have i2 : (k : Int) < ((besQ T i).length : Int) := by omega
      have Htk := Lib.hid htk; have Hzb := Lib.hid hzb; cases hfz : f2 z with
      | some dz =>
       rw [hfz] at hlo; simp only [Option.map_some, Option.getD_some, Option.isSome_some] at hlo; have hnew := hbj.old (z := z) (by rw [hfz]; rfl); rw [← htk] at hnew; have Hnew := Lib.hid hnew; clear hnew hbj hfz hzb hz htk; go_wp2_with fail; go_roundg (gk - 1)
       case measure => have := Hk.out; omega
       case rel => exact ⟨k + 1, p, f2, by have := Hk.out; omega, by go_num, htl, Hnew.out, hmz, hyg, HBj.out, hcl, hsz2⟩
      | none =>
       rw [hfz] at hlo; simp only [Option.map_none, Option.getD_none, Option.isSome_none] at hlo; have hli := hmz.look (v := (i : Int)) hwi; rw [fZ_at, hbj.cur] at hli; simp only [Option.map_some, Option.getD_some] at hli; have hnew := hbj.new hfz hzb hzn; rw [← htk] at hnew; have hlen2 := hbj.len; have hdl : d ≤ T.length := by have := Hr.out; have := Hd1.out; have := Hla.out; simp at *; omega
       have hwd : WfZ ((d : Int) + 1) := wfZ_of (by omega); have hfn : (fZ f2 (z : Int)).isSome = false := by rw [fZ_at, hfz]; rfl
       have Hnew := Lib.hid hnew; clear hnew hbj hfz hzb hz htk; go_upto_region 14 with (at_mapUpdate; refine wpList_put_MZ rfl _ _ _ rfl hmz (k := (z : Int)) (v := (d : Int) + 1) rfl rfl rfl hwz hwd (by omega) ?_; intro w3 hm3 hg3)
       rw [hfn] at hm3; simp only [Bool.false_eq_true, if_false] at hm3; rw [show (d : Int) + 1 = ((d + 1 : Nat) : Int) by omega, fZ_upd] at hm3; have hyg1 : ∀ b, _ = some b → w.heap.size < b := fun b hb => (hyg b hb).1; have htl3 := (htl.grown hg3 hyg1).alloc (.cells #[.int .i64 (z : Int)] 3); have hsz3 := hg3.size; have hcz3 : (w3.alloc (.cells #[.int .i64 (z : Int)] 3)).cell? ((⟨w3.heap.size, 0, none⟩ : Addr).add 0) = some (.int .i64 (z : Int)) := by simp [Addr.add]
       have hws : w.heap.size < wr.heap.size := hmz.lt; have hB4 := bl_trans (HBj.out.grown hg3 (by omega) (fun j hj => by cases hj; exact Nat.le_refl _)) (bl_alloc w3 (.cells #[.int .i64 (z : Int)] 3)); have hne : besQ T i ≠ [] := List.ne_nil_of_mem Hzb.out; have hcl3 := (cells_grown hcl hg3 fun x hx _ e => by have := (Hab.out x hx hne).1; have e2 := Option.some.inj e; omega).below (bl_alloc w3 (.cells #[.int .i64 (z : Int)] 3)); have hm4 := hm3.alloc (.cells #[.int .i64 (z : Int)] 3); have hpl : p.length ≤ T.length := by omega
       have HB4 := Lib.hid hB4; have Hcl3 := Lib.hid hcl3; have Hyg := Lib.hid hyg; have Hne := Lib.hid hne; have Hm4 := Lib.hid hm4; have Htl3 := Lib.hid htl3; have Hyg1 := Lib.hid hyg1; clear htl hlo hli hB4 hcl3 hne hyg hcl hm3 hm4 htl3 hyg1; go_wp2_with (at_builtin; refine wpList_append_tail rfl (.tmp 50) (.tmp 52) 33 rfl 3 (.int .i64 0) 8 Tryz.underlying33 int_info rfl _ _ (by simp [Act.eval]) Htl3.out ⟨w3.heap.size, 0, none⟩ 1 (.int .i64 (z : Int)) (by simp [Act.eval]) hcz3 rfl (by unfold maxLen; simp; omega) (by simp; omega) ?_; intro v4 w4 htl4 hg4 hyg4); go_roundg (gk - 1)
       case measure => have := Hk.out; omega
       case rel =>
        have s4 := hg4.size; simp at s4; refine ⟨k + 1, p ++ [z], _, by have := Hk.out; omega, by go_num, by simpa [vN] using htl4, Hnew.out, ?_, fun b hb => ?_, HB4.out.grown hg4 (by simp; omega) (fun j hj => Nat.le_of_lt (Hyg1.out j hj)), cells_grown Hcl3.out hg4 fun x hx h1 e => (Hyg.out _ e).2 x hx Hne.out rfl, by omega⟩
        ·
         have := Hm4.out.grown hg4 (fun e => by have := Hyg1.out _ e; omega); simpa [Nat.add_assoc] using this
        ·
         rcases hyg4 b hb with h1 | h1
         · exact Hyg.out b h1
         ·
          simp at h1; exact ⟨by omega, fun x hx hn e => by have := (Hab.out x hx hn).2.2; omega⟩
     ·
      have hkn : k = (besQ T i).length := by omega
      subst hkn; rw [List.take_length] at hbj; have hdn := hbj.done; have hlen2 := hbj.len; have Hdn := Lib.hid hdn; have hyg2 : ∀ b, _ = some b → w.heap.size < b := fun b hb => (hyg b hb).1; clear hbj hdn hk; go_wp2_with fail; go_roundg (gko - 1)
      case measure => have := Hr.out; have := Hgko.out; omega
      case rel => exact ⟨P ++ [i], p, f2, d, by have := Hr.out; have := Hgko.out; simp; omega, rfl, htl, Hdn.out, by have := Hd1.out; have := Hla.out; simp; omega, by simpa [Nat.add_assoc, Nat.add_comm 1] using hmz, hyg2, HBj.out⟩
end Go.Proofs.YtagcbnpahgfgmaaGreat
namespace Go.Proofs.YtagcbnpahgfgmaaGreat
def okV (Q : List Pt) (v : Int) : Prop := (atV v (allQ Q)).length = 2 ∧ pairB Q (atV v (allQ Q)) = true
def passV (Q : List Pt) (l : List Oc) : Prop := ∀ p ∈ l, p.2.2.2 ≠ 0 → okV Q p.2.2.2
theorem RightQ.okV {Q : List Pt} (h : RightQ Q) {p : Oc} (hp : p ∈ allQ Q) (hv : p.2.2.2 ≠ 0) : okV Q p.2.2.2 := by
 refine ⟨?_, h.bes.1.2 _ hv⟩
 rcases h.bes.2.1 _ hv with h0 | h2
 ·
  have : p ∈ atV p.2.2.2 (allQ Q) := mem_atV.2 ⟨hp, rfl⟩
  rw [List.eq_nil_of_length_eq_zero h0] at this; simp at this
 · exact h2
def nvO (l : List Oc) : Nat := (l.filter fun p => p.2.2.2 != 0).length
theorem sum_atV (l : List Oc) : ∀ N : List Int, N.Nodup → (l.filter fun p => decide (p.2.2.2 ∈ N)).length = (N.map fun v => (atV v l).length).sum := by
 intro N
 induction N with
 | nil => intro _; simp
 | cons v N ih =>
  intro hn
  have hn' := List.nodup_cons.1 hn
  rw [List.map_cons, List.sum_cons, ← ih hn'.2]
  clear ih
  induction l with
  | nil => rfl
  | cons p l ih =>
   unfold atV at ih ⊢; simp only [List.filter_cons, List.mem_cons] at ih ⊢; by_cases h1 : p.2.2.2 = v
   ·
    have h2 : p.2.2.2 ∉ N := by rw [h1]; exact hn'.1
    simp [h1, hn'.1] at ih ⊢; omega
   ·
    have h3 : (p.2.2.2 == v) = false := by simpa using h1
    by_cases h2 : p.2.2.2 ∈ N
    · simp [h1, h2] at ih ⊢; omega
    · simp [h1, h2] at ih ⊢; omega
theorem nums_two {l : List Oc} (h : bothP l) : nvO l = 2 * (numsO l).length := by
 have h1 := sum_atV l (numsO l) (numsO_nodup l)
 have e : (fun p : Oc => decide (p.2.2.2 ∈ numsO l)) = fun p => decide (p.2.2.2 ∈ numsO l) := rfl
 have h2 : (l.filter fun p => decide (p.2.2.2 ∈ numsO l)) = l.filter fun p => p.2.2.2 != 0 := by
  refine List.filter_congr fun p hp => ?_
  rw [Bool.eq_iff_iff]
  simp only [decide_eq_true_eq, bne_iff_ne, ne_eq]
  rw [mem_numsO]
  exact ⟨fun h => h.1, fun h => ⟨h, p, hp, rfl⟩⟩
 rw [h2] at h1
 unfold nvO
 rw [h1]
 have h3 : ∀ N : List Int, (∀ v ∈ N, (atV v l).length = 2) → (N.map fun v => (atV v l).length).sum = 2 * N.length := by
  intro N
  induction N with
  | nil => intro _; rfl
  | cons v N ih =>
   intro hN; rw [List.map_cons, List.sum_cons, ih fun x hx => hN x (by simp [hx]), hN v (by simp), List.length_cons]; omega
 refine h3 _ fun v hv => ?_
 obtain ⟨h0, p, hp, hpv⟩ := mem_numsO.1 hv
 rcases h v h0 with h4 | h4
 ·
  have : p ∈ atV v l := mem_atV.2 ⟨hp, hpv⟩
  rw [List.eq_nil_of_length_eq_zero h4] at this; simp at this
 · exact h4
theorem passV_both {Q : List Pt} (h : passV Q (allQ Q)) : bothP (allQ Q) ∧ ∀ v, v ≠ 0 → pairB Q (atV v (allQ Q)) = true := by
 refine ⟨fun v hv => ?_, fun v hv => ?_⟩ <;> cases he : atV v (allQ Q) with
 | nil => simp [pairB]
 | cons p l =>
  have hp : p ∈ atV v (allQ Q) := by rw [he]; simp
  obtain ⟨h1, h2⟩ := mem_atV.1 hp
  have := h p h1 (by rw [h2]; exact hv)
  rw [h2] at this
  first
  | (rw [← he]; exact .inr this.1)
  | (rw [← he]; exact this.2)
def stepS (Q : List Pt) (G : Nat → Bool) (p : Oc) : Nat → Bool := if p.2.2.2 = 0 then G else match atV p.2.2.2 (allQ Q) with
 | a :: b :: _ => if G a.1 || G b.1 then (fun j => G j || (decide (j = a.1) || decide (j = b.1))) else G
 | _ => G
def foldS (Q : List Pt) (G : Nat → Bool) (l : List Oc) : Nat → Bool := l.foldl (stepS Q) G
theorem foldS_snoc (Q : List Pt) (G : Nat → Bool) (l : List Oc) (p : Oc) : foldS Q G (l ++ [p]) = stepS Q (foldS Q G l) p := by unfold foldS; rw [List.foldl_append]; rfl
theorem foldS_append (Q : List Pt) (G : Nat → Bool) (l m : List Oc) : foldS Q G (l ++ m) = foldS Q (foldS Q G l) m := by unfold foldS; rw [List.foldl_append]
def roundS (Q : List Pt) : Nat → Nat → Bool
 | 0 => fun j => decide (j = 0)
 | r + 1 => foldS Q (roundS Q r) (allQ Q)
theorem stepS_mono (Q : List Pt) (G : Nat → Bool) (p : Oc) {j : Nat} (h : G j = true) : stepS Q G p j = true := by
 unfold stepS
 by_cases h0 : p.2.2.2 = 0
 · rw [if_pos h0]; exact h
 ·
  rw [if_neg h0]
  generalize atV p.2.2.2 (allQ Q) = z
  match z with
  | [] => exact h
  | [_] => exact h
  | a :: b :: c =>
   simp only; by_cases hg : (G a.1 || G b.1) = true
   · rw [if_pos hg]; simp [h]
   · rw [if_neg hg]; exact h
theorem foldS_mono (Q : List Pt) : ∀ (l : List Oc) (G : Nat → Bool) {j : Nat}, G j = true → foldS Q G l j = true
 | [], _, _, h => h
 | p :: l, G, _, h => foldS_mono Q l _ (stepS_mono Q G p h)
theorem roundS_mono (Q : List Pt) {r s : Nat} (h : r ≤ s) {j : Nat} (hj : roundS Q r j = true) : roundS Q s j = true := by
 induction s with
 | zero =>
  obtain rfl : r = 0 := by omega
  exact hj
 | succ s ih =>
  by_cases e : r = s + 1
  · subst e; exact hj
  · exact foldS_mono Q _ _ (ih (by omega))
theorem adj_pair {Q : List Pt} {v : Int} (hv : v ≠ 0) {a b : Oc} (h : atV v (allQ Q) = [a, b]) (hp : pairB Q [a, b] = true) : adjQ Q a.1 b.1 = true := by
 simp only [pairB, Bool.and_eq_true, decide_eq_true_eq] at hp
 have ha := mem_atV.1 (by rw [h]; simp : a ∈ atV v (allQ Q))
 have hb := mem_atV.1 (by rw [h]; simp : b ∈ atV v (allQ Q))
 exact adjQ_iff.2 ⟨hp.2.1, a.2, b.2, mem_allQ.1 ha.1, mem_allQ.1 hb.1, by rw [ha.2]; exact hv, by rw [ha.2, hb.2]⟩
theorem okV_two {Q : List Pt} {v : Int} (h : okV Q v) : ∃ a b, atV v (allQ Q) = [a, b] ∧ pairB Q [a, b] = true := by
 obtain ⟨h1, h2⟩ := h
 match hl : atV v (allQ Q), h1 with
 | [a, b], _ => rw [hl] at h2; exact ⟨a, b, rfl, h2⟩
theorem step_con {Q : List Pt} {G : Nat → Bool} {p : Oc} (hp : p.2.2.2 ≠ 0 → okV Q p.2.2.2) (h : ∀ j, G j = true → Con (nbQ Q) (· < Q.length) 0 j) : ∀ j, stepS Q G p j = true → Con (nbQ Q) (· < Q.length) 0 j := by
 intro j hj
 unfold stepS at hj
 split at hj
 · exact h j hj
 ·
  rename_i h0
  obtain ⟨a, b, hab, hpr⟩ := okV_two (hp h0)
  rw [hab] at hj
  simp only at hj
  split at hj
  ·
   rename_i hg; have hadj := adj_pair h0 hab hpr; have ha := lnQ_mem (mem_allQ.1 (mem_atV.1 (by rw [hab]; simp : a ∈ atV p.2.2.2 (allQ Q))).1); have hb := lnQ_mem (mem_allQ.1 (mem_atV.1 (by rw [hab]; simp : b ∈ atV p.2.2.2 (allQ Q))).1); have hca : Con (nbQ Q) (· < Q.length) 0 a.1 ∧ Con (nbQ Q) (· < Q.length) 0 b.1 := by
    rcases Bool.or_eq_true _ _ ▸ hg with h1 | h1
    · exact ⟨h _ h1, .step (h _ h1) (mem_nbQ.2 hadj) hb⟩
    · exact ⟨.step (h _ h1) (mem_nbQ.2 (adjQ_symm hadj)) ha, h _ h1⟩
   simp only [Bool.or_eq_true, decide_eq_true_eq] at hj; rcases hj with hj | rfl | rfl
   · exact h j hj
   · exact hca.1
   · exact hca.2
  · exact h j hj
theorem fold_con {Q : List Pt} : ∀ (l : List Oc) (G : Nat → Bool), passV Q l → (∀ j, G j = true → Con (nbQ Q) (· < Q.length) 0 j) → ∀ j, foldS Q G l j = true → Con (nbQ Q) (· < Q.length) 0 j
 | [], _, _, h => h
 | p :: l, G, hp, h => fold_con l _ (fun q hq => hp q (by simp [hq])) (step_con (fun hv => hp p (by simp) hv) h)
theorem round_con {Q : List Pt} (h0 : 0 < Q.length) (hp : passV Q (allQ Q)) : ∀ r j, roundS Q r j = true → Con (nbQ Q) (· < Q.length) 0 j
 | 0, j, h => by
  have : j = 0 := by simpa [roundS] using h
  subst this; exact .refl h0
 | r + 1, j, h => fold_con _ _ hp (round_con h0 hp r) j h
def cntB (n : Nat) (G : Nat → Bool) : Nat := ((List.range n).filter G).length
theorem cntB_le (n : Nat) (G : Nat → Bool) : cntB n G ≤ n := by
 unfold cntB
 have := List.length_filter_le G (List.range n)
 simpa using this
theorem filter_len_mono {α : Type} {p q : α → Bool} : ∀ {l : List α}, (∀ x ∈ l, p x = true → q x = true) → (l.filter p).length ≤ (l.filter q).length
 | [], _ => by simp
 | a :: l, h => by
  have i1 := filter_len_mono (l := l) fun x hx => h x (by simp [hx])
  have ha := h a (by simp)
  simp only [List.filter_cons]
  cases hp : p a with
  | true => rw [ha hp]; simp; exact i1
  | false => cases q a <;> simp <;> omega
theorem filter_len_eq {α : Type} {p q : α → Bool} : ∀ {l : List α}, (∀ x ∈ l, p x = true → q x = true) → (l.filter q).length ≤ (l.filter p).length → ∀ x ∈ l, q x = true → p x = true
 | [], _, _ => fun x hx => by simp at hx
 | a :: l, h, hle => fun x hx hq => by
  have i0 := filter_len_mono (l := l) (p := p) (q := q) fun x hx => h x (by simp [hx])
  have ha := h a (by simp)
  simp only [List.filter_cons] at hle
  have hle' : (l.filter q).length ≤ (l.filter p).length ∧ (q a = true → p a = true) := by
   cases hp : p a with
   | true => rw [hp, ha hp] at hle; simp at hle; exact ⟨hle, fun _ => rfl⟩
   | false =>
    rw [hp] at hle; cases hqa : q a with
    | true => rw [hqa] at hle; simp at hle; omega
    | false => rw [hqa] at hle; simp at hle; exact ⟨hle, fun h => by cases h⟩
  rcases List.mem_cons.1 hx with rfl | hx
  · exact hle'.2 hq
  · exact filter_len_eq (l := l) (fun x hx => h x (by simp [hx])) hle'.1 x hx hq
theorem round_all {Q : List Pt} (h0 : 0 < Q.length) (hp : passV Q (allQ Q)) : (∀ j, j < Q.length → roundS Q Q.length j = true) ↔ conP Q := by
 constructor
 · exact fun h j hj => round_con h0 hp _ j (h j hj)
 ·
  intro hc
  have hex : ∃ r, r < Q.length ∧ cntB Q.length (roundS Q (r + 1)) ≤ cntB Q.length (roundS Q r) := by
   refine Classical.byContradiction fun hno => ?_; have hgrow : ∀ r, r ≤ Q.length → r + 1 ≤ cntB Q.length (roundS Q r) := by
    intro r; induction r with
    | zero =>
     intro _; unfold cntB; refine List.length_pos_iff.2 (List.ne_nil_of_mem (a := 0) ?_); rw [List.mem_filter, List.mem_range]; exact ⟨h0, by simp [roundS]⟩
    | succ r ih =>
     intro hr; have h1 := ih (by omega); have h2 : ¬ cntB Q.length (roundS Q (r + 1)) ≤ cntB Q.length (roundS Q r) := fun h => hno ⟨r, by omega, h⟩; omega
   have := hgrow Q.length (Nat.le_refl _); have := cntB_le Q.length (roundS Q Q.length); omega
  obtain ⟨r, hr, hle⟩ := hex
  have hsame := filter_len_eq (l := List.range Q.length) (p := roundS Q r) (q := roundS Q (r + 1)) (fun x _ hx => roundS_mono Q (by omega) hx) hle
  intro j hj
  refine roundS_mono Q (by omega : r ≤ Q.length) ?_
  refine Con.to (fun j => roundS Q r j = true) (roundS_mono Q (Nat.zero_le r) (by simp [roundS])) (fun y z hy hz => ?_) (hc j hj)
  obtain ⟨hne, e, f, he, hf, hv, hfe⟩ := adjQ_iff.1 (mem_nbQ.1 hz)
  have hzn := lnQ_mem hf
  have hm : (y, e) ∈ allQ Q := mem_allQ.2 he
  obtain ⟨l1, l2, hl⟩ := List.append_of_mem hm
  obtain ⟨a, b, hab, hpr⟩ := okV_two (hp (y, e) hm hv)
  simp only at hab
  have m1 : (y, e) ∈ atV e.2.2 (allQ Q) := mem_atV.2 ⟨hm, rfl⟩
  have m2 : (z, f) ∈ atV e.2.2 (allQ Q) := mem_atV.2 ⟨mem_allQ.2 hf, hfe⟩
  rw [hab] at m1 m2
  refine hsame z (List.mem_range.2 hzn) ?_
  show foldS Q (roundS Q r) (allQ Q) z = true
  rw [hl, show l1 ++ (y, e) :: l2 = (l1 ++ [(y, e)]) ++ l2 by simp, foldS_append, foldS_snoc]
  refine foldS_mono Q _ _ ?_
  have hgy := foldS_mono Q l1 (roundS Q r) hy
  unfold stepS
  rw [if_neg (by exact hv), hab]
  simp only
  have hya : y = a.1 ∨ y = b.1 := by
   simp at m1; rcases m1 with h | h
   · exact .inl (by rw [← h])
   · exact .inr (by rw [← h])
  have hza : z = a.1 ∨ z = b.1 := by
   simp at m2; rcases m2 with h | h
   · exact .inl (by rw [← h])
   · exact .inr (by rw [← h])
  have hg : (foldS Q (roundS Q r) l1 a.1 || foldS Q (roundS Q r) l1 b.1) = true := by
   rcases hya with h | h <;> rw [← h, hgy] <;> simp
  rw [if_pos hg]
  rcases hza with h | h <;> simp [h]
def seenR (Q : List Pt) (i : Nat) : Prop := ∀ j (h : j < Q.length), j < i → Q[j].1 ≠ 0 ∧ Q[j].1 = kindR Q[j].2 ∧ (∀ h0 : 0 < j, cmpLs (Q[j - 1]'(by omega)).2 Q[j].2 < 0)
theorem seenR_seen {Q : List Pt} {i : Nat} (h : seenR Q i) : seenQ Q i := fun j hj hji => by
 obtain ⟨h1, h2, h3⟩ := h j hj hji
 exact ⟨h1, by rw [h2, kind_same], fun h0 => by have := h3 h0; omega⟩
theorem RightQ.seenR {Q : List Pt} (h : RightQ Q) {j : Nat} (hj : j < Q.length) : Q[j].1 ≠ 0 ∧ Q[j].1 = kindR Q[j].2 ∧ (∀ h0 : 0 < j, cmpLs (Q[j - 1]'(by omega)).2 Q[j].2 < 0) := by
 obtain ⟨h1, h2⟩ := h.kinds _ (List.getElem_mem hj)
 refine ⟨h1, by rw [kind_same]; exact h2, fun h0 => ?_⟩
 obtain ⟨k, rfl⟩ : ∃ k, j = k + 1 := ⟨j - 1, by omega⟩
 have h3 := h.ord k hj
 have h4 := h.strict (i := k) (j := k + 1) (by omega) hj
 simp only [Nat.add_sub_cancel]
 have : cmpLs Q[k].2 Q[k + 1].2 ≠ 0 := fun e => h4 (cmpLs_zero.1 e)
 omega
theorem right_doc {Q : List Pt} (h0 : 0 < Q.length) : RightQ Q ↔ seenR Q Q.length ∧ passV Q (allQ Q) ∧ (realsO (allQ Q)).Nodup ∧ nvO (allQ Q) + 2 = 2 * Q.length ∧ ∀ j, j < Q.length → roundS Q Q.length j = true := by
 constructor
 ·
  intro h
  have hp : passV Q (allQ Q) := fun p hp hv => h.okV hp hv
  have h2 := nums_two h.bes.2.1
  have h3 := h.bes.2.2
  exact ⟨fun j hj _ => h.seenR hj, hp, h.bes.1.1, by omega, (round_all h0 hp).2 h.con⟩
 ·
  rintro ⟨h1, h2, h3, h4, h5⟩
  obtain ⟨hk, ho⟩ := seenQ_all.1 (seenR_seen h1)
  obtain ⟨hb, hpr⟩ := passV_both h2
  have hn := nums_two hb
  exact ⟨fun e => by subst e; simp at h0, hk, ho, ⟨⟨h3, hpr⟩, hb, by omega⟩, (round_all h0 h2).1 h5⟩
end Go.Proofs.YtagcbnpahgfgmaaGreat
namespace Go.Proofs.YtagcbnpahgfgmaaGreat
def mayO (Q : List Pt) (p : Oc) : Bool := kdQ Q p.1 != 3 && p.2.2.2 != 0
def colO (Q : List Pt) (l : List Oc) : List Oc := l.filter (mayO Q)
def lastO (Q : List Pt) (l : List Oc) (v : Int) : Option Oc := (atV v (colO Q l)).getLast?
def clearP (Q : List Pt) (l : List Oc) : Prop := ∀ l1 p l2, colO Q l = l1 ++ p :: l2 → ∀ q, (atV p.2.2.2 l1).getLast? = some q → kdQ Q q.1 ≠ kdQ Q p.1
theorem colO_snoc (Q : List Pt) (l : List Oc) (p : Oc) : colO Q (l ++ [p]) = colO Q l ++ if mayO Q p then [p] else [] := by
 unfold colO
 rw [List.filter_append]
 congr 1
 by_cases h : mayO Q p = true
 · rw [if_pos h, List.filter_cons_of_pos h]; rfl
 · rw [if_neg h, List.filter_cons_of_neg h]; rfl
theorem lastO_no {Q : List Pt} {l : List Oc} {p : Oc} (h : mayO Q p = false) (v : Int) : lastO Q (l ++ [p]) v = lastO Q l v := by
 unfold lastO
 rw [colO_snoc, h]; simp
theorem lastO_yes {Q : List Pt} {l : List Oc} {p : Oc} (h : mayO Q p = true) (v : Int) : lastO Q (l ++ [p]) v = if v = p.2.2.2 then some p else lastO Q l v := by
 unfold lastO
 rw [colO_snoc, if_pos h, atV_append, atV_one]
 by_cases hv : p.2.2.2 = v
 · rw [if_pos hv, if_pos hv.symm]; simp
 · rw [if_neg hv, if_neg (fun e => hv e.symm), List.append_nil]
theorem clear_nil (Q : List Pt) : clearP Q [] := fun l1 p l2 h => by simp [colO] at h
theorem clear_no {Q : List Pt} {l : List Oc} {p : Oc} (h : mayO Q p = false) (hc : clearP Q l) : clearP Q (l ++ [p]) := by
 unfold clearP at hc ⊢
 rw [colO_snoc, h]
 simpa using hc
theorem clear_yes {Q : List Pt} {l : List Oc} {p : Oc} (h : mayO Q p = true) (hc : clearP Q l) (hk : ∀ q, lastO Q l p.2.2.2 = some q → kdQ Q q.1 ≠ kdQ Q p.1) : clearP Q (l ++ [p]) := by
 intro l1 r l2 hl q hq
 rw [colO_snoc, if_pos h] at hl
 rcases List.eq_nil_or_concat l2 with rfl | ⟨m, s, rfl⟩
 ·
  obtain ⟨h1, h2⟩ := List.append_inj' hl rfl
  cases h2
  exact hk q (by unfold lastO; rw [h1]; exact hq)
 ·
  rw [List.concat_eq_append] at hl
  have h6 : colO Q l ++ [p] = (l1 ++ r :: m) ++ [s] := by rw [hl]; simp
  obtain ⟨h1, _⟩ := List.append_inj' h6 rfl
  exact hc l1 r m h1 q hq
def alikeP (Q : List Pt) (i j : Nat) (v : Int) : Prop := ∃ l1 p l2 q, colO Q (allQ Q) = l1 ++ p :: l2 ∧ p.2.2.2 = v ∧ p.1 = j ∧ (atV v l1).getLast? = some q ∧ q.1 = i ∧ kdQ Q i = kdQ Q j
theorem alike_at {Q : List Pt} {l b : List Oc} {p q : Oc} (hl : allQ Q = l ++ p :: b) (h : mayO Q p = true) (hq : lastO Q l p.2.2.2 = some q) (hk : kdQ Q q.1 = kdQ Q p.1) : alikeP Q q.1 p.1 p.2.2.2 := by
 refine ⟨colO Q l, p, colO Q b, q, ?_, rfl, rfl, hq, rfl, hk⟩
 rw [hl]
 unfold colO
 rw [List.filter_append, List.filter_cons_of_pos h]
theorem alikeP.places {Q : List Pt} {i j : Nat} {v : Int} (h : alikeP Q i j v) : v ≠ 0 ∧ kdQ Q j ≠ 3 ∧ kdQ Q i = kdQ Q j ∧ ∃ e f b1 b2 b3, allQ Q = b1 ++ (i, e) :: b2 ++ (j, f) :: b3 ∧ e.2.2 = v ∧ f.2.2 = v := by
 obtain ⟨l1, p, l2, q, h1, h2, h3, h4, h5, h6⟩ := h
 have hp : p ∈ colO Q (allQ Q) := by rw [h1]; simp
 have hm := (List.mem_filter.1 hp).2
 unfold mayO at hm
 simp only [Bool.and_eq_true, bne_iff_ne, ne_eq] at hm
 obtain ⟨i', e⟩ := q
 obtain ⟨j', f⟩ := p
 simp only at h2 h3 h5 hm
 subst h3; subst h5
 have hq : (i', e) ∈ atV v l1 := List.mem_of_getLast? h4
 obtain ⟨hq1, hq2⟩ := mem_atV.1 hq
 obtain ⟨c1, c2, rfl⟩ := List.append_of_mem hq1
 refine ⟨by rw [← h2]; exact hm.2, hm.1, h6, e, f, ?_⟩
 have hs : List.Sublist ((c1 ++ (i', e) :: c2) ++ (j', f) :: l2) (allQ Q) := by rw [← h1]; exact List.filter_sublist
 have hs2 : List.Sublist [(i', e), (j', f)] (allQ Q) := by
  refine List.Sublist.trans ?_ hs
  have a1 : List.Sublist [(i', e)] (c1 ++ (i', e) :: c2) := List.singleton_sublist.2 (by simp)
  have a2 : List.Sublist [(j', f)] ((j', f) :: l2) := List.singleton_sublist.2 (by simp)
  exact a1.append a2
 obtain ⟨r1, r2, h7, h8, h9⟩ := List.cons_sublist_iff.1 hs2
 obtain ⟨s1, s2, rfl⟩ := List.append_of_mem h8
 obtain ⟨t1, t2, rfl⟩ := List.append_of_mem (List.singleton_sublist.1 h9)
 exact ⟨s1, s2 ++ t1, t2, by rw [h7]; simp, hq2, h2⟩
end Go.Proofs.YtagcbnpahgfgmaaGreat
namespace Go.Proofs.YtagcbnpahgfgmaaGreat
theorem row_count {Q : List Pt} {m i : Nat} {e : Lk} : (rowO Q m).count (i, e) = if m = i then (lnQ Q i).count e else 0 := by
 unfold rowO
 by_cases h : m = i
 ·
  subst h
  rw [if_pos rfl]
  induction lnQ Q m with
  | nil => rfl
  | cons a l ih => rw [List.map_cons, List.count_cons, List.count_cons, ih]; simp
 ·
  rw [if_neg h]
  refine List.count_eq_zero_of_not_mem fun hm => ?_
  obtain ⟨x, _, hx⟩ := List.mem_map.1 hm
  cases hx; exact h rfl
theorem pre_count {Q : List Pt} {i : Nat} {e : Lk} : ∀ n, (preO Q n).count (i, e) = if i < n then (lnQ Q i).count e else 0 := by
 intro n
 induction n with
 | zero => simp [preO]
 | succ n ih =>
  rw [preO_succ, List.count_append, ih, row_count]
  by_cases h1 : i < n
  · rw [if_pos h1, if_neg (by omega), if_pos (by omega)]; rfl
  ·
   by_cases h2 : n = i
   · rw [if_neg h1, if_pos h2, if_pos (by omega)]; omega
   · rw [if_neg h1, if_neg h2, if_neg (by omega)]
theorem all_count {Q : List Pt} {i : Nat} {e : Lk} (hi : i < Q.length) : (allQ Q).count (i, e) = (lnQ Q i).count e := by
 have := pre_count (Q := Q) (i := i) (e := e) Q.length
 rw [if_pos hi] at this; exact this
theorem alikeP.two {ls : List Lk} {Q : List Pt} (h : QI ls Q) {i j : Nat} {v : Int} (ha : alikeP Q i j v) : i < Q.length ∧ j < Q.length ∧ i ≠ j ∧ v ≠ 0 ∧ kdQ Q i = kdQ Q j ∧ kdQ Q j ≠ 3 ∧ ∃ e f, e ∈ lnQ Q i ∧ f ∈ lnQ Q j ∧ e.2.2 = v ∧ f.2.2 = v := by
 obtain ⟨h0, h3, hk, e, f, b1, b2, b3, hall, he, hf⟩ := ha.places
 have me : e ∈ lnQ Q i := (mem_allQ (p := (i, e))).1 (by rw [hall]; simp)
 have mf : f ∈ lnQ Q j := (mem_allQ (p := (j, f))).1 (by rw [hall]; simp)
 refine ⟨lnQ_mem me, lnQ_mem mf, fun hij => ?_, h0, hk, h3, e, f, me, mf, he, hf⟩
 subst hij
 have hi := lnQ_mem me
 have hme := me
 have hmf := mf
 rw [lnQ_at hi] at hme hmf
 have hef : f = e := h.uniq (List.getElem_mem hi) (mem_virtL.2 ⟨hme, by rw [he]; exact h0⟩) f hmf (by rw [hf, he])
 subst hef
 have h1 := all_count (Q := Q) (e := f) hi
 have h2 : 2 ≤ (allQ Q).count (i, f) := by
  rw [hall]
  simp [List.count_append, List.count_cons]
  omega
 have h3 : (lnQ Q i).count f ≤ 1 := by
  rw [lnQ_at hi]
  exact List.nodup_iff_count.1 ((h.right _ (List.getElem_mem hi)).2.2.imp fun h e => by subst e; exact LtL.irrefl _ h) f
 omega
end Go.Proofs.YtagcbnpahgfgmaaGreat
namespace Go.Proofs.YtagcbnpahgfgmaaGreat
theorem perm_any {α : Type} {Q : List α} {i j : Nat} (hij : i ≠ j) (hi : i < Q.length) (hj : j < Q.length) : ∃ R, Q.Perm (Q[i] :: Q[j] :: R) := by
 rcases Nat.lt_or_gt_of_ne hij with h | h
 · exact perm_two h hj
 ·
  obtain ⟨R, hR⟩ := perm_two h hi
  exact ⟨R, hR.trans (.swap ..)⟩
def mergeQ (Q : List Pt) (i j : Nat) (v : Int) : List Pt := (Q.set i (kdQ Q i, joinL (lnQ Q i) (lnQ Q j) v)).eraseIdx j
theorem perm_set {α : Type} {Q : List α} {i j : Nat} (hij : i ≠ j) (hi : i < Q.length) (hj : j < Q.length) (x : α) : ∃ R, Q.Perm (Q[i] :: Q[j] :: R) ∧ ((Q.set i x).eraseIdx j).Perm (x :: R) := by
 have h1 := perm_cons_eraseIdx' (Q := Q) hj
 have h3 : (Q.set i x).eraseIdx j = (Q.eraseIdx j).set (if i < j then i else i - 1) x := by
  by_cases h : i < j
  · rw [if_pos h, List.eraseIdx_set_gt h]
  ·
   have : i = (i - 1) + 1 := by omega
   rw [if_neg h]; conv => lhs; rw [this]
   rw [List.eraseIdx_set_lt (by omega), Nat.add_sub_cancel]
 obtain ⟨m, hm⟩ : ∃ m, m = if i < j then i else i - 1 := ⟨_, rfl⟩
 have hml : m < (Q.eraseIdx j).length := by rw [List.length_eraseIdx, if_pos hj]; split at hm <;> omega
 have hmi : (Q.eraseIdx j)[m] = Q[i] := by
  rw [List.getElem_eraseIdx]
  split at hm
  ·
   have e : m = i := hm; subst e; rw [dif_pos (by assumption)]
  ·
   have e : m + 1 = i := by omega
   subst e; rw [dif_neg (by omega)]
 rw [h3, ← hm]
 refine ⟨(Q.eraseIdx j).eraseIdx m, ?_, ?_⟩
 ·
  refine h1.trans ?_
  refine ((perm_cons_eraseIdx' hml).cons _).trans ?_
  rw [hmi]; exact .swap ..
 ·
  have hml2 : m < ((Q.eraseIdx j).set m x).length := by rw [List.length_set]; exact hml
  have h4 := perm_cons_eraseIdx' hml2
  rw [List.getElem_set_self, List.eraseIdx_set_eq] at h4
  exact h4
theorem alikeP.step {ls : List Lk} {Q : List Pt} (h : QI ls Q) {i j : Nat} {v : Int} (ha : alikeP Q i j v) : ∃ e, e ∈ lnQ Q i ∧ e ∈ lnQ Q j ∧ e.2.2 = v ∧ MStep e Q (mergeQ Q i j v) := by
 obtain ⟨hi, hj, hij, h0, hk, h3, e, f, he, hf, hev, hfv⟩ := ha.two h
 obtain ⟨D, hT, _⟩ := h.tree
 have hef : e = f := by
  refine hT.same_num (mem_occL.2 ⟨Q[i].2, List.mem_map_of_mem (List.getElem_mem hi), by rw [← lnQ_at hi]; exact he, by rw [hev]; exact h0⟩) (mem_occL.2 ⟨Q[j].2, List.mem_map_of_mem (List.getElem_mem hj), by rw [← lnQ_at hj]; exact hf, by rw [hfv]; exact h0⟩) (by rw [hev, hfv])
 subst hef
 obtain ⟨R, hR, hS⟩ := perm_set hij hi hj (kdQ Q i, joinL (lnQ Q i) (lnQ Q j) v)
 refine ⟨e, he, hf, hev, Q[i], Q[j], R, hR, mem_virtL.2 ⟨by rw [← lnQ_at hi]; exact he, by rw [hev]; exact h0⟩, mem_virtL.2 ⟨by rw [← lnQ_at hj]; exact hf, by rw [hev]; exact h0⟩, ?_, ?_, ?_⟩
 · rw [← kdQ_at hi, ← kdQ_at hj]; exact hk
 · rw [← kdQ_at hi, hk]; exact h3
 ·
  unfold mergeQ
  rw [← kdQ_at hi, ← lnQ_at hi, ← lnQ_at hj, hev]
  exact hS
theorem split_pair {α : Type} {S : List α} {a b : α} (ha : a ∈ S) (hb : b ∈ S) (hne : a ≠ b) : ∃ l1 p l2 q, S = l1 ++ p :: l2 ∧ q ∈ l1 ∧ ((p = a ∧ q = b) ∨ (p = b ∧ q = a)) := by
 obtain ⟨s, t, rfl⟩ := List.append_of_mem ha
 rcases List.mem_append.1 hb with h | h
 · exact ⟨s, a, t, b, rfl, h, .inl ⟨rfl, rfl⟩⟩
 ·
  rcases List.mem_cons.1 h with h | h
  · exact absurd h.symm hne
  ·
   obtain ⟨t1, t2, rfl⟩ := List.append_of_mem h; exact ⟨s ++ a :: t1, b, t2, a, by simp, by simp, .inr ⟨rfl, rfl⟩⟩
theorem clearP.normal {ls : List Lk} {Q : List Pt} (h : QI ls Q) (hc : clearP Q (allQ Q)) : MNormal Q := by
 intro e Q' hs
 obtain ⟨x, y, R, hp, hex, hey, hk, h3, _⟩ := hs
 have hxy : x ≠ y := fun he => h.distinct hp (by rw [he])
 obtain ⟨a, ha, hax⟩ := List.getElem_of_mem (hp.mem_iff.2 (by simp : x ∈ x :: y :: R))
 obtain ⟨b, hb, hby⟩ := List.getElem_of_mem (hp.mem_iff.2 (by simp : y ∈ x :: y :: R))
 have hab : a ≠ b := fun he => by subst he; exact hxy (hax.symm.trans hby)
 obtain ⟨h1, hv⟩ := mem_virtL.1 hex
 have h2 := (mem_virtL.1 hey).1
 have ma : (a, e) ∈ colO Q (allQ Q) := by
  unfold colO
  rw [List.mem_filter]
  refine ⟨mem_allQ.2 (by simp only; rw [lnQ_at ha, hax]; exact h1), ?_⟩
  unfold mayO
  simp only [kdQ_at ha, hax, Bool.and_eq_true, bne_iff_ne, ne_eq]
  exact ⟨h3, hv⟩
 have mb : (b, e) ∈ colO Q (allQ Q) := by
  unfold colO
  rw [List.mem_filter]
  refine ⟨mem_allQ.2 (by simp only; rw [lnQ_at hb, hby]; exact h2), ?_⟩
  unfold mayO
  simp only [kdQ_at hb, hby, Bool.and_eq_true, bne_iff_ne, ne_eq]
  exact ⟨by rw [← hk]; exact h3, hv⟩
 obtain ⟨l1, p, l2, q, hS, hq, hpq⟩ := split_pair ma mb (fun he => hab (by cases he; rfl))
 have hpe : p.2.2.2 = e.2.2 ∧ kdQ Q p.1 = x.1 := by
  rcases hpq with ⟨rfl, _⟩ | ⟨rfl, _⟩
  · exact ⟨rfl, by simp only; rw [kdQ_at ha, hax]⟩
  · exact ⟨rfl, by simp only; rw [kdQ_at hb, hby, hk]⟩
 have hqe : q.2.2.2 = e.2.2 := by rcases hpq with ⟨_, rfl⟩ | ⟨_, rfl⟩ <;> rfl
 have hqa : q ∈ atV p.2.2.2 l1 := mem_atV.2 ⟨hq, by rw [hqe, hpe.1]⟩
 obtain ⟨r, hr⟩ : ∃ r, (atV p.2.2.2 l1).getLast? = some r := by
  cases hl : (atV p.2.2.2 l1).getLast? with
  | none => rw [List.getLast?_eq_none_iff.1 hl] at hqa; simp at hqa
  | some r => exact ⟨r, rfl⟩
 refine hc l1 p l2 hS r hr ?_
 obtain ⟨hr1, hr2⟩ := mem_atV.1 (List.mem_of_getLast? hr)
 have hrall : r ∈ allQ Q := (List.mem_filter.1 (show r ∈ colO Q (allQ Q) by rw [hS]; simp [hr1])).1
 have hrl := mem_allQ.1 hrall
 have hrn := lnQ_mem hrl
 rw [lnQ_at hrn] at hrl
 have hrQ : Q[r.1] ∈ x :: y :: R := hp.mem_iff.1 (List.getElem_mem hrn)
 rw [hpe.2, kdQ_at hrn]
 simp only [List.mem_cons] at hrQ
 rcases hrQ with hz | hz | hz
 · rw [hz]
 · rw [hz, hk]
 · exact absurd (by rw [hr2, hpe.1]) (h.only hp hex hey _ hz r.2 hrl)
theorem QI.len {ls : List Lk} {Q : List Pt} (h : QI ls Q) : Q.length ≤ ls.length := by
 cases hQ : Q with
 | nil => simp
 | cons q R =>
  obtain ⟨D, hT, _⟩ := h.tree
  have hp : (Q.map fun q => q.2).Perm (q.2 :: R.map fun q => q.2) := by rw [hQ]; exact .refl _
  have h1 := QI.small hT hp (fun x hx => by
   obtain ⟨r, hr, rfl⟩ := List.mem_map.1 hx
   exact h.three r (by rw [hQ]; simp [hr]))
  have h2 := h.rels.length_eq
  have h3 := h.three q (by rw [hQ]; simp)
  simp at h1 ⊢
  omega
end Go.Proofs.YtagcbnpahgfgmaaGreat
namespace Go.Proofs.YtagcbnpahgfgmaaGreat
open Go Go.RowKit Go.Maps
theorem nb_bes {Q : List Pt} (hR : RightQ Q) (i : Nat) : nbQ Q i = besQ Q i := by
 have h1 : (nbQ Q i).Pairwise (· < ·) := List.pairwise_lt_range.sublist List.filter_sublist
 have h2 : (besQ Q i).Pairwise (· < ·) := by
  have a1 : (besQ Q i).Pairwise (· ≤ ·) := srtN_sorted _
  have a2 : (besQ Q i).Pairwise (· ≠ ·) := hR.bes_nodup i
  exact (a1.and a2).imp fun ⟨x, y⟩ => by omega
 have hp : (nbQ Q i).Perm (besQ Q i) := (List.perm_ext_iff_of_nodup (h1.imp fun h => by omega) (h2.imp fun h => by omega)).2 fun j => by
  rw [mem_nbQ, mem_besQ hR.bes]
 exact hp.eq_of_pairwise (fun a b _ _ h k => by omega) h1 h2
end Go.Proofs.YtagcbnpahgfgmaaGreat
namespace Go.Proofs.YtagcbnpahgfgmaaGreat
open Go Go.RowKit
noncomputable def centreL (Q : List Pt) : List Nat := if rightB Q then centreQ Q else []
def vI : Int → Value := fun z => .int .i64 z
def upF (bs : Nat → List Nat) (i : Nat) : Nat → Int := fun j => if j < i then ((bs j).length : Int) else 0
theorem upF_next (bs : Nat → List Nat) (i : Nat) : updC (upF bs i) i ((bs i).length : Int) = upF bs (i + 1) := by
 funext x
 unfold updC upF
 by_cases e : x = i
 · subst e; simp
 ·
  rw [if_neg e]
  by_cases h : x < i
  · rw [if_pos h, if_pos (by omega)]
  · rw [if_neg h, if_neg (by omega)]
def lvF (bs : Nat → List Nat) (i : Nat) : List Nat := (List.range i).filter fun j => decide ((bs j).length < 2)
theorem lvF_next (bs : Nat → List Nat) (i : Nat) : lvF bs (i + 1) = lvF bs i ++ if (bs i).length < 2 then [i] else [] := by
 unfold lvF
 rw [List.range_succ, List.filter_append]
 congr 1
 by_cases h : (bs i).length < 2 <;> simp [h]
theorem lvF_le (bs : Nat → List Nat) (i : Nat) : (lvF bs i).length ≤ i := by
 unfold lvF
 have := List.length_filter_le (fun j => decide ((bs j).length < 2)) (List.range i)
 simpa using this
set_option maxRecDepth 100000 in
set_option maxHeartbeats 8000000 in
theorem centre_walk (a : Option Addr) (cap : Nat) (Q : List Pt) (w : World) (hr : RdQ w a Q) (hQ : Q.length ≤ 1000) :
  Calls Tryz.prog 28 #[.slice a Q.length cap] w (RetIs w (centreL Q)) := by
 go_enter Tryz.func28, Tryz.ntmps28
 go_wp2_with fail
 refine (tree_walk a cap Q _ hr hQ).mono ?_
 rintro e w2 ⟨hb2, ⟨hR, G, rfl, hG⟩ | ⟨hR, v, rfl⟩⟩
 ·
  have hbl : centreL Q = centreQ Q := by unfold centreL; rw [rightB_iff.2 hR]; rfl
  have ht := hR.treeG
  have hlen := fun k => besQ_len hQ (fun q hq => (hR.right hq).1.1) k
  have hbl2 : ∀ k, (besQ Q k).length ≤ Q.length := fun k => by
   have := nodup_len_le (ht.nd k) (m := List.range Q.length) fun x hx => List.mem_range.2 (ht.lt _ _ hx); simpa using this
  have hn0 : 0 < Q.length := List.length_pos_iff.2 hR.ne
  have Hbl := Lib.hid hbl; have Ht := Lib.hid ht; have Hbl2 := Lib.hid hbl2
  have hB2 : Below w.heap.size w w2 := hb2
  obtain ⟨n, hn⟩ : ∃ n, n = Q.length := ⟨_, rfl⟩
  clear hbl ht hlen hbl2 hR hr hb2
  have hwn := hB2.size
  have hmk := run_make_row' (P := Tryz.prog) 33 3 (.int .i64 0) 8 Tryz.underlying33 int_info rfl .i64 .i64 Q.length (by omega) (by omega)
  have hrc0 : Row (w2.alloc (.cells (madeCells #[.int .i64 0] Q.length) 3)) w2.heap.size 3 1 Q.length (List.replicate Q.length (.int .i64 0)) := row_made w2 (.int .i64 0) Q.length 3 (by unfold maxLen; omega)
  have hbA := bl_alloc w2 (.cells (madeCells #[.int .i64 0] Q.length) 3)
  go_upto_region 5 with (fail)
  clear hmk
  generalize w2.alloc (.cells (madeCells #[.int .i64 0] Q.length) 3) = wM at hrc0 hbA ⊢
  have hrc : Row wM w2.heap.size 3 1 Q.length ((cntV Q.length (upF (besQ Q) 0)).map vI) := by
   have e : cntV Q.length (upF (besQ Q) 0) = cntV Q.length fun _ => 0 := by
    unfold cntV upF; refine List.map_congr_left fun j _ => ?_; rw [if_neg (by omega)]
   rw [e, ← cntV_zero, List.map_replicate]; exact hrc0
  clear hrc0
  have hl0 : Own wM (.slice none 0 0) 3 1 0 [] := own_nil _ _ _
  go_upto_region 7 with (fail)
  go_loopg [6, 32] Q.length (fun r lv iv wj => ∃ i : Nat, i + r = Q.length ∧ iv = .int .i64 i ∧ Row wj w2.heap.size 3 1 Q.length ((cntV Q.length (upF (besQ Q) i)).map vI) ∧ Own wj lv 3 1 (lvF (besQ Q) i).length ((lvF (besQ Q) i).map vN) ∧ (∀ g, lv.ownBlock = some g → w2.heap.size < g) ∧ Below w2.heap.size w2 wj)
  case atStart => exact ⟨0, by omega, rfl, hrc, hl0, fun g hg => by simp [Value.ownBlock] at hg, hbA⟩
  case round =>
   clear hrc hl0 hbA; obtain ⟨i, hi, rfl, hrow, hown, hyoung, hB⟩ := hrel; have Hi := Lib.hid hi; by_cases hil : i < Q.length
   ·
    clear hi; obtain ⟨ab, cb, cG2, hbs⟩ := hG i hil; have cG := keep_cell hB cG2; have hbl := Hbl2.out i; have i1 : (i : Int) < (Q.length : Int) := by omega
    have f0 := hrow.frozen i; have c0 : wr.cell? ⟨w2.heap.size, i, none⟩ = some (vI (upF (besQ Q) i i)) := by
     rw [hrow.cell? i (by rw [List.length_map, cntV_len]; exact hil), List.getElem?_map, cntV_get hil]; rfl
    have hrow1 : Row (wr.setCell ⟨w2.heap.size, i, none⟩ (.int .i64 ((besQ Q i).length : Nat))) w2.heap.size 3 1 Q.length ((cntV Q.length (upF (besQ Q) (i + 1))).map vI) := by
     have := hrow.set i (vI ((besQ Q i).length : Nat)); rw [← List.map_set, cntV_set, upF_next] at this; exact this
    have hown1 : Own (wr.setCell ⟨w2.heap.size, i, none⟩ (.int .i64 ((besQ Q i).length : Nat))) u6 3 1 (lvF (besQ Q) i).length ((lvF (besQ Q) i).map vN) := hown.below fun g hg => Below.heap_setCell _ _ _ _ (by have := hyoung g hg; simp only; omega); have hB1 : Below w2.heap.size w2 (wr.setCell ⟨w2.heap.size, i, none⟩ (.int .i64 ((besQ Q i).length : Nat))) := hB.setCell (Nat.le_refl _) _; have Hyoung := Lib.hid hyoung; clear hyoung; go_upto_region 10 with (fail)
    clear f0 c0 cG cG2 hbs hrow hown hB; generalize wr.setCell ⟨w2.heap.size, i, none⟩ (.int .i64 ((besQ Q i).length : Nat)) = wS at hrow1 hown1 hB1 ⊢; have hlf := lvF_next (besQ Q) i; have Hlf := Lib.hid hlf; by_cases h2 : (besQ Q i).length < 2
    ·
     have e2 : decide (((besQ Q i).length : Int) < 2) = true := by simp; omega
     rw [if_pos h2] at hlf; have hle := lvF_le (besQ Q) i; have Hlf := Lib.hid hlf; clear h2 hlf; obtain ⟨L, hL⟩ : ∃ L, L = lvF (besQ Q) i := ⟨_, rfl⟩
     rw [← hL] at hown1 hle Hlf; have hAl := hown1.alloc (.cells #[.int .i64 (i : Nat)] 3); clear hL; go_wp2_with (at_builtin; refine wpList_append_row _ rfl (.tmp 45) (.tmp 47) 33 rfl 3 (.int .i64 0) 1 8 Tryz.underlying33 int_info rfl u6 L.length _ rfl hAl ⟨wS.heap.size, 0, none⟩ 1 1 [.int .i64 (i : Nat)] rfl rfl (one_new (cell_new1 rfl)) (one_ok _ _) (by omega) (by unfold maxLen; omega) (by omega) ?_; intro g5 c5 w5 hr5 hc5 hg5 hor5); have hgS := hrow1.lt; have hyg : w2.heap.size < g5 := by
      rcases hor5 with h | h
      · exact Hyoung.out g5 h
      · simp at h; omega
     have hrow2 := (hrow1.alloc (.cells #[.int .i64 (i : Nat)] 3)).grown hg5 (fun e => by have := Hyoung.out _ e; omega); have hown2 : Own w5 (.slice (some ⟨g5, 0, none⟩) (L.length + 1) c5) 3 1 (lvF (besQ Q) (i + 1)).length ((lvF (besQ Q) (i + 1)).map vN) := by
      rw [Hlf.out]; have h1 := hr5.own1; have e1 : L.map vN ++ [Value.int .i64 (i : Int)] = (L ++ [i]).map vN := by rw [List.map_append]; rfl
      rw [e1] at h1; simpa using h1
     have hB5 : Below w2.heap.size w2 w5 := (bl_trans hB1 (bl_alloc wS (.cells #[.int .i64 (i : Nat)] 3))).grown hg5 (by have := hB1.size; simp; omega) (fun k hk => by have := Hyoung.out k hk; omega); clear hr5 hg5 hor5 hrow1 hown1 hB1 hAl; go_wp2_with fail; go_roundg (gk - 1)
     case measure => have := Hi.out; omega
     case rel => exact ⟨i + 1, by have := Hi.out; omega, by go_num, hrow2, hown2, fun k hk => by cases hk; exact hyg, hB5⟩
    ·
     have e2 : decide (((besQ Q i).length : Int) < 2) = false := by simp; omega
     rw [if_neg h2, List.append_nil] at hlf; have Hlf := Lib.hid hlf; clear h2 hlf; go_wp2_with fail; go_roundg (gk - 1)
     case measure => have := Hi.out; omega
     case rel => exact ⟨i + 1, by have := Hi.out; omega, by go_num, hrow1, by rw [Hlf.out]; exact hown1, Hyoung.out, hB1⟩
   ·
    have hin : i = Q.length := by omega
    subst hin; obtain ⟨L0, hL0⟩ : ∃ L0, L0 = lvF (besQ Q) Q.length := ⟨_, rfl⟩
    rw [← hL0] at hown; have hlv : LvI (besQ Q) Q.length (peels (besQ Q) Q.length 0) L0 := by rw [hL0]; exact LvI.start Ht.out
    have hcn : cntV Q.length (upF (besQ Q) Q.length) = cntV Q.length (fun j => (degG (besQ Q) (peels (besQ Q) Q.length 0) j : Int)) := by
     unfold cntV; refine List.map_congr_left fun j hj => ?_; have := List.mem_range.1 hj; unfold upF; rw [if_pos this]; have h0 := deg_none (besQ Q) j; show ((besQ Q j).length : Int) = ((degG (besQ Q) (fun _ => false) j : Nat) : Int)
     rw [h0]
    rw [hcn] at hrow; have hlf : leftN Q.length (peels (besQ Q) Q.length 0) = Q.length := leftN_none _; have Hlv := Lib.hid hlv; have Hlf := Lib.hid hlf; have Hyoung := Lib.hid hyoung; clear hi Hi hL0 hlv hcn hlf hyoung; have hmk := run_make_row' (P := Tryz.prog) 78 4 (.bool false) 1 Tryz.underlying78 bool_info rfl .i64 .i64 Q.length (by omega) (by omega); have hrt0 : Row (wr.alloc (.cells (madeCells #[.bool false] Q.length) 4)) wr.heap.size 4 1 Q.length (List.replicate Q.length (.bool false)) := row_made wr (.bool false) Q.length 4 (by unfold maxLen; omega); have hrowA := hrow.alloc (.cells (madeCells #[.bool false] Q.length) 4); have hownA := hown.alloc (.cells (madeCells #[.bool false] Q.length) 4); have hBA := bl_trans hB (bl_alloc wr (.cells (madeCells #[.bool false] Q.length) 4)); obtain ⟨gt, hgt⟩ : ∃ gt, gt = wr.heap.size := ⟨_, rfl⟩
    have hgct : w2.heap.size < gt := by rw [hgt]; exact hrow.lt
    have hylt : ∀ g, u6.ownBlock = some g → g < gt := fun g hg => by rw [hgt]; exact Own.lt hown hg
    go_upto_region 14 with (fail)
    clear hmk hrow hown hB; rw [← hgt] at hrt0 ⊢; generalize wr.alloc (.cells (madeCells #[.bool false] Q.length) 4) = wA at hrt0 hrowA hownA hBA ⊢; have hrt : Row wA gt 4 1 Q.length ((tkV Q.length (peels (besQ Q) Q.length 0)).map Value.bool) := by
     have e : tkV Q.length (peels (besQ Q) Q.length 0) = List.replicate Q.length false := (tkV_zero _).symm; rw [e, List.map_replicate]; exact hrt0
    clear hrt0 hgt; have hlq : (Q.length : Int) = (leftN Q.length (peels (besQ Q) Q.length 0) : Nat) := by rw [Hlf.out]
    have Hlq := Lib.hid hlq; clear hlq; go_upto_region 15 with (fail)
    have Hylt := Lib.hid hylt; clear hylt; go_loopg [6, 11] Q.length (fun r lv zv wj => ∃ (k : Nat) (L : List Nat), k + r = Q.length ∧ zv = .int .i64 (leftN Q.length (peels (besQ Q) Q.length k) : Nat) ∧ leftN Q.length (peels (besQ Q) Q.length k) + k ≤ Q.length ∧ LvI (besQ Q) Q.length (peels (besQ Q) Q.length k) L ∧ Row wj w2.heap.size 3 1 Q.length ((cntV Q.length (fun j => (degG (besQ Q) (peels (besQ Q) Q.length k) j : Int))).map vI) ∧ Row wj gt 4 1 Q.length ((tkV Q.length (peels (besQ Q) Q.length k)).map Value.bool) ∧ Own wj lv 3 1 L.length (L.map vN) ∧ (∀ g, lv.ownBlock = some g → w2.heap.size < g ∧ g ≠ gt) ∧ Below w2.heap.size w2 wj)
    case atStart => exact ⟨0, L0, by omega, by rw [Hlf.out], by rw [Hlf.out]; omega, Hlv.out, hrowA, hrt, hownA, fun g hg => ⟨Hyoung.out g hg, by have := Hylt.out g hg; omega⟩, hBA⟩
    case round =>
     clear hrowA hrt hownA hBA Hlv Hlf Hyoung Hylt Hlq; obtain ⟨k, L, hk, rfl, hlk, hlv, hrow, hrt, hown, hyoung, hB⟩ := hrel; obtain ⟨GG, hGG⟩ : ∃ GG, GG = peels (besQ Q) Q.length k := ⟨_, rfl⟩
     have hnx : peels (besQ Q) Q.length (k + 1) = peel (besQ Q) Q.length GG := by rw [hGG]; rfl
     rw [← hGG] at hlk hlv hrow hrt ⊢; obtain ⟨ln, hln⟩ : ∃ ln, ln = leftN Q.length GG := ⟨_, rfl⟩
     rw [← hln] at hlk ⊢; have Hk := Lib.hid hk; have Hlk := Lib.hid hlk; have Hlv := Lib.hid hlv; have Hnx := Lib.hid hnx; have HGG := Lib.hid hGG; have Hln := Lib.hid hln; have Hyoung := Lib.hid hyoung; have hlnn : ln ≤ Q.length := by omega
     clear hk hlk hlv hnx hGG hyoung; by_cases h2 : 2 < ln
     ·
      have e2 : decide ((2 : Int) < (ln : Int)) = true := by simp; omega
      have h22 : 2 < leftN Q.length GG := by rw [← hln]; exact h2
      have hpos := Hlv.out.pos Ht.out (by omega); have hLn := Hlv.out.le; have hleft := Hlv.out.left h22; rw [← hln] at hleft; obtain ⟨lm, hlm⟩ : ∃ lm, lm = leftN Q.length (peel (besQ Q) Q.length GG) := ⟨_, rfl⟩
      rw [← hlm] at hleft; obtain ⟨gl, cl, hu6, hcl, hrl⟩ : ∃ gl cl, u6 = .slice (some ⟨gl, 0, none⟩) L.length cl ∧ L.length ≤ cl ∧ Row wr gl 3 1 cl (L.map vN) := by
       rcases hown.2 with ⟨_, h0⟩ | ⟨g, cg, h, hc, hr⟩
       · omega
       · exact ⟨g, cg, h, hc, hr⟩
      subst hu6; obtain ⟨hgl1, hgl2⟩ := Hyoung.out gl rfl; have H22 := Lib.hid h22; have Hlm := Lib.hid hlm; have Hpos := Lib.hid hpos; clear hown Hyoung hln h2 h22 hlm hcl hpos; have ho0 : ∀ j ∈ L.take 0, j ∈ L := fun j hj => by simp at hj
      have hrt0 : Row wr gt 4 1 Q.length ((tkV Q.length (orL GG (L.take 0))).map Value.bool) := by rw [List.take_zero, orL_nil]; exact hrt
      obtain ⟨gko, hgko⟩ : ∃ g, g = gk := ⟨_, rfl⟩
      have Hgko := Lib.hid hgko; clear ho0 hrt hgko; go_upto_region 18 with (fail)
      go_loopg [63] L.length (fun r iv wj => ∃ a : Nat, a + r = L.length ∧ iv = .int .i64 a ∧ Row wj gt 4 1 Q.length ((tkV Q.length (orL GG (L.take a))).map Value.bool) ∧ Row wj w2.heap.size 3 1 Q.length ((cntV Q.length (fun j => (degG (besQ Q) GG j : Int))).map vI) ∧ Row wj gl 3 1 cl (L.map vN) ∧ Below w2.heap.size w2 wj)
      case atStart => exact ⟨0, by omega, rfl, hrt0, hrow, hrl, hB⟩
      case round =>
       clear hrt0 hrow hrl hB; obtain ⟨a, ha, rfl, hrt, hrow, hrl, hB⟩ := hrel; have Ha := Lib.hid ha; by_cases hal : a < L.length
       ·
        clear ha; obtain ⟨x, hx⟩ : ∃ x, L[a]? = some x := ⟨_, List.getElem?_eq_getElem hal⟩
        have hxn : x < Q.length := Hlv.out.lt (List.mem_of_getElem? hx); have cL : wr.cell? ⟨gl, a, none⟩ = some (.int .i64 (x : Nat)) := by
         rw [hrl.cell? a (by rw [List.length_map]; exact hal), List.getElem?_map, hx]; rfl
        have cT : wr.cell? ⟨gt, x, none⟩ = some (.bool (orL GG (L.take a) x)) := by
         rw [hrt.cell? x (by rw [List.length_map, tkV_len]; exact hxn), List.getElem?_map, tkV_get hxn]; rfl
        have fT := hrt.frozen x; have htk : L.take (a + 1) = L.take a ++ [x] := by rw [List.take_add_one, hx]; rfl
        have i1 : (a : Int) < (L.length : Int) := by omega
        have i2 : (x : Int) < (Q.length : Int) := by omega
        have hrt1 : Row (wr.setCell ⟨gt, x, none⟩ (.bool true)) gt 4 1 Q.length ((tkV Q.length (orL GG (L.take (a + 1)))).map Value.bool) := by
         have := hrt.set x (.bool true); rw [htk, ← tkV_set, List.map_set]; exact this
        have hrow1 : Row (wr.setCell ⟨gt, x, none⟩ (.bool true)) w2.heap.size 3 1 Q.length ((cntV Q.length (fun j => (degG (besQ Q) GG j : Int))).map vI) := hrow.other (a := ⟨gt, x, none⟩) (by simp only; omega) _; have hrl1 : Row (wr.setCell ⟨gt, x, none⟩ (.bool true)) gl 3 1 cl (L.map vN) := hrl.other (a := ⟨gt, x, none⟩) (by simp only; omega) _; have hB1 : Below w2.heap.size w2 (wr.setCell ⟨gt, x, none⟩ (.bool true)) := hB.setCell (by simp only; omega) _; clear hx htk hrt hrow hrl hB; go_wp2_with fail; go_roundg (gk - 1)
        case measure => have := Ha.out; omega
        case rel => exact ⟨a + 1, by have := Ha.out; omega, by go_num, hrt1, hrow1, hrl1, hB1⟩
       ·
        have han : a = L.length := by omega
        subst han; rw [List.take_length, tkV_peel Hlv.out H22.out] at hrt; have hmo : MoI Q.length (peel (besQ Q) Q.length GG) (cntC (besQ Q) GG (L.take 0) []) [] := by
         rw [List.take_zero, cntC_start]; exact MoI.start H22.out
        have hrow0 : Row wr w2.heap.size 3 1 Q.length ((cntV Q.length (cntC (besQ Q) GG (L.take 0) [])).map vI) := by
         rw [List.take_zero, cntC_start]; exact hrow
        have hm0 : Own wr (.slice none 0 0) 3 1 0 [] := own_nil _ _ _; have Hmo := Lib.hid hmo; clear ha Ha hrow hmo; go_upto_region 24 with (fail)
        go_loopg [14, 73] L.length (fun r mv iv wj => ∃ (a : Nat) (M : List Nat), a + r = L.length ∧ iv = .int .i64 a ∧ Row wj w2.heap.size 3 1 Q.length ((cntV Q.length (cntC (besQ Q) GG (L.take a) [])).map vI) ∧ Row wj gt 4 1 Q.length ((tkV Q.length (peel (besQ Q) Q.length GG)).map Value.bool) ∧ Row wj gl 3 1 cl (L.map vN) ∧ MoI Q.length (peel (besQ Q) Q.length GG) (cntC (besQ Q) GG (L.take a) []) M ∧ Own wj mv 3 1 M.length (M.map vN) ∧ (∀ g, mv.ownBlock = some g → w2.heap.size < g ∧ g ≠ gt ∧ g ≠ gl) ∧ Below w2.heap.size w2 wj)
        case atStart => exact ⟨0, [], by omega, rfl, hrow0, hrt, hrl, Hmo.out, hm0, fun g hg => by simp [Value.ownBlock] at hg, hB⟩
        case round =>
         clear hrow0 hrt hrl Hmo hm0 hB; obtain ⟨a, M, ha, rfl, hrow, hrt, hrl, hmo, hown, hyoung, hB⟩ := hrel; have Ha := Lib.hid ha; by_cases hal : a < L.length
         ·
          clear ha; obtain ⟨x, hx⟩ : ∃ x, L[a]? = some x := ⟨_, List.getElem?_eq_getElem hal⟩
          have hxn : x < Q.length := Hlv.out.lt (List.mem_of_getElem? hx); have cL : wr.cell? ⟨gl, a, none⟩ = some (.int .i64 (x : Nat)) := by
           rw [hrl.cell? a (by rw [List.length_map]; exact hal), List.getElem?_map, hx]; rfl
          have htk : L.take (a + 1) = L.take a ++ [x] := by rw [List.take_add_one, hx]; rfl
          have Htk := Lib.hid htk; obtain ⟨P, hP⟩ : ∃ P, P = L.take a := ⟨_, rfl⟩
          have hPl : P.length ≤ Q.length := by rw [hP, List.length_take]; omega
          rw [← hP] at hrow hmo; have HP := Lib.hid hP; obtain ⟨ab, cb, cG2, hbs⟩ := hG x hxn; have cG := keep_cell hB cG2; have i1 : (a : Int) < (L.length : Int) := by omega
          have i2 : (x : Int) < (Q.length : Int) := by omega
          have hbl := Hbl2.out x; have hmo0 : MoI Q.length (peel (besQ Q) Q.length GG) (cntC (besQ Q) GG P ((besQ Q x).take 0)) M := by rw [List.take_zero]; exact hmo
          have hrow0 : Row wr w2.heap.size 3 1 Q.length ((cntV Q.length (cntC (besQ Q) GG P ((besQ Q x).take 0))).map vI) := by rw [List.take_zero]; exact hrow
          obtain ⟨gk4, hgk4⟩ : ∃ g, g = gk := ⟨_, rfl⟩
          have Hgk4 := Lib.hid hgk4; have Hmo0 := Lib.hid hmo0; clear hx htk hP hrow hmo hmo0 hgk4; go_upto_region 27 with (fail)
          go_loopg [14, 82] (besQ Q x).length (fun r mv iv wj => ∃ (b : Nat) (M : List Nat), b + r = (besQ Q x).length ∧ iv = .int .i64 b ∧ Row wj w2.heap.size 3 1 Q.length ((cntV Q.length (cntC (besQ Q) GG P ((besQ Q x).take b))).map vI) ∧ Row wj gt 4 1 Q.length ((tkV Q.length (peel (besQ Q) Q.length GG)).map Value.bool) ∧ Row wj gl 3 1 cl (L.map vN) ∧ MoI Q.length (peel (besQ Q) Q.length GG) (cntC (besQ Q) GG P ((besQ Q x).take b)) M ∧ Own wj mv 3 1 M.length (M.map vN) ∧ (∀ g, mv.ownBlock = some g → w2.heap.size < g ∧ g ≠ gt ∧ g ≠ gl) ∧ Below w2.heap.size w2 wj)
          case atStart => exact ⟨0, M, by omega, rfl, hrow0, hrt, hrl, Hmo0.out, hown, hyoung, hB⟩
          case round =>
           clear hrow0 hrt hrl Hmo0 hown hyoung hB i1 i2 cL cG cG2; obtain ⟨b, M, hb, rfl, hrow, hrt, hrl, hmo, hown, hyoung, hB⟩ := hrel; have Hb := Lib.hid hb; by_cases hbb : b < (besQ Q x).length
           ·
            clear hb; obtain ⟨j, hj⟩ : ∃ j, (besQ Q x)[b]? = some j := ⟨_, List.getElem?_eq_getElem hbb⟩
            have hjm : j ∈ besQ Q x := List.mem_of_getElem? hj; have hjn : j < Q.length := Ht.out.lt _ _ hjm; have hjt : j ∉ (besQ Q x).take b := fun hm => by
             have hnd := Ht.out.nd x; rw [← List.take_append_drop b (besQ Q x), List.nodup_append] at hnd; refine hnd.2.2 j hm j ?_ rfl; rw [List.mem_iff_getElem?]; exact ⟨0, by rw [List.getElem?_drop]; exact hj⟩
            obtain ⟨bb, ob, hab, cX⟩ := (hbs.below hB) b (vN j) (by rw [List.getElem?_map, hj]; rfl); subst hab; replace cX : wr.cell? ⟨bb, ob + b, none⟩ = some (.int .i64 (j : Nat)) := cX; have htk : (besQ Q x).take (b + 1) = (besQ Q x).take b ++ [j] := by rw [List.take_add_one, hj]; rfl
            obtain ⟨cj, hcj⟩ : ∃ c, c = cntC (besQ Q) GG P ((besQ Q x).take b) j := ⟨_, rfl⟩
            have hcb : -2000 ≤ cj ∧ cj ≤ 1000 := by
             have h1 : degG (besQ Q) GG j ≤ (besQ Q j).length := List.length_filter_le _ _; have h2 := Hbl2.out j; have h3 : hitC (besQ Q) P j ≤ P.length := List.length_filter_le _ _; rw [hcj]; unfold cntC; split <;> omega
            have hdec := cntC_dec (bs := besQ Q) (G := GG) (P := P) hjt; rw [← htk, ← hcj] at hdec; have cC : wr.cell? ⟨w2.heap.size, j, none⟩ = some (.int .i64 cj) := by
             rw [hrow.cell? j (by rw [List.length_map, cntV_len]; exact hjn), List.getElem?_map, cntV_get hjn, ← hcj]; rfl
            have fC := hrow.frozen j; have cT : wr.cell? ⟨gt, j, none⟩ = some (.bool (peel (besQ Q) Q.length GG j)) := by
             rw [hrt.cell? j (by rw [List.length_map, tkV_len]; exact hjn), List.getElem?_map, tkV_get hjn]; rfl
            have i1 : (b : Int) < ((besQ Q x).length : Int) := by omega
            have i2 : (j : Int) < (Q.length : Int) := by omega
            have hcb1 := hcb.1; have hcb2 := hcb.2; obtain ⟨tk, htkk⟩ : ∃ t, t = peel (besQ Q) Q.length GG j := ⟨_, rfl⟩
            rw [← htkk] at cT; have hrow1 : Row (wr.setCell ⟨w2.heap.size, j, none⟩ (.int .i64 (cj - 1))) w2.heap.size 3 1 Q.length ((cntV Q.length (cntC (besQ Q) GG P ((besQ Q x).take (b + 1)))).map vI) := by
             have := hrow.set j (vI (cj - 1)); rw [← hdec, ← cntV_set, List.map_set]; exact this
            have cS : (wr.setCell ⟨w2.heap.size, j, none⟩ (.int .i64 (cj - 1))).cell? ⟨w2.heap.size, j, none⟩ = some (.int .i64 (cj - 1)) := by
             rw [hrow1.cell? j (by rw [List.length_map, cntV_len]; exact hjn), List.getElem?_map, cntV_get hjn, ← hdec]; simp [updC, vI]
            have hrt1 : Row (wr.setCell ⟨w2.heap.size, j, none⟩ (.int .i64 (cj - 1))) gt 4 1 Q.length ((tkV Q.length (peel (besQ Q) Q.length GG)).map Value.bool) := hrt.other (a := ⟨w2.heap.size, j, none⟩) (by simp only; omega) _; have hrl1 : Row (wr.setCell ⟨w2.heap.size, j, none⟩ (.int .i64 (cj - 1))) gl 3 1 cl (L.map vN) := hrl.other (a := ⟨w2.heap.size, j, none⟩) (by simp only; omega) _; have cT1 : (wr.setCell ⟨w2.heap.size, j, none⟩ (.int .i64 (cj - 1))).cell? ⟨gt, j, none⟩ = some (.bool tk) := (World.cell?_setCell_far _ _ _ _ (by simp; omega)).trans cT; have hown1 : Own (wr.setCell ⟨w2.heap.size, j, none⟩ (.int .i64 (cj - 1))) u14 3 1 M.length (M.map vN) := hown.below fun g hg => Below.heap_setCell _ _ _ _ (by have := hyoung g hg; simp only; omega); have hB1 : Below w2.heap.size w2 (wr.setCell ⟨w2.heap.size, j, none⟩ (.int .i64 (cj - 1))) := hB.setCell (Nat.le_refl _) _; have Hmo := Lib.hid hmo; have Hdec := Lib.hid hdec; have Hcj := Lib.hid hcj; have Htkk := Lib.hid htkk; have Hyoung := Lib.hid hyoung; have Hjn := Lib.hid hjn; clear hj hjm hjt htk hcj hcb hdec hmo htkk hrow hrt hrl hown hB hyoung cT hbs; go_upto_region 30 with (fail)
            clear cC fC cX; generalize wr.setCell ⟨w2.heap.size, j, none⟩ (.int .i64 (cj - 1)) = wS at hrow1 hrt1 hrl1 hown1 hB1 cS cT1 ⊢; cases tk with
            | true =>
             have hmo1 := Hmo.out.no (j := j) (.inl Htkk.out.symm); rw [← Hcj.out, Hdec.out] at hmo1; have Hmo1 := Lib.hid hmo1; clear hmo1; go_wp2_with fail; go_roundg (gk - 1)
             case measure => have := Hb.out; omega
             case rel => exact ⟨b + 1, M, by have := Hb.out; omega, by go_num, hrow1, hrt1, hrl1, Hmo1.out, hown1, Hyoung.out, hB1⟩
            | false =>
             by_cases hc1 : cj - 1 = 1
             ·
              have e4 : (cj - 1 == 1) = true := by simpa using hc1
              have hmo1 := Hmo.out.yes Hjn.out Htkk.out.symm (by rw [← Hcj.out]; exact hc1); rw [← Hcj.out, Hdec.out] at hmo1; have hMl := Hmo.out.le; have Hmo1 := Lib.hid hmo1; have hAl := hown1.alloc (.cells #[.int .i64 (j : Nat)] 3); clear hmo1 hc1; go_wp2_with (at_builtin; refine wpList_append_row _ rfl (.tmp 104) (.tmp 106) 33 rfl 3 (.int .i64 0) 1 8 Tryz.underlying33 int_info rfl u14 M.length _ rfl hAl ⟨wS.heap.size, 0, none⟩ 1 1 [.int .i64 (j : Nat)] rfl rfl (one_new (cell_new1 rfl)) (one_ok _ _) (by omega) (by unfold maxLen; omega) (by omega) ?_; intro g5 c5 w5 hr5 hc5 hg5 hor5); have z1 := hrow1.lt; have z2 := hrt1.lt; have z3 := hrl1.lt; have hyg : w2.heap.size < g5 ∧ g5 ≠ gt ∧ g5 ≠ gl := by
               rcases hor5 with h | h
               · exact Hyoung.out g5 h
               · simp at h; omega
              have hne : ∀ q, (q = w2.heap.size ∨ q = gt ∨ q = gl) → u14.ownBlock ≠ some q := fun q hq e => by have := Hyoung.out _ e; omega
              have hrow2 := (hrow1.alloc (.cells #[.int .i64 (j : Nat)] 3)).grown hg5 (hne _ (.inl rfl)); have hrt2 := (hrt1.alloc (.cells #[.int .i64 (j : Nat)] 3)).grown hg5 (hne _ (.inr (.inl rfl))); have hrl2 := (hrl1.alloc (.cells #[.int .i64 (j : Nat)] 3)).grown hg5 (hne _ (.inr (.inr rfl))); have hown2 : Own w5 (.slice (some ⟨g5, 0, none⟩) (M.length + 1) c5) 3 1 (M ++ [j]).length ((M ++ [j]).map vN) := by
               have h1 := hr5.own1; have e1 : M.map vN ++ [Value.int .i64 (j : Int)] = (M ++ [j]).map vN := by rw [List.map_append]; rfl
               rw [e1] at h1; simpa using h1
              have hB5 : Below w2.heap.size w2 w5 := (bl_trans hB1 (bl_alloc wS (.cells #[.int .i64 (j : Nat)] 3))).grown hg5 (by have := hB1.size; simp; omega) (fun k hk => by have := Hyoung.out k hk; omega); clear hr5 hg5 hor5 hrow1 hrt1 hrl1 hown1 hB1 hAl hne cS cT1; go_wp2_with fail; go_roundg (gk - 1)
              case measure => have := Hb.out; omega
              case rel => exact ⟨b + 1, M ++ [j], by have := Hb.out; omega, by go_num, hrow2, hrt2, hrl2, Hmo1.out, hown2, fun k hk => by cases hk; exact hyg, hB5⟩
             ·
              have e4 : (cj - 1 == 1) = false := by simpa using hc1
              have hmo1 := Hmo.out.no (j := j) (.inr (by rw [← Hcj.out]; exact hc1)); rw [← Hcj.out, Hdec.out] at hmo1; have Hmo1 := Lib.hid hmo1; clear hmo1 hc1; go_wp2_with fail; go_roundg (gk - 1)
              case measure => have := Hb.out; omega
              case rel => exact ⟨b + 1, M, by have := Hb.out; omega, by go_num, hrow1, hrt1, hrl1, Hmo1.out, hown1, Hyoung.out, hB1⟩
           ·
            have hbn : b = (besQ Q x).length := by omega
            subst hbn; rw [List.take_length, cntC_next, HP.out, ← Htk.out] at hrow hmo; have Hmo := Lib.hid hmo; clear hb Hb hmo; go_wp2_with fail; go_roundg (gk4 - 1)
            case measure => have := Ha.out; have := Hgk4.out; omega
            case rel => exact ⟨a + 1, M, by have := Ha.out; have := Hgk4.out; omega, by go_num, hrow, hrt, hrl, Hmo.out, hown, hyoung, hB⟩
         ·
          have han : a = L.length := by omega
          subst han; rw [List.take_length, cntC_end Hlv.out Ht.out H22.out] at hrow hmo; have hlv2 := hmo.lv; have Hlv2 := Lib.hid hlv2; have hz : (ln : Int) - (L.length : Int) = (lm : Int) := by omega
          have Hhl := Lib.hid hleft; clear ha Ha hmo hlv2; go_wp2_with fail; go_roundg (gko - 1)
          case measure => have := Hk.out; have := Hlk.out; have := Hgko.out; have := Hpos.out; omega
          case rel => exact ⟨k + 1, M, by have := Hk.out; have := Hlk.out; have := Hgko.out; have := Hhl.out; have := Hpos.out; omega, by rw [Hnx.out, ← Hlm.out] <;> go_num, by rw [Hnx.out, ← Hlm.out]; have := Hlk.out; have := Hhl.out; have := Hpos.out; omega, by rw [Hnx.out]; exact Hlv2.out, by rw [Hnx.out]; exact hrow, by rw [Hnx.out]; exact hrt, hown, fun g hg => ⟨(hyoung g hg).1, (hyoung g hg).2.1⟩, hB⟩
     ·
      have e2 : decide ((2 : Int) < (ln : Int)) = false := by simp; omega
      have hfin : peels (besQ Q) Q.length Q.length = GG := by
       have h22 : ¬ 2 < leftN Q.length (peels (besQ Q) Q.length k) := by rw [← HGG.out, ← Hln.out]; exact h2
       have h1 := peels_end h22 (Q.length - k); have := Hlk.out; rw [show k + (Q.length - k) = Q.length by omega] at h1; rw [h1, HGG.out]
      have hcq : centreQ Q = (List.range Q.length).filter fun j => !GG j := by unfold centreQ; rw [hfin]
      have Hcq := Lib.hid hcq; have ho0 : Own wr (.slice none 0 0) 3 1 0 [] := own_nil _ _ _; have hgtw := hrt.lt; clear hfin hcq h2 hln hrow hown; go_upto_region 36 with (fail)
      go_loopg [7, 113] Q.length (fun r ov iv wj => ∃ (i : Nat) (O : List Nat), i + r = Q.length ∧ iv = .int .i64 i ∧ O = (List.range i).filter (fun j => !GG j) ∧ Row wj gt 4 1 Q.length ((tkV Q.length GG).map Value.bool) ∧ Own wj ov 3 1 O.length (O.map vN) ∧ (∀ g, ov.ownBlock = some g → w2.heap.size < g ∧ g ≠ gt) ∧ Below w2.heap.size w2 wj)
      case atStart => exact ⟨0, [], by omega, rfl, by simp, hrt, ho0, fun g hg => by simp [Value.ownBlock] at hg, hB⟩
      case round =>
       clear hrt ho0 hB hgtw; obtain ⟨i, O, hi, rfl, hO, hrt, hown, hyoung, hB⟩ := hrel; have Hi := Lib.hid hi; have HO := Lib.hid hO; have Hyoung := Lib.hid hyoung; have hOl : O.length ≤ i := by
        rw [hO]; have := List.length_filter_le (fun j => !GG j) (List.range i); simpa using this
       have hstep : (List.range (i + 1)).filter (fun j => !GG j) = O ++ if GG i = false then [i] else [] := by
        rw [List.range_succ, List.filter_append, hO]; congr 1; by_cases h : GG i = true <;> simp [h]
       clear hO hyoung; by_cases hil : i < Q.length
       ·
        clear hi; have cT : wr.cell? ⟨gt, i, none⟩ = some (.bool (GG i)) := by
         rw [hrt.cell? i (by rw [List.length_map, tkV_len]; exact hil), List.getElem?_map, tkV_get hil]; rfl
        have i1 : (i : Int) < (Q.length : Int) := by omega
        cases hgi : GG i with
        | true =>
         rw [hgi] at cT hstep; simp only [Bool.true_eq_false, if_false, List.append_nil] at hstep; have Hstep := Lib.hid hstep; clear hstep hgi; go_wp2_with fail; go_roundg (gk - 1)
         case measure => have := Hi.out; omega
         case rel => exact ⟨i + 1, O, by have := Hi.out; omega, by go_num, Hstep.out.symm, hrt, hown, Hyoung.out, hB⟩
        | false =>
         rw [hgi] at cT hstep; simp only [if_true] at hstep; have Hstep := Lib.hid hstep; have hAl := hown.alloc (.cells #[.int .i64 (i : Nat)] 3); have hBa := hB.size; clear hstep hgi; go_wp2_with (at_builtin; refine wpList_append_row _ rfl (.tmp 121) (.tmp 123) 33 rfl 3 (.int .i64 0) 1 8 Tryz.underlying33 int_info rfl u7 O.length _ rfl hAl ⟨wr.heap.size, 0, none⟩ 1 1 [.int .i64 (i : Nat)] rfl rfl (one_new (cell_new1 rfl)) (one_ok _ _) (by omega) (by unfold maxLen; omega) (by omega) ?_; intro g5 c5 w5 hr5 hc5 hg5 hor5); have z2 := hrt.lt; have hyg : w2.heap.size < g5 ∧ g5 ≠ gt := by
          rcases hor5 with h | h
          · exact Hyoung.out g5 h
          · simp at h; omega
         have hrt2 := (hrt.alloc (.cells #[.int .i64 (i : Nat)] 3)).grown hg5 (fun e => (Hyoung.out _ e).2 rfl); have hown2 : Own w5 (.slice (some ⟨g5, 0, none⟩) (O.length + 1) c5) 3 1 (O ++ [i]).length ((O ++ [i]).map vN) := by
          have h1 := hr5.own1; have e1 : O.map vN ++ [Value.int .i64 (i : Int)] = (O ++ [i]).map vN := by rw [List.map_append]; rfl
          rw [e1] at h1; simpa using h1
         have hB5 : Below w2.heap.size w2 w5 := (bl_trans hB (bl_alloc wr (.cells #[.int .i64 (i : Nat)] 3))).grown hg5 (by simp; omega) (fun k hk => by have := Hyoung.out k hk; omega); clear hr5 hg5 hor5 hrt hown hB hAl cT; go_wp2_with fail; go_roundg (gk - 1)
         case measure => have := Hi.out; omega
         case rel => exact ⟨i + 1, O ++ [i], by have := Hi.out; omega, by go_num, Hstep.out.symm, hrt2, hown2, fun k hk => by cases hk; exact hyg, hB5⟩
       ·
        have hin : i = Q.length := by omega
        subst hin; have hO2 : O = centreQ Q := by rw [HO.out, Hcq.out]
        subst hO2; have hfin := hown; have Hfin := Lib.hid hfin; obtain ⟨a9, c9, hvo, hca⟩ : ∃ a c, u7 = Value.slice a (centreQ Q).length c ∧ CellsAt wr a ((centreQ Q).map vN) := by
         rcases hown.2 with ⟨rfl, h0⟩ | ⟨g, cg, rfl, hcg, hr9⟩
         · exact ⟨none, 0, by rw [h0], fun i u hu => by rw [List.eq_nil_of_length_eq_zero h0] at hu; simp at hu⟩
         · exact ⟨_, _, rfl, hr9.at_⟩
        subst hvo; have hBw := bl_trans hB2 hB; clear hi Hi hstep hown hfin Hfin hrt hOl; go_wp2_with fail; go_ret; rw [Hbl.out]; exact ⟨a9, c9, rfl, hca, hBw⟩
 ·
  have hbl : centreL Q = [] := by unfold centreL; rw [rightB_not.2 hR]; rfl
  have Hbl := Lib.hid hbl
  clear hbl hR hr
  go_wp2_with fail
  go_ret
  rw [Hbl.out]
  exact ⟨none, 0, rfl, fun i u hu => by simp at hu, hb2⟩
end Go.Proofs.YtagcbnpahgfgmaaGreat
namespace Go.Proofs.YtagcbnpahgfgmaaGreat
open Go Go.RowKit
theorem grown_setCell (w : World) (g o : Nat) (u : Value) : w.grownBy (w.setCell ⟨g, o, none⟩ u) (some g) :=
 ⟨rfl, rfl, rfl, by simp, fun k _ hne => Below.heap_setCell w ⟨g, o, none⟩ u k (fun e => hne (by rw [e]))⟩
theorem grown_trans {a b c : World} {r : Option Nat} (h : a.grownBy b r) (k : b.grownBy c r) : a.grownBy c r :=
 ⟨k.os.trans h.os, k.tape.trans h.tape, k.output.trans h.output, Nat.le_trans h.size k.size, fun j h1 h2 => (k.block j (Nat.lt_of_lt_of_le h1 h.size) h2).trans (h.block j h1 h2)⟩
theorem grown_setCells (g : Nat) : ∀ (cs : List Value) (o : Nat) (w : World), w.grownBy (w.setCells g o cs) (some g)
 | [], _, w => ⟨rfl, rfl, rfl, Nat.le_refl _, fun _ _ _ => rfl⟩
 | c :: cs, o, w => grown_trans (grown_setCell w g o c) (grown_setCells g cs (o + 1) _)
theorem spliced_nil (vs : List Value) (o : Nat) : spliced vs o [] = vs := by simp [spliced]
theorem spliced_cons (vs : List Value) (o : Nat) (c : Value) (cs : List Value) (h : o < vs.length) : spliced (vs.set o c) (o + 1) cs = spliced vs o (c :: cs) := by
 unfold spliced
 rw [List.length_cons]
 have e1 : (vs.set o c).take (o + 1) = vs.take o ++ [c] := by
  rw [List.take_add_one, List.take_set_of_le (by omega)]
  simp [h]
 have e2 : (vs.set o c).drop (o + 1 + cs.length) = vs.drop (o + (cs.length + 1)) := by
  rw [List.drop_set_of_lt (by omega)]
  congr 1; omega
 rw [e1, e2]
 simp
theorem Row.setCells {g : Nat} {e : TypeId} {s cap : Nat} : ∀ (cs : List Value) (o : Nat) (w : World) (vs : List Value), Row w g e s cap vs → o + cs.length ≤ vs.length → Row (w.setCells g o cs) g e s cap (Go.Proofs.YtagcbnpahgfgmaaGreat.spliced vs o cs)
 | [], o, w, vs, h, _ => by rw [spliced_nil]; exact h
 | c :: cs, o, w, vs, h, hl => by
  simp only [List.length_cons] at hl
  have h1 := Row.setCells cs (o + 1) _ _ (h.set o c) (by rw [List.length_set]; omega)
  rw [spliced_cons _ _ _ _ (by omega)] at h1
  exact h1
theorem run_clear_many {P : Program} (w : World) (t e ty : TypeId) (z : Value) (s : Nat) (ht : P.underlying t = some (.slice e)) (hv : ∀ w, (zeroValue e).run P w = .ok z w) (hz : z.cells.size = s) (h1 : ∀ u ∈ z.cells.toList, u.oneCell' = true) (b o n c : Nat) (hn : 0 < n)
  (hc : ∀ j, j < n * s → (w.cell? ⟨b, o + j, none⟩).isSome = true) (hf : ∀ j, j < n * s → w.frozen? ⟨b, o + j, none⟩ = false) :
  (Builtin.clear_ #[t] ty #[.slice (some ⟨b, o, none⟩) n c]).run P w = .ok (.tuple #[]) (w.setCells b o (Builtin.zeroCells z.cells n).toList) := by
 have hsz : (Builtin.zeroCells z.cells n).toList.length = n * s := by rw [Array.length_toList, size_zeroCells, hz]
 have hst := run_storeCells_cells (P := P) b o (Builtin.zeroCells z.cells n).toList 0 w (by intro j hj; simpa using hc j (by omega)) (by intro j hj; first | (simp; done) | (have hfj := hf j (by omega); simpa using hfj)) (by
  intro v hv'
  obtain ⟨i, hi, rfl⟩ := List.getElem_of_mem hv'
  rw [hsz, ← hz] at hi
  have hp : 0 < z.cells.size := Nat.pos_of_ne_zero fun e => by rw [e] at hi; omega
  have hm := Nat.mod_lt i hp
  apply h1
  unfold Builtin.zeroCells
  simp [hm])
 simp only [Nat.add_zero] at hst
 obtain ⟨m, rfl⟩ : ∃ m, n = m + 1 := ⟨n - 1, by omega⟩
 simp [Builtin.clear_, run_underlying ht, hv, hst]
theorem zeroP (w : World) : (zeroValue 49).run Tryz.prog w = .ok (.agg #[.int .i64 0, .slice none 0 0]) w := by kernel_rfl
theorem info_part : (Tryz.prog.info? 49).map (fun i => (i.zero, i.size, i.bytes)) = some (some (.agg #[.int .i64 0, .slice none 0 0]), 2, 32) := by kernel_rfl
theorem run_fromP (b n cap k : Nat) (hk : k ≤ n) (w : World) : (Instr.slice 24 (.slice (some ⟨b, 0, none⟩) n cap) (some (.int .i64 k)) none none).run Tryz.prog w = .ok (.slice (if cap = k then some ⟨b, 0, none⟩ else some ⟨b, k * 2, none⟩) (n - k) (cap - k)) w := by
 have hu : Tryz.prog.underlying 24 = some (.slice (Tryz.prog.elem 24)) := by kernel_rfl
 have hs : ∀ w, (sizeOf (Tryz.prog.elem 24)).run Tryz.prog w = .ok 2 w := fun w => by kernel_rfl
 rw [run_slice_l w 24 (some ⟨b, 0, none⟩) n cap hu .i64 k (by omega) (by omega), hs]
 unfold sliced
 simp only [Result.andThen, Int.toNat_natCast]
 split <;> simp [Addr.add] <;> omega
set_option maxRecDepth 100000 in
set_option maxHeartbeats 4000000 in
theorem delP_walk (g cap n j : Nat) (vs : List Value) (w : World) (h : Row w g 49 2 cap vs) (hn : vs.length = n * 2) (hj : j < n) (hc : n ≤ cap) (h1 : ∀ u ∈ vs, u.oneCell' = true) :
  Calls Tryz.prog 74 #[.slice (some ⟨g, 0, none⟩) n cap, .int .i64 j, .int .i64 (j + 1)] w fun e w' =>
   e = .returned (.slice (some ⟨g, 0, none⟩) (n - 1) cap) ∧ Row w' g 49 2 cap (vs.take (j * 2) ++ vs.drop (j * 2 + 2)) ∧ w.grownBy w' (some g) := by
 have hcm := h.cap_le
 unfold maxLen at hcm
 have e1 : ((j : Int) == (j : Int) + 1) = false := by simp; omega
 obtain ⟨i0, hi0, hz0, hz1, hz2⟩ := info_parts info_part
 obtain ⟨news, hnews⟩ : ∃ news, news = vs.drop (j * 2 + 2) := ⟨_, rfl⟩
 have hlen : news.length = (n - (j + 1)) * 2 := by rw [hnews, List.length_drop, hn]; omega
 obtain ⟨A, hA, hsrc⟩ : ∃ A : Addr, (if cap = j + 1 then some (⟨g, 0, none⟩ : Addr) else some ⟨g, (j + 1) * 2, none⟩) = some A ∧ Hid (∀ t u, news[t]? = some u → w.drew.cell? (A.add t) = some u) := by
  by_cases hh : cap = j + 1
  ·
   refine ⟨⟨g, 0, none⟩, by simp [hh], fun t u hu => ?_⟩; have h0 : news.length = 0 := by rw [hlen]; omega
   rw [List.length_eq_zero_iff.1 h0] at hu; simp at hu
  ·
   refine ⟨⟨g, (j + 1) * 2, none⟩, by simp [hh], fun t u hu => ?_⟩; have ht : t < news.length := (List.getElem?_eq_some_iff.1 hu).1; rw [hnews, List.getElem?_drop] at hu; rw [Addr.add_lit]; exact (h.cell? ((j + 1) * 2 + t) (by rw [hn]; omega)).trans (by rw [show (j + 1) * 2 + t = j * 2 + 2 + t by omega]; exact hu)
 have hsl : ∀ w, (Instr.slice 24 (.slice (some ⟨g, 0, none⟩) n cap) (some (.int .i64 ((j : Int) + 1))) none none).run Tryz.prog w = .ok (.slice (some A) (n - (j + 1)) (cap - (j + 1))) w := fun w => by
  have := run_fromP g n cap (j + 1) (by omega) w
  rw [hA] at this
  exact this
 have s1 : Hid (news.length = (n - (j + 1)) * 2) := hlen
 have s2 : Hid (∀ u ∈ news, u.oneCell' = true) := fun u hu => h1 u (by rw [hnews] at hu; exact List.mem_of_mem_drop hu)
 have s3 : Hid (∀ t, t < news.length → (w.drew.cell? ⟨g, 0 + j * 2 + t, none⟩).isSome = true ∧ w.drew.frozen? ⟨g, 0 + j * 2 + t, none⟩ = false) := fun t ht => by
  rw [hlen] at ht
  rw [Nat.zero_add]
  refine ⟨?_, h.frozen _⟩
  show (w.cell? ⟨g, j * 2 + t, none⟩).isSome = true
  rw [h.cell? (j * 2 + t) (by rw [hn]; omega), List.getElem?_eq_getElem (by rw [hn]; omega)]; rfl
 obtain ⟨W1, hW1⟩ : ∃ W1, W1 = w.drew.setCells g (0 + j * 2) news := ⟨_, rfl⟩
 have hg1 : w.grownBy W1 (some g) := by
  rw [hW1]
  exact grown_trans (b := w.drew) ⟨rfl, rfl, rfl, Nat.le_refl _, fun _ _ _ => rfl⟩ (grown_setCells g _ _ _)
 have hR1 : Row W1 g 49 2 cap (spliced vs (j * 2) news) := by
  rw [hW1, Nat.zero_add]
  exact Row.setCells news (j * 2) w.drew vs h (by rw [hlen, hn]; omega)
 have hl1 : (spliced vs (j * 2) news).length = n * 2 := by rw [spliced_length (by rw [hlen, hn]; omega)]; exact hn
 have hcl : ∀ ty, (Builtin.clear_ #[24] ty #[.slice (some ⟨g, (j + (n - (j + 1))) * 2, none⟩) (n - (j + (n - (j + 1)))) (cap - (j + (n - (j + 1))))]).run Tryz.prog W1 = .ok (.tuple #[]) (W1.setCells g ((j + (n - (j + 1))) * 2) (Builtin.zeroCells (Value.agg #[.int .i64 0, .slice none 0 0]).cells (n - (j + (n - (j + 1))))).toList) := fun ty =>
  run_clear_many W1 _ _ ty _ 2 Tryz.underlying24 zeroP (by decide +kernel) (by decide +kernel) g _ _ _ (by omega)
   (fun t ht => by rw [hR1.cell? _ (by rw [hl1]; omega), List.getElem?_eq_getElem (by rw [hl1]; omega)]; rfl) (fun t ht => hR1.frozen _)
 have hR2 := Row.setCells (Builtin.zeroCells (Value.agg #[.int .i64 0, .slice none 0 0]).cells (n - (j + (n - (j + 1))))).toList ((j + (n - (j + 1))) * 2) W1 _ hR1 (by
  rw [Array.length_toList, size_zeroCells, hl1]
  have : (Value.agg #[.int .i64 0, .slice none 0 0]).cells.size = 2 := by decide +kernel
  rw [this]; omega)
 have hg2 := grown_trans hg1 (grown_setCells g (Builtin.zeroCells (Value.agg #[.int .i64 0, .slice none 0 0]).cells (n - (j + (n - (j + 1))))).toList ((j + (n - (j + 1))) * 2) W1)
 have hend : Row (W1.setCells g ((j + (n - (j + 1))) * 2) (Builtin.zeroCells (Value.agg #[.int .i64 0, .slice none 0 0]).cells (n - (j + (n - (j + 1))))).toList) g 49 2 cap (vs.take (j * 2) ++ vs.drop (j * 2 + 2)) := by
  have h3 := hR2.take ((n - 1) * 2)
  have h4 : (spliced (spliced vs (j * 2) news) ((j + (n - (j + 1))) * 2) (Builtin.zeroCells (Value.agg #[.int .i64 0, .slice none 0 0]).cells (n - (j + (n - (j + 1))))).toList).take ((n - 1) * 2) = vs.take (j * 2) ++ vs.drop (j * 2 + 2) := by
   have e2 : j + (n - (j + 1)) = n - 1 := by omega
   rw [e2]; unfold spliced; rw [List.take_append, List.length_take, List.take_take]; have hl1' : (List.take (j * 2) vs ++ (news ++ List.drop (j * 2 + news.length) vs)).length = n * 2 := hl1; rw [hl1', Nat.min_self, Nat.min_eq_left (by omega), Nat.sub_self, List.take_zero, List.append_nil]; rw [← List.append_assoc, List.take_append]; have h5 : (List.take (j * 2) vs ++ news).length = (n - 1) * 2 := by rw [List.length_append, List.length_take, hlen, hn]; omega
   rw [h5, Nat.sub_self, List.take_zero, List.append_nil, List.take_of_length_le (by omega), hnews]
  rw [h4] at h3; exact h3
 have hW : Hid (W1 = w.drew.setCells g (0 + j * 2) news) := hW1
 have Hend := Lib.hid hend; have Hg2 := Lib.hid hg2
 have hjc : j ≤ cap := by omega
 have hjc2 : j + 1 ≤ cap := by omega
 have hnc : j + (n - (j + 1)) ≤ n := by omega
 clear hR1 hR2 hg1 hg2 hend hl1 hlen hnews h hW1 h1
 go_enter Tryz.func74, Tryz.ntmps74
 go_wp2_with fail
 go_region_law (refine step_append_room rfl (.tmp 22) (.tmp 25) 24 rfl 49 i0 2 Tryz.underlying24 hi0 hz1 g 0 j cap (by simp [Act.eval, Act.put]) A (n - (j + 1)) (cap - (j + 1)) news (by simp [Act.eval, Act.put]) s1.out hsrc.out s2.out (by omega) s3.out ?_; rw [← hW.out])
 go_wp2
 go_ret
 exact ⟨by rw [show n - 1 = j + (n - (j + 1)) by omega]; rfl, Hend.out, Hg2.out⟩
end Go.Proofs.YtagcbnpahgfgmaaGreat
namespace Go.Proofs.YtagcbnpahgfgmaaGreat
open Go Go.RowKit
abbrev PtR := Pt × Option Addr × Nat
def ptV (p : PtR) : Value := .slice p.2.1 p.1.2.length p.2.2
def ptC (ps : List PtR) : List Value := ps.flatMap fun p => [.int .i64 p.1.1, ptV p]
def ptQ (ps : List PtR) : List Pt := ps.map fun p => p.1
theorem ptQ_len (ps : List PtR) : (ptQ ps).length = ps.length := by simp [ptQ]
theorem ptC_len (ps : List PtR) : (ptC ps).length = ps.length * 2 := by
 induction ps with
 | nil => rfl
 | cons p ps ih => simp only [ptC, List.flatMap_cons, List.length_append, List.length_cons, List.length_nil] at ih ⊢; omega
theorem ptC_cons (p : PtR) (ps : List PtR) : ptC (p :: ps) = .int .i64 p.1.1 :: ptV p :: ptC ps := rfl
theorem ptC_append (a b : List PtR) : ptC (a ++ b) = ptC a ++ ptC b := by simp [ptC]
theorem ptC_get (ps : List PtR) (i : Nat) (h : i < ps.length) : (ptC ps)[i * 2]? = some (.int .i64 ps[i].1.1) ∧ (ptC ps)[i * 2 + 1]? = some (ptV ps[i]) := by
 induction ps generalizing i with
 | nil => simp at h
 | cons p ps ih =>
  cases i with
  | zero => simp [ptC]
  | succ i =>
   have := ih i (by simpa using h); rw [ptC_cons, show (i + 1) * 2 = i * 2 + 1 + 1 by omega]; simpa using this
theorem ptC_del (ps : List PtR) (j : Nat) (h : j < ps.length) : (ptC ps).take (j * 2) ++ (ptC ps).drop (j * 2 + 2) = ptC (ps.eraseIdx j) := by
 induction ps generalizing j with
 | nil => simp at h
 | cons p ps ih =>
  cases j with
  | zero => simp [ptC_cons]
  | succ j =>
   have := ih j (by simpa using h); rw [List.eraseIdx_cons_succ, ptC_cons, ptC_cons, show (j + 1) * 2 = j * 2 + 1 + 1 by omega, show j * 2 + 1 + 1 + 2 = (j * 2 + 2) + 1 + 1 by omega]; simp only [List.take_succ_cons, List.drop_succ_cons, List.cons_append]; rw [this]
theorem ptC_set (ps : List PtR) (i : Nat) (h : i < ps.length) (p : PtR) (hk : p.1.1 = ps[i].1.1) : (ptC ps).set (i * 2 + 1) (ptV p) = ptC (ps.set i p) := by
 induction ps generalizing i with
 | nil => simp at h
 | cons q ps ih =>
  cases i with
  | zero => simp at hk; simp [ptC_cons, hk]
  | succ i =>
   have := ih i (by simpa using h) (by simpa using hk); rw [List.set_cons_succ, ptC_cons, ptC_cons, show (i + 1) * 2 + 1 = (i * 2 + 1) + 1 + 1 by omega]; simp only [List.set_cons_succ]; rw [this]
theorem ptC_one (ps : List PtR) : ∀ u ∈ ptC ps, u.oneCell' = true := fun u hu => by
 unfold ptC at hu
 obtain ⟨p, _, hp⟩ := List.mem_flatMap.1 hu
 simp at hp
 rcases hp with rfl | rfl <;> rfl
theorem ptQ_get {ps : List PtR} {i : Nat} (h : i < ps.length) : (ptQ ps)[i]? = some ps[i].1 := by simp [ptQ, h]
theorem ptQ_set (ps : List PtR) (i : Nat) (p : PtR) : ptQ (ps.set i p) = (ptQ ps).set i p.1 := by simp [ptQ, List.map_set]
theorem ptQ_del (ps : List PtR) (j : Nat) : ptQ (ps.eraseIdx j) = (ptQ ps).eraseIdx j := by
 unfold ptQ
 induction ps generalizing j with
 | nil => rfl
 | cons p ps ih =>
  cases j with
  | zero => rfl
  | succ j => simp [ih]
def RowP (w : World) (p : PtR) : Prop := RdL w p.2.1 p.1.2 ∧ p.1.2.length ≤ p.2.2 ∧ p.2.2 ≤ maxLen ∧ ∀ ad, p.2.1 = some ad → ad.block < w.heap.size
theorem RowP.grown {w w' : World} {p : PtR} (h : RowP w p) {k : Option Nat} (hg : w.grownBy w' k) (hf : ∀ ad, p.2.1 = some ad → k ≠ some ad.block) : RowP w' p :=
 ⟨fun i u hu => by
  obtain ⟨b, o, e, hc⟩ := h.1 i u hu
  exact ⟨b, o, e, grown_cell hg hc (hf _ e)⟩, h.2.1, h.2.2.1, fun ad ha => Nat.lt_of_lt_of_le (h.2.2.2 ad ha) hg.size⟩
theorem RowP.below {w w' : World} {p : PtR} (h : RowP w p) (hb : Below w.heap.size w w') : RowP w' p :=
 ⟨h.1.below hb, h.2.1, h.2.2.1, fun ad ha => Nat.lt_of_lt_of_le (h.2.2.2 ad ha) hb.size⟩
structure PtI (w : World) (B g cap : Nat) (ps : List PtR) : Prop where
 row : Row w g 49 2 cap (ptC ps)
 len : ps.length ≤ cap
 lo : B ≤ g
 each : ∀ p ∈ ps, RowP w p ∧ ∀ ad, p.2.1 = some ad → ad.block ≠ g
namespace PtI
variable {w w' : World} {B g cap : Nat} {ps : List PtR}
theorem cap_le (h : PtI w B g cap ps) : cap ≤ maxLen := h.row.cap_le
theorem lt (h : PtI w B g cap ps) : g < w.heap.size := h.row.lt
theorem below (h : PtI w B g cap ps) (hb : Below w.heap.size w w') : PtI w' B g cap ps :=
 ⟨h.row.block (hb.block _ h.lt), h.len, h.lo, fun p hp => ⟨(h.each p hp).1.below hb, (h.each p hp).2⟩⟩
theorem rdq (h : PtI w B g cap ps) : RdQ w (some ⟨g, 0, none⟩) (ptQ ps) := fun i q hq => by
 have hi : i < ps.length := by have := (List.getElem?_eq_some_iff.1 hq).1; rwa [ptQ_len] at this
 rw [ptQ_get hi] at hq
 cases hq
 obtain ⟨h1, h2⟩ := ptC_get ps i hi
 obtain ⟨⟨r1, r2, r3, _⟩, _⟩ := h.each _ (List.getElem_mem hi)
 refine ⟨g, 0, _, _, rfl, ?_, ?_, r1, r2, r3⟩
 · rw [Nat.zero_add, h.row.cell? _ (by rw [ptC_len]; omega)]; exact h1
 · rw [Nat.zero_add, h.row.cell? _ (by rw [ptC_len]; omega)]; exact h2
theorem store (h : PtI w B g cap ps) {i : Nat} (hi : i < ps.length) {p : PtR} (hk : p.1.1 = ps[i].1.1) (hr : RowP w p) (hf : ∀ ad, p.2.1 = some ad → ad.block ≠ g) :
  PtI (w.setCell ⟨g, i * 2 + 1, none⟩ (ptV p)) B g cap (ps.set i p) := by
 have hg := grown_setCell w g (i * 2 + 1) (ptV p)
 refine ⟨?_, by rw [List.length_set]; exact h.len, h.lo, fun q hq => ?_⟩
 ·
  rw [← ptC_set ps i hi p hk]
  exact h.row.set _ _
 ·
  rcases List.mem_or_eq_of_mem_set hq with hq | rfl
  ·
   obtain ⟨h1, h2⟩ := h.each q hq; exact ⟨h1.grown hg fun ad ha e => h2 ad ha (by cases e; rfl), h2⟩
  · exact ⟨hr.grown hg fun ad ha e => hf ad ha (by cases e; rfl), hf⟩
theorem del (h : PtI w B g cap ps) {j : Nat} (hj : j < ps.length) (hr : Row w' g 49 2 cap ((ptC ps).take (j * 2) ++ (ptC ps).drop (j * 2 + 2))) (hg : w.grownBy w' (some g)) : PtI w' B g cap (ps.eraseIdx j) := by
 rw [ptC_del ps j hj] at hr
 refine ⟨hr, ?_, h.lo, fun q hq => ?_⟩
 · rw [List.length_eraseIdx, if_pos hj]; have := h.len; omega
 ·
  obtain ⟨h1, h2⟩ := h.each q (List.mem_of_mem_eraseIdx hq)
  exact ⟨h1.grown hg fun ad ha e => h2 ad ha (by cases e; rfl), h2⟩
end PtI
end Go.Proofs.YtagcbnpahgfgmaaGreat
namespace Go.Proofs.YtagcbnpahgfgmaaGreat
open Go Go.RowKit Go.Maps
def RetAl (w : World) (Q : List Pt) (e : Ending) (w' : World) : Prop :=
 Below w.heap.size w w' ∧ ((∃ (i j : Nat) (v : Int), i < Q.length ∧ j < Q.length ∧ alikeP Q i j v ∧ e = .returned (.tuple #[.int .i64 i, .int .i64 j, .int .i64 v])) ∨ (clearP Q (allQ Q) ∧ e = .returned (.tuple #[.int .i64 0, .int .i64 0, .int .i64 0])))
def hF (Q : List Pt) (l : List Oc) : Int → Option Int := fun v => (lastO Q l v).map fun p => (p.1 : Int)
theorem hF_nil (Q : List Pt) : hF Q [] = fun _ => none := by funext v; simp [hF, lastO, colO, atV]
theorem hF_no {Q : List Pt} {l : List Oc} {p : Oc} (h : mayO Q p = false) : hF Q (l ++ [p]) = hF Q l := by funext v; unfold hF; rw [lastO_no h]
theorem hF_yes {Q : List Pt} {l : List Oc} {p : Oc} (h : mayO Q p = true) : updF (hF Q l) p.2.2.2 (p.1 : Int) = hF Q (l ++ [p]) := by
 funext v
 unfold updF hF
 rw [lastO_yes h]
 by_cases hv : v = p.2.2.2
 · rw [if_pos hv, if_pos hv]; rfl
 · rw [if_neg hv, if_neg hv]
theorem colO_row {Q : List Pt} {i : Nat} (h : kdQ Q i = 3) : colO Q (preQ Q (i + 1) 0) = colO Q (preQ Q i 0) := by
 rw [preQ_zero, preQ_zero, preO_succ]
 unfold colO
 rw [List.filter_append]
 have : (rowO Q i).filter (mayO Q) = [] := by
  rw [List.filter_eq_nil_iff]
  intro p hp
  unfold rowO at hp
  obtain ⟨e, _, rfl⟩ := List.mem_map.1 hp
  unfold mayO
  simp [h]
 rw [this, List.append_nil]
structure AlI (w wj : World) (Q : List Pt) (l : List Oc) : Prop where
 mz : ∃ c, MZ wj w.heap.size c (hF Q l) ∧ c ≤ l.length
 clr : clearP Q l
 bel : Below w.heap.size w wj
theorem AlI.grown {w wj w' : World} {Q : List Pt} {l : List Oc} (h : AlI w wj Q l) (hb : Below wj.heap.size wj w') : AlI w w' Q l := by
 obtain ⟨c, h1, h2⟩ := h.mz
 exact ⟨⟨c, h1.below hb, h2⟩, h.clr, bl_trans h.bel hb⟩
theorem lastO_mem {Q : List Pt} {l : List Oc} {v : Int} {p : Oc} (h : lastO Q l v = some p) : p ∈ l := by
 have h1 : p ∈ atV v (colO Q l) := List.mem_of_getLast? h
 exact (List.mem_filter.1 (mem_atV.1 h1).1).1
end Go.Proofs.YtagcbnpahgfgmaaGreat
