/- Facts that the claim rests on, part 9. -/
import Derived.Test.YtagjdkkfmfombaaGreatKB07
namespace Go.Proofs.YtagjdkkfmfombaaGreat
open Go Go.RowKit Go.Maps
theorem ints_info3 : (Tryz.prog.info? 25).map (fun i => (i.zero, i.size, i.bytes)) = some (some (.slice none 0 0), 1, 24) := by kernel_rfl
theorem alloc2_size (w : World) (o : Obj) : (w.alloc o).heap.size = w.heap.size + 1 := by simp
theorem row3a {z : Value} (w : World) (n : Nat) (o2 o3 : Obj) (t : TypeId) (hn : n ≤ maxLen) : Row (((w.alloc (.cells (madeCells #[z] n) t)).alloc o2).alloc o3).drew w.heap.size t 1 n (List.replicate n z) :=
 (((row_made w z n t hn).alloc _).alloc _).drew
theorem row3b {z : Value} (w : World) (n : Nat) (o1 o3 : Obj) (t : TypeId) (hn : n ≤ maxLen) : Row (((w.alloc o1).alloc (.cells (madeCells #[z] n) t)).alloc o3).drew (w.heap.size + 1) t 1 n (List.replicate n z) := by
 have := ((row_made (w.alloc o1) z n t hn).alloc o3).drew
 rwa [alloc2_size] at this
theorem row3c {z : Value} (w : World) (n : Nat) (o1 o2 : Obj) (t : TypeId) (hn : n ≤ maxLen) : Row (((w.alloc o1).alloc o2).alloc (.cells (madeCells #[z] n) t)).drew (w.heap.size + 1 + 1) t 1 n (List.replicate n z) := by
 have := (row_made ((w.alloc o1).alloc o2) z n t hn).drew
 rwa [alloc2_size, alloc2_size] at this
theorem two_cell (w : World) (v0 v1 : Value) (t : TypeId) : ∀ i, i < 2 → (w.alloc (.cells #[v0, v1] t)).cell? ⟨w.heap.size, i, none⟩ = some (if i = 0 then v0 else v1) := fun i hi => by
 match i, hi with
 | 0, _ => simp
 | 1, _ => simp
theorem cel3a (w : World) (v0 v1 : Value) (o2 o3 : Obj) (t : TypeId) (i : Nat) (hi : i < 2) : (((w.alloc (.cells #[v0, v1] t)).alloc o2).alloc o3).drew.cell? ⟨w.heap.size, i, none⟩ = some (if i = 0 then v0 else v1) := by
 have h1 := keep_cell (bl_alloc _ o2) (two_cell w v0 v1 t i hi)
 have h2 := keep_cell (bl_alloc _ o3) h1
 exact h2
theorem cel3b (w : World) (v0 v1 : Value) (o1 o3 : Obj) (t : TypeId) (i : Nat) (hi : i < 2) : (((w.alloc o1).alloc (.cells #[v0, v1] t)).alloc o3).drew.cell? ⟨w.heap.size + 1, i, none⟩ = some (if i = 0 then v0 else v1) := by
 have := keep_cell (bl_alloc _ o3) (two_cell (w.alloc o1) v0 v1 t i hi)
 rw [alloc2_size] at this
 exact this
theorem cel3c (w : World) (v0 v1 : Value) (o1 o2 : Obj) (t : TypeId) (i : Nat) (hi : i < 2) : (((w.alloc o1).alloc o2).alloc (.cells #[v0, v1] t)).drew.cell? ⟨w.heap.size + 1 + 1, i, none⟩ = some (if i = 0 then v0 else v1) := by
 have := two_cell ((w.alloc o1).alloc o2) v0 v1 t i hi
 rw [alloc2_size, alloc2_size] at this
 exact this
theorem bel3 (w : World) (o1 o2 o3 : Obj) : Below w.heap.size w (((w.alloc o1).alloc o2).alloc o3).drew := Below.drew (bl_trans (bl_trans (bl_alloc _ _) (bl_alloc _ _)) (bl_alloc _ _))
def gT (ga gb : Nat) : Nat → Nat := fun k => if k = 0 then ga else gb
theorem tab_start {W : World} {m c ga gb : Nat} (h1 : Row W ga 25 1 m (List.replicate m (.slice none 0 0))) (h2 : Row W gb 25 1 c (List.replicate c (.slice none 0 0))) (hne : ga ≠ gb) :
  TabT W (gT ga gb) (ndT m c) (fun k => List.replicate (ndT m c k) (.slice none 0 0)) (fun k => rowsT [] k (ndT m c k)) := by
 have hr : ∀ k n, rowsT [] k n = List.replicate n [] := fun k n => by
  unfold rowsT
  rw [List.eq_replicate_iff]
  refine ⟨by simp, fun b hb => ?_⟩
  obtain ⟨i, -, rfl⟩ := List.mem_map.1 hb
  unfold rowT; split <;> rfl
 have key : ∀ (g n : Nat), Row W g 25 1 n (List.replicate n (.slice none 0 0)) → ∀ k, OwnRows W g 25 3 n (List.replicate n (.slice none 0 0)) (rowsT [] k n) := fun g n h k => by
  rw [hr]
  refine ⟨by simp, h, fun v u r hu hr => ?_, fun v u g hu hg => ?_, fun v v' u u' g _ hu _ hg => ?_⟩
  ·
   obtain ⟨_, hu⟩ := List.getElem?_eq_some_iff.1 hu; obtain ⟨_, hr⟩ := List.getElem?_eq_some_iff.1 hr; simp at hu hr; subst hu; subst hr; exact own_nil _ _ _
  ·
   obtain ⟨_, hu⟩ := List.getElem?_eq_some_iff.1 hu; simp at hu; subst hu; simp [Value.ownBlock] at hg
  ·
   obtain ⟨_, hu⟩ := List.getElem?_eq_some_iff.1 hu; simp at hu; subst hu; simp [Value.ownBlock] at hg
 refine ⟨fun k hk => ?_, hne, fun k hk v u g hu hg => ?_⟩
 ·
  by_cases e : k = 0
  · subst e; exact key ga m h1 0
  ·
   have : k = 1 := by omega
   subst this; exact key gb c h2 1
 ·
  obtain ⟨_, hu⟩ := List.getElem?_eq_some_iff.1 hu
  simp at hu; subst hu; simp [Value.ownBlock] at hg
structure BoxI (w0 : World) (m c B : Nat) (G : Nat → Nat) (vals : Nat → List Value) (R : Nat → List (List Value)) (wx : World) : Prop where
 c0 : wx.cell? ⟨B, 0, none⟩ = some (.slice (some ⟨G 0, 0, none⟩) m m)
 c1 : wx.cell? ⟨B, 1, none⟩ = some (.slice (some ⟨G 1, 0, none⟩) c c)
 tab : TabT wx G (ndT m c) vals R
 g : ∀ k, k < 2 → B ≠ G k ∧ w0.heap.size ≤ G k
 b : w0.heap.size ≤ B
 free : ∀ k, k < 2 → ∀ (v : Nat) (u : Value), (vals k)[v]? = some u → u.ownBlock ≠ some B
 bel : Below w0.heap.size w0 wx
namespace BoxI
variable {w0 w w' : World} {m c B : Nat} {G : Nat → Nat} {vals : Nat → List Value} {R : Nat → List (List Value)}
theorem below (h : BoxI w0 m c B G vals R w) (hb : Below w.heap.size w w') : BoxI w0 m c B G vals R w' := ⟨keep_cell hb h.c0, keep_cell hb h.c1, h.tab.below hb, h.g, h.b, h.free, bl_trans h.bel hb⟩
theorem drewN (h : BoxI w0 m c B G vals R w) (n : Nat) : BoxI w0 m c B G vals R (w.drewN n) := ⟨h.c0, h.c1, h.tab.drewN n, h.g, h.b, h.free, below_drewN h.bel n⟩
theorem lt (h : BoxI w0 m c B G vals R w) : B < w.heap.size ∧ ∀ k, k < 2 → G k < w.heap.size := ⟨World.block_lt_of_cell? w _ h.c0, fun k hk => (h.tab.own k hk).outer.lt⟩
theorem box (h : BoxI w0 m c B G vals R w) {k : Nat} (hk : k < 2) : w.cell? ⟨B, k, none⟩ = some (.slice (some ⟨G k, 0, none⟩) (ndT m c k) (ndT m c k)) := by
 by_cases e : k = 0
 · subst e; exact h.c0
 ·
  have : k = 1 := by omega
  subst this; exact h.c1
theorem congr {R' : Nat → List (List Value)} (h : BoxI w0 m c B G vals R w) (e : ∀ k, k < 2 → R' k = R k) : BoxI w0 m c B G vals R' w :=
 ⟨h.c0, h.c1, ⟨fun k hk => by rw [e k hk]; exact h.tab.own k hk, h.tab.ne, h.tab.apart⟩, h.g, h.b, h.free, h.bel⟩
theorem row (h : BoxI w0 m c B G vals R w) {k v : Nat} {r : List Value} (hk : k < 2) (hr : (R k)[v]? = some r) : ∃ u, (vals k)[v]? = some u ∧ w.cell? ⟨G k, v, none⟩ = some u ∧ Own w u 3 1 r.length r ∧ u.ownBlock ≠ some B ∧ u.ownBlock ≠ some (G 0) ∧ u.ownBlock ≠ some (G 1) ∧ w.frozen? ⟨G k, v, none⟩ = false := by
 have ho := h.tab.own k hk
 have hv : v < (R k).length := (List.getElem?_eq_some_iff.1 hr).1
 obtain ⟨u, hu⟩ : ∃ u, (vals k)[v]? = some u := ⟨_, List.getElem?_eq_getElem (by rw [ho.len]; exact hv)⟩
 have h1 := ho.ne_outer hu
 have h2 : u.ownBlock ≠ some (G (1 - k)) := fun e => (h.tab.apart k hk v u _ hu e).1 rfl
 refine ⟨u, hu, by rw [ho.outer.cell? v (by rw [ho.len]; exact hv), hu], ho.own v u r hu hr, h.free k hk v u hu, ?_, ?_, ho.outer.frozen v⟩
 ·
  by_cases e : k = 0
  · subst e; exact h1
  ·
   have : k = 1 := by omega
   subst this; exact h2
 ·
  by_cases e : k = 0
  · subst e; exact h2
  ·
   have : k = 1 := by omega
   subst this; exact h1
theorem push (h : BoxI w0 m c B G vals R w) {k v : Nat} {u : Value} {r r' : List Value} (hk : k < 2) (hu : (vals k)[v]? = some u) (hr : (R k)[v]? = some r) {g' cap' : Nat} (hrow : Row w' g' 3 1 cap' r') (hgr : w.grownBy w' u.ownBlock) (hg' : u.ownBlock = some g' ∨ w.heap.size ≤ g') :
  BoxI w0 m c B G (fun j => if j = k then (vals k).set v (.slice (some ⟨g', 0, none⟩) r'.length cap') else vals j) (fun j => if j = k then (R k).set v r' else R j) (w'.setCell ⟨G k, v, none⟩ (.slice (some ⟨g', 0, none⟩) r'.length cap')) := by
 have hfu := h.free k hk v u hu
 have hGB := (h.g k hk).1
 have hcell : ∀ i x, w.cell? ⟨B, i, none⟩ = some x → (w'.setCell ⟨G k, v, none⟩ (.slice (some ⟨g', 0, none⟩) r'.length cap')).cell? ⟨B, i, none⟩ = some x := fun i x hx => by
  rw [World.cell?_setCell_far _ _ _ _ (by simp; omega)]
  exact grown_cell hgr hx hfu
 have hyoung : ∀ g, u.ownBlock = some g → w0.heap.size ≤ g := fun g hg => by
  have := (h.tab.own k hk).young v u g hu hg
  have := (h.g k hk).2
  omega
 refine ⟨hcell _ _ h.c0, hcell _ _ h.c1, h.tab.stored hk hu hr hrow hgr hg', h.g, h.b, fun j hj v1 u1 hu1 => ?_, (h.bel.grown hgr h.bel.size hyoung).setCell (by show w0.heap.size ≤ G k; exact (h.g k hk).2) _⟩
 by_cases e : j = k
 ·
  subst e
  simp only [if_true] at hu1
  rw [List.getElem?_set] at hu1
  have hv : v < (vals j).length := (List.getElem?_eq_some_iff.1 hu).1
  by_cases hvv : v = v1
  ·
   subst hvv; rw [if_pos rfl, if_pos hv] at hu1; cases hu1; simp [Value.ownBlock]; rintro rfl; rcases hg' with hg' | hg'
   · exact hfu hg'
   · have := h.lt.1; omega
  ·
   rw [if_neg hvv] at hu1; exact h.free j hj v1 u1 hu1
 ·
  simp only [if_neg e] at hu1
  exact h.free j hj v1 u1 hu1
end BoxI
def BoxT (w0 : World) (m c : Nat) (p : Value) (wx : World) : Prop := ∃ B G vals, p = .pointer (some ⟨B, 0, none⟩) ∧ BoxI w0 m c B G vals (fun k => rowsT [] k (ndT m c k)) wx
theorem boxT_start {w0 W : World} {m c B ga gb : Nat} (h1 : Row W ga 25 1 m (List.replicate m (.slice none 0 0))) (h2 : Row W gb 25 1 c (List.replicate c (.slice none 0 0)))
  (hc : ∀ i, i < 2 → W.cell? ⟨B, i, none⟩ = some (if i = 0 then .slice (some ⟨ga, 0, none⟩) m m else .slice (some ⟨gb, 0, none⟩) c c)) (hne : ga ≠ gb ∧ B ≠ ga ∧ B ≠ gb ∧ w0.heap.size ≤ ga ∧ w0.heap.size ≤ gb ∧ w0.heap.size ≤ B) (hb : Below w0.heap.size w0 W) :
  BoxT w0 m c (.pointer (some ⟨B, 0, none⟩)) W := by
 obtain ⟨n1, n2, n3, n4, n5, n6⟩ := hne
 refine ⟨B, gT ga gb, _, rfl, hc 0 (by omega), hc 1 (by omega), tab_start h1 h2 n1, fun k hk => ?_, n6, fun k hk v u hu => ?_, hb⟩
 ·
  by_cases e : k = 0
  · subst e; exact ⟨n2, n4⟩
  ·
   have : k = 1 := by omega
   subst this; exact ⟨n3, n5⟩
 ·
  obtain ⟨_, hu⟩ := List.getElem?_eq_some_iff.1 hu
  simp at hu; subst hu; simp [Value.ownBlock]
theorem TabT.old {w w' : World} {G cap : Nat → Nat} {vals : Nat → List Value} {rows : Nat → List (List Value)} (h : TabT w G cap vals rows) {s : Nat} (hs : ∀ k, k < 2 → s ≤ G k) (hb : ∀ g, s ≤ g → w'.heap[g]? = w.heap[g]?) : TabT w' G cap vals rows :=
 ⟨fun k hk => (h.own k hk).keep fun g hg _ => hb g (Nat.le_trans (hs k hk) hg), h.ne, h.apart⟩
theorem own_cells {w : World} {u : Value} {e : TypeId} {r : List Value} (h : Own w u e 1 r.length r) : ∃ a cu, u = .slice a r.length cu ∧ CellsAt w a r := by
 rcases h.2 with ⟨rfl, h0⟩ | ⟨g, cap, rfl, hc, hr⟩
 ·
  have hr : r = [] := List.length_eq_zero_iff.1 (by omega)
  subst hr
  exact ⟨none, 0, rfl, fun i u hu => by simp at hu⟩
 · exact ⟨_, cap, rfl, hr.at_⟩
def metT (S : List (Nat × Nat)) (k n : Nat) : List Value := (List.range n).map fun i => Value.bool (decide ((k, i) ∈ S))
theorem metT_len (S : List (Nat × Nat)) (k n : Nat) : (metT S k n).length = n := by simp [metT]
theorem metT_get {S : List (Nat × Nat)} {k n i : Nat} (hi : i < n) : (metT S k n)[i]? = some (.bool (decide ((k, i) ∈ S))) := by simp [metT, hi]
theorem metT_nil (k n : Nat) : metT [] k n = List.replicate n (.bool false) := by simp [metT, List.eq_replicate_iff]
theorem metT_set (S : List (Nat × Nat)) (k n v : Nat) : (metT S k n).set v (.bool true) = metT (S ++ [(k, v)]) k n := by
 apply List.ext_getElem?
 intro i
 rw [List.getElem?_set]
 by_cases hi : i < n
 ·
  rw [metT_get (S := S ++ [(k, v)]) hi, metT_len]
  by_cases e : v = i
  · subst e; simp [hi]
  ·
   rw [if_neg e, metT_get hi]; have : ¬ i = v := fun h => e h.symm; simp [this]
 ·
  rw [List.getElem?_eq_none (l := metT S k n) (by rw [metT_len]; omega), List.getElem?_eq_none (l := metT (S ++ [(k, v)]) k n) (by rw [metT_len]; omega)]
  split
  · rw [metT_len, if_neg (by omega)]
  · rfl
theorem metT_other (S : List (Nat × Nat)) {k k' : Nat} (n v : Nat) (h : k' ≠ k) : metT (S ++ [(k, v)]) k' n = metT S k' n := by
 unfold metT
 apply List.map_congr_left
 intro i _
 simp [h]
structure MetI (m c M : Nat) (P : Nat → Nat) (S : List (Nat × Nat)) (w : World) : Prop where
 c0 : w.cell? ⟨M, 0, none⟩ = some (.slice (some ⟨P 0, 0, none⟩) m m)
 c1 : w.cell? ⟨M, 1, none⟩ = some (.slice (some ⟨P 1, 0, none⟩) c c)
 row : ∀ k, k < 2 → Row w (P k) 4 1 (ndT m c k) (metT S k (ndT m c k))
 ne : P 0 ≠ P 1
 box : ∀ k, k < 2 → M ≠ P k
namespace MetI
variable {w w' : World} {m c M : Nat} {P : Nat → Nat} {S : List (Nat × Nat)}
theorem lt (h : MetI m c M P S w) : M < w.heap.size ∧ ∀ k, k < 2 → P k < w.heap.size := ⟨World.block_lt_of_cell? w _ h.c0, fun k hk => (h.row k hk).lt⟩
theorem below (h : MetI m c M P S w) (hb : Below w.heap.size w w') : MetI m c M P S w' := ⟨keep_cell hb h.c0, keep_cell hb h.c1, fun k hk => (h.row k hk).below hb (h.lt.2 k hk), h.ne, h.box⟩
theorem drewN (h : MetI m c M P S w) (n : Nat) : MetI m c M P S (w.drewN n) := ⟨h.c0, h.c1, fun k hk => (h.row k hk).drewN n, h.ne, h.box⟩
theorem grown (h : MetI m c M P S w) {r : Option Nat} (hg : w.grownBy w' r) (h0 : r ≠ some M) (h1 : ∀ k, k < 2 → r ≠ some (P k)) : MetI m c M P S w' :=
 ⟨grown_cell hg h.c0 h0, grown_cell hg h.c1 h0, fun k hk => (h.row k hk).grown hg (h1 k hk), h.ne, h.box⟩
theorem set (h : MetI m c M P S w) {k : Nat} (hk : k < 2) (v : Nat) : MetI m c M P (S ++ [(k, v)]) (w.setCell ⟨P k, v, none⟩ (.bool true)) := by
 have hb := h.box k hk
 have hcell : ∀ i x, w.cell? ⟨M, i, none⟩ = some x → (w.setCell ⟨P k, v, none⟩ (.bool true)).cell? ⟨M, i, none⟩ = some x := fun i x hx => by
  rw [World.cell?_setCell_far _ _ _ _ (by simp; omega)]
  exact hx
 refine ⟨hcell _ _ h.c0, hcell _ _ h.c1, fun j hj => ?_, h.ne, h.box⟩
 by_cases e : j = k
 ·
  subst e
  have := (h.row j hj).set v (.bool true)
  rwa [metT_set] at this
 ·
  rw [metT_other S _ v e]
  refine (h.row j hj).other (a := ⟨P k, v, none⟩) ?_ (.bool true)
  show P j ≠ P k
  have hne := h.ne
  have : (j = 0 ∧ k = 1) ∨ (j = 1 ∧ k = 0) := by omega
  rcases this with ⟨rfl, rfl⟩ | ⟨rfl, rfl⟩
  · exact hne
  · exact hne.symm
theorem cell (h : MetI m c M P S w) {k v : Nat} (hk : k < 2) (hv : v < ndT m c k) : w.cell? ⟨P k, v, none⟩ = some (.bool (decide ((k, v) ∈ S))) ∧ w.frozen? ⟨P k, v, none⟩ = false :=
 ⟨by rw [(h.row k hk).cell? v (by rw [metT_len]; exact hv)]; exact metT_get hv, (h.row k hk).frozen v⟩
end MetI
def MetT (w0 : World) (m c : Nat) (p : Value) (wx : World) : Prop := ∃ M P, p = .pointer (some ⟨M, 0, none⟩) ∧ MetI m c M P [] wx ∧ w0.heap.size ≤ M ∧ (∀ k, k < 2 → w0.heap.size ≤ P k) ∧ Below w0.heap.size w0 wx
theorem metT_start {w0 W : World} {m c B ga gb : Nat} (h1 : Row W ga 4 1 m (List.replicate m (.bool false))) (h2 : Row W gb 4 1 c (List.replicate c (.bool false)))
  (hc : ∀ i, i < 2 → W.cell? ⟨B, i, none⟩ = some (if i = 0 then .slice (some ⟨ga, 0, none⟩) m m else .slice (some ⟨gb, 0, none⟩) c c)) (hne : ga ≠ gb ∧ B ≠ ga ∧ B ≠ gb ∧ w0.heap.size ≤ ga ∧ w0.heap.size ≤ gb ∧ w0.heap.size ≤ B) (hb : Below w0.heap.size w0 W) :
  MetT w0 m c (.pointer (some ⟨B, 0, none⟩)) W := by
 obtain ⟨n1, n2, n3, n4, n5, n6⟩ := hne
 refine ⟨B, gT ga gb, rfl, ⟨hc 0 (by omega), hc 1 (by omega), fun k hk => ?_, n1, fun k hk => ?_⟩, n6, fun k hk => ?_, hb⟩
 ·
  rw [metT_nil]
  by_cases e : k = 0
  · subst e; exact h1
  ·
   have : k = 1 := by omega
   subst this; exact h2
 ·
  by_cases e : k = 0
  · subst e; exact n2
  ·
   have : k = 1 := by omega
   subst this; exact n3
 ·
  by_cases e : k = 0
  · subst e; exact n4
  ·
   have : k = 1 := by omega
   subst this; exact n5
def nodeP (S : List (Nat × Nat)) : List (Int × Int) := S.map fun p => ((p.1 : Int), (p.2 : Int))
theorem nodeP_len (S : List (Nat × Nat)) : (nodeP S).length = S.length := by simp [nodeP]
theorem nodup_len_leP {l m : List (Nat × Nat)} (h : l.Nodup) (hs : ∀ x ∈ l, x ∈ m) : l.length ≤ m.length := by
 induction l generalizing m with
 | nil => simp
 | cons a l ih =>
  obtain ⟨h1, h2⟩ := List.nodup_cons.1 h
  have ha := hs a (by simp)
  have h3 := ih (m := m.erase a) h2 fun x hx => by
   have hxa : x ≠ a := fun e => h1 (e ▸ hx); exact (List.mem_erase_of_ne hxa).2 (hs x (by simp [hx]))
  rw [List.length_erase_of_mem ha] at h3
  have := List.length_pos_of_mem ha
  simp only [List.length_cons]; omega
structure ReT (L : List (Nat × Nat)) (m c : Nat) (S : List (Nat × Nat)) (k : Nat) : Prop where
 nd : S.Nodup
 ok : ∀ p ∈ S, p.1 < 2 ∧ p.2 < ndT m c p.1
 zero : (0, 0) ∈ S
 le : k ≤ S.length
 done : ∀ i, i < k → ∀ p, S[i]? = some p → ∀ u ∈ rowT L p.1 p.2, (1 - p.1, u) ∈ S
def HangT (L : List (Nat × Nat)) (m c : Nat) : Prop := ∀ Z : Nat × Nat → Prop, Z (0, 0) → (∀ k v u, Z (k, v) → k < 2 → v < ndT m c k → u ∈ rowT L k v → Z (1 - k, u)) → ∀ k v, k < 2 → v < ndT m c k → Z (k, v)
def allT (m c : Nat) : List (Nat × Nat) := ((List.range m).map fun i => (0, i)) ++ (List.range c).map fun i => (1, i)
theorem allT_len (m c : Nat) : (allT m c).length = m + c := by simp [allT]
theorem mem_allT {m c : Nat} {p : Nat × Nat} : p ∈ allT m c ↔ p.1 < 2 ∧ p.2 < ndT m c p.1 := by
 obtain ⟨k, v⟩ := p
 simp only [allT, List.mem_append, List.mem_map, List.mem_range, Prod.mk.injEq]
 constructor
 ·
  rintro (⟨i, hi, rfl, rfl⟩ | ⟨i, hi, rfl, rfl⟩)
  · exact ⟨by omega, hi⟩
  · exact ⟨by omega, hi⟩
 ·
  rintro ⟨hk, hv⟩
  by_cases e : k = 0
  · subst e; exact .inl ⟨v, hv, rfl, rfl⟩
  ·
   have : k = 1 := by omega
   subst this; exact .inr ⟨v, hv, rfl, rfl⟩
theorem allT_nodup (m c : Nat) : (allT m c).Nodup := by
 unfold allT
 rw [List.nodup_append]
 refine ⟨nodup_map_on List.nodup_range (fun a _ b _ h => by simpa using h), nodup_map_on List.nodup_range (fun a _ b _ h => by simpa using h), fun a ha b hb e => ?_⟩
 obtain ⟨i, -, rfl⟩ := List.mem_map.1 ha
 obtain ⟨j, -, rfl⟩ := List.mem_map.1 hb
 simp at e
namespace ReT
variable {L S : List (Nat × Nat)} {m c k : Nat}
theorem start (hm : 0 < m) : ReT L m c [(0, 0)] 0 := ⟨by simp, fun p hp => by simp at hp; subst hp; exact ⟨by omega, hm⟩, by simp, by omega, fun i hi => by omega⟩
theorem len (h : ReT L m c S k) : S.length ≤ m + c := by
 rw [← allT_len m c]
 exact nodup_len_leP h.nd fun p hp => mem_allT.2 (h.ok p hp)
theorem push (h : ReT L m c S k) {d v : Nat} (hd : d < 2) (hv : v < ndT m c d) (hn : (d, v) ∉ S) : ReT L m c (S ++ [(d, v)]) k := by
 refine ⟨?_, fun p hp => ?_, List.mem_append_left _ h.zero, by have := h.le; simp; omega, fun i hi p hp u hu => ?_⟩
 ·
  rw [List.nodup_append]
  exact ⟨h.nd, by simp, fun a ha b hb e => hn (by simp at hb; rw [← hb, ← e]; exact ha)⟩
 ·
  rcases List.mem_append.1 hp with hp | hp
  · exact h.ok p hp
  · simp at hp; subst hp; exact ⟨hd, hv⟩
 ·
  by_cases hil : i < S.length
  ·
   rw [List.getElem?_append_left hil] at hp; exact List.mem_append_left _ (h.done i hi p hp u hu)
  · have := h.le; omega
theorem next (h : ReT L m c S k) {p : Nat × Nat} (hp : S[k]? = some p) (hd : ∀ u ∈ rowT L p.1 p.2, (1 - p.1, u) ∈ S) : ReT L m c S (k + 1) := by
 refine ⟨h.nd, h.ok, h.zero, (List.getElem?_eq_some_iff.1 hp).1, fun i hi q hq u hu => ?_⟩
 by_cases e : i = k
 ·
  subst e
  rw [hp] at hq
  cases hq
  exact hd u hu
 · exact h.done i (by omega) q hq u hu
theorem all (h : ReT L m c S S.length) (hh : HangT L m c) : S.length = m + c := by
 refine Nat.le_antisymm h.len ?_
 rw [← allT_len m c]
 refine nodup_len_leP (allT_nodup m c) fun p hp => ?_
 obtain ⟨h1, h2⟩ := mem_allT.1 hp
 refine hh (fun p => p ∈ S) h.zero (fun d v u hz hd hv hu => ?_) p.1 p.2 h1 h2
 obtain ⟨i, hi⟩ := List.mem_iff_getElem?.1 hz
 exact h.done i (List.getElem?_eq_some_iff.1 hi).1 _ hi u hu
end ReT
theorem node_info : (Tryz.prog.info? 171).map (fun i => (i.zero, i.size, i.bytes)) = some (some (.agg #[.int .i64 0, .int .i64 0]), 2, 16) := by kernel_rfl
end Go.Proofs.YtagjdkkfmfombaaGreat
namespace Go.Proofs.YtagjdkkfmfombaaGreat
open Go Go.RowKit Go.Maps
set_option maxRecDepth 100000 in
set_option maxHeartbeats 4000000 in
theorem linked_walk (m c : Nat) (a1 a2 a3 : Option Addr) (c1 c2 c3 : Nat) (L : List (Nat × Nat)) (w : World) (hL : ∀ p ∈ L, p.1 < m ∧ p.2 < c) (hm : 0 < m) (hlen : L.length + 1 = m + c) (hs : m + c ≤ 1000) (hh : HangT L m c)
  (hr : RdP w a3 (L.map fun p => ((p.1 : Int), (p.2 : Int)))) :
  Calls Tryz.prog 87 #[.agg #[.slice a1 m c1, .slice a2 c c2, .slice a3 L.length c3]] w (fun e w' => ∃ G vals, e = .returned (.tuple #[.agg #[.slice (some ⟨G 0, 0, none⟩) m m, .slice (some ⟨G 1, 0, none⟩) c c], .bool true]) ∧ TabT w' G (ndT m c) vals (fun k => rowsT L k (ndT m c k)) ∧ w.heap.size ≤ G 0 ∧ w.heap.size ≤ G 1 ∧ Below w.heap.size w w') := by
 have hz1 : ((m + c : Int) == 0) = false := by rw [beq_eq_false_iff_ne]; omega
 have hm1 := fun w => run_make_row' (P := Tryz.prog) 59 25 (.slice none 0 0) 24 Tryz.underlying59 ints_info3 rfl .i64 .i64 m (by omega) (by omega) w
 have hm2 := fun w => run_make_row' (P := Tryz.prog) 59 25 (.slice none 0 0) 24 Tryz.underlying59 ints_info3 rfl .i64 .i64 c (by omega) (by omega) w
 have hq : (((L.length : Nat) : Int) != (m : Int) + c - 1) = false := by simp; omega
 go_enter Tryz.func87, Tryz.ntmps87
 go_upto_region 4 with (fail)
 generalize hw0 : (w.alloc (.cells #[.slice a1 m c1, .slice a2 c c2, .slice a3 L.length c3] 78)).alloc _ = w0
 have z1 : w0.cell? ⟨w.heap.size, 0, none⟩ = some (.slice a1 m c1) := by rw [← hw0]; simp
 have z2 : w0.cell? ⟨w.heap.size, 1, none⟩ = some (.slice a2 c c2) := by rw [← hw0]; simp
 have zb : ∀ i, i < 2 → w0.cell? ⟨w.heap.size + 1, i, none⟩ = some (.slice none 0 0) := fun i hi => by
  have e : (w.alloc (.cells #[.slice a1 m c1, .slice a2 c c2, .slice a3 L.length c3] 78)).heap.size = w.heap.size + 1 := by simp
  rw [← hw0, ← e]
  match i, hi with
  | 0, _ => simp
  | 1, _ => simp
 have zf : ∀ i, w0.frozen? ⟨w.heap.size + 1, i, none⟩ = false := fun i => by
  have e : (w.alloc (.cells #[.slice a1 m c1, .slice a2 c c2, .slice a3 L.length c3] 78)).heap.size = w.heap.size + 1 := by simp
  rw [← hw0, ← e]; simp
 have hbw0 : Below w.heap.size w w0 := by rw [← hw0]; exact bl_trans (bl_alloc _ _) (bl_alloc _ _)
 have Hzb := Lib.hid zb; have Hzf := Lib.hid zf; have Hbw0 := Lib.hid hbw0
 clear zb zf hbw0
 have hs0 : w0.heap.size = w.heap.size + 2 := by rw [← hw0]; simp
 have Hw0 := Lib.hid hw0; clear hw0
 have hlt0 : w.heap.size < w0.heap.size := by omega
 go_cut [5] from 35 to 43 (fun p wx => BoxT w0 m c p wx)
 case first =>
  have hml : m ≤ maxLen := by unfold maxLen; omega
  have hcl : c ≤ maxLen := by unfold maxLen; omega
  go_region
  ·
   go_wp2_with fail; go_meet
   rw [← hs0]; exact boxT_start (row3a w0 m _ _ _ hml) (row3b w0 c _ _ _ hcl) (cel3c w0 _ _ _ _ _) ⟨by omega, by omega, by omega, by omega, by omega, by omega⟩ (bel3 w0 _ _ _)
  ·
   go_wp2_with fail; go_meet
   rw [← hs0]; exact boxT_start (row3a w0 m _ _ _ hml) (row3c w0 c _ _ _ hcl) (cel3b w0 _ _ _ _ _) ⟨by omega, by omega, by omega, by omega, by omega, by omega⟩ (bel3 w0 _ _ _)
  ·
   go_wp2_with fail; go_meet
   rw [← hs0]; exact boxT_start (row3b w0 m _ _ _ hml) (row3a w0 c _ _ _ hcl) (cel3c w0 _ _ _ _ _) ⟨by omega, by omega, by omega, by omega, by omega, by omega⟩ (bel3 w0 _ _ _)
  ·
   go_wp2_with fail; go_meet
   rw [← hs0]; exact boxT_start (row3c w0 m _ _ _ hml) (row3a w0 c _ _ _ hcl) (cel3b w0 _ _ _ _ _) ⟨by omega, by omega, by omega, by omega, by omega, by omega⟩ (bel3 w0 _ _ _)
  ·
   go_wp2_with fail; go_meet
   rw [← hs0]; exact boxT_start (row3b w0 m _ _ _ hml) (row3c w0 c _ _ _ hcl) (cel3a w0 _ _ _ _ _) ⟨by omega, by omega, by omega, by omega, by omega, by omega⟩ (bel3 w0 _ _ _)
  ·
   go_wp2_with fail; go_meet
   rw [← hs0]; exact boxT_start (row3c w0 m _ _ _ hml) (row3b w0 c _ _ _ hcl) (cel3a w0 _ _ _ _ _) ⟨by omega, by omega, by omega, by omega, by omega, by omega⟩ (bel3 w0 _ _ _)
 case rest =>
 obtain ⟨B, G, vals, rfl, hI⟩ := hcut
 have hr0 : RdP w0 a3 (L.map fun p => ((p.1 : Int), (p.2 : Int))) := by rw [← Hw0.out]; exact hr.below (bl_trans (bl_alloc _ _) (bl_alloc _ _))
 have z3 : w0.cell? ⟨w.heap.size, 2, none⟩ = some (.slice a3 L.length c3) := by
  rw [← Hw0.out]; simp
 have z3c := keep_cell hI.bel z3
 have HI := Lib.hid hI; have Hr := Lib.hid hr0
 clear hI hr0 hm1 hm2 hr
 go_wp2_with fail
 go_loopg [47] L.length (fun r iv wj => ∃ k vals, k + r = L.length ∧ iv = .int .i64 (k : Nat) ∧ BoxI w0 m c B G vals (fun j => rowsT (L.take k) j (ndT m c j)) wj)
 case atStart => exact ⟨0, _, by omega, rfl, HI.out⟩
 case round =>
  clear HI z3c
  obtain ⟨k, vals, hk, rfl, hI⟩ := hrel
  have Hk := Lib.hid hk
  have z1c := keep_cell hI.bel z1
  have z2c := keep_cell hI.bel z2
  by_cases hkl : k < L.length
  ·
   obtain ⟨b3, o3, rfl, hx0, hx1⟩ := (Hr.out.below hI.bel).at k (by simpa using hkl); simp only [List.getElem_map] at hx0 hx1; obtain ⟨x, y, hxy⟩ : ∃ x y, L[k] = (x, y) := ⟨_, _, rfl⟩
   rw [hxy] at hx0 hx1; simp only at hx0 hx1; obtain ⟨hxm, hyc⟩ := hL _ (List.getElem_mem hkl); rw [hxy] at hxm hyc; simp only at hxm hyc; have htk : L.take (k + 1) = L.take k ++ [(x, y)] := by rw [List.take_succ_eq_append_getElem hkl, hxy]
   have i1 : (k : Int) < (L.length : Int) := by omega
   have i2 : (x : Int) < (m : Int) := by omega
   have i3 : (y : Int) < (c : Int) := by omega
   have i4 : ¬ (x : Int) ≥ (m : Int) := by omega
   have i5 : ¬ (y : Int) ≥ (c : Int) := by omega
   have hI2 := hI.below (bl_alloc wr (.cells #[.int .i64 x, .int .i64 y] 51)); have HI := Lib.hid hI; have HI2 := Lib.hid hI2; have Htk := Lib.hid htk; have Hxy := Lib.hid hxy; clear hI hI2 htk hxy hk; go_upto_region 8 with (fail)
   have d0 : (wr.alloc (.cells #[.int .i64 x, .int .i64 y] 51)).cell? ⟨wr.heap.size, 0, none⟩ = some (.int .i64 x) := by simp
   have d1 : (wr.alloc (.cells #[.int .i64 x, .int .i64 y] 51)).cell? ⟨wr.heap.size, 1, none⟩ = some (.int .i64 y) := by simp
   have y1c := keep_cell (bl_alloc wr (.cells #[.int .i64 x, .int .i64 y] 51)) z1c; have y2c := keep_cell (bl_alloc wr (.cells #[.int .i64 x, .int .i64 y] 51)) z2c; have hbb := bl_alloc wr (.cells #[.int .i64 x, .int .i64 y] 51); generalize wr.alloc (.cells #[.int .i64 x, .int .i64 y] 51) = wb at *
   go_quiet (fail)
   go_wp2_with fail; have hIq := HI2.out.drewN nq; have bq : Below wr.heap.size wr (wb.drewN nq) := below_drewN hbb nq; generalize wb.drewN nq = wq at *
   have hIa := hIq; have hrw : ((fun j => rowsT (L.take k) j (ndT m c j)) 0)[x]? = some ((rowT (L.take k) 0 x).map vN) := rowsT_get hxm; obtain ⟨u, hu, hcu, hown, hu0, hu1, hu2, hfu⟩ := hIa.row (k := 0) (by omega) hrw; have hba := hIa.c0; have hlr : ((rowT (L.take k) 0 x).map vN).length ≤ 1000 := by have := rowT_len (L.take k) 0 x; rw [List.length_map]; rw [List.length_take] at this; omega
   have hltB := hIa.lt.1; have hltG := hIa.lt.2 0 (by omega); have hltG' := hIa.lt.2 (1 - 0) (by omega); have HIa := Lib.hid hIa; have Hu := Lib.hid hu; have Hrw := Lib.hid hrw; clear hIa hu hrw; refine regionT (fun w' => w'.cell? ⟨B, 0, none⟩ = some (.slice (some ⟨G 0, 0, none⟩) m m) ∧ w'.cell? ⟨G 0, x, none⟩ = some u) 11 (by kernel_rfl) ?_; have hS : wq.drew.cell? ⟨B, 0, none⟩ = some (.slice (some ⟨G 0, 0, none⟩) m m) ∧ wq.drew.cell? ⟨G 0, x, none⟩ = some u := ⟨hba, hcu⟩
   refine tkT 0 ?_ rfl hS ?_ ?_ (by kernel_rfl) (fun _ _ _ h => h) (by rfl); rotate_left; (· intro wS hSw; (try dsimp only at hSw); go_simp; try with_reducible rfl); simp only [Act.put, zT]; refine tkT 1 ?_ rfl hS ?_ ?_ (by kernel_rfl) (fun _ _ _ h => h) (by rfl); rotate_left; (· intro wS hSw; (try dsimp only at hSw); go_simp; try with_reducible rfl); simp only [Act.put, zT]; refine tkT 2 ?_ rfl hS ?_ ?_ (by kernel_rfl) (fun _ _ _ h => h) (by rfl); rotate_left; (· intro wS hSw; (try dsimp only at hSw); go_simp; try with_reducible rfl); simp only [Act.put, zT]; refine tkT 3 ?_ rfl hS ?_ ?_ (by kernel_rfl) (fun _ _ _ h => h) (by rfl); rotate_left; (· intro wS hSw; (try dsimp only at hSw); go_simp; try with_reducible rfl); simp only [Act.put, zT]; refine tkT 4 ?_ rfl hS ?_ ?_ (by kernel_rfl) (fun _ _ _ h => h) (by rfl); rotate_left; (· intro wS hSw; (try dsimp only at hSw); go_simp; try with_reducible rfl); simp only [Act.put, zT]; refine tkT 5 ?_ rfl hS ?_ ?_ (by kernel_rfl) (fun _ _ _ h => h) (by rfl); rotate_left; (· intro wS hSw; (try dsimp only at hSw); go_simp; try with_reducible rfl); simp only [Act.put, zT]; refine tkT 6 ?_ rfl hS ?_ ?_ (by kernel_rfl) (fun _ _ _ h => h) (by rfl); rotate_left; (· intro wS hSw; (try dsimp only at hSw); go_simp; try with_reducible rfl); simp only [Act.put, zT]; refine tkT 7 ?_ rfl hS ?_ ?_ (by kernel_rfl) (fun _ _ _ h => h) (by rfl); rotate_left; (· intro wS hSw; (try dsimp only at hSw); go_simp; try with_reducible rfl); simp only [Act.put, zT]
   refine tkT 8 ?_ rfl hS ?_ ?_ (by kernel_rfl) (fun _ _ _ h => h) (by rfl); rotate_left; (· intro wS hSw; (try dsimp only at hSw); go_simp; try with_reducible rfl); simp only [Act.put, zT]; refine oneT (i := 9) rfl (by kernel_rfl) (fun K hK => ?_); go_simp; have bW : Below wq.heap.size wq (wq.alloc (.cells #[.int .i64 (y : Nat)] 3)).drew := (bl_alloc _ _).drew; refine hK _ _ (fun _ => ⟨keep_cell bW hba, keep_cell bW hcu⟩) ?_; clear hK K; refine oneT (i := 10) rfl (by kernel_rfl) (fun K hK => ?_); refine step_append_row rfl (.tmp 83) (.tmp 85) 25 rfl 3 (.int .i64 0) 1 8 Tryz.underlying25 int_info rfl u _ _ (by simp [Act.eval]) (hown.drew.alloc _) ⟨wq.heap.size, 0, none⟩ 1 1 [.int .i64 (y : Nat)] (by simp [Act.eval]) rfl (one_new (by simp)) (one_ok _ _) (by omega) (by unfold maxLen; omega) (by omega) ?_; intro g' cap' w2 hrow2 hcap2 hgr2 hor2; have r0 := grown_cell hgr2 (keep_cell bW hba) hu0; have r1 := grown_cell hgr2 (keep_cell bW hcu) hu1; have r3 := grown_frozen hgr2 (by simp; omega) ((bW.frozen (p := ⟨G 0, x, none⟩) hltG).trans hfu) hu1; refine hK _ _ (fun _ => ⟨r0, r1⟩) ?_; clear hK K; refine oneT (i := 11) rfl (by kernel_rfl) (fun K hK => ?_); go_simp; refine hK _ _ (fun h => absurd h (by omega)) ?_; clear hK K; refine oneT (i := 12) rfl (by kernel_rfl) (fun K hK => ?_); go_simp; refine hK _ _ (fun h => absurd h (by omega)) ?_; clear hK K; refine doneT (by kernel_rfl) ?_ _; have hst := (HIa.out.below bW).push (k := 0) (by omega) Hu.out Hrw.out hrow2 hgr2 hor2; rw [show (((rowT (L.take k) 0 x).map vN) ++ [Value.int .i64 (y : Nat)]).length = (rowT (L.take k) 0 x).length + 1 by simp] at hst
   have hst1 : BoxI w0 m c B G _ (fun j => rowsT (if j = 0 then L.take (k + 1) else L.take k) j (ndT m c j)) _ := hst.congr (R' := fun j => rowsT (if j = 0 then L.take (k + 1) else L.take k) j (ndT m c j)) fun j hj => by
    by_cases e : j = 0
    ·
     subst e; simp only [if_true, Htk.out, rowsT_snoc, ndT, List.map_append]; rfl
    · simp only [if_neg e]
   have bs := hst1.bel; have Hst1 := Lib.hid hst1; obtain ⟨vals1, hv1⟩ : ∃ v, v = (fun j => if j = 0 then (vals 0).set x (.slice (some ⟨g', 0, none⟩) ((rowT (L.take k) 0 x).length + 1) cap') else vals j) := ⟨_, rfl⟩
   rw [← hv1] at Hst1; generalize w2.setCell ⟨G 0, x, none⟩ (.slice (some ⟨g', 0, none⟩) ((rowT (L.take k) 0 x).length + 1) cap') = ws at *
   clear hst hst1 hv1 HIa Hu Hrw hcu hown hu0 hu1 hu2 hfu hba hS r0 r1 r3 hgr2 hor2 hrow2 hcap2 bW hlr hltB hltG hltG'; go_wp2_with fail; have hIb := Hst1.out; have hrw : ((fun j => rowsT (if j = 0 then L.take (k + 1) else L.take k) j (ndT m c j)) 1)[y]? = some ((rowT (L.take k) 1 y).map vN) := rowsT_get hyc; obtain ⟨u, hu, hcu, hown, hu0, hu1, hu2, hfu⟩ := hIb.row (k := 1) (by omega) hrw; have hbb := hIb.c1; have hlr : ((rowT (L.take k) 1 y).map vN).length ≤ 1000 := by have := rowT_len (L.take k) 1 y; rw [List.length_map]; rw [List.length_take] at this; omega
   have hltB := hIb.lt.1; have hltG := hIb.lt.2 1 (by omega); have hltG' := hIb.lt.2 (1 - 1) (by omega); have HIb := Lib.hid hIb; have Hu := Lib.hid hu; have Hrw := Lib.hid hrw; clear hIb hu hrw; refine regionT (fun w' => w'.cell? ⟨B, 1, none⟩ = some (.slice (some ⟨G 1, 0, none⟩) c c) ∧ w'.cell? ⟨G 1, y, none⟩ = some u) 11 (by kernel_rfl) ?_; have hS : ws.drew.cell? ⟨B, 1, none⟩ = some (.slice (some ⟨G 1, 0, none⟩) c c) ∧ ws.drew.cell? ⟨G 1, y, none⟩ = some u := ⟨hbb, hcu⟩
   refine tkT 0 ?_ rfl hS ?_ ?_ (by kernel_rfl) (fun _ _ _ h => h) (by rfl); rotate_left; (· intro wS hSw; (try dsimp only at hSw); go_simp; try with_reducible rfl); simp only [Act.put, zT]; refine tkT 1 ?_ rfl hS ?_ ?_ (by kernel_rfl) (fun _ _ _ h => h) (by rfl); rotate_left; (· intro wS hSw; (try dsimp only at hSw); go_simp; try with_reducible rfl); simp only [Act.put, zT]; refine tkT 2 ?_ rfl hS ?_ ?_ (by kernel_rfl) (fun _ _ _ h => h) (by rfl); rotate_left; (· intro wS hSw; (try dsimp only at hSw); go_simp; try with_reducible rfl); simp only [Act.put, zT]; refine tkT 3 ?_ rfl hS ?_ ?_ (by kernel_rfl) (fun _ _ _ h => h) (by rfl); rotate_left; (· intro wS hSw; (try dsimp only at hSw); go_simp; try with_reducible rfl); simp only [Act.put, zT]; refine tkT 4 ?_ rfl hS ?_ ?_ (by kernel_rfl) (fun _ _ _ h => h) (by rfl); rotate_left; (· intro wS hSw; (try dsimp only at hSw); go_simp; try with_reducible rfl); simp only [Act.put, zT]; refine tkT 5 ?_ rfl hS ?_ ?_ (by kernel_rfl) (fun _ _ _ h => h) (by rfl); rotate_left; (· intro wS hSw; (try dsimp only at hSw); go_simp; try with_reducible rfl); simp only [Act.put, zT]; refine tkT 6 ?_ rfl hS ?_ ?_ (by kernel_rfl) (fun _ _ _ h => h) (by rfl); rotate_left; (· intro wS hSw; (try dsimp only at hSw); go_simp; try with_reducible rfl); simp only [Act.put, zT]; refine tkT 7 ?_ rfl hS ?_ ?_ (by kernel_rfl) (fun _ _ _ h => h) (by rfl); rotate_left; (· intro wS hSw; (try dsimp only at hSw); go_simp; try with_reducible rfl); simp only [Act.put, zT]
   refine tkT 8 ?_ rfl hS ?_ ?_ (by kernel_rfl) (fun _ _ _ h => h) (by rfl); rotate_left; (· intro wS hSw; (try dsimp only at hSw); go_simp; try with_reducible rfl); simp only [Act.put, zT]; refine oneT (i := 9) rfl (by kernel_rfl) (fun K hK => ?_); go_simp; have bW : Below ws.heap.size ws (ws.alloc (.cells #[.int .i64 (x : Nat)] 3)).drew := (bl_alloc _ _).drew; refine hK _ _ (fun _ => ⟨keep_cell bW hbb, keep_cell bW hcu⟩) ?_; clear hK K; refine oneT (i := 10) rfl (by kernel_rfl) (fun K hK => ?_); refine step_append_row rfl (.tmp 95) (.tmp 97) 25 rfl 3 (.int .i64 0) 1 8 Tryz.underlying25 int_info rfl u _ _ (by simp [Act.eval]) (hown.drew.alloc _) ⟨ws.heap.size, 0, none⟩ 1 1 [.int .i64 (x : Nat)] (by simp [Act.eval]) rfl (one_new (by simp)) (one_ok _ _) (by omega) (by unfold maxLen; omega) (by omega) ?_; intro g' cap' w2 hrow2 hcap2 hgr2 hor2; have r0 := grown_cell hgr2 (keep_cell bW hbb) hu0; have r1 := grown_cell hgr2 (keep_cell bW hcu) hu2; have r3 := grown_frozen hgr2 (by simp; omega) ((bW.frozen (p := ⟨G 1, y, none⟩) hltG).trans hfu) hu2; refine hK _ _ (fun _ => ⟨r0, r1⟩) ?_; clear hK K; refine oneT (i := 11) rfl (by kernel_rfl) (fun K hK => ?_); go_simp; refine hK _ _ (fun h => absurd h (by omega)) ?_; clear hK K; refine oneT (i := 12) rfl (by kernel_rfl) (fun K hK => ?_); go_simp; refine hK _ _ (fun h => absurd h (by omega)) ?_; clear hK K; refine doneT (by kernel_rfl) ?_ _; have hst := (HIb.out.below bW).push (k := 1) (by omega) Hu.out Hrw.out hrow2 hgr2 hor2; rw [show (((rowT (L.take k) 1 y).map vN) ++ [Value.int .i64 (x : Nat)]).length = (rowT (L.take k) 1 y).length + 1 by simp] at hst
   have hst2 : BoxI w0 m c B G _ (fun j => rowsT (L.take (k + 1)) j (ndT m c j)) _ := hst.congr (R' := fun j => rowsT (L.take (k + 1)) j (ndT m c j)) fun j hj => by
    by_cases e : j = 1
    ·
     subst e; simp only [if_true, Htk.out, rowsT_snoc, ndT, List.map_append]; rfl
    ·
     have : j = 0 := by omega
     subst this; simp
   have Hst2 := Lib.hid hst2; clear hst hst2 HIb Hu Hrw hcu hown hu0 hu1 hu2 hfu hbb hS r0 r1 r3 hgr2 hor2 hrow2 hcap2 bW hlr hltB hltG hltG'; go_wp2_with fail; go_roundg (gk - 1)
   case measure => have := Hk.out; omega
   case rel => exact ⟨k + 1, _, by have := Hk.out; omega, by go_num, Hst2.out⟩
  ·
   have hkn : k = L.length := by omega
   subst hkn; rw [List.take_length] at hI; obtain ⟨w1, rfl⟩ : ∃ w1 : World, w1 = wr := ⟨_, rfl⟩
   have hlt1 := World.block_lt_of_cell? w1 _ z1c; have hb1 := fun w => run_make_row' (P := Tryz.prog) 88 4 (.bool false) 1 Tryz.underlying88 bool_info rfl .i64 .i64 m (by omega) (by omega) w; have hb2 := fun w => run_make_row' (P := Tryz.prog) 88 4 (.bool false) 1 Tryz.underlying88 bool_info rfl .i64 .i64 c (by omega) (by omega) w; have HI := Lib.hid hI; clear hI Hr hk; go_upto_region 14 with (fail)
   go_cut [10] from 101 to 109 (fun p wx => MetT w1 m c p wx)
   case first =>
    have hml : m ≤ maxLen := by unfold maxLen; omega
    have hcl : c ≤ maxLen := by unfold maxLen; omega
    go_region
    ·
     go_wp2_with fail; go_meet
     exact metT_start (row3a w1 m _ _ _ hml) (row3b w1 c _ _ _ hcl) (cel3c w1 _ _ _ _ _) ⟨by omega, by omega, by omega, by omega, by omega, by omega⟩ (bel3 w1 _ _ _)
    ·
     go_wp2_with fail; go_meet
     exact metT_start (row3a w1 m _ _ _ hml) (row3c w1 c _ _ _ hcl) (cel3b w1 _ _ _ _ _) ⟨by omega, by omega, by omega, by omega, by omega, by omega⟩ (bel3 w1 _ _ _)
    ·
     go_wp2_with fail; go_meet
     exact metT_start (row3b w1 m _ _ _ hml) (row3a w1 c _ _ _ hcl) (cel3c w1 _ _ _ _ _) ⟨by omega, by omega, by omega, by omega, by omega, by omega⟩ (bel3 w1 _ _ _)
    ·
     go_wp2_with fail; go_meet
     exact metT_start (row3c w1 m _ _ _ hml) (row3a w1 c _ _ _ hcl) (cel3b w1 _ _ _ _ _) ⟨by omega, by omega, by omega, by omega, by omega, by omega⟩ (bel3 w1 _ _ _)
    ·
     go_wp2_with fail; go_meet
     exact metT_start (row3b w1 m _ _ _ hml) (row3c w1 c _ _ _ hcl) (cel3a w1 _ _ _ _ _) ⟨by omega, by omega, by omega, by omega, by omega, by omega⟩ (bel3 w1 _ _ _)
    ·
     go_wp2_with fail; go_meet
     exact metT_start (row3c w1 m _ _ _ hml) (row3b w1 c _ _ _ hcl) (cel3a w1 _ _ _ _ _) ⟨by omega, by omega, by omega, by omega, by omega, by omega⟩ (bel3 w1 _ _ _)
   case rest =>
   obtain ⟨M, P, rfl, hM, hMM, hMP, hbM⟩ := hcut; have hI := HI.out.below hbM; have z1d := keep_cell hbM z1c; obtain ⟨w2, rfl⟩ : ∃ w2 : World, w2 = wc := ⟨_, rfl⟩
   have hM2 := hM.below (bl_alloc w2 (.cells #[.int .i64 0, .int .i64 0] 171)); have hM3 := (hM2.set (k := 0) (by omega) 0).below (bl_alloc _ (.cells #[.int .i64 0, .int .i64 0] 171)); have z1e := keep_cell (bl_alloc w2 (.cells #[.int .i64 0, .int .i64 0] 171)) z1d; have hlt2 := World.block_lt_of_cell? w2 _ z1d; have hmz : ((m : Int) == 0) = false := by rw [beq_eq_false_iff_ne]; omega
   have hm0 : (0 : Int) < (m : Int) := by omega
   obtain ⟨p0, p0f⟩ := hM2.cell (k := 0) (v := 0) (by omega) hm; have q0 := hM2.c0; have hMl := hM.lt.1; have hPl := hM.lt.2 0 (by omega); have hPl1 := hM.lt.2 1 (by omega); have hMb := hM.box 0 (by omega); have n0 : (w2.alloc (.cells #[.int .i64 0, .int .i64 0] 171)).cell? ⟨w2.heap.size, 0, none⟩ = some (.int .i64 0) := by simp
   have n1 : (w2.alloc (.cells #[.int .i64 0, .int .i64 0] 171)).cell? ⟨w2.heap.size, 1, none⟩ = some (.int .i64 0) := by simp
   have HI2 := Lib.hid hI; have HM2 := Lib.hid hM2; have HM3 := Lib.hid hM3; have HbM := Lib.hid hbM; clear hI hM2 hM3 hM hbM hb1 hb2; go_upto_region 16 with (fail)
   generalize hw3 : w2.alloc (.cells #[.int .i64 0, .int .i64 0] 171) = w3 at *
   have hs3 : w3.heap.size = w2.heap.size + 1 := by rw [← hw3]; simp
   have hb3 : Below w2.heap.size w2 w3 := by rw [← hw3]; exact bl_alloc _ _
   have hrn := row_new (w3.setCell ⟨P 0, 0, none⟩ (.bool true)) #[.int .i64 0, .int .i64 0] 171 2 1 rfl (by unfold maxLen; omega); have hbl : Below w1.heap.size w1 ((w3.setCell ⟨P 0, 0, none⟩ (.bool true)).alloc (.cells #[.int .i64 0, .int .i64 0] 171)) :=
    ((bl_trans HbM.out hb3).setCell (p := ⟨P 0, 0, none⟩) (hMP 0 (by omega)) _).alloc (by have := HbM.out.size; simp; omega) _
   have Hrn := Lib.hid hrn; have Hbl := Lib.hid hbl; have Hw3 := Lib.hid hw3; clear hrn hbl hb3 hw3; go_wp2_with fail; go_loopg [12, 13] (m + c) (fun r sv iv wj => ∃ (k g cp : Nat) (S : List (Nat × Nat)), k + r = m + c ∧ iv = .int .i64 (k : Nat) ∧ sv = .slice (some ⟨g, 0, none⟩) S.length cp ∧ Row wj g 171 2 cp (pairCells (nodeP S)) ∧ S.length ≤ cp ∧ ReT L m c S k ∧ w2.heap.size < g ∧ MetI m c M P S wj ∧ Below w1.heap.size w1 wj)
   case atStart => exact ⟨0, w3.heap.size, 1, [(0, 0)], by omega, rfl, by simp, by simpa [pairCells, nodeP] using Hrn.out, by simp, ReT.start hm, by omega, HM3.out, Hbl.out⟩
   case round =>
    clear Hrn HM3 HM2 HI2 Hbl HbM p0 p0f q0 n0 n1 z1e z1d; obtain ⟨k, g, cp, S, hk, rfl, rfl, hrg, hcp, hR, hg, hM, hB⟩ := hrel; have hI := HI.out.below hB; by_cases hkS : k < S.length
    ·
     obtain ⟨kd, v, hkv⟩ : ∃ kd v, S[k] = (kd, v) := ⟨_, _, rfl⟩
     obtain ⟨hd2, hv2⟩ := hR.ok _ (List.getElem_mem hkS); rw [hkv] at hd2 hv2; simp only at hd2 hv2; have hrw : (rowsT L kd (ndT m c kd))[v]? = some ((rowT L kd v).map vN) := rowsT_get hv2; obtain ⟨u, hu, hcu, hown, -, -, -, -⟩ := hI.row (k := kd) hd2 hrw; obtain ⟨au, cu, rfl, hau⟩ := own_cells hown; have hxn := hrg.cell? (k * 2) (by rw [pairCells_length, nodeP_len]; omega); have hyn := hrg.cell? (k * 2 + 1) (by rw [pairCells_length, nodeP_len]; omega); obtain ⟨g1, g2⟩ := pairCells_get (nodeP S) k (by rw [nodeP_len]; exact hkS); rw [g1] at hxn; rw [g2] at hyn; simp only [nodeP, List.getElem_map, hkv] at hxn hyn; have i1 : (k : Int) < (S.length : Int) := by omega
     have bx := hI.box hd2; have hbb := bl_alloc wr (.cells #[.int .i64 kd, .int .i64 v] 171); have d0 : (wr.alloc (.cells #[.int .i64 kd, .int .i64 v] 171)).cell? ⟨wr.heap.size, 0, none⟩ = some (.int .i64 kd) := by simp
     have d1 : (wr.alloc (.cells #[.int .i64 kd, .int .i64 v] 171)).cell? ⟨wr.heap.size, 1, none⟩ = some (.int .i64 v) := by simp
     have bx2 := keep_cell hbb bx; have hcu2 := keep_cell hbb hcu; have i2 : (kd : Int) < 2 := by omega
     have i3 : (v : Int) < (ndT m c kd : Nat) := by omega
     have hrl : ((rowT L kd v).map vN).length = (rowT L kd v).length := by simp
     rw [hrl] at hcu2; have HR := Lib.hid hR; have Hrg := Lib.hid hrg; have HM := Lib.hid hM; have HB := Lib.hid hB; have Hau := Lib.hid hau; have Hbb := Lib.hid hbb; have Hu := Lib.hid hu; have Hrw := Lib.hid hrw; clear hR hrg hM hB hau hbb hu hrw hI hown hcu bx g1 g2; go_upto_region 24 with (fail)
     generalize wr.alloc (.cells #[.int .i64 kd, .int .i64 v] 171) = wb at *
     go_quiet (fail)
     go_wp2_with fail; obtain ⟨wo, rfl⟩ : ∃ wo : World, wo = wr := ⟨_, rfl⟩
     have hgo := Hrg.out.lt; have hwo2 : w2.heap.size < wo.heap.size := by omega
     have hwo := World.block_lt_of_cell? wb _ d0; have hgv : S[k]? = some (kd, v) := by rw [List.getElem?_eq_getElem hkS, hkv]
     have Hgv := Lib.hid hgv; have Hkv := Lib.hid hkv; have Hhk := Lib.hid hk; clear hgv hkv hk hxn hyn bx2 hcu2 d1; go_loopg [12, 142] (rowT L kd v).length (fun r sv iv wj => ∃ (j g cp : Nat) (S' : List (Nat × Nat)), j + r = (rowT L kd v).length ∧ iv = .int .i64 (j : Nat) ∧ sv = .slice (some ⟨g, 0, none⟩) S'.length cp ∧ Row wj g 171 2 cp (pairCells (nodeP S')) ∧ S'.length ≤ cp ∧ ReT L m c S' k ∧ S'[k]? = some (kd, v) ∧ (∀ i, i < j → ∀ x, (rowT L kd v)[i]? = some x → (1 - kd, x) ∈ S') ∧ w2.heap.size < g ∧ g ≠ wo.heap.size ∧ wj.cell? ⟨wo.heap.size, 0, none⟩ = some (.int .i64 kd) ∧ MetI m c M P S' wj ∧ Below w1.heap.size w1 wj)
     case atStart => exact ⟨0, g, cp, S, by omega, rfl, rfl, (Hrg.out.below Hbb.out hgo).drewN nq, hcp, HR.out, Hgv.out, fun i hi => by omega, hg, by omega, d0, (HM.out.below Hbb.out).drewN nq, below_drewN (bl_trans HB.out Hbb.out) nq⟩
     case round =>
      clear Hrg HM HB HR d0 hcp hg Hau i1; obtain ⟨j, g, cp, S', hj, rfl, rfl, hrg, hcp, hR, hgv, hdn, hg, hgo2, d0, hM, hB⟩ := hrel; have hI := HI.out.below hB; obtain ⟨au', cu', he, hcells⟩ := own_cells ((hI.tab.own kd hd2).own v _ _ Hu.out Hrw.out); by_cases hjl : j < (rowT L kd v).length
      ·
       cases he; obtain ⟨x, hx⟩ : ∃ x, (rowT L kd v)[j]? = some x := ⟨_, List.getElem?_eq_getElem hjl⟩
       have hxv := rowT_lt (m := m) (c := c) hL hd2 (List.mem_of_getElem? hx); obtain ⟨b4, o4, rfl, hcx⟩ := hcells j (vN x) (by rw [List.getElem?_map, hx]; rfl); replace hcx : wr.cell? ⟨b4, o4 + j, none⟩ = some (.int .i64 (x : Nat)) := hcx; obtain ⟨q, hq⟩ : ∃ q, q = 1 - kd := ⟨_, rfl⟩
       have hrl1 := rowT_len L kd v; have e1 : (1 : Int) - (kd : Int) = (q : Int) := by omega
       have hq2 : q < 2 := by omega
       rw [← hq] at hxv; have hxq := hxv.1; obtain ⟨hmc, hmf⟩ := hM.cell (k := q) hq2 hxq; have mbx : wr.cell? ⟨M, q, none⟩ = some (.slice (some ⟨P q, 0, none⟩) (ndT m c q) (ndT m c q)) := by
        rcases (by omega : q = 0 ∨ q = 1) with rfl | rfl
        · exact hM.c0
        · exact hM.c1
       have i4 : (j : Int) < ((rowT L kd v).length : Int) := by omega
       have i5 : (x : Int) < (ndT m c q : Nat) := by omega
       have i6 : (q : Int) < 2 := by omega
       have hPq : P q < w2.heap.size ∧ w1.heap.size ≤ P q := by
        refine ⟨?_, hMP q hq2⟩; rcases (by omega : q = 0 ∨ q = 1) with rfl | rfl
        · exact hPl
        · exact hPl1
       have hne4 : ∀ k, k < 2 → P k < w2.heap.size := fun k hk => by
        rcases (by omega : k = 0 ∨ k = 1) with rfl | rfl
        · exact hPl
        · exact hPl1
       have hSl := hR.len; have hdn2 : ∀ i, i < j + 1 → ∀ y, (rowT L kd v)[i]? = some y → y ≠ x → (1 - kd, y) ∈ S' := fun i hi y hy hyx => by
        by_cases e : i = j
        · subst e; rw [hx] at hy; cases hy; exact absurd rfl hyx
        · exact hdn i (by omega) y hy
       have Hj := Lib.hid hj; have Hrg := Lib.hid hrg; have HM := Lib.hid hM; have HB := Lib.hid hB; have HR := Lib.hid hR; have Hgv := Lib.hid hgv; have Hdn := Lib.hid hdn2; have Hne := Lib.hid hne4; have Hq := Lib.hid hq; have Hxv := Lib.hid hxv; clear hj hrg hM hB hR hgv hdn hdn2 hI hcells hx hxv hq hne4; by_cases hin : (q, x) ∈ S'
       ·
        rw [decide_eq_true hin] at hmc; have Hin := Lib.hid hin; clear hin; go_wp2_with fail; go_roundg (gk - 1)
        case measure => have := Hj.out; omega
        case rel => exact ⟨j + 1, g, cp, S', by have := Hj.out; omega, by go_num, rfl, Hrg.out, hcp, HR.out, Hgv.out, fun i hi y hy => by
         by_cases e : y = x
         · subst e; rw [← Hq.out]; exact Hin.out
         · exact Hdn.out i hi y hy e, hg, hgo2, d0, HM.out, HB.out⟩
       ·
        rw [decide_eq_false hin] at hmc; have Hin := Lib.hid hin; clear hin; have hM1 := HM.out.set hq2 x; have hrg1 : Row (wr.setCell ⟨P q, x, none⟩ (.bool true)) g 171 2 cp (pairCells (nodeP S')) := Hrg.out.other (a := ⟨P q, x, none⟩) (by simp only; omega) _; have hB1 := HB.out.setCell (p := ⟨P q, x, none⟩) hPq.2 (.bool true); have d01 : (wr.setCell ⟨P q, x, none⟩ (.bool true)).cell? ⟨wo.heap.size, 0, none⟩ = some (.int .i64 kd) := (World.cell?_setCell_far _ _ _ _ (by simp; omega)).trans d0; have HM1 := Lib.hid hM1; have Hrg1 := Lib.hid hrg1; have HB1 := Lib.hid hB1; clear hM1 hrg1 hB1; go_upto_region 29 with (fail)
        clear d0 hmc hmf mbx hcx; generalize wr.setCell ⟨P q, x, none⟩ (.bool true) = ws at *
        have hgs := Hrg1.out.lt; have hwos := World.block_lt_of_cell? ws _ d01; have hrx := Hrg1.out.alloc (.cells #[.int .i64 (q : Nat), .int .i64 (x : Nat)] 171); have hMx := HM1.out.below (bl_alloc ws (.cells #[.int .i64 (q : Nat), .int .i64 (x : Nat)] 171)); have hBx := bl_trans HB1.out (bl_alloc ws (.cells #[.int .i64 (q : Nat), .int .i64 (x : Nat)] 171)); have d0x := keep_cell (bl_alloc ws (.cells #[.int .i64 (q : Nat), .int .i64 (x : Nat)] 171)) d01; have Hrx := Lib.hid hrx; have HMx := Lib.hid hMx; have HBx := Lib.hid hBx; have Hd0x := Lib.hid d0x; clear hrx hMx hBx d0x Hrg1 HM1 HB1; have hnl : (pairCells (nodeP S')).length = S'.length * 2 := by rw [pairCells_length, nodeP_len]
        go_wp2_with (at_builtin; go_loud (refine wpList_append_row _ rfl (.tmp 162) (.tmp 168) 169 rfl 171 (.agg #[.int .i64 0, .int .i64 0]) 2 16 Tryz.underlying169 node_info rfl (.slice (some ⟨g, 0, none⟩) S'.length cp) S'.length _ rfl (Hrx.out.own hnl hcp) ⟨ws.heap.size, 0, none⟩ 1 1 [.int .i64 (q : Nat), .int .i64 (x : Nat)] rfl rfl (news_lit ws _ [_, _]) (by intro u hu; simp at hu; rcases hu with rfl | rfl <;> rfl) (by omega) (by unfold maxLen; omega) (by omega) ?_; intro g3 c3 w3 hr3 hc3 hg3 hor3)); have hg3' : w2.heap.size < g3 ∧ g3 ≠ wo.heap.size := by
         rcases hor3 with h | h
         · cases h; exact ⟨hg, hgo2⟩
         · simp at h; omega
        have hM4 := HMx.out.grown hg3 (by simp [Value.ownBlock]; omega) (fun k hk => by simp [Value.ownBlock]; have := Hne.out k hk; omega); have hB4 := HBx.out.grown hg3 (by have := HBx.out.size; exact this) (fun j hj => by cases hj; show w1.heap.size ≤ g; omega); have d04 := grown_cell hg3 Hd0x.out (by simp [Value.ownBlock]; omega); have hnp : nodeP (S' ++ [(q, x)]) = nodeP S' ++ [((q : Int), (x : Int))] := by simp [nodeP]
        have hr4 : Row w3 g3 171 2 c3 (pairCells (nodeP (S' ++ [(q, x)]))) := by rw [hnp, pcells_append]; exact hr3
        have hR4 := HR.out.push hq2 hxq Hin.out; have hgv4 : (S' ++ [(q, x)])[k]? = some (kd, v) := by
         rw [List.getElem?_append_left (List.getElem?_eq_some_iff.1 Hgv.out).1]; exact Hgv.out
        have HM4 := Lib.hid hM4; have HB4 := Lib.hid hB4; have Hr4 := Lib.hid hr4; have HR4 := Lib.hid hR4; have Hgv4 := Lib.hid hgv4; clear hM4 hB4 hr4 hr3 hg3 hor3 hR4 hgv4 hnp; go_wp2_with fail; go_roundg (gk - 1)
        case measure => have := Hj.out; omega
        case rel => exact ⟨j + 1, g3, c3, S' ++ [(q, x)], by have := Hj.out; omega, by go_num, by simp, Hr4.out, by simpa using hc3, HR4.out, Hgv4.out, fun i hi y hy => by
         by_cases e : y = x
         · subst e; rw [← Hq.out]; simp
         · exact List.mem_append_left _ (Hdn.out i hi y hy e), hg3'.1, hg3'.2, d04, HM4.out, HB4.out⟩
      ·
       have hjn : j = (rowT L kd v).length := by omega
       subst hjn; have hne := hR.next hgv fun x hx => by
        obtain ⟨i, hi⟩ := List.mem_iff_getElem?.1 hx; exact hdn i (List.getElem?_eq_some_iff.1 hi).1 x hi
       have hRl := hne.len; have hle := hne.le; have Hrg := Lib.hid hrg; have HM := Lib.hid hM; have HB := Lib.hid hB; have Hne := Lib.hid hne; clear hrg hM hB hne hI hcells he hR hdn hgv hj; go_wp2_with fail; go_roundg (m + c - (k + 1))
       case measure => have := Hhk.out; omega
       case rel => exact ⟨k + 1, g, cp, S', by omega, by go_num, rfl, Hrg.out, hcp, Hne.out, hg, HM.out, HB.out⟩
    ·
     have hkn : k = S.length := by have := hR.le; omega
     subst hkn; have hSl := hR.all hh; have e0 := keep_cell hI.bel (Hzb.out 0 (by omega)); have e1 := keep_cell hI.bel (Hzb.out 1 (by omega)); have ef : ∀ i, wr.frozen? ⟨w.heap.size + 1, i, none⟩ = false := fun i => (hI.bel.frozen (p := ⟨w.heap.size + 1, i, none⟩) (by show w.heap.size + 1 < _; omega)).trans (Hzf.out i); have l0 := hI.c0; have l1 := hI.c1; have hq2 : ((S.length : Int) == (m : Int) + c) = true := by rw [beq_iff_eq]; omega
     have hBf : Below w.heap.size w wr := bl_trans Hbw0.out hI.bel; have HIe := Lib.hid hI; have HBf := Lib.hid hBf; clear hI hBf hM hB hR hrg; go_wp2_with fail; have hB3 := (HBf.out.setCell (p := ⟨w.heap.size + 1, 0, none⟩) (by show w.heap.size ≤ w.heap.size + 1; omega) (.slice (some ⟨G 0, 0, none⟩) m m)).setCell (p := ⟨w.heap.size + 1, 1, none⟩) (by show w.heap.size ≤ w.heap.size + 1; omega) (.slice (some ⟨G 1, 0, none⟩) c c); refine bodyPost_ret (v := .tuple #[.agg #[.slice (some ⟨G 0, 0, none⟩) m m, .slice (some ⟨G 1, 0, none⟩) c c], .bool true]) ?_ rfl ⟨G, _, rfl, HIe.out.tab.old (s := w0.heap.size) (fun k hk => (HIe.out.g k hk).2) (fun g hg => ?_), by have := (HIe.out.g 0 (by omega)).2; omega, by have := (HIe.out.g 1 (by omega)).2; omega, hB3⟩
     · simp [results, Tryz.results87, go_sem, e0, e1]
     · rw [Below.heap_setCell _ _ _ _ (by simp; omega), Below.heap_setCell _ _ _ _ (by simp; omega)]
end Go.Proofs.YtagjdkkfmfombaaGreat
namespace Go.Proofs.YtagjdkkfmfombaaGreat
theorem filter_ltK {α : Type} {l : List α} {p q : α → Bool} (h : ∀ x ∈ l, p x = true → q x = true) {y : α} (hy : y ∈ l) (h1 : q y = true) (h2 : p y = false) : (l.filter p).length < (l.filter q).length := by
 have e := filter_split l q p h
 have : 0 < (l.filter fun x => q x && !p x).length := List.length_pos_iff.2 (List.ne_nil_of_mem (List.mem_filter.2 ⟨hy, by simp [h1, h2]⟩))
 omega
theorem fibK {α : Type} (f : α → Nat) : ∀ (R : List Nat) (l : List α), R.Nodup → ((R.map fun r => (l.filter fun p => f p == r).length).sum) ≤ l.length
 | [], _, _ => by simp
 | r :: R, l, hn => by
  obtain ⟨h1, h2⟩ := List.nodup_cons.1 hn
  have ih := fibK f R (l.filter fun p => !(f p == r)) h2
  have e : (R.map fun r' => ((l.filter fun p => !(f p == r)).filter fun p => f p == r').length) = R.map fun r' => (l.filter fun p => f p == r').length := by
   refine List.map_congr_left fun r' hr' => ?_; congr 1; rw [List.filter_filter]; refine List.filter_congr fun p _ => ?_; by_cases e : f p = r'
   ·
    have : ¬ f p = r := fun e2 => h1 (e2 ▸ e ▸ hr'); simp [e]; rw [e] at this; exact this
   · simp [e]
  rw [e] at ih
  have h3 := filter_split l (fun _ => true) (fun p => f p == r) fun _ _ _ => rfl
  have e4 : (l.filter fun _ => true) = l := List.filter_eq_self.2 fun _ _ => rfl
  simp only [Bool.true_and] at h3
  rw [e4] at h3
  rw [List.map_cons, List.sum_cons]
  omega
def bsT (m : Nat) (L : List (Nat × Nat)) (x : Nat) : List Nat := if x < m then (rowT L 0 x).map (m + ·) else rowT L 1 (x - m)
theorem mem_bsT {m : Nat} {L : List (Nat × Nat)} {x y : Nat} (hL : ∀ p ∈ L, p.1 < m) : y ∈ bsT m L x ↔ ∃ p ∈ L, (x = p.1 ∧ y = m + p.2) ∨ (y = p.1 ∧ x = m + p.2) := by
 unfold bsT
 by_cases h : x < m
 ·
  rw [if_pos h, List.mem_map]
  constructor
  ·
   rintro ⟨u, hu, rfl⟩; rw [mem_rowT (by omega)] at hu; exact ⟨_, hu, .inl ⟨rfl, rfl⟩⟩
  ·
   rintro ⟨p, hp, ⟨rfl, rfl⟩ | ⟨-, e⟩⟩
   · exact ⟨p.2, (mem_rowT (by omega)).2 (by simpa using hp), rfl⟩
   · omega
 ·
  rw [if_neg h, mem_rowT (by omega)]
  constructor
  ·
   intro hp; exact ⟨_, hp, .inr ⟨rfl, by show x = m + (x - m); omega⟩⟩
  ·
   rintro ⟨p, hp, ⟨rfl, -⟩ | ⟨rfl, rfl⟩⟩
   · exact absurd (hL p hp) h
   · rw [if_neg (by omega), show m + p.2 - m = p.2 by omega]; exact hp
structure TreeT (m c : Nat) (L : List (Nat × Nat)) : Prop where
 pos : 0 < m
 lt : ∀ p ∈ L, p.1 < m ∧ p.2 < c
 nd : L.Nodup
 len : L.length + 1 = m + c
 hang : HangT L m c
def liveL (m : Nat) (G : Nat → Bool) (p : Nat × Nat) : Bool := !G p.1 && !G (m + p.2)
namespace TreeT
variable {m c : Nat} {L : List (Nat × Nat)}
theorem all (h : TreeT m c L) {Z : Nat → Prop} (hZ : ∀ p ∈ L, (Z p.1 ↔ Z (m + p.2))) {x y : Nat} (hx : x < m + c) (hy : y < m + c) (hzx : Z x) : Z y := by
 have key : ∀ k v, k < 2 → v < ndT m c k → (Z (if k = 0 then v else m + v) ↔ Z 0) := fun k v hk hv => by
  refine h.hang (fun p => (Z (if p.1 = 0 then p.2 else m + p.2) ↔ Z 0)) (by simp) (fun d v u hz hd hv hu => ?_) k v hk hv
  rw [mem_rowT hd] at hu
  by_cases e : d = 0
  ·
   subst e; simp only [if_true] at hu hz; have := hZ _ hu; simp only at this; show (Z (if (1 - 0 : Nat) = 0 then u else m + u) ↔ Z 0); rw [if_neg (by omega), ← this]; exact hz
  ·
   have : d = 1 := by omega
   subst this; simp only [if_neg e] at hu hz; have := hZ _ hu; simp only at this; show (Z (if (1 - 1 : Nat) = 0 then u else m + u) ↔ Z 0); rw [if_pos (by omega), this]; exact hz
 have key2 : ∀ x, x < m + c → (Z x ↔ Z 0) := fun x hx => by
  by_cases e : x < m
  ·
   have := key 0 x (by omega) e; simpa using this
  ·
   have := key 1 (x - m) (by omega) (by show x - m < c; omega); rw [if_neg (by omega), show m + (x - m) = x by omega] at this; exact this
 exact (key2 y hy).2 ((key2 x hx).1 hzx)
theorem few (h : TreeT m c L) : ∀ (d : Nat) (G : Nat → Bool), m + c - leftN (m + c) G ≤ d → 0 < leftN (m + c) G → (L.filter (liveL m G)).length + 1 ≤ leftN (m + c) G := by
 have step : ∀ G : Nat → Bool, 0 < leftN (m + c) G → leftN (m + c) G < m + c → ∃ G', leftN (m + c) G' = leftN (m + c) G + 1 ∧ (L.filter (liveL m G)).length < (L.filter (liveL m G')).length := fun G h0 h1 => by
  obtain ⟨x, hx⟩ : ∃ x, x ∈ (List.range (m + c)).filter fun j => !G j := List.exists_mem_of_length_pos h0
  rw [List.mem_filter, List.mem_range] at hx
  have ⟨p, hp, hne⟩ : ∃ p, p ∈ L ∧ G p.1 ≠ G (m + p.2) := Classical.byContradiction fun hno => by
   have hZ : ∀ p ∈ L, (G p.1 = false ↔ G (m + p.2) = false) := fun p hp => by
    have : G p.1 = G (m + p.2) := Classical.byContradiction fun hn => hno ⟨p, hp, hn⟩; rw [this]
   have hall : ∀ y, y < m + c → G y = false := fun y hy => h.all (Z := fun y => G y = false) hZ hx.1 hy (by simpa using hx.2); have : leftN (m + c) G = m + c := by
    unfold leftN; rw [List.filter_eq_self.2 fun a ha => by rw [hall a (List.mem_range.1 ha)]; rfl, List.length_range]
   omega
  obtain ⟨hp1, hp2⟩ := h.lt p hp
  obtain ⟨y, hy, hGy, hyp⟩ : ∃ y, y < m + c ∧ G y = true ∧ ((y = p.1 ∧ G (m + p.2) = false) ∨ (y = m + p.2 ∧ G p.1 = false)) := by
   cases e1 : G p.1 with
   | true =>
    cases e2 : G (m + p.2) with
    | true => rw [e1, e2] at hne; exact absurd rfl hne
    | false => exact ⟨p.1, by omega, e1, .inl ⟨rfl, rfl⟩⟩
   | false =>
    cases e2 : G (m + p.2) with
    | false => rw [e1, e2] at hne; exact absurd rfl hne
    | true => exact ⟨m + p.2, by omega, e2, .inr ⟨rfl, rfl⟩⟩
  have hyl : ∀ z, liveL m G z = true → liveL m (fun j => G j && !(j == y)) z = true := fun z hz => by
   unfold liveL at hz ⊢; simp only [Bool.and_eq_true, Bool.not_eq_true'] at hz ⊢; rw [hz.1, hz.2]; simp
  refine ⟨fun j => G j && !(j == y), ?_, filter_ltK (fun z _ hz => hyl z hz) hp ?_ ?_⟩
  ·
   show ((List.range (m + c)).filter fun j => !(G j && !(j == y))).length = ((List.range (m + c)).filter fun j => !G j).length + 1; have e := filter_split (List.range (m + c)) (fun j => !(G j && !(j == y))) (fun j => !G j) fun z _ hz => by
    simp only [Bool.not_eq_true'] at hz ⊢; rw [hz]; simp
   have e1 : ((List.range (m + c)).filter fun x => (!(G x && !(x == y))) && !!G x).length = 1 := by
    have n1 := nodup_len_le (l := (List.range (m + c)).filter fun x => (!(G x && !(x == y))) && !!G x) (m := [y]) (List.nodup_range.sublist List.filter_sublist) fun z hz => by
     have := (List.mem_filter.1 hz).2; simp at this ⊢; rcases this with ⟨a, b⟩
     rw [b] at a; simpa using a
    have n2 : 0 < ((List.range (m + c)).filter fun x => (!(G x && !(x == y))) && !!G x).length := List.length_pos_iff.2 (List.ne_nil_of_mem (List.mem_filter.2 ⟨List.mem_range.2 hy, by simp [hGy]⟩)); simp only [List.length_cons, List.length_nil] at n1; omega
   omega
  ·
   unfold liveL; rcases hyp with ⟨rfl, h2⟩ | ⟨rfl, h2⟩ <;> simp [h2]
  ·
   unfold liveL; rcases hyp with ⟨rfl, h2⟩ | ⟨rfl, h2⟩ <;> simp [hGy]
 intro d
 induction d with
 | zero =>
  intro G hd h0
  have := List.length_filter_le (liveL m G) L
  have := h.len
  omega
 | succ d ih =>
  intro G hd h0
  by_cases hl : leftN (m + c) G < m + c
  ·
   obtain ⟨G', h1, h2⟩ := step G h0 hl; have := ih G' (by omega) (by omega); omega
  ·
   have := List.length_filter_le (liveL m G) L; have := h.len; omega
theorem fewer (h : TreeT m c L) {G : Nat → Bool} (h0 : 0 < leftN (m + c) G) : (L.filter (liveL m G)).length + 1 ≤ leftN (m + c) G := h.few _ G (Nat.le_refl _) h0
theorem left_two (m c : Nat) (G : Nat → Bool) : leftN (m + c) G = ((List.range m).filter fun j => !G j).length + ((List.range c).filter fun j => !G (m + j)).length := by
 unfold leftN
 rw [List.range_add, List.filter_append, List.length_append, List.filter_map, List.length_map]
 rfl
theorem leaf (h : TreeT m c L) (G : Nat → Bool) (hG : 0 < leftN (m + c) G) : ∃ j, j < m + c ∧ endB (bsT m L) G j = true := by
 refine Classical.byContradiction fun hno => ?_
 have hdeg : ∀ j, j < m + c → G j = false → 2 ≤ degG (bsT m L) G j := fun j hj hGj => by
  refine Classical.byContradiction fun hd => hno ⟨j, hj, ?_⟩
  unfold endB
  rw [hGj]
  simp; omega
 have hf := h.fewer hG
 rw [left_two] at hf
 have f0 := fibK (fun p : Nat × Nat => p.1) ((List.range m).filter fun j => !G j) (L.filter (liveL m G)) (List.nodup_range.sublist List.filter_sublist)
 have f1 := fibK (fun p : Nat × Nat => p.2) ((List.range c).filter fun j => !G (m + j)) (L.filter (liveL m G)) (List.nodup_range.sublist List.filter_sublist)
 have g0 := sum_twice (l := (List.range m).filter fun j => !G j) (f := fun r => ((L.filter (liveL m G)).filter fun p => p.1 == r).length) fun r hr => by
  rw [List.mem_filter, List.mem_range] at hr
  have hGr : G r = false := by simpa using hr.2
  have := hdeg r (by omega) hGr
  unfold degG bsT at this
  rw [if_pos hr.1] at this
  unfold rowT at this
  simp only [if_true, List.filter_map, List.length_map, List.filter_filter] at this
  rw [List.filter_filter]
  refine Nat.le_trans this (Nat.le_of_eq ?_)
  congr 1
  refine List.filter_congr fun p _ => ?_
  unfold liveL
  by_cases e : p.1 = r
  · simp [e, hGr]
  · simp [e]
 have g1 := sum_twice (l := (List.range c).filter fun j => !G (m + j)) (f := fun r => ((L.filter (liveL m G)).filter fun p => p.2 == r).length) fun r hr => by
  rw [List.mem_filter, List.mem_range] at hr
  have hGr : G (m + r) = false := by simpa using hr.2
  have := hdeg (m + r) (by omega) hGr
  unfold degG bsT at this
  rw [if_neg (by omega), show m + r - m = r by omega] at this
  unfold rowT at this
  simp only [Nat.one_ne_zero, if_false, List.filter_map, List.length_map, List.filter_filter] at this
  rw [List.filter_filter]
  refine Nat.le_trans this (Nat.le_of_eq ?_)
  congr 1
  refine List.filter_congr fun p _ => ?_
  unfold liveL
  by_cases e : p.2 = r
  · simp [e, hGr]
  · simp [e]
 omega
theorem treeG (h : TreeT m c L) : TreeG (bsT m L) (m + c) := by
 have hL : ∀ p ∈ L, p.1 < m := fun p hp => (h.lt p hp).1
 refine ⟨fun i => ?_, fun i j hj => ?_, fun i j hj => ?_, h.leaf⟩
 ·
  have key : ∀ k, (rowT L k i).Nodup ∧ (rowT L k (i - m)).Nodup := fun k => by
   have : ∀ x, (rowT L k x).Nodup := fun x => by
    unfold rowT; split
    ·
     refine nodup_map_on (h.nd.sublist List.filter_sublist) fun a ha b hb e => ?_; have h1 := (List.mem_filter.1 ha).2; have h2 := (List.mem_filter.1 hb).2; simp only [decide_eq_true_eq] at h1 h2; exact Prod.ext (h1.trans h2.symm) e
    ·
     refine nodup_map_on (h.nd.sublist List.filter_sublist) fun a ha b hb e => ?_; have h1 := (List.mem_filter.1 ha).2; have h2 := (List.mem_filter.1 hb).2; simp only [decide_eq_true_eq] at h1 h2; exact Prod.ext e (h1.trans h2.symm)
   exact ⟨this _, this _⟩
  unfold bsT
  split
  · exact nodup_map_on (key 0).1 fun a _ b _ e => by omega
  · exact (key 1).2
 ·
  obtain ⟨p, hp, ⟨-, rfl⟩ | ⟨rfl, -⟩⟩ := (mem_bsT hL).1 hj
  · have := h.lt p hp; omega
  · have := h.lt p hp; omega
 ·
  obtain ⟨p, hp, ⟨e1, e2⟩ | ⟨e1, e2⟩⟩ := (mem_bsT hL).1 hj
  · exact (mem_bsT hL).2 ⟨p, hp, .inr ⟨e1, e2⟩⟩
  · exact (mem_bsT hL).2 ⟨p, hp, .inl ⟨e1, e2⟩⟩
theorem kinds (h : TreeT m c L) {i j : Nat} (hj : j ∈ bsT m L i) : (i < m ∧ m ≤ j) ∨ (m ≤ i ∧ j < m) := by
 obtain ⟨p, hp, ⟨e1, e2⟩ | ⟨e1, e2⟩⟩ := (mem_bsT fun p hp => (h.lt p hp).1).1 hj
 · have := h.lt p hp; omega
 · have := h.lt p hp; omega
theorem irr (h : TreeT m c L) (i : Nat) : i ∉ bsT m L i := fun hj => by have := h.kinds hj; omega
theorem cons (h : TreeT m c L) {x y : Nat} (hx : x < m + c) (hy : y < m + c) : Con (bsT m L) (· < m + c) x y := by
 have hL : ∀ p ∈ L, p.1 < m := fun p hp => (h.lt p hp).1
 refine h.all (Z := fun y => Con (bsT m L) (· < m + c) x y) (fun p hp => ?_) hx hy (.refl hx)
 have := h.lt p hp
 constructor
 · intro hc; exact hc.step ((mem_bsT hL).2 ⟨p, hp, .inl ⟨rfl, rfl⟩⟩) (by show m + p.2 < m + c; omega)
 · intro hc; exact hc.step ((mem_bsT hL).2 ⟨p, hp, .inr ⟨rfl, rfl⟩⟩) (by show p.1 < m + c; omega)
def endT (m c : Nat) (L : List (Nat × Nat)) (j : Nat) : Prop := alv (bsT m L) (m + c) (m + c) j = false
def isCentre (m c : Nat) (L : List (Nat × Nat)) (j : Nat) : Prop := endT m c L j ∧ (m ≤ j → ∀ i, i < m → ¬ endT m c L i)
theorem end_chain (h : TreeT m c L) : ChainG (bsT m L) (m + c) (alv (bsT m L) (m + c) (m + c)) :=
 chain h.treeG h.irr (by have := h.pos; omega) (fun _ _ hx hy => h.cons hx hy) _
theorem end_lt (h : TreeT m c L) {j : Nat} (hj : endT m c L j) : j < m + c := h.end_chain.good.lt j hj
theorem end_two (h : TreeT m c L) : leftN (m + c) (alv (bsT m L) (m + c) (m + c)) ≤ 2 := by
 have := left_end h.treeG (m + c)
 have := h.pos
 have := h.end_chain.pos
 omega
theorem end_beside (h : TreeT m c L) {v w : Nat} (hv : endT m c L v) (hw : endT m c L w) (hne : v ≠ w) : w ∈ bsT m L v := by
 have hg := h.end_chain.good
 have h2 := h.end_two
 have only : ∀ z, endT m c L z → z = v ∨ z = w := fun z hz => Classical.byContradiction fun hno => by
  have hz2 : z ≠ v ∧ z ≠ w := ⟨fun e => hno (.inl e), fun e => hno (.inr e)⟩
  have mm : ∀ x, endT m c L x → x ∈ (List.range (m + c)).filter fun j => !alv (bsT m L) (m + c) (m + c) j := fun x hx => List.mem_filter.2 ⟨List.mem_range.2 (h.end_lt hx), by unfold endT at hx; simp [hx]⟩
  have := nodup_len_le (l := [z, v, w]) (m := (List.range (m + c)).filter fun j => !alv (bsT m L) (m + c) (m + c) j) (by simp; exact ⟨hz2, hne⟩) fun x hx => by
   simp only [List.mem_cons, List.not_mem_nil, or_false] at hx; rcases hx with rfl | rfl | rfl <;> exact mm _ (by assumption)
  unfold leftN at h2
  simp only [List.length_cons, List.length_nil] at this
  omega
 refine Classical.byContradiction fun hno => ?_
 have : w = v := Con.closed (· = v) (fun a b ha hab hb => by
  rw [ha] at hab
  rcases only b hb with e | e
  · exact e
  · exact absurd (e ▸ hab) hno) rfl (hg.con v w hv hw)
 exact hne this.symm
theorem centre_one (h : TreeT m c L) {i j : Nat} (hi : isCentre m c L i) (hj : isCentre m c L j) : i = j := by
 refine Classical.byContradiction fun hne => ?_
 have hk := h.kinds (h.end_beside hi.1 hj.1 hne)
 rcases hk with ⟨a, b⟩ | ⟨a, b⟩
 · exact hj.2 b i a hi.1
 · exact hi.2 a j b hj.1
end TreeT
end Go.Proofs.YtagjdkkfmfombaaGreat
namespace Go.Proofs.YtagjdkkfmfombaaGreat
open Go Go.RowKit Go.Maps
def flT (m k v : Nat) : Nat := if k = 0 then v else m + v
def unT (m x : Nat) : Nat × Nat := if x < m then (0, x) else (1, x - m)
theorem un_fl {m c k v : Nat} (hk : k < 2) (hv : v < ndT m c k) : unT m (flT m k v) = (k, v) := by
 unfold unT flT
 by_cases e : k = 0
 ·
  subst e
  rw [if_pos rfl, if_pos (show v < m from hv)]
 ·
  have : k = 1 := by omega
  subst this
  rw [if_neg e, if_neg (by omega), show m + v - m = v by omega]
theorem fl_un (m x : Nat) : flT m (unT m x).1 (unT m x).2 = x := by
 unfold unT flT
 by_cases e : x < m
 · rw [if_pos e]; simp
 · rw [if_neg e]; simp; omega
theorem un_lt {m c x : Nat} (h : x < m + c) : (unT m x).1 < 2 ∧ (unT m x).2 < ndT m c (unT m x).1 := by
 unfold unT
 by_cases e : x < m
 · rw [if_pos e]; exact ⟨by simp, e⟩
 · rw [if_neg e]; exact ⟨by simp, by show x - m < c; omega⟩
theorem fl_lt {m c k v : Nat} (hk : k < 2) (hv : v < ndT m c k) : flT m k v < m + c := by
 unfold flT
 by_cases e : k = 0
 ·
  subst e
  have : v < m := hv
  rw [if_pos rfl]; omega
 ·
  have : k = 1 := by omega
  subst this
  have : v < c := hv
  rw [if_neg e]; omega
theorem fl_inj {m c k v k' v' : Nat} (hk : k < 2) (hv : v < ndT m c k) (hk' : k' < 2) (hv' : v' < ndT m c k') (e : flT m k v = flT m k' v') : k = k' ∧ v = v' := by
 have h1 := un_fl hk hv
 rw [e, un_fl hk' hv'] at h1
 simp only [Prod.mk.injEq] at h1
 exact ⟨h1.1.symm, h1.2.symm⟩
theorem bs_row {m c : Nat} {L : List (Nat × Nat)} {k v : Nat} (hk : k < 2) (hv : v < ndT m c k) : bsT m L (flT m k v) = (rowT L k v).map (flT m (1 - k)) := by
 unfold bsT flT
 by_cases e : k = 0
 ·
  subst e
  have : v < m := hv
  rw [if_pos rfl, if_pos this]; rfl
 ·
  have : k = 1 := by omega
  subst this
  rw [if_neg e, if_neg (by omega), show m + v - m = v by omega]
  exact (List.map_id _).symm
theorem bs_len {m c : Nat} {L : List (Nat × Nat)} {k v : Nat} (hk : k < 2) (hv : v < ndT m c k) : (bsT m L (flT m k v)).length = (rowT L k v).length := by
 rw [bs_row hk hv, List.length_map]
def nodesF (m : Nat) (S : List Nat) : List (Int × Int) := nodeP (S.map (unT m))
theorem nodesF_len (m : Nat) (S : List Nat) : (nodesF m S).length = S.length := by simp [nodesF, nodeP]
theorem nodesF_snoc {m c : Nat} (S : List Nat) {k v : Nat} (hk : k < 2) (hv : v < ndT m c k) : nodesF m (S ++ [flT m k v]) = nodesF m S ++ [((k : Int), (v : Int))] := by
 unfold nodesF nodeP
 rw [List.map_append, List.map_append, List.map_cons, un_fl hk hv]; rfl
def cntT (m k n : Nat) (f : Nat → Int) : List Value := (List.range n).map fun i => Value.int .i64 (f (flT m k i))
theorem cntT_len (m k n : Nat) (f : Nat → Int) : (cntT m k n f).length = n := by simp [cntT]
theorem cntT_get {m k n i : Nat} {f : Nat → Int} (hi : i < n) : (cntT m k n f)[i]? = some (.int .i64 (f (flT m k i))) := by simp [cntT, hi]
theorem cntT_zero (m k n : Nat) : cntT m k n (fun _ => 0) = List.replicate n (.int .i64 0) := by simp [cntT, List.eq_replicate_iff]
theorem cntT_set {m c k v : Nat} (hk : k < 2) (hv : v < ndT m c k) (f : Nat → Int) (z : Int) : (cntT m k (ndT m c k) f).set v (.int .i64 z) = cntT m k (ndT m c k) (updC f (flT m k v) z) := by
 apply List.ext_getElem?
 intro i
 rw [List.getElem?_set, cntT_len]
 by_cases hi : i < ndT m c k
 ·
  rw [cntT_get hi, cntT_get hi]
  unfold updC
  by_cases e : v = i
  · subst e; simp [hi]
  ·
   have : ¬ flT m k i = flT m k v := fun h => e (fl_inj hk hi hk hv h).2.symm; rw [if_neg e, if_neg this]
 ·
  rw [List.getElem?_eq_none (l := cntT m k (ndT m c k) f) (by rw [cntT_len]; omega), List.getElem?_eq_none (l := cntT m k (ndT m c k) _) (by rw [cntT_len]; omega)]
  split
  ·
   rename_i e; exact absurd hv (by omega)
  · rfl
theorem cntT_other {m c k k' v : Nat} (hk : k < 2) (hk' : k' < 2) (hv : v < ndT m c k) (hne : k' ≠ k) (f : Nat → Int) (z : Int) : cntT m k' (ndT m c k') (updC f (flT m k v) z) = cntT m k' (ndT m c k') f := by
 unfold cntT
 refine List.map_congr_left fun i hi => ?_
 have := List.mem_range.1 hi
 unfold updC
 rw [if_neg fun h => hne (fl_inj hk' this hk hv h).1]
structure CntI (m c M : Nat) (P : Nat → Nat) (f : Nat → Int) (w : World) : Prop where
 c0 : w.cell? ⟨M, 0, none⟩ = some (.slice (some ⟨P 0, 0, none⟩) m m)
 c1 : w.cell? ⟨M, 1, none⟩ = some (.slice (some ⟨P 1, 0, none⟩) c c)
 row : ∀ k, k < 2 → Row w (P k) 3 1 (ndT m c k) (cntT m k (ndT m c k) f)
 ne : P 0 ≠ P 1
 box : ∀ k, k < 2 → M ≠ P k
namespace CntI
variable {w w' : World} {m c M : Nat} {P : Nat → Nat} {f g : Nat → Int}
theorem lt (h : CntI m c M P f w) : M < w.heap.size ∧ ∀ k, k < 2 → P k < w.heap.size := ⟨World.block_lt_of_cell? w _ h.c0, fun k hk => (h.row k hk).lt⟩
theorem below (h : CntI m c M P f w) (hb : Below w.heap.size w w') : CntI m c M P f w' := ⟨keep_cell hb h.c0, keep_cell hb h.c1, fun k hk => (h.row k hk).below hb (h.lt.2 k hk), h.ne, h.box⟩
theorem drewN (h : CntI m c M P f w) (n : Nat) : CntI m c M P f (w.drewN n) := ⟨h.c0, h.c1, fun k hk => (h.row k hk).drewN n, h.ne, h.box⟩
theorem grown (h : CntI m c M P f w) {r : Option Nat} (hg : w.grownBy w' r) (h0 : r ≠ some M) (h1 : ∀ k, k < 2 → r ≠ some (P k)) : CntI m c M P f w' :=
 ⟨grown_cell hg h.c0 h0, grown_cell hg h.c1 h0, fun k hk => (h.row k hk).grown hg (h1 k hk), h.ne, h.box⟩
theorem congr (h : CntI m c M P f w) (e : ∀ j, j < m + c → f j = g j) : CntI m c M P g w :=
 ⟨h.c0, h.c1, fun k hk => by
  have : cntT m k (ndT m c k) g = cntT m k (ndT m c k) f := by
   unfold cntT; refine List.map_congr_left fun i hi => ?_; rw [e _ (fl_lt hk (List.mem_range.1 hi))]
  rw [this]; exact h.row k hk, h.ne, h.box⟩
theorem set (h : CntI m c M P f w) {k v : Nat} (hk : k < 2) (hv : v < ndT m c k) (z : Int) : CntI m c M P (updC f (flT m k v) z) (w.setCell ⟨P k, v, none⟩ (.int .i64 z)) := by
 have hb := h.box k hk
 have hcell : ∀ i x, w.cell? ⟨M, i, none⟩ = some x → (w.setCell ⟨P k, v, none⟩ (.int .i64 z)).cell? ⟨M, i, none⟩ = some x := fun i x hx => by
  rw [World.cell?_setCell_far _ _ _ _ (by simp; omega)]
  exact hx
 refine ⟨hcell _ _ h.c0, hcell _ _ h.c1, fun j hj => ?_, h.ne, h.box⟩
 by_cases e : j = k
 ·
  subst e
  have := (h.row j hj).set v (.int .i64 z)
  rwa [cntT_set hj hv] at this
 ·
  rw [cntT_other hk hj hv e]
  refine (h.row j hj).other (a := ⟨P k, v, none⟩) ?_ (.int .i64 z)
  show P j ≠ P k
  have hne := h.ne
  have : (j = 0 ∧ k = 1) ∨ (j = 1 ∧ k = 0) := by omega
  rcases this with ⟨rfl, rfl⟩ | ⟨rfl, rfl⟩
  · exact hne
  · exact hne.symm
theorem cell (h : CntI m c M P f w) {k v : Nat} (hk : k < 2) (hv : v < ndT m c k) : w.cell? ⟨P k, v, none⟩ = some (.int .i64 (f (flT m k v))) ∧ w.frozen? ⟨P k, v, none⟩ = false :=
 ⟨by rw [(h.row k hk).cell? v (by rw [cntT_len]; exact hv)]; exact cntT_get hv, (h.row k hk).frozen v⟩
theorem bx (h : CntI m c M P f w) {k : Nat} (hk : k < 2) : w.cell? ⟨M, k, none⟩ = some (.slice (some ⟨P k, 0, none⟩) (ndT m c k) (ndT m c k)) := by
 rcases (by omega : k = 0 ∨ k = 1) with rfl | rfl
 · exact h.c0
 · exact h.c1
end CntI
def CntS (w0 : World) (m c : Nat) (p : Value) (wx : World) : Prop := ∃ M P, p = .pointer (some ⟨M, 0, none⟩) ∧ CntI m c M P (fun _ => 0) wx ∧ w0.heap.size ≤ M ∧ (∀ k, k < 2 → w0.heap.size ≤ P k) ∧ Below w0.heap.size w0 wx
theorem cntS_start {w0 W : World} {m c B ga gb : Nat} (h1 : Row W ga 3 1 m (List.replicate m (.int .i64 0))) (h2 : Row W gb 3 1 c (List.replicate c (.int .i64 0)))
  (hc : ∀ i, i < 2 → W.cell? ⟨B, i, none⟩ = some (if i = 0 then .slice (some ⟨ga, 0, none⟩) m m else .slice (some ⟨gb, 0, none⟩) c c)) (hne : ga ≠ gb ∧ B ≠ ga ∧ B ≠ gb ∧ w0.heap.size ≤ ga ∧ w0.heap.size ≤ gb ∧ w0.heap.size ≤ B) (hb : Below w0.heap.size w0 W) :
  CntS w0 m c (.pointer (some ⟨B, 0, none⟩)) W := by
 obtain ⟨n1, n2, n3, n4, n5, n6⟩ := hne
 refine ⟨B, gT ga gb, rfl, ⟨hc 0 (by omega), hc 1 (by omega), fun k hk => ?_, n1, fun k hk => ?_⟩, n6, fun k hk => ?_, hb⟩
 ·
  rw [cntT_zero]
  by_cases e : k = 0
  · subst e; exact h1
  ·
   have : k = 1 := by omega
   subst this; exact h2
 ·
  by_cases e : k = 0
  · subst e; exact n2
  ·
   have : k = 1 := by omega
   subst this; exact n3
 ·
  by_cases e : k = 0
  · subst e; exact n4
  ·
   have : k = 1 := by omega
   subst this; exact n5
structure LstT (m c B : Nat) (G : Nat → Nat) (L : List (Nat × Nat)) (w : World) : Prop where
 box : ∀ k, k < 2 → w.cell? ⟨B, k, none⟩ = some (.slice (some ⟨G k, 0, none⟩) (ndT m c k) (ndT m c k))
 row : ∀ k, k < 2 → ∀ v, v < ndT m c k → ∃ au cu, w.cell? ⟨G k, v, none⟩ = some (.slice au (rowT L k v).length cu) ∧ CellsAt w au ((rowT L k v).map vN)
theorem LstT.below {m c B : Nat} {G : Nat → Nat} {L : List (Nat × Nat)} {w w' : World} (h : LstT m c B G L w) (hb : Below w.heap.size w w') : LstT m c B G L w' :=
 ⟨fun k hk => keep_cell hb (h.box k hk), fun k hk v hv => by
  obtain ⟨au, cu, h1, h2⟩ := h.row k hk v hv
  exact ⟨au, cu, keep_cell hb h1, h2.below hb⟩⟩
theorem TabT.rows {w : World} {G : Nat → Nat} {m c : Nat} {vals : Nat → List Value} {L : List (Nat × Nat)} (h : TabT w G (ndT m c) vals (fun k => rowsT L k (ndT m c k))) : ∀ k, k < 2 → ∀ v, v < ndT m c k → ∃ au cu, w.cell? ⟨G k, v, none⟩ = some (.slice au (rowT L k v).length cu) ∧ CellsAt w au ((rowT L k v).map vN) := fun k hk v hv => by
 have ho := h.own k hk
 have hlen := ho.len
 obtain ⟨u, hu⟩ : ∃ u, (vals k)[v]? = some u := ⟨_, List.getElem?_eq_getElem (by rw [hlen, rowsT_len]; exact hv)⟩
 obtain ⟨au, cu, rfl, hcells⟩ := own_cells (ho.own v u _ hu (rowsT_get hv))
 refine ⟨au, cu, ?_, hcells⟩
 rw [ho.outer.cell? v (by rw [hlen, rowsT_len]; exact hv), hu, List.length_map]
theorem isBlock_walk (x y : Int) (t : Bool) (w : World) (ht : (x == 0) = t) :
  Calls Tryz.prog 89 #[.agg #[.int .i64 x, .int .i64 y]] w fun e w' => e = .returned (.bool t) ∧ Below w.heap.size w w' := by
 have hA := bl_alloc w (.cells #[.int .i64 x, .int .i64 y] 171)
 cases t with
 | true =>
  go_enter Tryz.func89, Tryz.ntmps89
  go_wp2_with fail
  go_ret
  exact ⟨rfl, hA⟩
 | false =>
  go_enter Tryz.func89, Tryz.ntmps89
  go_wp2_with fail
  go_ret
  exact ⟨rfl, hA⟩
def idxP (p : Int × Int → Bool) (ls : List (Int × Int)) : Int := match ls.findIdx? p with
 | some i => (i : Int)
 | none => -1
theorem idxP_neg {p : Int × Int → Bool} {ls : List (Int × Int)} : idxP p ls = -1 ↔ ∀ k ∈ ls, p k = false := by
 unfold idxP
 cases h : ls.findIdx? p with
 | none => rw [List.findIdx?_eq_none_iff] at h; simpa using h
 | some i =>
  rw [List.findIdx?_eq_some_iff_getElem] at h
  obtain ⟨h1, h2, _⟩ := h
  simp only
  constructor
  · intro h; omega
  · intro h; rw [h _ (List.getElem_mem h1)] at h2; cases h2
set_option maxHeartbeats 1000000 in
theorem indexB_walk (g cap : Nat) (ls : List (Int × Int)) (w : World) (hr : Row w g 171 2 cap (pairCells ls)) (hl : ls.length ≤ 100000) :
  Calls Tryz.prog 88 #[.slice (some ⟨g, 0, none⟩) ls.length cap, .func (.func 89) #[] #[]] w fun e w' => e = .returned (.int .i64 (idxP (fun p => p.1 == 0) ls)) ∧ Below w.heap.size w w' := by
 have hgl := hr.lt
 go_enter Tryz.func88, Tryz.ntmps88
 go_wp2_with fail
 go_loopg [8] ls.length (fun r iv wj => ∃ i : Nat, i + r = ls.length ∧ iv = .int .i64 i ∧ (∀ j (h : j < ls.length), j < i → (ls[j].1 == 0) = false) ∧ Below w.heap.size w wj)
 case atStart => exact ⟨0, by omega, rfl, fun j h hj => absurd hj (by omega), bl_refl _⟩
 case round =>
  obtain ⟨i, hi, rfl, hall, hb⟩ := hrel
  have Hi := Lib.hid hi; have Hall := Lib.hid hall
  clear hall
  by_cases hil : i < ls.length
  ·
   clear hi; have hrr := hr.below hb hgl; have c0 := hrr.cell? (i * 2) (by rw [pairCells_length]; omega); have c1 := hrr.cell? (i * 2 + 1) (by rw [pairCells_length]; omega); obtain ⟨g1, g2⟩ := pairCells_get ls i hil; rw [g1] at c0; rw [g2] at c1; have hcw := isBlock_walk ls[i].1 ls[i].2 _ wr rfl; obtain ⟨t, ht⟩ : ∃ t, (ls[i].1 == 0) = t := ⟨_, rfl⟩
   rw [ht] at hcw; obtain ⟨⟨x, y⟩, hx⟩ : ∃ x : Int × Int, ls[i] = x := ⟨_, rfl⟩
   rw [hx] at c0 c1 hcw; simp only at c0 c1 hcw; have Hcw := Lib.hid hcw; have Ht := Lib.hid ht; clear hx hcw ht hrr g1 g2; go_wp2_with fail; refine Hcw.out.mono ?_; rintro e w' ⟨rfl, hb2⟩; have hB := bl_trans hb hb2; clear hb2; cases t with
   | true =>
    have hfin : idxP (fun p => p.1 == 0) ls = (i : Int) := by
     unfold idxP; have : ls.findIdx? (fun p => p.1 == 0) = some i := List.findIdx?_eq_some_iff_getElem.2 ⟨hil, Ht.out, fun j hj => by rw [Hall.out j (by omega) hj]; simp⟩; rw [this]
    have Hfin := Lib.hid hfin; clear hfin; go_wp2_with fail; go_ret; exact ⟨by rw [Hfin.out] <;> rfl, hB⟩
   | false =>
    have hnx : ∀ j (h : j < ls.length), j < i + 1 → (ls[j].1 == 0) = false := fun j h hj => by
     by_cases e : j < i
     · exact Hall.out j h e
     ·
      obtain rfl : j = i := by omega
      exact Ht.out
    have Hnx := Lib.hid hnx; clear hnx; go_wp2_with fail; go_roundg (gk - 1)
    case measure => have := Hi.out; omega
    case rel => exact ⟨i + 1, by have := Hi.out; omega, by go_num, Hnx.out, hB⟩
  ·
   have hin : i = ls.length := by omega
   subst hin; have hfin : idxP (fun p => p.1 == 0) ls = -1 := idxP_neg.2 fun r hr => by
     obtain ⟨j, hj, rfl⟩ := List.getElem_of_mem hr; exact Hall.out j hj hj
   have Hfin := Lib.hid hfin; clear hfin hi; go_wp2_with fail; go_ret; exact ⟨by rw [Hfin.out] <;> rfl, hb⟩
def upF (bs : Nat → List Nat) (i : Nat) : Nat → Int := fun j => if j < i then ((bs j).length : Int) else 0
theorem upF_next (bs : Nat → List Nat) (i : Nat) : updC (upF bs i) i ((bs i).length : Int) = upF bs (i + 1) := by
 funext x
 unfold updC upF
 by_cases e : x = i
 · subst e; simp
 ·
  rw [if_neg e]
  by_cases h : x < i
  · rw [if_pos h, if_pos (by omega)]
  · rw [if_neg h, if_neg (by omega)]
def lvF (bs : Nat → List Nat) (i : Nat) : List Nat := (List.range i).filter fun j => decide ((bs j).length < 2)
theorem lvF_next (bs : Nat → List Nat) (i : Nat) : lvF bs (i + 1) = lvF bs i ++ if (bs i).length < 2 then [i] else [] := by
 unfold lvF
 rw [List.range_succ, List.filter_append]
 congr 1
 by_cases h : (bs i).length < 2 <;> simp [h]
theorem lvF_le (bs : Nat → List Nat) (i : Nat) : (lvF bs i).length ≤ i := by
 unfold lvF
 have := List.length_filter_le (fun j => decide ((bs j).length < 2)) (List.range i)
 simpa using this
theorem gone_deg {bs : Nat → List Nat} {n : Nat} : ∀ (k j : Nat), peels bs n k j = true → degG bs (peels bs n k) j ≤ 1
 | 0, _, h => by simp [peels] at h
 | k + 1, j, h => by
  have mono : ∀ G : Nat → Bool, degG bs (peel bs n G) j ≤ degG bs G j := fun G => by
   unfold degG
   have e := filter_split (bs j) (fun x => !G x) (fun x => !peel bs n G x) fun x _ hx => by
    unfold peel at hx
    cases hg : G x with
    | true => rw [hg] at hx; simp at hx
    | false => rfl
   omega
  have h2 : peel bs n (peels bs n k) j = true := h
  refine Nat.le_trans (mono (peels bs n k)) ?_
  unfold peel at h2
  cases hg : peels bs n k j with
  | true => exact gone_deg k j hg
  | false =>
   rw [hg] at h2
   unfold endB at h2
   simp at h2
   exact h2.2.2
namespace TreeT
variable {m c : Nat} {L : List (Nat × Nat)}
theorem end_mem (h : TreeT m c L) {k : Nat} {S : List Nat} (hl : LvI (bsT m L) (m + c) (peels (bsT m L) (m + c) k) S) (h2 : ¬ 2 < leftN (m + c) (peels (bsT m L) (m + c) k)) (hk : k ≤ m + c) {j : Nat} : j ∈ S ↔ endT m c L j := by
 have he := peels_end h2 (m + c - k)
 rw [show k + (m + c - k) = m + c by omega] at he
 rw [hl.mem]
 unfold endT alv
 rw [res_iff, he]
 unfold endB
 constructor
 ·
  rintro ⟨a, b⟩
  simp only [Bool.and_eq_true, Bool.not_eq_true'] at b
  exact ⟨b.1, a⟩
 ·
  rintro ⟨a, b⟩
  refine ⟨b, ?_⟩
  rw [a]
  simp only [Bool.not_false, Bool.true_and, decide_eq_true_eq]
  have h3 := nodup_len_le (l := j :: (bsT m L j).filter fun x => !peels (bsT m L) (m + c) k x) (m := (List.range (m + c)).filter fun x => !peels (bsT m L) (m + c) k x)
   (List.nodup_cons.2 ⟨fun hj => h.irr j (List.mem_filter.1 hj).1, (h.treeG.nd j).sublist List.filter_sublist⟩) fun x hx => by
    rcases List.mem_cons.1 hx with rfl | hx
    · exact List.mem_filter.2 ⟨List.mem_range.2 b, by simp [a]⟩
    ·
     obtain ⟨h4, h5⟩ := List.mem_filter.1 hx; exact List.mem_filter.2 ⟨List.mem_range.2 (h.treeG.lt _ _ h4), h5⟩
  unfold leftN at h2
  unfold degG
  rw [List.length_cons] at h3
  omega
theorem end_pos (h : TreeT m c L) {k : Nat} (h2 : ¬ 2 < leftN (m + c) (peels (bsT m L) (m + c) k)) (hk : k ≤ m + c) : 0 < leftN (m + c) (peels (bsT m L) (m + c) k) := by
 have he := peels_end h2 (m + c - k)
 rw [show k + (m + c - k) = m + c by omega] at he
 have := h.end_chain.pos
 unfold alv at this
 rw [left_res, he] at this
 exact this
theorem end_first (h : TreeT m c L) {S : List Nat} (hS : ∀ j, j ∈ S ↔ endT m c L j) {z : Int} (hz : z = idxP (fun p => p.1 == 0) (nodesF m S)) (hne : S ≠ []) : ∃ j, S[if 0 ≤ z then z.toNat else 0]? = some j ∧ isCentre m c L j ∧ (0 ≤ z → z < S.length) := by
 by_cases h0 : 0 ≤ z
 ·
  rw [if_pos h0]
  unfold idxP at hz
  cases hf : (nodesF m S).findIdx? (fun p => p.1 == 0) with
  | none => rw [hf] at hz; simp only at hz; omega
  | some i =>
   rw [hf] at hz; simp only at hz; obtain ⟨h1, h2, _⟩ := List.findIdx?_eq_some_iff_getElem.1 hf; have hi : i < S.length := by rw [nodesF_len] at h1; exact h1
   have e : (nodesF m S)[i] = (((unT m S[i]).1 : Int), ((unT m S[i]).2 : Int)) := by simp [nodesF, nodeP]
   rw [e] at h2; have hb : S[i] < m := by
    unfold unT at h2; by_cases hm : S[i] < m
    · exact hm
    · rw [if_neg hm] at h2; simp at h2
   rw [hz, show ((i : Int)).toNat = i by omega]; exact ⟨S[i], List.getElem?_eq_getElem hi, ⟨(hS _).1 (List.getElem_mem hi), fun hm => by omega⟩, fun _ => by omega⟩
 ·
  rw [if_neg h0]
  obtain ⟨j, hj⟩ : ∃ j, S[0]? = some j := ⟨_, List.getElem?_eq_getElem (List.length_pos_iff.2 hne)⟩
  have hz1 : idxP (fun p => p.1 == 0) (nodesF m S) = -1 := by
   unfold idxP at hz ⊢; cases hf : (nodesF m S).findIdx? (fun p => p.1 == 0) with
   | none => rfl
   | some i => rw [hf] at hz; simp only at hz; omega
  have hno := idxP_neg.1 hz1
  refine ⟨j, hj, ⟨(hS _).1 (List.mem_of_getElem? hj), fun _ i hi he => ?_⟩, fun h => absurd h h0⟩
  have hiS := (hS i).2 he
  have hmem : (((unT m i).1 : Int), ((unT m i).2 : Int)) ∈ nodesF m S := List.mem_map.2 ⟨unT m i, List.mem_map_of_mem hiS, rfl⟩
  have := hno _ hmem
  unfold unT at this
  rw [if_pos hi] at this
  simp at this
end TreeT
end Go.Proofs.YtagjdkkfmfombaaGreat
