/- Facts that the claim rests on, part 17. -/
import Derived.Test.YtagjdkkfmfombaaGreatKB15
namespace Go.Proofs.YtagjdkkfmfombaaGreat
open Go Go.RowKit
def TreeO (n : Nat) (es : List (Int × Int)) (ts : List Int) (O : List Nat) : Prop := ∃ D U wo, KtG n es ts D U wo ∧ O = KtV.ordO D wo
def RetAr (w : World) (n : Nat) (es : List (Int × Int)) (ts : List Int) (e : Ending) (w' : World) : Prop :=
 ∃ O g c, TreeO n es ts O ∧ O.length = n ∧ e = .returned (.tuple #[.slice (some ⟨g, 0, none⟩) n c, .int .i64 0]) ∧ CellsAt w' (some ⟨g, 0, none⟩) (O.map vN) ∧ n ≤ c ∧ w.heap.size ≤ g ∧ Below w.heap.size w w'
theorem GrW.vis {n : Nat} {es : List (Int × Int)} {cuts : List Nat} {ts : List Int} {root : Nat} {up : Nat → Int} {dep : Nat → Nat} {A : Lay} {F : Int → Option Int} {w w3 w4 : World} {wo : Nat → Nat} (G : GrW n es cuts ts root up dep A F w w3)
  (ok : (ktOf es cuts (uz ts) ts root up dep).Ok n F) (hW : WgI (ktOf es cuts (uz ts) ts root up dep) A w3 wo 0 (fun _ => True) w4) : VisE (ktOf es cuts (uz ts) ts root up dep) A n F wo w3.heap.size w4 ∧ VisI A n w4 [] none w4 := by
 have hTl : A.T < w3.heap.size := World.block_lt_of_cell? w3 _ G.tr.t1.1
 have nX : ∀ g o, g ≠ A.gw → (∀ k, k < es.length → g ≠ A.bo k) → ¬ A.mutW es.length ⟨g, o, none⟩ := fun g o h1 h2 => by
  rintro (e | ⟨k, hk, e, _⟩)
  · exact h1 e
  · exact h2 k hk e
 have nT : ∀ o, ¬ A.mutW es.length ⟨A.T, o, none⟩ := fun o => nX A.T o (Ne.symm G.ne.2) fun k hk => Ne.symm (G.bo k hk).2
 refine ⟨⟨ok, G.tr.keep hW.bx.mut, hW.row, fun k hk => hW.nms k hk (Nat.zero_le _), hW.bx.size, G.gp.lt, hTl, G.ne, G.bo⟩, ⟨BelX.refl _ _ _, ⟨.slice none 0 0, hW.bx.keep hTl (nT 10) G.ord, rfl, own_nil _ _ _⟩, (hW.bx.froz ⟨A.T, 10, none⟩ hTl (nT 10)).trans G.fz, fun g hg => (by cases hg), hW.bx.row G.gp G.gp.lt fun o => nX A.gp o (Ne.symm G.ne.1) fun k hk => Ne.symm (G.bo k hk).1, by simp, fun v hv => by simp at hv⟩⟩
set_option maxRecDepth 100000 in
set_option maxHeartbeats 4000000 in
theorem arranged_walk (n : Nat) (a b : Option Addr) (ca cb : Nat) (es : List (Int × Int)) (ts : List Int) (w : World) (ht : TreeV n es) (h2 : 2 ≤ n) (hl : ts.length = n) (hr : RdP w a es) (hts : RdI w b ts) :
  Calls Tryz.prog 19 #[.agg #[.int .i64 n, .slice a es.length ca], .slice b n cb] w (RetAr w n es ts) := by
 obtain ⟨cuts, hcu⟩ : ∃ c, c = cutsT (walkL (besideL n es) 0).1 (walkL (besideL n es) 0).2 n := ⟨_, rfl⟩
 have hco : CutsOk n es cuts := by rw [hcu]; exact cuts_ok ht ht.inv
 have hn := ((rightB_iff n es).1 ht.right).2.1
 have hbt := fun w hr => btree_walk n a ca es w hr (by have := ht.len; omega) ht h2
 rw [← hcu] at hbt
 obtain ⟨m, hm⟩ : ∃ m, m = es.length := ⟨_, rfl⟩
 have hmE : (es.map fun e => [e]).length = m := by rw [List.length_map, hm]
 obtain ⟨nc, hnc⟩ : ∃ nc, nc = cuts.length := ⟨_, rfl⟩
 obtain ⟨nL, hnL⟩ : ∃ nL, nL = (linksT es cuts es.length).length := ⟨_, rfl⟩
 have hb0 := bl_alloc w (.cells #[.int .i64 n, .slice a m ca] 24)
 have hr0 := hr.below hb0
 have hbt0 := hbt _ hr0
 have hts0 := hts.below hb0
 have hgw := fun a1 a2 a3 c1 c2 c3 w hts hB hC hL => grown_walk n es cuts ts a1 a2 a3 b c1 c2 c3 cb m nc nL w ht h2 (by omega) hco hl hts hB hC hL hm hnc hnL
 have hsz0 : (w.alloc (.cells #[.int .i64 n, .slice a m ca] 24)).heap.size = w.heap.size + 1 := by simp
 rw [← hm] at hbt0 ⊢
 have Hbt0 := Lib.hid hbt0; have Hts0 := Lib.hid hts0; have Hgw := Lib.hid hgw; have Hco := Lib.hid hco; have Hb0 := Lib.hid hb0; have Hht := Lib.hid ht; have Hm := Lib.hid hm; have Hnc := Lib.hid hnc; have HnL := Lib.hid hnL; have Hl := Lib.hid hl; have HmE := Lib.hid hmE
 clear hbt hbt0 hts0 hgw hco hb0 ht hm hnc hnL hl hcu hr0 hr hts hmE
 go_enter Tryz.func19, Tryz.ntmps19
 go_wp2_with fail
 refine Hbt0.out.mono ?_
 rintro e w1 ⟨a1, c1, a2, c2, a3, c3, rfl, hB, hC, hL, l1, l2, l3, hb1⟩
 rw [HmE.out, ← Hnc.out]
 rw [show (linksT es cuts m).length = nL by rw [Hm.out]; exact HnL.out.symm]
 have hb2 := bl_alloc w1 (.cells #[.slice a1 m c1, .slice a2 nc c2, .slice a3 nL c3] 78)
 have hcall := Hgw.out a1 a2 a3 c1 c2 c3 _ ((Hts0.out.below hb1).below hb2) (hB.below hb2) (CellsAt.below hC hb2) (by rw [← Hm.out]; exact hL.below hb2)
 have hbw2 := (Hb0.out.trans (hb1.mono (by omega))).trans (hb2.mono (by have := Hb0.out.size; have := hb1.size; omega))
 have Hcall := Lib.hid hcall; have Hbw2 := Lib.hid hbw2
 clear hcall hbw2 hB hC hL l1 l2 l3 hb1 hb2 hsz0
 go_wp2_with fail
 refine Hcall.out.mono ?_
 generalize w1.alloc (.cells #[.slice a1 m c1, .slice a2 nc c2, .slice a3 nL c3] 78) = w2 at *
 rintro e w3 ⟨root, up, dep, A, F, rfl, hung, hcen, G⟩
 obtain ⟨hU1, hU2, hU3⟩ := uz_ok ts
 have hmu : ∀ v, v < n → ts.getD v 0 ∈ uz ts := fun v hv => by
  rw [hU2, List.getD_eq_getElem?_getD, List.getElem?_eq_getElem (by rw [Hl.out]; exact hv)]
  exact List.getElem_mem _
 have ok : (ktOf es cuts (uz ts) ts root up dep).Ok n F := ktOk_of Hht.out h2 Hco.out hung (by have := Hl.out; omega) hmu fun v hv => by
  rw [G.f v hv]
  cases (ktOf es cuts (uz ts) ts root up dep).kn v <;> rfl
 have hwg := weigh_walk ok w3 G.sep G.tr G.gw G.nm
 have kv : KtV n es (ktOf es cuts (uz ts) ts root up dep) := ktV_of Hht.out h2 Hco.out hung
 have so : ShOk n ts (ktOf es cuts (uz ts) ts root up dep) (uz ts) := shOk_of Hl.out root up dep
 have htt := tree_links Hht.out h2 Hco.out
 have hg : ∀ wo, (ktOf es cuts (uz ts) ts root up dep).Weighed wo → KtG n es ts (ktOf es cuts (uz ts) ts root up dep) (uz ts) wo := fun wo hw => ⟨kv, so, hw, ⟨cuts.length, linksN es cuts es.length, htt, rfl, rfl, hcen⟩, ok.nl, ok.shs⟩
 have hvis := fun wo w4 (hW : WgI (ktOf es cuts (uz ts) ts root up dep) A w3 wo 0 (fun _ => True) w4) => G.vis ok hW
 have hrt : root = (ktOf es cuts (uz ts) ts root up dep).root := rfl
 obtain ⟨D, hD⟩ : ∃ D, D = ktOf es cuts (uz ts) ts root up dep := ⟨_, rfl⟩
 have hDm : D.m = es.length := by rw [hD]; rfl
 have low := G.low
 have gbel := G.bel
 have gtr := G.tr
 rw [← hD] at hwg hg hvis ok kv hrt gtr
 have Hwg := Lib.hid hwg; have Hg := Lib.hid hg; have Hvis := Lib.hid hvis; have Hok := Lib.hid ok; have Hlow := Lib.hid low; have Hgbel := Lib.hid gbel; have Hkv := Lib.hid kv; have Hrt := Lib.hid hrt; have HDm := Lib.hid hDm; have Hgtr := Lib.hid gtr
 clear hwg hg hvis ok low gbel kv hrt hDm G hung hcen so htt hmu hU1 hU2 hU3 hD Hcall Hgw Hts0 Hbt0 gtr
 go_wp2_with fail
 refine Hwg.out.mono ?_
 rintro e w4 ⟨rfl, wo, hwt, hW⟩
 obtain ⟨E, hI⟩ := Hvis.out wo w4 hW
 have hroot := Hkv.out.hung.rt
 have hdp := Hkv.out.hung.dpr
 have hIa : VisI A n w4 [] none w4.drew := (hI.below (RowKit.Below.refl w4.heap.size w4).drew).1
 obtain ⟨fu, hfu⟩ : ∃ fu, fu = if D.root < D.m then 2 * D.n + 4 else 2 * D.n + 3 := ⟨_, rfl⟩
 have hcall := visit_walk E fu D.root hroot (by rw [hfu]; split <;> omega) [] none w4.drew hIa
 have hO : D.visit wo fu D.root [] = KtV.ordO D wo := by rw [hfu]; rfl
 rw [hO] at hcall
 have hT4 := E.tree hI
 obtain ⟨c0, q0⟩ := hT4.t0
 have q00 := q0.1
 have q2 := hT4.t2.1
 have qk := (hT4.knot D.root hroot).1
 have hbx := hW.bx
 have hlen : (KtV.ordO D wo).length = n := by
  have := (Hkv.out.tellO wo ts).len
  exact this
 obtain ⟨O, hOe⟩ : ∃ O, O = KtV.ordO D wo := ⟨_, rfl⟩
 rw [← hOe] at hcall hlen
 have hDn : D.n ≤ 1000 := Hok.out.nl
 have i1 : (D.root : Int) < (D.n : Int) := by omega
 have i0 : (0 : Int) ≤ (D.root : Int) := by omega
 have hbw : ∀ w5 acc ob, VisI A n w4 acc ob w5 → RowKit.Below w.heap.size w w5 := fun w5 acc ob h => by
  have s2 := Hbw2.out.size
  have s3 := Hgbel.out.size
  have s4 := hbx.size
  obtain ⟨p1, p2, p3, p4⟩ := Hlow.out
  have b3 := Hbw2.out.trans (Hgbel.out.mono s2)
  have b4 := b3.trans (hbx.toBelow (B' := w.heap.size) (by omega) fun p hp => by
   rcases hp with e | ⟨k, hk, e, _⟩
   · omega
   ·
    rw [HDm.out] at hk
    have := p4 k hk; omega)
  exact b4.trans (h.bx.toBelow (B' := w.heap.size) (by omega) fun p hp => by
   rcases hp with e | e
   · omega
   · rw [e]; show w.heap.size ≤ A.T; omega)
 have hnew : ∀ w5 acc ob, VisI A n w4 acc ob w5 → ∀ g, ob = some g → w.heap.size ≤ g := fun w5 acc ob h g hg => by
  have := h.new g hg
  have s2 := Hbw2.out.size
  have s3 := Hgbel.out.size
  have s4 := hbx.size
  omega
 have Hcall := Lib.hid hcall; have Hbw := Lib.hid hbw; have Hnew := Lib.hid hnew; have Hlen := Lib.hid hlen; have HOe := Lib.hid hOe; have Hwt := Lib.hid hwt
 clear hcall hbw hnew hlen hOe hwt hW E hI hIa hT4 q0 hbx hfu hO Hvis Hwg hdp
 go_wp2_with fail
 by_cases hrm : D.root < D.m
 ·
  rw [if_pos hrm] at qk Hcall
  have hmB : ∀ (w : World) (b : Nat), (method 533 115 (.pointer (some ⟨b, 0, none⟩)) "fretwork/bough.visit").run Tryz.prog w = .ok (167, .pointer (some ⟨b, 0, none⟩)) w := fun _ _ => by kernel_rfl
  refine regionT (fun w' => w'.cell? ⟨A.T, 0, none⟩ = some (.slice (some ⟨A.gk, 0, none⟩) D.n c0) ∧ w'.cell? ⟨A.T, 2, none⟩ = some (.int .i64 (D.root : Nat)) ∧ w'.cell? ⟨A.gk, D.root, none⟩ = some (.iface 115 (.pointer (some ⟨A.bo D.root, 0, none⟩)))) 11 (by kernel_rfl) ?_
  have hS : w4.drew.cell? ⟨A.T, 0, none⟩ = some (.slice (some ⟨A.gk, 0, none⟩) D.n c0) ∧ w4.drew.cell? ⟨A.T, 2, none⟩ = some (.int .i64 (D.root : Nat)) ∧ w4.drew.cell? ⟨A.gk, D.root, none⟩ = some (.iface 115 (.pointer (some ⟨A.bo D.root, 0, none⟩))) := ⟨q00, q2, qk⟩
  refine tkT 0 ?_ rfl hS ?_ ?_ (by kernel_rfl) (fun _ _ _ h => h) (by rfl); rotate_left; (· intro wS hSw; (try dsimp only at hSw); go_simp; try with_reducible rfl); simp only [Act.put, zT]
  refine tkT 1 ?_ rfl hS ?_ ?_ (by kernel_rfl) (fun _ _ _ h => h) (by rfl); rotate_left; (· intro wS hSw; (try dsimp only at hSw); go_simp; try with_reducible rfl); simp only [Act.put, zT]
  refine tkT 2 ?_ rfl hS ?_ ?_ (by kernel_rfl) (fun _ _ _ h => h) (by rfl); rotate_left; (· intro wS hSw; (try dsimp only at hSw); go_simp; try with_reducible rfl); simp only [Act.put, zT]
  refine tkT 3 ?_ rfl hS ?_ ?_ (by kernel_rfl) (fun _ _ _ h => h) (by rfl); rotate_left; (· intro wS hSw; (try dsimp only at hSw); go_simp; try with_reducible rfl); simp only [Act.put, zT]
  refine tkT 4 ?_ rfl hS ?_ ?_ (by kernel_rfl) (fun _ _ _ h => h) (by rfl); rotate_left; (· intro wS hSw; (try dsimp only at hSw); go_simp; try with_reducible rfl); simp only [Act.put, zT]
  refine tkT 5 ?_ rfl hS ?_ ?_ (by kernel_rfl) (fun _ _ _ h => h) (by rfl); rotate_left; (· intro wS hSw; (try dsimp only at hSw); go_simp; try with_reducible rfl); simp only [Act.put, zT]
  refine tkT 6 ?_ rfl hS ?_ ?_ (by kernel_rfl) (fun _ _ _ h => h) (by rfl); rotate_left; (· intro wS hSw; (try dsimp only at hSw); go_simp; try with_reducible rfl); simp only [Act.put, zT]
  refine tkT 7 ?_ rfl hS ?_ ?_ (by kernel_rfl) (fun _ _ _ h => h) (by rfl); rotate_left; (· intro wS hSw; (try dsimp only at hSw); go_simp; try with_reducible rfl); simp only [Act.put, zT]
  refine tkT 8 ?_ rfl hS ?_ ?_ (by kernel_rfl) (fun _ _ _ h => h) (by rfl); rotate_left; (· intro wS hSw; (try dsimp only at hSw); go_simp; try with_reducible rfl); simp only [Act.put, zT]
  refine tkT 9 ?_ rfl hS ?_ ?_ (by kernel_rfl) (fun _ _ _ h => h) (by rfl); rotate_left; (· intro wS hSw; (try dsimp only at hSw); go_simp; try with_reducible rfl); simp only [Act.put, zT]
  refine tkT 10 ?_ rfl hS ?_ ?_ (by kernel_rfl) (fun _ _ _ h => h) (by rfl); rotate_left; (· intro wS hSw; (try dsimp only at hSw); go_simp; try with_reducible rfl); simp only [Act.put, zT]
  refine oneT (i := 11) rfl (by kernel_rfl) (fun K hK => ?_)
  go_simp
  refine Hcall.out.mono ?_
  rintro e w5 ⟨rfl, ob, hI5, -⟩
  simp only
  refine hK _ _ (fun h => absurd h (by omega)) ?_
  clear hK K hS
  refine doneT (by kernel_rfl) ?_ _
  obtain ⟨ov, h10, hob, hown⟩ := hI5.ord
  rw [Hlen.out] at hown
  obtain ⟨g, c, rfl, hc, hrow⟩ : ∃ g c, ov = .slice (some ⟨g, 0, none⟩) n c ∧ n ≤ c ∧ Row w5 g 3 1 c (O.map vN) := by
   rcases hown.2 with ⟨_, h0⟩ | ⟨g, c, h1, h2, h3⟩
   · omega
   · exact ⟨g, c, h1, h2, h3⟩
  have hg : w.heap.size ≤ g := Hnew.out w5 O ob hI5 g hob.symm
  have hbl := Hbw.out w5 O ob hI5
  have Hrow := Lib.hid hrow; have Hbl := Lib.hid hbl
  clear hown hob hrow hbl hI5
  go_wp2_with fail
  go_ret2
  exact ⟨O, g, c, ⟨D, _, wo, Hg.out wo Hwt.out, HOe.out⟩, Hlen.out, rfl, Hrow.out.at_, hc, hg, Hbl.out⟩
 ·
  rw [if_neg hrm] at qk Hcall
  have hmC : ∀ (w : World) (b : Nat), (method 533 121 (.pointer (some ⟨b, 0, none⟩)) "fretwork/bough.visit").run Tryz.prog w = .ok (340, .pointer (some ⟨b, 0, none⟩)) w := fun _ _ => by kernel_rfl
  refine regionT (fun w' => w'.cell? ⟨A.T, 0, none⟩ = some (.slice (some ⟨A.gk, 0, none⟩) D.n c0) ∧ w'.cell? ⟨A.T, 2, none⟩ = some (.int .i64 (D.root : Nat)) ∧ w'.cell? ⟨A.gk, D.root, none⟩ = some (.iface 121 (.pointer (some ⟨A.bo D.root, 0, none⟩)))) 11 (by kernel_rfl) ?_
  have hS : w4.drew.cell? ⟨A.T, 0, none⟩ = some (.slice (some ⟨A.gk, 0, none⟩) D.n c0) ∧ w4.drew.cell? ⟨A.T, 2, none⟩ = some (.int .i64 (D.root : Nat)) ∧ w4.drew.cell? ⟨A.gk, D.root, none⟩ = some (.iface 121 (.pointer (some ⟨A.bo D.root, 0, none⟩))) := ⟨q00, q2, qk⟩
  refine tkT 0 ?_ rfl hS ?_ ?_ (by kernel_rfl) (fun _ _ _ h => h) (by rfl); rotate_left; (· intro wS hSw; (try dsimp only at hSw); go_simp; try with_reducible rfl); simp only [Act.put, zT]
  refine tkT 1 ?_ rfl hS ?_ ?_ (by kernel_rfl) (fun _ _ _ h => h) (by rfl); rotate_left; (· intro wS hSw; (try dsimp only at hSw); go_simp; try with_reducible rfl); simp only [Act.put, zT]
  refine tkT 2 ?_ rfl hS ?_ ?_ (by kernel_rfl) (fun _ _ _ h => h) (by rfl); rotate_left; (· intro wS hSw; (try dsimp only at hSw); go_simp; try with_reducible rfl); simp only [Act.put, zT]
  refine tkT 3 ?_ rfl hS ?_ ?_ (by kernel_rfl) (fun _ _ _ h => h) (by rfl); rotate_left; (· intro wS hSw; (try dsimp only at hSw); go_simp; try with_reducible rfl); simp only [Act.put, zT]
  refine tkT 4 ?_ rfl hS ?_ ?_ (by kernel_rfl) (fun _ _ _ h => h) (by rfl); rotate_left; (· intro wS hSw; (try dsimp only at hSw); go_simp; try with_reducible rfl); simp only [Act.put, zT]
  refine tkT 5 ?_ rfl hS ?_ ?_ (by kernel_rfl) (fun _ _ _ h => h) (by rfl); rotate_left; (· intro wS hSw; (try dsimp only at hSw); go_simp; try with_reducible rfl); simp only [Act.put, zT]
  refine tkT 6 ?_ rfl hS ?_ ?_ (by kernel_rfl) (fun _ _ _ h => h) (by rfl); rotate_left; (· intro wS hSw; (try dsimp only at hSw); go_simp; try with_reducible rfl); simp only [Act.put, zT]
  refine tkT 7 ?_ rfl hS ?_ ?_ (by kernel_rfl) (fun _ _ _ h => h) (by rfl); rotate_left; (· intro wS hSw; (try dsimp only at hSw); go_simp; try with_reducible rfl); simp only [Act.put, zT]
  refine tkT 8 ?_ rfl hS ?_ ?_ (by kernel_rfl) (fun _ _ _ h => h) (by rfl); rotate_left; (· intro wS hSw; (try dsimp only at hSw); go_simp; try with_reducible rfl); simp only [Act.put, zT]
  refine tkT 9 ?_ rfl hS ?_ ?_ (by kernel_rfl) (fun _ _ _ h => h) (by rfl); rotate_left; (· intro wS hSw; (try dsimp only at hSw); go_simp; try with_reducible rfl); simp only [Act.put, zT]
  refine tkT 10 ?_ rfl hS ?_ ?_ (by kernel_rfl) (fun _ _ _ h => h) (by rfl); rotate_left; (· intro wS hSw; (try dsimp only at hSw); go_simp; try with_reducible rfl); simp only [Act.put, zT]
  refine oneT (i := 11) rfl (by kernel_rfl) (fun K hK => ?_)
  go_simp
  refine Hcall.out.mono ?_
  rintro e w5 ⟨rfl, ob, hI5, -⟩
  simp only
  refine hK _ _ (fun h => absurd h (by omega)) ?_
  clear hK K hS
  refine doneT (by kernel_rfl) ?_ _
  obtain ⟨ov, h10, hob, hown⟩ := hI5.ord
  rw [Hlen.out] at hown
  obtain ⟨g, c, rfl, hc, hrow⟩ : ∃ g c, ov = .slice (some ⟨g, 0, none⟩) n c ∧ n ≤ c ∧ Row w5 g 3 1 c (O.map vN) := by
   rcases hown.2 with ⟨_, h0⟩ | ⟨g, c, h1, h2, h3⟩
   · omega
   · exact ⟨g, c, h1, h2, h3⟩
  have hg : w.heap.size ≤ g := Hnew.out w5 O ob hI5 g hob.symm
  have hbl := Hbw.out w5 O ob hI5
  have Hrow := Lib.hid hrow; have Hbl := Lib.hid hbl
  clear hown hob hrow hbl hI5
  go_wp2_with fail
  go_ret2
  exact ⟨O, g, c, ⟨D, _, wo, Hg.out wo Hwt.out, HOe.out⟩, Hlen.out, rfl, Hrow.out.at_, hc, hg, Hbl.out⟩
end Go.Proofs.YtagjdkkfmfombaaGreat
namespace Go.Proofs.YtagjdkkfmfombaaGreat
open Go Go.RowKit
structure TreeC (n : Nat) (es : List (Int × Int)) (ts : List Int) : Prop where
 tr : TreeV n es
 tl : ts.length = n
 tt : tintsB ts n = true
theorem TreeC.bough {n : Nat} {es : List (Int × Int)} {ts : List Int} (h : TreeC n es ts) : boughB n es ts = true := by
 unfold boughB
 rw [h.tr.right, h.tt, decide_eq_true (show (0 : Int) < (n : Int) by have := h.tr.pos; omega), Int.toNat_natCast, h.tr.parts]
 rfl
def CanO (n : Nat) (es : List (Int × Int)) (ts : List Int) (O : List Nat) : Prop := (n = 1 ∧ O = [0]) ∨ (2 ≤ n ∧ TreeO n es ts O)
theorem CanO.ord {n : Nat} {es : List (Int × Int)} {ts : List Int} {O : List Nat} (h : CanO n es ts O) : OrdV n O := by
 rcases h with ⟨rfl, rfl⟩ | ⟨_, D, U, wo, hg, rfl⟩
 · exact ⟨by simp, by simp, rfl⟩
 · exact (hg.v.tellO wo ts).ord
def RetCn (w : World) (n : Nat) (es : List (Int × Int)) (ts : List Int) (e : Ending) (w' : World) : Prop :=
 ∃ O g c g2 c2, CanO n es ts O ∧ e = .returned (.tuple #[.agg #[.slice (some ⟨g, 0, none⟩) (codeL ts O es).length c, .slice (some ⟨g2, 0, none⟩) n c2], .int .i64 0]) ∧
  Row w' g 5 1 c ((codeL ts O es).map byteV) ∧ CellsAt w' (some ⟨g2, 0, none⟩) (O.map vN) ∧ w.heap.size ≤ g ∧ w.heap.size ≤ g2 ∧ n ≤ c2 ∧ (codeL ts O es).length ≤ c ∧ Below w.heap.size w w'
theorem canonNot_walk (n : Int) (a b : Option Addr) (ca cb : Nat) (es : List (Int × Int)) (ts : List Int) (w : World) (hno : boughB n es ts = false) (hr : RdP w a es) (hcap : es.length ≤ 9223372036854775807) (hts : RdI w b ts) (hl : ts.length ≤ 9223372036854775807) :
  Calls Tryz.prog 7 #[.agg #[.int .i64 n, .slice a es.length ca], .slice b ts.length cb] w fun e w' => e = .returned (.tuple #[.agg #[.slice none 0 0, .slice none 0 0], .int .i64 200]) ∧ Below w.heap.size w w' := by
 have hb1 := bl_alloc w (.cells #[.int .i64 n, .slice a es.length ca] 24)
 have hb2 := hb1.trans ((bl_alloc (w.alloc (.cells #[.int .i64 n, .slice a es.length ca] 24)) (.cells #[.slice none 0 0, .slice none 0 0] 30)).mono hb1.size)
 have hbr := boughRight_walk n a ca es b cb ts _ (hr.below hb2) hcap (hts.below hb2) hl
 rw [hno] at hbr
 have hsz : (w.alloc (.cells #[.int .i64 n, .slice a es.length ca] 24)).heap.size = w.heap.size + 1 := by simp
 have t4 := TC.made (w.alloc (.cells #[.int .i64 n, .slice a es.length ca] 24)) #[.slice none 0 0, .slice none 0 0] 30
 rw [hsz] at t4
 have Hbr := Lib.hid hbr; have Hb2 := Lib.hid hb2; have Ht4 := Lib.hid t4
 clear hbr hb1 hb2 t4 hr hts hno
 go_enter Tryz.func7, Tryz.ntmps7
 go_wp2_with fail
 refine Hbr.out.mono ?_
 rintro e w1 ⟨rfl, hb1⟩
 have t1 := Ht4.out.below hb1
 have d0 := t1.at_ 0 _ rfl
 have d1 := t1.at_ 1 _ rfl
 have f0 := t1.fz 0
 have f1 := t1.fz 1
 have hB := Hb2.out.trans (hb1.mono Hb2.out.size)
 have HB := Lib.hid hB
 clear hB hb1 t1 hsz
 go_wp2_with fail
 refine bodyPost_ret (v := .tuple #[.agg #[.slice none 0 0, .slice none 0 0], .int .i64 200]) ?_ rfl ⟨rfl, ?_⟩
 · simp [results, Tryz.results7, go_sem, d0, d1]
 · exact (HB.out.setCell (p := ⟨w.heap.size + 1, 0, none⟩) (by simp only; omega) _).setCell (p := ⟨w.heap.size + 1, 1, none⟩) (by simp only; omega) _
set_option maxRecDepth 100000 in
set_option maxHeartbeats 4000000 in
theorem canon_walk (n : Nat) (a b : Option Addr) (ca cb : Nat) (es : List (Int × Int)) (ts : List Int) (w : World) (ht : TreeC n es ts) (hr : RdP w a es) (hts : RdI w b ts) :
  Calls Tryz.prog 7 #[.agg #[.int .i64 n, .slice a es.length ca], .slice b n cb] w (RetCn w n es ts) := by
 have hn := ((rightB_iff n es).1 ht.tr.right).2.1
 have hb1 := bl_alloc w (.cells #[.int .i64 n, .slice a es.length ca] 24)
 have hb2 := hb1.trans ((bl_alloc (w.alloc (.cells #[.int .i64 n, .slice a es.length ca] 24)) (.cells #[.slice none 0 0, .slice none 0 0] 30)).mono hb1.size)
 have hbr := boughRight_walk n a ca es b cb ts _ (hr.below hb2) (by have := ht.tr.len; omega) (hts.below hb2) (by rw [ht.tl]; omega)
 rw [ht.bough, ht.tl] at hbr
 have hsz : (w.alloc (.cells #[.int .i64 n, .slice a es.length ca] 24)).heap.size = w.heap.size + 1 := by simp
 have t4 := TC.made (w.alloc (.cells #[.int .i64 n, .slice a es.length ca] 24)) #[.slice none 0 0, .slice none 0 0] 30
 have tg := (TC.made w #[.int .i64 n, .slice a es.length ca] 24).below (bl_alloc (w.alloc (.cells #[.int .i64 n, .slice a es.length ca] 24)) (.cells #[.slice none 0 0, .slice none 0 0] 30))
 rw [hsz] at t4
 have hn1 := ht.tr.pos
 have Hbr := Lib.hid hbr; have Hb2 := Lib.hid hb2; have Ht4 := Lib.hid t4; have Htg := Lib.hid tg; have Hht := Lib.hid ht; have Hr := Lib.hid hr; have Hts := Lib.hid hts
 clear hbr hb1 hb2 t4 tg ht hr hts
 go_enter Tryz.func7, Tryz.ntmps7
 go_wp2_with fail
 refine Hbr.out.mono ?_
 rintro e w1 ⟨rfl, hb1⟩
 have tg1 := Htg.out.below hb1
 have g0 := tg1.at_ 0 _ rfl
 have g1 := tg1.at_ 1 _ rfl
 have hB1 := Hb2.out.trans (hb1.mono Hb2.out.size)
 have to1 := Ht4.out.below hb1
 have HB1 := Lib.hid hB1; have Hto1 := Lib.hid to1; have Htg1 := Lib.hid tg1
 clear hB1 hb1 to1 tg1 Hbr hsz
 by_cases h2 : 2 ≤ n
 ·
  have i1 : (n : Int) > 1 := by omega
  have hb3 := bl_alloc w1 (.cells #[.int .i64 0] 3)
  have hB3 := HB1.out.trans (hb3.mono HB1.out.size)
  have har := arranged_walk n a b ca cb es ts _ Hht.out.tr h2 Hht.out.tl (Hr.out.below hB3) (Hts.out.below hB3)
  have g0' := keep_cell hb3 g0
  have g1' := keep_cell hb3 g1
  have Har := Lib.hid har; have HB3 := Lib.hid hB3; have Hb3 := Lib.hid hb3
  clear har hB3 hb3
  go_wp2_with fail
  refine Har.out.mono ?_
  generalize w1.alloc (.cells #[.int .i64 0] 3) = w3 at *
  rintro e w4 ⟨O, go_, co, hO, hOl, rfl, hoc, hco, hgo, hb4⟩
  have g1'' := keep_cell hb4 g1'
  have hcan : CanO n es ts O := .inr ⟨h2, hO⟩
  have hto := (Hto1.out.below Hb3.out).below hb4
  have hBo := HB3.out.trans (hb4.mono HB3.out.size)
  have hs3 := (Hto1.out.below Hb3.out).lt
  have hgo2 : w.heap.size + 1 < go_ := by omega
  have hor := hcan.ord
  have Hcan := Lib.hid hcan; have Hor := Lib.hid hor; have Hoc := Lib.hid hoc; have Hco := Lib.hid hco; have Hto := Lib.hid hto; have HBo := Lib.hid hBo; have Hgo := Lib.hid hgo2
  clear hcan hor hoc hco hto hBo hgo2 hgo hb4 hO hOl Har hs3
  have her : ∀ e ∈ es, 0 ≤ e.1 ∧ e.1 < O.length ∧ 0 ≤ e.2 ∧ e.2 < O.length := fun e he => by
   obtain ⟨j, hj, rfl⟩ := List.getElem_of_mem he; have := ((rightB_iff n es).1 Hht.out.tr.right).2.2.2.1 j hj; have := (Hor.out).len; omega
  have hor := Hor.out
  have hfc := fun w ht ho he => figcode_walk b (some ⟨go_, 0, none⟩) a cb co ca ts O es w ht ho he (by have := hor.len; omega) (by have := ((rightB_iff n es).1 Hht.out.tr.right).2.2.1; omega) (fun v hv => by rw [hor.len]; exact hor.lt v hv) hor.nd (by rw [Hht.out.tl, hor.len]) her
  have hfc2 := hfc _ (Hts.out.below HBo.out) Hoc.out (Hr.out.below HBo.out)
  rw [Hht.out.tl, hor.len] at hfc2
  have Hfc := Lib.hid hfc2
  clear hfc hfc2 her hor
  go_wp2_with fail
  refine Hfc.out.mono ?_
  rintro e w6 ⟨gc, cc, rfl, hrc, hcl, hgc, hb6⟩
  have t6 := Hto.out.below hb6
  have m0 := t6.at_ 0 _ rfl
  have m1 := t6.at_ 1 _ rfl
  have mf0 := t6.fz 0
  have mf1 := t6.fz 1
  have hs6 := HBo.out.size
  have hoc6 := CellsAt.below Hoc.out hb6
  have hB6 := HBo.out.trans (hb6.mono hs6)
  have Hrc := Lib.hid hrc; have Hoc6 := Lib.hid hoc6; have HB6 := Lib.hid hB6
  clear hb6 hrc hoc6 hB6 t6
  go_wp2_with fail
  refine bodyPost_ret (v := .tuple #[.agg #[.slice (some ⟨gc, 0, none⟩) (codeL ts O es).length cc, .slice (some ⟨go_, 0, none⟩) n co], .int .i64 0]) ?_ rfl ⟨O, gc, cc, go_, co, Hcan.out, rfl, ?_, ?_, by omega, by have := Hgo.out; omega, Hco.out, hcl, ?_⟩
  · simp [results, Tryz.results7, go_sem, m0, m1]
  · exact (Hrc.out.other (a := ⟨w.heap.size + 1, 0, none⟩) (by have := Hto.out.lt; simp only; omega) _).other (a := ⟨w.heap.size + 1, 1, none⟩) (by have := Hto.out.lt; simp only; omega) _
  ·
   intro i u hu; obtain ⟨b', o', e1, e2⟩ := Hoc6.out i u hu; cases e1; have hgo := Hgo.out; refine ⟨go_, 0, rfl, ?_⟩; rw [World.cell?_setCell_far _ _ _ _ (by simp only; omega), World.cell?_setCell_far _ _ _ _ (by simp only; omega)]; exact e2
  · exact (HB6.out.setCell (p := ⟨w.heap.size + 1, 0, none⟩) (by simp only; omega) _).setCell (p := ⟨w.heap.size + 1, 1, none⟩) (by simp only; omega) _
 ·
  obtain rfl : n = 1 := by omega
  have i1 : ¬ ((1 : Nat) : Int) > 1 := by omega
  have hb3 := bl_alloc w1 (.cells #[.int .i64 0] 3)
  have hB3 := HB1.out.trans (hb3.mono HB1.out.size)
  have hoc : CellsAt (w1.alloc (.cells #[.int .i64 0] 3)) (some ⟨w1.heap.size, 0, none⟩) ([0].map vN) := fun i u hu => by
   cases i with
   | zero => simp at hu; subst hu; exact ⟨_, 0, rfl, by simp [vN]⟩
   | succ i => simp at hu
  have g1'' := keep_cell hb3 g1
  have g0' := keep_cell hb3 g0
  have hcan : CanO 1 es ts [0] := .inl ⟨rfl, rfl⟩
  have hto := Hto1.out.below hb3
  have hgo2 : w.heap.size + 1 < w1.heap.size := Hto1.out.lt
  have hor := hcan.ord
  have hco : (1 : Nat) ≤ 1 := Nat.le_refl _
  obtain ⟨O, hOe⟩ : ∃ O, O = [0] := ⟨_, rfl⟩
  rw [← hOe] at hcan hor hoc
  have Hcan := Lib.hid hcan; have Hor := Lib.hid hor; have Hoc := Lib.hid hoc; have Hco := Lib.hid hco; have Hto := Lib.hid hto; have HBo := Lib.hid hB3; have Hgo := Lib.hid hgo2; have HOe := Lib.hid hOe
  clear hcan hor hoc hco hto hB3 hgo2 hb3 hOe h2
  go_upto_region 9 with (fail)
  generalize w1.alloc (.cells #[.int .i64 0] 3) = w4 at *
  obtain ⟨go_, hgo⟩ : ∃ go_, go_ = w1.heap.size := ⟨_, rfl⟩
  rw [← hgo] at Hoc Hgo ⊢
  clear hgo
  have her : ∀ e ∈ es, 0 ≤ e.1 ∧ e.1 < O.length ∧ 0 ≤ e.2 ∧ e.2 < O.length := fun e he => by
   obtain ⟨j, hj, rfl⟩ := List.getElem_of_mem he; have := ((rightB_iff 1 es).1 Hht.out.tr.right).2.2.2.1 j hj; have := (Hor.out).len; omega
  have hor := Hor.out
  have hfc := fun w ht ho he => figcode_walk b (some ⟨go_, 0, none⟩) a cb 1 ca ts O es w ht ho he (by have := hor.len; omega) (by have := ((rightB_iff 1 es).1 Hht.out.tr.right).2.2.1; omega) (fun v hv => by rw [hor.len]; exact hor.lt v hv) hor.nd (by rw [Hht.out.tl, hor.len]) her
  have hfc2 := hfc _ (Hts.out.below HBo.out) Hoc.out (Hr.out.below HBo.out)
  rw [Hht.out.tl, hor.len] at hfc2
  have Hfc := Lib.hid hfc2
  clear hfc hfc2 her hor
  go_wp2_with fail
  refine Hfc.out.mono ?_
  rintro e w6 ⟨gc, cc, rfl, hrc, hcl, hgc, hb6⟩
  have t6 := Hto.out.below hb6
  have m0 := t6.at_ 0 _ rfl
  have m1 := t6.at_ 1 _ rfl
  have mf0 := t6.fz 0
  have mf1 := t6.fz 1
  have hs6 := HBo.out.size
  have hoc6 := CellsAt.below Hoc.out hb6
  have hB6 := HBo.out.trans (hb6.mono hs6)
  have Hrc := Lib.hid hrc; have Hoc6 := Lib.hid hoc6; have HB6 := Lib.hid hB6
  clear hb6 hrc hoc6 hB6 t6
  go_wp2_with fail
  refine bodyPost_ret (v := .tuple #[.agg #[.slice (some ⟨gc, 0, none⟩) (codeL ts O es).length cc, .slice (some ⟨go_, 0, none⟩) 1 1], .int .i64 0]) ?_ rfl ⟨O, gc, cc, go_, 1, Hcan.out, rfl, ?_, ?_, by omega, by have := Hgo.out; omega, Hco.out, hcl, ?_⟩
  · simp [results, Tryz.results7, go_sem, m0, m1]
  · exact (Hrc.out.other (a := ⟨w.heap.size + 1, 0, none⟩) (by have := Hto.out.lt; simp only; omega) _).other (a := ⟨w.heap.size + 1, 1, none⟩) (by have := Hto.out.lt; simp only; omega) _
  ·
   intro i u hu; obtain ⟨b', o', e1, e2⟩ := Hoc6.out i u hu; cases e1; have hgo := Hgo.out; refine ⟨go_, 0, rfl, ?_⟩; rw [World.cell?_setCell_far _ _ _ _ (by simp only; omega), World.cell?_setCell_far _ _ _ _ (by simp only; omega)]; exact e2
  · exact (HB6.out.setCell (p := ⟨w.heap.size + 1, 0, none⟩) (by simp only; omega) _).setCell (p := ⟨w.heap.size + 1, 1, none⟩) (by simp only; omega) _
end Go.Proofs.YtagjdkkfmfombaaGreat
namespace Go.Proofs.YtagjdkkfmfombaaGreat
open Go Go.RowKit
def bestK (n : Nat) (es : List (Int × Int)) (ts : List Int) (k : Nat) : List Int := ((List.range k).map fun v => textH es ts n v (-1)).foldl bestF []
theorem bestK_succ (n : Nat) (es : List (Int × Int)) (ts : List Int) (k : Nat) : bestK n es ts (k + 1) = bestF (bestK n es ts k) (textH es ts n k (-1)) := by
 unfold bestK
 rw [List.range_succ, List.map_append, List.foldl_append]
 rfl
theorem bestK_by (n : Nat) (es : List (Int × Int)) (ts : List Int) : ∀ k, ByL (bestK n es ts k)
 | 0 => fun x hx => by simp [bestK] at hx
 | k + 1 => by
  rw [bestK_succ]
  unfold bestF
  split
  · exact textH_by es ts n k _
  · exact bestK_by n es ts k
theorem bA_nil (x : List Int) : (bA x).toList = [] ↔ x = [] := by
 rw [bA_list]
 simp [byU]
theorem bA_lss {x y : List Int} (hx : ByL x) (hy : ByL y) : Op.bytesLess (bA x).toList (bA y).toList = decide (cmpB x y < 0) := by
 rw [bA_list, bA_list, Bool.eq_iff_iff, decide_eq_true_iff, cmpB_neg]
 exact bytesLess_iff hx hy
set_option maxRecDepth 100000 in
set_option maxHeartbeats 8000000 in
theorem text_walk (n : Nat) (a b : Option Addr) (ca cb : Nat) (es : List (Int × Int)) (ts : List Int) (w : World) (ht : TreeC n es ts) (hr : RdP w a es) (hts : RdI w b ts) :
  Calls Tryz.prog 8 #[.agg #[.int .i64 n, .slice a es.length ca], .slice b n cb] w fun e w' => e = .returned (strV (textG n es ts)) ∧ Below w.heap.size w w' := by
 have hn200 := ((rightB_iff n es).1 ht.tr.right).2.1
 have hb1 := bl_alloc w (.cells #[.int .i64 n, .slice a es.length ca] 24)
 have hbs := beside_walk n a ca es _ (hr.below hb1) ht.tr.right
 have g0 : (w.alloc (.cells #[.int .i64 n, .slice a es.length ca] 24)).cell? ⟨w.heap.size, 0, none⟩ = some (.int .i64 n) := by simp
 have g1 : (w.alloc (.cells #[.int .i64 n, .slice a es.length ca] 24)).cell? ⟨w.heap.size, 1, none⟩ = some (.slice a es.length ca) := by simp
 have hts1 := hts.below hb1
 have Hht := Lib.hid ht; have Hb1 := Lib.hid hb1; have Hbs := Lib.hid hbs; have Hts := Lib.hid hts1
 clear ht hb1 hbs hts hts1 hr
 go_enter Tryz.func8, Tryz.ntmps8
 go_wp2_with fail
 refine Hbs.out.mono ?_
 intro e w1 hret
 obtain ⟨G, rfl, hbes, hb1⟩ := RetBeside.bes hret
 have hB1 := Hb1.out.trans (hb1.mono Hb1.out.size)
 have hts1 := Hts.out.below hb1
 have hcall : ∀ v, v < n → ∀ wj, Below w1.heap.size w1 wj → Calls Tryz.prog 22 #[.slice (some ⟨G, 0, none⟩) n n, .slice b n cb, .int .i64 v, .int .i64 (-1)] wj fun e w' => e = .returned (.string (bA (textH es ts n v (-1)))) ∧ Below wj.heap.size wj w' := fun v hv wj hj => by
  obtain ⟨up, dep, h, hd⟩ := Hht.out.tr.hungN hv
  have := hung_walk G b cb h Hht.out.tr hd Hht.out.tl n v wj hv (by omega) (hbes.below hj) (hts1.below hj)
  rw [h.upr] at this
  unfold txH at this
  rw [h.upr] at this
  exact this
 have Hcall := Lib.hid hcall; have HB1 := Lib.hid hB1
 clear hcall hB1 hts1 hbes hb1 hret Hbs Hts g0 g1
 go_wp2_with fail
 go_loopg [6, 13] n (fun rr bv iv wj => ∃ k : Nat, k + rr = n ∧ iv = .int .i64 k ∧ bv = .string (bA (bestK n es ts k)) ∧ Below w1.heap.size w1 wj)
 case atStart => exact ⟨0, by omega, rfl, rfl, Below.refl _ _⟩
 case round =>
  obtain ⟨k, hk, rfl, rfl, hB⟩ := hrel
  by_cases hkn : k < n
  ·
   have i1 : (k : Int) < (n : Int) := by omega
   have hc := Hcall.out k hkn wr hB; have hst := bestK_succ n es ts k; have hby := bestK_by n es ts k; have hsb : ByL (textH es ts n k (-1)) := textH_by es ts n k _; obtain ⟨B, hBe⟩ : ∃ B, bestK n es ts k = B := ⟨_, rfl⟩
   obtain ⟨s, hs⟩ : ∃ s, textH es ts n k (-1) = s := ⟨_, rfl⟩
   rw [hBe, hs] at hst; rw [hs] at hc hsb; rw [hBe] at hby; rw [hBe]; have e1 := bA_nil B; have e2 := bA_lss hsb hby; have Hk := Lib.hid hk; have HB := Lib.hid hB; have Hc := Lib.hid hc; have Hst := Lib.hid hst; have He1 := Lib.hid e1; have He2 := Lib.hid e2; clear hk hB hc hst e1 e2 hby hsb hBe hs; go_wp2_with fail; refine Hc.out.mono ?_; rintro e w2 ⟨rfl, hb2⟩; have hB := HB.out.trans (hb2.mono HB.out.size); have HB := Lib.hid hB; clear hB hb2 Hc; by_cases hB0 : B = []
   ·
    have e1 : (bA B).toList = [] := He1.out.2 hB0; have e3 : (bA B).toList.isEmpty = true := by rw [e1]; rfl
    have hst : bestK n es ts (k + 1) = s := by rw [Hst.out]; unfold bestF; rw [if_pos (.inl hB0)]
    clear He1 He2 Hst hB0; have Hst := Lib.hid hst; clear hst; go_wp2_with fail; go_roundg (gk - 1)
    case measure => have := Hk.out; omega
    case rel => exact ⟨k + 1, by have := Hk.out; omega, by go_num, by rw [Hst.out], HB.out⟩
   ·
    have e1 : ¬ (bA B).toList = [] := fun h => hB0 (He1.out.1 h); have e3 : (bA B).toList.isEmpty = false := by
     cases h : (bA B).toList with
     | nil => exact absurd h e1
     | cons _ _ => rfl
    by_cases hlt : cmpB s B < 0
    ·
     have e2 := He2.out; rw [decide_eq_true hlt] at e2; have hst : bestK n es ts (k + 1) = s := by rw [Hst.out]; unfold bestF; rw [if_pos (.inr hlt)]
     clear He1 He2 Hst hB0 hlt; have Hst := Lib.hid hst; clear hst; go_wp2_with fail; go_roundg (gk - 1)
     case measure => have := Hk.out; omega
     case rel => exact ⟨k + 1, by have := Hk.out; omega, by go_num, by rw [Hst.out], HB.out⟩
    ·
     have e2 := He2.out; rw [decide_eq_false hlt] at e2; have hst : bestK n es ts (k + 1) = B := by rw [Hst.out]; unfold bestF; rw [if_neg (fun h => h.elim hB0 hlt)]
     clear He1 He2 Hst hB0 hlt; have Hst := Lib.hid hst; clear hst; go_wp2_with fail; go_roundg (gk - 1)
     case measure => have := Hk.out; omega
     case rel => exact ⟨k + 1, by have := Hk.out; omega, by go_num, by rw [Hst.out], HB.out⟩
  ·
   have hkn : k = n := by omega
   subst hkn; have HB := Lib.hid hB; clear hB hk; go_wp2_with fail; go_ret; exact ⟨rfl, HB1.out.trans (HB.out.mono HB1.out.size)⟩
end Go.Proofs.YtagjdkkfmfombaaGreat
namespace Go.Proofs.YtagjdkkfmfombaaGreat
open Go Go.RowKit
theorem conv_by (w : World) (ad : Addr) (cap : Nat) (x : List Int) (hb : ByL x) (hc : CellsAt w (some ad) (x.map byteV)) :
  (convert 28 9 (.slice (some ad) x.length cap)).run Tryz.prog w = .ok (.string (bA x)) w := by
 have := run_convert_bytes_back (P := Tryz.prog) w 28 9 5 ad cap (byU x) Tryz.underlying28 Tryz.underlying5 Tryz.underlying9 fun j hj => by
  rw [byU_len] at hj
  have hq := hb x[j] (List.getElem_mem hj)
  have e : (((byU x)[j]'(by rw [byU_len]; exact hj)).toNat : Int) = x[j] := by
   simp only [byU, List.getElem_map]; rw [UInt8.toNat_ofNat']; omega
  rw [e]
  obtain ⟨b', o', e1, e2⟩ := hc j (byteV x[j]) (by rw [List.getElem?_map, List.getElem?_eq_getElem hj]; rfl)
  cases e1
  rw [Addr.add_lit]
  exact e2
 rw [byU_len] at this
 exact this
theorem bytesL_by (l : List Int) : ByL (bytesL l) := fun z hz => by
 obtain ⟨a, _, ha⟩ := List.mem_flatMap.1 hz
 exact four_by a z ha
theorem bA_inj {x y : List Int} (hx : ByL x) (hy : ByL y) : ((bA x).toList = (bA y).toList) ↔ x = y := by
 rw [bA_list, bA_list]
 exact byU_inj hx hy
set_option maxRecDepth 100000 in
set_option maxHeartbeats 8000000 in
theorem is_walk (ad : Addr) (a2 : Option Addr) (cx cl : Nat) (x l : List Int) (w : World) (hx : CellsAt w (some ad) (x.map byteV)) (hxb : ByL x) (hl : CellsAt w a2 (l.map byteV)) (hlb : ByL l) (hne : l ≠ []) (hll : l.length ≤ 1000) :
  Calls Tryz.prog 18 #[.slice (some ad) x.length cx, .slice a2 l.length cl] w fun e w' => e = .returned (.bool (decide (x = bytesL l))) ∧ Below w.heap.size w w' := by
 have Hx := Lib.hid hx; have Hxb := Lib.hid hxb; have Hl := Lib.hid hl; have Hlb := Lib.hid hlb; have Hne := Lib.hid hne
 clear hx hxb hl hlb hne
 go_enter Tryz.func18, Tryz.ntmps18
 go_wp2_with fail
 go_loopg [5, 10] l.length (fun rr ov iv wj => ∃ (k : Nat) (a5 : Option Addr × Nat), k + rr = l.length ∧ iv = .int .i64 k ∧ ov = .slice a5.1 (4 * k) a5.2 ∧ Own wj (.slice a5.1 (4 * k) a5.2) 5 1 (4 * k) ((bytesL (l.take k)).map byteV) ∧ (∀ g, Value.ownBlock (.slice a5.1 (4 * k) a5.2) = some g → w.heap.size ≤ g) ∧ Below w.heap.size w wj)
 case atStart => exact ⟨0, (none, 0), by omega, rfl, rfl, own_nil _ _ _, fun g hg => by simp [Value.ownBlock] at hg, Below.refl _ _⟩
 case round =>
  obtain ⟨k, ⟨a5, c5⟩, hk, rfl, rfl, hown, hg5, hB⟩ := hrel
  simp only at hown hg5
  by_cases hkl : k < l.length
  ·
   obtain ⟨b, o, e1, hxc⟩ := (Hl.out.below hB) k (byteV l[k]) (by rw [List.getElem?_map, List.getElem?_eq_getElem hkl]; rfl); cases e1; have hr := Hlb.out _ (List.getElem_mem hkl); obtain ⟨y, hy⟩ : ∃ y, l[k] = y := ⟨_, rfl⟩
   rw [hy] at hxc hr; have i1 : (k : Int) < (l.length : Int) := by omega
   have hst : (bytesL (l.take (k + 1))).map byteV = (bytesL (l.take k)).map byteV ++ [.int .u8 0, .int .u8 0, .int .u8 0, .int .u8 y] := by
    rw [List.take_succ_eq_append_getElem hkl, hy]; unfold bytesL; rw [List.flatMap_append, List.map_append]; simp only [List.flatMap_cons, List.flatMap_nil, List.append_nil, four, List.map_cons, List.map_nil, byteV]; rw [show y / 16777216 % 256 = 0 by omega, show y / 65536 % 256 = 0 by omega, show y / 256 % 256 = 0 by omega, show y % 256 = y by omega]
   have Hst := Lib.hid hst; have Hk := Lib.hid hk; have Hg5 := Lib.hid hg5; have HB := Lib.hid (bl_trans hB (bl_alloc wr (.cells #[.int .u8 0, .int .u8 0, .int .u8 0, .int .u8 y] 5))); have hxc' : wr.cell? ⟨b, o + k, none⟩ = some (.int .u8 y) := hxc; clear hst hy hk hg5 hB hxc hr; go_wp2_with (at_builtin; go_loud (refine wpList_append_row _ rfl (.tmp 14) (.tmp 16) 28 rfl 5 (.int .u8 0) 1 1 Tryz.underlying28 byte_info rfl (.slice a5 (4 * k) c5) (4 * k) _ rfl (hown.alloc _) ⟨wr.heap.size, 0, none⟩ 4 4 [.int .u8 0, .int .u8 0, .int .u8 0, .int .u8 y] rfl rfl (news_lit wr _ [_, _, _, _]) (by intro u hu; simp at hu; rcases hu with rfl | rfl <;> rfl) (by omega) (by unfold maxLen; omega) (by omega) ?_; intro g3 c3 w3 hr3 hc3 hg3 hor3)); have hg3' : w.heap.size ≤ g3 := by
    have h2 := HB.out.size; rcases hor3 with h | h
    · exact Hg5.out g3 h
    · omega
   have hB3 := HB.out.grown hg3 HB.out.size (fun j hj => Hg5.out j hj); rw [← Hst.out] at hr3; have HB3 := Lib.hid hB3; have Hr3 := Lib.hid hr3; clear hr3 hg3 hor3 hB3 hown; go_wp2_with fail; go_roundg (gk - 1)
   case measure => have := Hk.out; omega
   case rel =>
    refine ⟨k + 1, (some ⟨g3, 0, none⟩, c3), by have := Hk.out; omega, by go_num, by rw [show 4 * k + 4 = 4 * (k + 1) by omega], ?_, ?_, HB3.out⟩
    ·
     refine Hr3.out.own ?_ (by omega); rw [List.length_map, bytesL_len, List.length_take]; omega
    ·
     intro g hg; simp [Value.ownBlock] at hg; subst hg; exact hg3'
  ·
   have hkl : k = l.length := by omega
   subst hkl; rw [List.take_length] at hown; obtain ⟨g, cap, e1, hc5, hrow⟩ : ∃ g cap, a5 = some ⟨g, 0, none⟩ ∧ 4 * l.length ≤ cap ∧ Row wr g 5 1 cap ((bytesL l).map byteV) := by
    rcases hown.2 with ⟨_, h0⟩ | ⟨g, cap, e, hc, hr⟩
    · exact absurd (List.length_eq_zero_iff.1 (by omega)) Hne.out
    · cases e; exact ⟨g, _, rfl, hc, hr⟩
   subst e1; have hv1 := conv_by wr ad cx x Hxb.out (Hx.out.below hB); have hv2 := conv_by wr ⟨g, 0, none⟩ c5 (bytesL l) (bytesL_by l) hrow.at_; rw [bytesL_len] at hv2; have hiff := bA_inj Hxb.out (bytesL_by l); have i1 : ¬ (l.length : Int) < (l.length : Int) := by omega
   have hdd : decide (x = bytesL l) = ((bA x).toList == (bA (bytesL l)).toList) := by
    rw [Bool.eq_iff_iff, decide_eq_true_iff, beq_iff_eq]; exact hiff.symm
   have HB := Lib.hid hB; have Hdd := Lib.hid hdd; clear hrow hown hB hiff hg5 hk hdd; go_wp2_with fail; go_ret; exact ⟨by rw [Hdd.out]; rfl, HB.out⟩
theorem zerosC (w : World) (n : Nat) (hn : n ≤ 200) : RdI (w.alloc (.cells (madeCells #[.int .i64 0] n) 3)) (some ⟨w.heap.size, 0, none⟩) (List.replicate n 0) := by
 have := row_made w (.int .i64 0) n 3 (by unfold maxLen; omega)
 unfold RdI
 rw [List.map_replicate]
 exact this.at_
set_option maxRecDepth 100000 in
set_option maxHeartbeats 8000000 in
theorem plain_walk (n : Nat) (a : Option Addr) (ca : Nat) (es : List (Int × Int)) (w : World) (ht : TreeC n es (List.replicate n 0)) (hr : RdP w a es) :
  Calls Tryz.prog 17 #[.int .i64 n, .slice a es.length ca] w fun e w' => (∃ O, CanO n es (List.replicate n 0) O ∧ e = .returned (.string (bA (codeL (List.replicate n 0) O es)))) ∧ Below w.heap.size w w' := by
 have hn200 := ((rightB_iff n es).1 ht.tr.right).2.1
 have hmk := fun w => run_make_row' (P := Tryz.prog) 25 3 (.int .i64 0) 8 Tryz.underlying25 int_info rfl .i64 .i64 n (by omega) (by omega) w
 have hb1 := bl_alloc w (.cells (madeCells #[.int .i64 0] n) 3)
 have hc := canon_walk n a (some ⟨w.heap.size, 0, none⟩) ca n es (List.replicate n 0) _ ht (hr.below hb1) (zerosC w n (by omega))
 have Hc := Lib.hid hc; have Hb1 := Lib.hid hb1
 clear hc hb1 ht hr
 go_enter Tryz.func17, Tryz.ntmps17
 go_wp2_with fail
 refine Hc.out.mono ?_
 rintro e w1 ⟨O, g, c, g2, c2, hO, rfl, hrow, _, hg, hg2, hn2, hcl, hb⟩
 have hB := Hb1.out.trans (hb.mono Hb1.out.size)
 have hb4 := bl_alloc w1 (.cells #[.slice (some ⟨g, 0, none⟩) (codeL (List.replicate n 0) O es).length c, .slice (some ⟨g2, 0, none⟩) n c2] 30)
 have hcl2 := conv_by _ ⟨g, 0, none⟩ c (codeL (List.replicate n 0) O es) (bytesL_by _) ((show CellsAt w1 _ _ from hrow.at_).below hb4)
 have HB := Lib.hid (bl_trans hB hb4); have HO := Lib.hid hO; have Hrow := Lib.hid hrow
 clear hB hb hO hrow hcl hg hg2 hn2 hb4
 go_wp2_with fail
 go_ret
 exact ⟨⟨O, HO.out, rfl⟩, HB.out⟩
end Go.Proofs.YtagjdkkfmfombaaGreat
namespace Go.Proofs.YtagjdkkfmfombaaGreat
section
variable {n n' : Nat} {es es' : List (Int × Int)} {ts ts' : List Int} {O O' : List Nat}
theorem TreeC.tint (h : TreeC n es ts) : ∀ v, v < n → 0 ≤ ts.getD v 0 ∧ ts.getD v 0 < 4294967296 := fun v hv => by
 have ht := h.tt
 unfold tintsB at ht
 rw [Bool.and_eq_true, List.all_eq_true] at ht
 have hl : v < ts.length := by rw [h.tl]; exact hv
 have := ht.2 ts[v] (List.getElem_mem hl)
 rw [List.getD_eq_getElem?_getD, List.getElem?_eq_getElem hl]
 simp only [Bool.and_eq_true, decide_eq_true_eq] at this
 simp only [Option.getD_some]
 omega
theorem nums_lt (h : TreeC n es ts) (ho : OrdV n O) : ∀ a ∈ codeNums ts O es, 0 ≤ a ∧ a < 4294967296 := fun a ha => by
 have hn := ((rightB_iff n es).1 h.tr.right)
 unfold codeNums at ha
 rcases List.mem_append.1 ha with ha | ha
 ·
  rcases List.mem_append.1 ha with ha | ha
  ·
   rcases List.mem_cons.1 ha with e | ha
   · have := ho.len; omega
   ·
    obtain ⟨v, hv, rfl⟩ := List.mem_map.1 ha
    exact h.tint v (ho.lt v hv)
  ·
   have := hn.2.2.1
   rw [List.mem_singleton.1 ha]
   omega
 ·
  obtain ⟨e, he, hae⟩ := List.mem_flatMap.1 ha
  unfold endsF sortP at he
  rw [List.mem_mergeSort] at he
  obtain ⟨q, hq, rfl⟩ := List.mem_map.1 he
  have hb : ∀ v : Nat, ((O.idxOf v : Nat) : Int) ≤ 200 := fun v => by
   have := List.idxOf_le_length (a := v) (l := O)
   have := ho.len
   omega
  simp only [List.mem_cons, List.not_mem_nil, or_false, endP] at hae
  have h1 := hb q.1.toNat
  have h2 := hb q.2.toNat
  omega
theorem code_iso (h : TreeC n es ts) (h' : TreeC n' es' ts') (ho : CanO n es ts O) (ho' : CanO n' es' ts' O') : codeL ts O es = codeL ts' O' es' ↔ n = n' ∧ ∃ φ, IsoG n es ts es' ts' φ := by
 constructor
 ·
  intro e
  exact nums_iso h.tr.right h'.tr.right ho.ord ho'.ord (bytesL_inj (nums_lt h ho.ord) (nums_lt h' ho'.ord) e)
 ·
  rintro ⟨rfl, φ, i⟩
  unfold codeL
  congr 1
  rcases ho with ⟨rfl, rfl⟩ | ⟨h2, D, U, wo, hg, rfl⟩
  ·
   rcases ho' with ⟨-, rfl⟩ | ⟨h2, _⟩
   ·
    have e1 : es = [] := List.length_eq_zero_iff.1 (by have := h.tr.len; omega); have e2 : es' = [] := List.length_eq_zero_iff.1 (by have := h'.tr.len; omega); subst e1; subst e2; have hl := i.lab 0 (by omega); have h0 : φ 0 = 0 := by have := i.lt 0 (by omega); omega
    rw [h0] at hl; unfold codeNums; simp only [List.map_cons, List.map_nil, hl]
   · omega
  ·
   rcases ho' with ⟨h1, _⟩ | ⟨_, D', U', wo', hg', rfl⟩
   · omega
   · exact KtG.codes_same hg hg' i
theorem code_text (h : TreeC n es ts) (h' : TreeC n' es' ts') (ho : CanO n es ts O) (ho' : CanO n' es' ts' O') : codeL ts O es = codeL ts' O' es' ↔ textG n es ts = textG n' es' ts' := by
 rw [code_iso h h' ho ho', text_iff h.tr h'.tr h.tint h'.tint]
end
end Go.Proofs.YtagjdkkfmfombaaGreat
namespace Go.Proofs.YtagjdkkfmfombaaGreat
open Go Go.RowKit
theorem orderB_ord {n : Nat} {O : List Nat} (h : OrdV n O) : orderB (O.map fun v : Nat => (v : Int)) n = true := by
 unfold orderB
 rw [decide_eq_true (show (((O.map fun v : Nat => (v : Int)).length : Int)) = n by rw [List.length_map, h.len]), Bool.true_and, Bool.and_eq_true, List.all_eq_true, decide_eq_true_eq]
 refine ⟨fun x hx => ?_, ?_⟩
 ·
  obtain ⟨v, hv, rfl⟩ := List.mem_map.1 hx
  have := h.lt v hv
  simp only [Bool.and_eq_true, decide_eq_true_eq]
  omega
 · exact List.Pairwise.map _ (fun a b hab he => hab (by omega)) h.nd
set_option maxRecDepth 100000 in
set_option maxHeartbeats 4000000 in
theorem code_walk (n : Nat) (a b d : Option Addr) (ca cb cd : Nat) (es : List (Int × Int)) (ts : List Int) (O : List Nat) (w : World) (ht : TreeC n es ts) (ho : OrdV n O) (hr : RdP w a es) (hts : RdI w b ts) (hor : CellsAt w d (O.map vN)) :
  Calls Tryz.prog 16 #[.agg #[.int .i64 n, .slice a es.length ca], .slice b n cb, .slice d n cd] w fun e w' =>
   ∃ g c, e = .returned (.tuple #[.slice (some ⟨g, 0, none⟩) (codeL ts O es).length c, .int .i64 0]) ∧ Row w' g 5 1 c ((codeL ts O es).map byteV) ∧ (codeL ts O es).length ≤ c ∧ w.heap.size ≤ g ∧ Below w.heap.size w w' := by
 have hn := ((rightB_iff n es).1 ht.tr.right).2.1
 have hb1 := bl_alloc w (.cells #[.int .i64 n, .slice a es.length ca] 24)
 have hbr := boughRight_walk n a ca es b cb ts _ (hr.below hb1) (by have := ht.tr.len; omega) (hts.below hb1) (by rw [ht.tl]; omega)
 rw [ht.bough, ht.tl] at hbr
 have hod : RdI w d (O.map fun v : Nat => (v : Int)) := by
  unfold RdI
  rw [List.map_map]
  exact hor
 have how := fun w hr => order_walk d cd (O.map fun v : Nat => (v : Int)) n w hr (by rw [List.length_map, ho.len]; omega)
 rw [List.length_map, ho.len, orderB_ord ho] at how
 have her : ∀ e ∈ es, 0 ≤ e.1 ∧ e.1 < O.length ∧ 0 ≤ e.2 ∧ e.2 < O.length := fun e he => by
  obtain ⟨j, hj, rfl⟩ := List.getElem_of_mem he
  have := ((rightB_iff n es).1 ht.tr.right).2.2.2.1 j hj
  have := ho.len
  omega
 have hfc := fun w ht' ho' he => figcode_walk b d a cb cd ca ts O es w ht' ho' he (by have := ho.len; omega) (by have := ((rightB_iff n es).1 ht.tr.right).2.2.1; omega) (fun v hv => by rw [ho.len]; exact ho.lt v hv) ho.nd (by rw [ht.tl, ho.len]) her
 rw [ht.tl, ho.len] at hfc
 have g0 : (w.alloc (.cells #[.int .i64 n, .slice a es.length ca] 24)).cell? ⟨w.heap.size, 0, none⟩ = some (.int .i64 n) := by simp
 have g1 : (w.alloc (.cells #[.int .i64 n, .slice a es.length ca] 24)).cell? ⟨w.heap.size, 1, none⟩ = some (.slice a es.length ca) := by simp
 have hor1 := CellsAt.below hor hb1
 have hod1 := hod.below hb1
 have hr1 := hr.below hb1
 have hts1 := hts.below hb1
 have Hbr := Lib.hid hbr; have Hb1 := Lib.hid hb1; have Hr := Lib.hid hr1; have Hts := Lib.hid hts1; have How := Lib.hid how; have Hfc := Lib.hid hfc; have Hor := Lib.hid hor1; have Hod := Lib.hid hod1
 clear hbr hb1 hr hts how hfc hor hod hor1 hod1 hr1 hts1 ht ho her
 go_enter Tryz.func16, Tryz.ntmps16
 go_wp2_with fail
 refine Hbr.out.mono ?_
 rintro e w1 ⟨rfl, hb1⟩
 have g0' := keep_cell hb1 g0
 have g1' := keep_cell hb1 g1
 have hB1 := Hb1.out.trans (hb1.mono Hb1.out.size)
 have hod1 := Hod.out.below hb1
 have hor1 := CellsAt.below Hor.out hb1
 have hts1 := Hts.out.below hb1
 have hr1 := Hr.out.below hb1
 have HB1 := Lib.hid hB1; have Hod1 := Lib.hid hod1; have Hor1 := Lib.hid hor1; have Hts1 := Lib.hid hts1; have Hr1 := Lib.hid hr1
 clear hB1 hod1 hor1 hts1 hr1 hb1 Hbr Hb1 Hr Hts Hor Hod
 go_wp2_with fail
 refine (How.out _ Hod1.out).mono ?_
 rintro e w2 ⟨rfl, hb2⟩
 have g0'' := keep_cell hb2 g0'
 have g1'' := keep_cell hb2 g1'
 have hB2 := HB1.out.trans (hb2.mono HB1.out.size)
 have hfc := Hfc.out _ (Hts1.out.below hb2) (CellsAt.below Hor1.out hb2) (Hr1.out.below hb2)
 have HB2 := Lib.hid hB2; have Hf := Lib.hid hfc
 clear hB2 hfc hb2 Hfc Hts1 Hor1 Hr1 Hod1 HB1 g0 g1 g0' g1'
 go_wp2_with fail
 refine Hf.out.mono ?_
 rintro e w3 ⟨gc, cc, rfl, hrc, hcl, hgc, hb3⟩
 have hB3 := HB2.out.trans (hb3.mono HB2.out.size)
 have hs := HB2.out.size
 have Hrc := Lib.hid hrc; have HB3 := Lib.hid hB3
 clear hB3 hrc hb3
 go_wp2_with fail
 refine bodyPost_ret (v := .tuple #[.slice (some ⟨gc, 0, none⟩) (codeL ts O es).length cc, .int .i64 0]) ?_ rfl ⟨gc, cc, rfl, Hrc.out, hcl, by omega, HB3.out⟩
 simp [results, Tryz.results16, go_sem]
end Go.Proofs.YtagjdkkfmfombaaGreat
namespace Go.Proofs.YtagjdkkfmfombaaGreat
open Go Go.RowKit
def pathE : List (Int × Int) := [(0, 1), (1, 2)]
def starE : List (Int × Int) := [(0, 1), (0, 2), (0, 3)]
def othE : List (Int × Int) := [(0, 3), (1, 3), (2, 3)]
def longE : List (Int × Int) := [(0, 1), (1, 2), (2, 3)]
theorem treeC_of {n : Nat} {es : List (Int × Int)} {ts : List Int} (hr : rightB n es = true) (hn : 0 < n) (hl : es.length + 1 = n) (hp : (partsL (besideL n es)).length = 1) (htl : ts.length = n) (htt : tintsB ts n = true) : TreeC n es ts := ⟨⟨hr, hn, hl, parts_all hr hn hp⟩, htl, htt⟩
theorem oneC : TreeC 1 [] [5] := treeC_of (by decide +kernel) (by decide) rfl (by decide +kernel) rfl (by decide +kernel)
theorem pathC : TreeC 3 pathE [0, 0, 0] := treeC_of (by decide +kernel) (by decide) rfl (by decide +kernel) rfl (by decide +kernel)
theorem starC : TreeC 4 starE (List.replicate 4 0) := treeC_of (by decide +kernel) (by decide) rfl (by decide +kernel) rfl (by decide +kernel)
theorem othC : TreeC 4 othE (List.replicate 4 0) := treeC_of (by decide +kernel) (by decide) rfl (by decide +kernel) rfl (by decide +kernel)
theorem longC : TreeC 4 longE (List.replicate 4 0) := treeC_of (by decide +kernel) (by decide) rfl (by decide +kernel) rfl (by decide +kernel)
theorem pathO : OrdV 3 [1, 0, 2] := ⟨by decide, by decide, rfl⟩
theorem oneCode : codeL [5] [0] [] = bytesL [1, 5, 0] := by decide +kernel
theorem pathEnds : endsF [1, 0, 2] pathE = [(0, 1), (0, 2)] := by
 have e : pathE.map (endP [1, 0, 2]) = [(0, 1), (0, 2)] := by decide +kernel
 unfold endsF sortP
 rw [e]
 exact List.mergeSort_of_pairwise (by simp [cmpP, cmpI, orI])
theorem pathCode : codeL [0, 0, 0] [1, 0, 2] pathE = bytesL [3, 0, 0, 0, 2, 0, 1, 0, 2] := by
 unfold codeL codeNums
 rw [pathEnds]
 decide +kernel
theorem starIso : IsoG 4 starE (List.replicate 4 0) othE (List.replicate 4 0) fun v => 3 - v where
 lt := fun v hv => by omega
 inj := fun u v hu hv h => by omega
 lab := by decide
 adj := fun u v hu hv => (show ∀ u, u < 4 → ∀ v, v < 4 → (v ∈ adj starE u ↔ 3 - v ∈ adj othE (3 - u)) by decide +kernel) u hu v hv
theorem longNot : ¬ ∃ φ, IsoG 4 starE (List.replicate 4 0) longE (List.replicate 4 0) φ := by
 rintro ⟨φ, i⟩
 have h1 := (i.adj 0 1 (by decide) (by decide)).1 (by decide +kernel)
 have h2 := (i.adj 0 2 (by decide) (by decide)).1 (by decide +kernel)
 have h3 := (i.adj 0 3 (by decide) (by decide)).1 (by decide +kernel)
 have l := i.lt 0 (by decide)
 have n12 : φ 1 ≠ φ 2 := fun e => by have := i.inj 1 2 (by decide) (by decide) e; omega
 have n13 : φ 1 ≠ φ 3 := fun e => by have := i.inj 1 3 (by decide) (by decide) e; omega
 have n23 : φ 2 ≠ φ 3 := fun e => by have := i.inj 2 3 (by decide) (by decide) e; omega
 obtain ⟨a0, ha0⟩ : ∃ a, a = φ 0 := ⟨_, rfl⟩
 rw [← ha0] at h1 h2 h3 l
 have hl : ∀ a, a < 4 → ∀ x, x ∈ adj longE a → (a = 0 ∧ x = 1) ∨ (a = 1 ∧ (x = 0 ∨ x = 2)) ∨ (a = 2 ∧ (x = 1 ∨ x = 3)) ∨ (a = 3 ∧ x = 2) := by decide +kernel
 have k1 := hl a0 l _ h1
 have k2 := hl a0 l _ h2
 have k3 := hl a0 l _ h3
 omega
theorem codeL_ne (ts : List Int) (O : List Nat) (es : List (Int × Int)) : ¬ (bA (codeL ts O es)).toList = [] := fun h => by
 rw [bA_nil] at h
 unfold codeL codeNums bytesL at h
 simp [four] at h
theorem twoNot : boughB (2 : Nat) [] [0, 0] = false := by decide +kernel
theorem rdI_five (w : World) : RdI (w.alloc (.cells #[.int .i64 5] 3)) (some ⟨w.heap.size, 0, none⟩) [5] := by
 have := (row_new w #[.int .i64 5] 3 1 1 rfl (by unfold maxLen; omega)).at_
 exact this
theorem rdP_lit (w : World) (es : List (Int × Int)) (n : Nat) (h : es.length = n) (hm : n ≤ maxLen) : RdP (w.alloc (.cells (pairCells es).toArray 51)) (some ⟨w.heap.size, 0, none⟩) es := by
 have := (row_new w (pairCells es).toArray 51 2 n (by rw [List.size_toArray, pairCells_length, h]) hm).at_
 simpa [RdP] using this
theorem ordLit (w : World) : CellsAt (w.alloc (.cells #[.int .i64 1, .int .i64 0, .int .i64 2] 3)) (some ⟨w.heap.size, 0, none⟩) ([1, 0, 2].map vN) := by
 have := (row_new w #[.int .i64 1, .int .i64 0, .int .i64 2] 3 1 3 rfl (by unfold maxLen; omega)).at_
 exact this
theorem byLit (w : World) (l : List Int) (hm : l.length ≤ maxLen) : CellsAt (w.alloc (.cells (l.map byteV).toArray 5)) (some ⟨w.heap.size, 0, none⟩) (l.map byteV) := by
 have := (row_new w (l.map byteV).toArray 5 1 l.length (by simp) hm).at_
 simpa using this
set_option maxRecDepth 100000 in
set_option maxHeartbeats 8000000 in
theorem awake20_walk (w : World) : Calls Tryz.prog 6 #[] w fun e w' => e = .returned (.bool true) ∧ Below w.heap.size w w' := by
 go_enter Tryz.func6, Tryz.ntmps6
 have hb0 := bl_alloc w (.cells #[.int .i64 5] 3)
 have hc1 := canon_walk 1 none (some ⟨w.heap.size, 0, none⟩) 0 1 [] [5] _ oneC (fun i u hu => by simp [pairCells] at hu) (rdI_five w)
 have Hc1 := Lib.hid hc1; have Hb0 := Lib.hid hb0
 clear hc1 hb0
 go_wp2_with fail
 refine Hc1.out.mono ?_
 rintro e w1 ⟨O, g1, c1, g2, c2, hO, rfl, hrow, _, hg, hg2, hn2, hcl, hb⟩
 have hO1 : O = [0] := by
  rcases hO with ⟨-, h⟩ | ⟨h, -⟩
  · exact h
  · omega
 subst hO1
 obtain ⟨X1, hX1⟩ : ∃ X, X = codeL [5] [0] [] := ⟨_, rfl⟩
 rw [← hX1] at hrow
 rw [← hX1]
 rw [oneCode] at hX1
 have hX1b : ByL X1 := by rw [hX1]; exact bytesL_by _
 have hB1 := Hb0.out.trans (hb.mono Hb0.out.size)
 have hn1 := bl_alloc w1 (.cells #[.slice (some ⟨g1, 0, none⟩) X1.length c1, .slice (some ⟨g2, 0, none⟩) 1 c2] 30)
 have hB2 := bl_trans hB1 hn1
 have hx1 := (show CellsAt w1 _ _ from hrow.at_).below hn1
 have d1 : (w1.alloc (.cells #[.slice (some ⟨g1, 0, none⟩) X1.length c1, .slice (some ⟨g2, 0, none⟩) 1 c2] 30)).cell? ⟨w1.heap.size, 0, none⟩ = some (.slice (some ⟨g1, 0, none⟩) X1.length c1) := by simp
 have HB2 := Lib.hid hB2; have Hx1 := Lib.hid hx1; have Hd1 := Lib.hid d1; have HX1 := Lib.hid hX1; have HX1b := Lib.hid hX1b
 clear hB1 hn1 hB2 hx1 d1 hb hO hrow hg hg2 hn2 hcl Hc1 Hb0 hX1 hX1b
 go_upto_region 2 with (fail)
 obtain ⟨P1, hP1⟩ : ∃ P1, P1 = w1.heap.size := ⟨_, rfl⟩
 rw [← hP1] at Hd1 ⊢
 clear hP1
 generalize w1.alloc (.cells #[.slice (some ⟨g1, 0, none⟩) X1.length c1, .slice (some ⟨g2, 0, none⟩) 1 c2] 30) = w2 at *
 have hp2 := rdP_lit w2 pathE 2 rfl (by unfold maxLen; omega)
 have hb2 := bl_alloc w2 (.cells (pairCells pathE).toArray 51)
 have hb3 := bl_alloc (w2.alloc (.cells (pairCells pathE).toArray 51)) (.cells #[.int .i64 3, .slice (some ⟨w2.heap.size, 0, none⟩) 2 2] 24)
 have d3 : ((w2.alloc (.cells (pairCells pathE).toArray 51)).alloc (.cells #[.int .i64 3, .slice (some ⟨w2.heap.size, 0, none⟩) 2 2] 24)).cell? ⟨w2.heap.size + 1, 0, none⟩ = some (.int .i64 3) := by
  have : (w2.alloc (.cells (pairCells pathE).toArray 51)).heap.size = w2.heap.size + 1 := by simp
  rw [← this]
  simp
 have d4 : ((w2.alloc (.cells (pairCells pathE).toArray 51)).alloc (.cells #[.int .i64 3, .slice (some ⟨w2.heap.size, 0, none⟩) 2 2] 24)).cell? ⟨w2.heap.size + 1, 1, none⟩ = some (.slice (some ⟨w2.heap.size, 0, none⟩) 2 2) := by
  have : (w2.alloc (.cells (pairCells pathE).toArray 51)).heap.size = w2.heap.size + 1 := by simp
  rw [← this]
  simp
 have hx1' := (Hx1.out.below hb2).below hb3
 have d1' := keep_cell hb3 (keep_cell hb2 Hd1.out)
 have hp3 := hp2.below hb3
 have hB3 := bl_trans (bl_trans HB2.out hb2) hb3
 have HB3 := Lib.hid hB3; have Hx1' := Lib.hid hx1'; have Hd1' := Lib.hid d1'; have Hp3 := Lib.hid hp3; have Hd3 := Lib.hid d3; have Hd4 := Lib.hid d4
 clear hx1' d1' hp3 hB3 d3 d4 hp2 hb2 hb3 Hx1 Hd1 HB2
 go_upto_region 3 with (fail)
 have ecell : (pairCells pathE).toArray = #[.int .i64 0, .int .i64 1, .int .i64 1, .int .i64 2] := rfl
 rw [ecell] at HB3 Hx1' Hd1' Hp3 Hd3 Hd4
 clear ecell
 generalize (w2.alloc (.cells #[.int .i64 0, .int .i64 1, .int .i64 1, .int .i64 2] 51)).alloc (.cells #[.int .i64 3, .slice (some ⟨w2.heap.size, 0, none⟩) 2 2] 24) = w3 at *
 generalize w2.heap.size + 1 = P3 at *
 generalize w2.heap.size = P2 at *
 go_cut [4, 5] from 21 to 28 (fun p q wx => ∃ g c X, p = .slice (some ⟨g, 0, none⟩) X.length c ∧ q = .int .i64 0 ∧ X = codeL [0, 0, 0] [1, 0, 2] pathE ∧ CellsAt wx (some ⟨g, 0, none⟩) (X.map byteV) ∧ Below w3.heap.size w3 wx)
 case first =>
  refine regionT (fun w' => w'.cell? ⟨P3, 0, none⟩ = some (.int .i64 3) ∧ w'.cell? ⟨P3, 1, none⟩ = some (.slice (some ⟨P2, 0, none⟩) 2 2)) 9 (by kernel_rfl) ?_
  have hS : w3.drew.cell? ⟨P3, 0, none⟩ = some (.int .i64 3) ∧ w3.drew.cell? ⟨P3, 1, none⟩ = some (.slice (some ⟨P2, 0, none⟩) 2 2) := ⟨Hd3.out, Hd4.out⟩
  have hmk := fun w => run_make_row' (P := Tryz.prog) 25 3 (.int .i64 0) 8 Tryz.underlying25 int_info rfl .i64 .i64 3 (by omega) (by omega) w
  rw [show ((3 : Nat) : Int) = 3 from rfl] at hmk
  refine tkT 0 ?_ rfl hS ?_ ?_ (by kernel_rfl) (fun _ _ _ h => h) (by rfl); rotate_left; (· intro wS hSw; (try dsimp only at hSw); go_simp; try with_reducible rfl); simp only [Act.put, zT]
  refine twoT (i := 1) (i' := 2) rfl rfl (by kernel_rfl) (fun K hK => ?_) (fun K hK => ?_)
  ·
   go_simp; refine hK _ _ (fun _ => ⟨keep_cell (bl_alloc _ _) hS.1, keep_cell (bl_alloc _ _) hS.2⟩) ?_; clear hK K; refine oneT (i := 2) rfl (by kernel_rfl) (fun K hK => ?_); go_simp; refine hK _ _ (fun _ => ⟨keep_cell (bl_alloc _ _) (keep_cell (bl_alloc _ _) hS.1), keep_cell (bl_alloc _ _) (keep_cell (bl_alloc _ _) hS.2)⟩) ?_; clear hK K; have hz := (zerosC w3 3 (by omega)).below (bl_alloc _ (.cells #[.int .i64 1, .int .i64 0, .int .i64 2] 3)); have ho := ordLit (w3.alloc (.cells (madeCells #[.int .i64 0] 3) 3)); rw [show (w3.alloc (.cells (madeCells #[.int .i64 0] 3) 3)).heap.size = w3.heap.size + 1 by simp] at ho; have hBx := bl_trans (bl_alloc w3 (.cells (madeCells #[.int .i64 0] 3) 3)) (bl_alloc _ (.cells #[.int .i64 1, .int .i64 0, .int .i64 2] 3)); generalize (w3.alloc (.cells (madeCells #[.int .i64 0] 3) 3)).alloc (.cells #[.int .i64 1, .int .i64 0, .int .i64 2] 3) = wX at *
   have hBd : Below w3.heap.size w3 wX.drew := below_drewN hBx 1; have hS2 : wX.drew.cell? ⟨P3, 0, none⟩ = some (.int .i64 3) ∧ wX.drew.cell? ⟨P3, 1, none⟩ = some (.slice (some ⟨P2, 0, none⟩) 2 2) := ⟨keep_cell hBd Hd3.out, keep_cell hBd Hd4.out⟩
   have hz' : RdI wX.drew (some ⟨w3.heap.size, 0, none⟩) [0, 0, 0] := hz; have ho' : CellsAt wX.drew (some ⟨(w3.heap.size + 1), 0, none⟩) ([1, 0, 2].map vN) := ho; have hp' : RdP wX.drew (some ⟨P2, 0, none⟩) pathE := Hp3.out.below hBd; have hcw := code_walk 3 (some ⟨P2, 0, none⟩) (some ⟨w3.heap.size, 0, none⟩) (some ⟨(w3.heap.size + 1), 0, none⟩) 2 3 3 pathE [0, 0, 0] [1, 0, 2] _ pathC pathO hp' hz' ho'; clear hz ho hBx hz' ho' hp' hS; generalize wX.drew = wY at *
   have hS := hS2; clear hS2; refine oneT (i := 3) rfl (by kernel_rfl) (fun K hK => ?_); go_simp; refine hcw.mono ?_; rintro e w4 ⟨g4, c4, rfl, hrow, hcl, hg4, hb4⟩; simp only; have hS2 := And.intro (keep_cell hb4 hS.1) (keep_cell hb4 hS.2); refine hK _ _ (fun _ => hS2) ?_; clear hK K hS; have hS := hS2; clear hS2; refine tkT 4 ?_ rfl hS ?_ ?_ (by kernel_rfl) (fun _ _ _ h => h) (by rfl); rotate_left; (· intro wS hSw; (try dsimp only at hSw); go_simp; try with_reducible rfl); simp only [Act.put, zT]; refine tkT 5 ?_ rfl hS ?_ ?_ (by kernel_rfl) (fun _ _ _ h => h) (by rfl); rotate_left; (· intro wS hSw; (try dsimp only at hSw); go_simp; try with_reducible rfl); simp only [Act.put, zT]; refine tkT 6 ?_ rfl hS ?_ ?_ (by kernel_rfl) (fun _ _ _ h => h) (by rfl); rotate_left; (· intro wS hSw; (try dsimp only at hSw); go_simp; try with_reducible rfl); simp only [Act.put, zT]; refine tkT 7 ?_ rfl hS ?_ ?_ (by kernel_rfl) (fun _ _ _ h => h) (by rfl); rotate_left; (· intro wS hSw; (try dsimp only at hSw); go_simp; try with_reducible rfl); simp only [Act.put, zT]; refine tkT 8 ?_ rfl hS ?_ ?_ (by kernel_rfl) (fun _ _ _ h => h) (by rfl); rotate_left; (· intro wS hSw; (try dsimp only at hSw); go_simp; try with_reducible rfl); simp only [Act.put, zT]; refine doneT (by kernel_rfl) ?_ _; go_wp2_with fail; go_meet
   exact ⟨g4, c4, _, rfl, rfl, rfl, hrow.at_, hBd.trans (hb4.mono hBd.size)⟩
  ·
   go_simp; refine hK _ _ (fun _ => ⟨keep_cell (bl_alloc _ _) hS.1, keep_cell (bl_alloc _ _) hS.2⟩) ?_; clear hK K; refine oneT (i := 1) rfl (by kernel_rfl) (fun K hK => ?_); go_simp; refine hK _ _ (fun _ => ⟨keep_cell (bl_alloc _ _) (keep_cell (bl_alloc _ _) hS.1), keep_cell (bl_alloc _ _) (keep_cell (bl_alloc _ _) hS.2)⟩) ?_; clear hK K; have hz := zerosC (w3.alloc (.cells #[.int .i64 1, .int .i64 0, .int .i64 2] 3)) 3 (by omega); have ho := CellsAt.below (ordLit w3) (bl_alloc (w3.alloc (.cells #[.int .i64 1, .int .i64 0, .int .i64 2] 3)) (.cells (madeCells #[.int .i64 0] 3) 3)); rw [show (w3.alloc (.cells #[.int .i64 1, .int .i64 0, .int .i64 2] 3)).heap.size = w3.heap.size + 1 by simp] at hz; have hBx := bl_trans (bl_alloc w3 (.cells #[.int .i64 1, .int .i64 0, .int .i64 2] 3)) (bl_alloc (w3.alloc (.cells #[.int .i64 1, .int .i64 0, .int .i64 2] 3)) (.cells (madeCells #[.int .i64 0] 3) 3)); generalize (w3.alloc (.cells #[.int .i64 1, .int .i64 0, .int .i64 2] 3)).alloc (.cells (madeCells #[.int .i64 0] 3) 3) = wX at *
   have hBd : Below w3.heap.size w3 wX.drew := below_drewN hBx 1; have hS2 : wX.drew.cell? ⟨P3, 0, none⟩ = some (.int .i64 3) ∧ wX.drew.cell? ⟨P3, 1, none⟩ = some (.slice (some ⟨P2, 0, none⟩) 2 2) := ⟨keep_cell hBd Hd3.out, keep_cell hBd Hd4.out⟩
   have hz' : RdI wX.drew (some ⟨(w3.heap.size + 1), 0, none⟩) [0, 0, 0] := hz; have ho' : CellsAt wX.drew (some ⟨w3.heap.size, 0, none⟩) ([1, 0, 2].map vN) := ho; have hp' : RdP wX.drew (some ⟨P2, 0, none⟩) pathE := Hp3.out.below hBd; have hcw := code_walk 3 (some ⟨P2, 0, none⟩) (some ⟨(w3.heap.size + 1), 0, none⟩) (some ⟨w3.heap.size, 0, none⟩) 2 3 3 pathE [0, 0, 0] [1, 0, 2] _ pathC pathO hp' hz' ho'; clear hz ho hBx hz' ho' hp' hS; generalize wX.drew = wY at *
   have hS := hS2; clear hS2; refine oneT (i := 3) rfl (by kernel_rfl) (fun K hK => ?_); go_simp; refine hcw.mono ?_; rintro e w4 ⟨g4, c4, rfl, hrow, hcl, hg4, hb4⟩; simp only; have hS2 := And.intro (keep_cell hb4 hS.1) (keep_cell hb4 hS.2); refine hK _ _ (fun _ => hS2) ?_; clear hK K hS; have hS := hS2; clear hS2; refine tkT 4 ?_ rfl hS ?_ ?_ (by kernel_rfl) (fun _ _ _ h => h) (by rfl); rotate_left; (· intro wS hSw; (try dsimp only at hSw); go_simp; try with_reducible rfl); simp only [Act.put, zT]; refine tkT 5 ?_ rfl hS ?_ ?_ (by kernel_rfl) (fun _ _ _ h => h) (by rfl); rotate_left; (· intro wS hSw; (try dsimp only at hSw); go_simp; try with_reducible rfl); simp only [Act.put, zT]; refine tkT 6 ?_ rfl hS ?_ ?_ (by kernel_rfl) (fun _ _ _ h => h) (by rfl); rotate_left; (· intro wS hSw; (try dsimp only at hSw); go_simp; try with_reducible rfl); simp only [Act.put, zT]; refine tkT 7 ?_ rfl hS ?_ ?_ (by kernel_rfl) (fun _ _ _ h => h) (by rfl); rotate_left; (· intro wS hSw; (try dsimp only at hSw); go_simp; try with_reducible rfl); simp only [Act.put, zT]; refine tkT 8 ?_ rfl hS ?_ ?_ (by kernel_rfl) (fun _ _ _ h => h) (by rfl); rotate_left; (· intro wS hSw; (try dsimp only at hSw); go_simp; try with_reducible rfl); simp only [Act.put, zT]; refine doneT (by kernel_rfl) ?_ _; go_wp2_with fail; go_meet
   exact ⟨g4, c4, _, rfl, rfl, rfl, hrow.at_, hBd.trans (hb4.mono hBd.size)⟩
 obtain ⟨g4, c4, X4, rfl, rfl, hX4, hx4, hb4⟩ := hcut
 rw [pathCode] at hX4
 have hX4b : ByL X4 := by rw [hX4]; exact bytesL_by _
 have hx1 := Hx1'.out.below hb4
 have d1 := keep_cell hb4 Hd1'.out
 have hB4 := bl_trans HB3.out hb4
 clear hb4 Hx1' Hd1' HB3 Hd3 Hd4 Hp3
 have Hx1 := Lib.hid hx1; have Hd1 := Lib.hid d1; have Hx4 := Lib.hid hx4; have HB := Lib.hid hB4; have HX4 := Lib.hid hX4; have HX4b := Lib.hid hX4b
 clear hx1 d1 hx4 hB4 hX4 hX4b
 have hp := plain_walk 4 (some ⟨wc.heap.size, 0, none⟩) 3 starE _ starC (rdP_lit wc starE 3 rfl (by unfold maxLen; omega))
 have hbp := bl_alloc wc (.cells (pairCells starE).toArray 51)
 have Hp := Lib.hid hp; have Hbp := Lib.hid hbp
 clear hp hbp
 go_wp2_with fail
 refine Hp.out.mono ?_
 rintro e w5 ⟨⟨O5, hO5, rfl⟩, hbq⟩
 obtain ⟨S5, hO5s⟩ : ∃ S, S = bA (codeL (List.replicate 4 0) O5 starE) := ⟨_, rfl⟩
 rw [← hO5s]
 have hO5S := Lib.hid hO5s
 clear hO5s
 have hbr := bl_trans Hbp.out hbq
 have hx1 := Hx1.out.below hbr
 have d1 := keep_cell hbr Hd1.out
 have hx4 := Hx4.out.below hbr
 have hBn := bl_trans HB.out hbr
 clear Hp Hbp hbq hbr Hx1 Hd1 Hx4 HB
 have Hx1 := Lib.hid hx1; have Hd1 := Lib.hid d1; have Hx4 := Lib.hid hx4; have HB := Lib.hid hBn
 clear hx1 d1 hx4 hBn
 have hp := plain_walk 4 (some ⟨w5.heap.size, 0, none⟩) 3 othE _ othC (rdP_lit w5 othE 3 rfl (by unfold maxLen; omega))
 have hbp := bl_alloc w5 (.cells (pairCells othE).toArray 51)
 have Hp := Lib.hid hp; have Hbp := Lib.hid hbp
 clear hp hbp
 go_wp2_with fail
 refine Hp.out.mono ?_
 rintro e w6 ⟨⟨O6, hO6, rfl⟩, hbq⟩
 obtain ⟨S6, hO6s⟩ : ∃ S, S = bA (codeL (List.replicate 4 0) O6 othE) := ⟨_, rfl⟩
 rw [← hO6s]
 have hO6S := Lib.hid hO6s
 clear hO6s
 have hbr := bl_trans Hbp.out hbq
 have hx1 := Hx1.out.below hbr
 have d1 := keep_cell hbr Hd1.out
 have hx4 := Hx4.out.below hbr
 have hBn := bl_trans HB.out hbr
 clear Hp Hbp hbq hbr Hx1 Hd1 Hx4 HB
 have Hx1 := Lib.hid hx1; have Hd1 := Lib.hid d1; have Hx4 := Lib.hid hx4; have HB := Lib.hid hBn
 clear hx1 d1 hx4 hBn
 have hp := plain_walk 4 (some ⟨w6.heap.size, 0, none⟩) 3 longE _ longC (rdP_lit w6 longE 3 rfl (by unfold maxLen; omega))
 have hbp := bl_alloc w6 (.cells (pairCells longE).toArray 51)
 have Hp := Lib.hid hp; have Hbp := Lib.hid hbp
 clear hp hbp
 go_wp2_with fail
 refine Hp.out.mono ?_
 rintro e w7 ⟨⟨O7, hO7, rfl⟩, hbq⟩
 obtain ⟨S7, hO7s⟩ : ∃ S, S = bA (codeL (List.replicate 4 0) O7 longE) := ⟨_, rfl⟩
 rw [← hO7s]
 have hO7S := Lib.hid hO7s
 clear hO7s
 have hbr := bl_trans Hbp.out hbq
 have hx1 := Hx1.out.below hbr
 have d1 := keep_cell hbr Hd1.out
 have hx4 := Hx4.out.below hbr
 have hBn := bl_trans HB.out hbr
 clear Hp Hbp hbq hbr Hx1 Hd1 Hx4 HB
 have Hx1 := Lib.hid hx1; have Hd1 := Lib.hid d1; have Hx4 := Lib.hid hx4; have HB := Lib.hid hBn
 clear hx1 d1 hx4 hBn
 have e56 : codeL (List.replicate 4 0) O6 othE = codeL (List.replicate 4 0) O5 starE := ((code_iso starC othC hO5 hO6).2 ⟨rfl, _, starIso⟩).symm
 have n57 : ¬ codeL (List.replicate 4 0) O7 longE = codeL (List.replicate 4 0) O5 starE := fun h => longNot ((code_iso starC longC hO5 hO7).1 h.symm).2
 have e6 : S6 = S5 := by rw [hO6S.out, hO5S.out, e56]
 have n5 : ¬ S5.toList = [] := by rw [hO5S.out]; exact codeL_ne _ _ _
 have n7 : ¬ S7.toList = [] := by rw [hO7S.out]; exact codeL_ne _ _ _
 have n57b : ¬ S7.toList = S5.toList := by
  rw [hO5S.out, hO7S.out]
  exact fun h => n57 ((bA_inj (bytesL_by _) (bytesL_by _)).1 h)
 subst e6
 have N5 := Lib.hid n5; have N7 := Lib.hid n7; have N57 := Lib.hid n57b
 clear n5 n7 n57 n57b e56 hO5 hO6 hO7 hO5S hO6S hO7S
 have hmk := fun w => run_make_row' (P := Tryz.prog) 25 3 (.int .i64 0) 8 Tryz.underlying25 int_info rfl .i64 .i64 2 (by omega) (by omega) w
 rw [show ((2 : Nat) : Int) = 2 from rfl] at hmk
 have hcn := canonNot_walk 2 none (some ⟨w7.heap.size, 0, none⟩) 0 2 [] [0, 0] _ twoNot (fun i u hu => by simp [pairCells] at hu) (by simp) (zerosC w7 2 (by omega)) (by simp)
 have hb7 := bl_alloc w7 (.cells (madeCells #[.int .i64 0] 2) 3)
 have Hcn := Lib.hid hcn; have Hb7 := Lib.hid hb7
 clear hcn hb7
 go_wp2_with fail
 refine Hcn.out.mono ?_
 rintro e w8 ⟨rfl, hb8⟩
 have hbr := bl_trans (bl_trans Hb7.out hb8) (bl_alloc w8 (.cells #[.slice none 0 0, .slice none 0 0] 30))
 have hx1 := Hx1.out.below hbr
 have d1 := keep_cell hbr Hd1.out
 have hx4 := Hx4.out.below hbr
 have hBn := bl_trans HB.out hbr
 clear Hcn Hb7 hb8 hbr Hx1 Hd1 Hx4 HB hmk
 have Hx1 := Lib.hid hx1; have Hd1 := Lib.hid d1; have Hx4 := Lib.hid hx4; have HB := Lib.hid hBn
 clear hx1 d1 hx4 hBn
 go_upto_region 8 with (fail)
 generalize w8.alloc (.cells #[.slice none 0 0, .slice none 0 0] 30) = w9 at *
 have hb1 := bl_alloc w9 (.cells ([1, 5, 0].map byteV).toArray 5)
 have hi := is_walk ⟨g1, 0, none⟩ (some ⟨w9.heap.size, 0, none⟩) c1 3 X1 [1, 5, 0] _ (Hx1.out.below hb1) HX1b.out (byLit w9 [1, 5, 0] (by unfold maxLen; simp)) (by simp [ByL]) (by simp) (by simp)
 rw [decide_eq_true HX1.out] at hi
 have d1 := Hd1.out
 have Hi := Lib.hid hi; have Hb1 := Lib.hid hb1
 clear hi hb1
 go_wp2_with fail
 refine Hi.out.mono ?_
 rintro e w10 ⟨rfl, hb10⟩
 have hbr := bl_trans Hb1.out hb10
 have hx4 := Hx4.out.below hbr
 have hBn := bl_trans HB.out hbr
 clear Hi Hb1 hb10 hbr Hx4 HB Hd1 Hx1 d1
 have hb1 := bl_alloc w10 (.cells ([3, 0, 0, 0, 2, 0, 1, 0, 2].map byteV).toArray 5)
 have hi := is_walk ⟨g4, 0, none⟩ (some ⟨w10.heap.size, 0, none⟩) c4 9 X4 [3, 0, 0, 0, 2, 0, 1, 0, 2] _ (hx4.below hb1) HX4b.out (byLit w10 [3, 0, 0, 0, 2, 0, 1, 0, 2] (by unfold maxLen; simp)) (by simp [ByL]) (by simp) (by simp)
 rw [decide_eq_true HX4.out] at hi
 have Hi := Lib.hid hi; have Hb1 := Lib.hid hb1; have HB := Lib.hid hBn
 clear hi hb1 hBn hx4
 go_wp2_with fail
 refine Hi.out.mono ?_
 rintro e w11 ⟨rfl, hb11⟩
 have hBn := bl_trans HB.out (bl_trans Hb1.out hb11)
 have HB9 := Lib.hid hBn
 clear HB Hi Hb1 hb11 hBn
 have n5 := N5.out
 have n7 := N7.out
 have n57 := N57.out
 have q5 : S6.toList.isEmpty = false := by
  cases h : S6.toList with
  | nil => exact absurd h n5
  | cons _ _ => rfl
 have q7 : S7.toList.isEmpty = false := by
  cases h : S7.toList with
  | nil => exact absurd h n7
  | cons _ _ => rfl
 have q57 : (S7.toList == S6.toList) = false := by simpa using n57
 go_wp2_with fail
 go_ret
 exact ⟨rfl, HB9.out⟩
end Go.Proofs.YtagjdkkfmfombaaGreat
namespace Go.Proofs.YtagjdkkfmfombaaGreat
open Go Go.RowKit Go.ChangeShapes Go.WideShapes Go.ChangeAt Go.Joins Go.Deep
theorem rowOwn : ownKnob Tryz.prog.godebug = none := by kernel_rfl
theorem rowLaid : laidOutB Tryz.prog = true := by kernel_rfl
theorem rowPairs : Tryz.prog.cellsOf 51 = 2 := by kernel_rfl
theorem rowInt : Tryz.prog.cellsOf 3 = 1 := by kernel_rfl
theorem rowGraph : Tryz.prog.cellsOf 24 = 2 := by kernel_rfl
theorem cells?_two {w : World} {base : Nat} {a : Addr} {cs : List Value} (h : w.cells? base a 2 = some cs) : ∃ x y, cs = [x, y] ∧ w.cell? a = some x ∧ w.cell? (a.add 1) = some y := by
 obtain ⟨h1, h2, h3⟩ := World.cells?_some h
 match cs, h2 with
 | [x, y], _ => exact ⟨x, y, rfl, by simpa [Addr.add] using h3 0 (by omega), by simpa using h3 1 (by omega)⟩
section
variable {H : Type} {enc : TypeId × Value → H} {W : World} {base fuel : Nat} {spare : Nat → Bool} {held : Bool}
set_option maxRecDepth 100000 in
theorem pair_of {cs : List Value} {x : DataW H × List MemPlace} (h : DataW.trod enc Tryz.prog W base spare held fuel 51 cs = some x) : ∃ a b : Int, cs = [.int .i64 a, .int .i64 b] := by
 obtain ⟨xs, m, rfl, rfl, hl, hx, hi⟩ := DataW.trod_array Tryz.underlying51 h
 rw [rowPairs] at hl
 match cs, hl with
 | [u, v], _ =>
  have h0 := hi 0 (by omega)
  have h1 := hi 1 (by omega)
  rw [rowInt] at h0 h1
  simp at h0 h1
  rw [List.getElem?_eq_getElem (by omega)] at h0 h1
  obtain ⟨a, e0, _⟩ := DataW.trod_int Tryz.underlying3 h0
  obtain ⟨b, e1, _⟩ := DataW.trod_int Tryz.underlying3 h1
  simp at e0 e1
  exact ⟨a, b, by rw [e0, e1]⟩
theorem open_pairs {cs : List Value} {x : DataW H × List MemPlace} (h : DataW.trod enc Tryz.prog W base spare held fuel 22 cs = some x) :
  ∃ (a : Option Addr) (cap : Nat) (es : List (Int × Int)), cs = [.slice a es.length cap] ∧ RdP W a es ∧ es.length ≤ cap ∧ cap ≤ maxLen := by
 rcases open_slice Tryz.underlying22 h with ⟨rfl, _⟩ | ⟨a, len, cap, m, n, D, Pl, rfl, _, hl, hm, hmm, _, hx⟩
 · exact ⟨none, 0, [], rfl, by intro i u hu; simp [pairCells] at hu, by simp, by unfold maxLen; omega⟩
 ·
  have hle : len ≤ m := by rw [hmm]; split <;> omega
  have hp : ∀ i, i < len → ∃ p : Int × Int, W.cell? (a.add (i * 2)) = some (.int .i64 p.1) ∧ W.cell? ((a.add (i * 2)).add 1) = some (.int .i64 p.2) := by
   intro i hi; obtain ⟨cs', h1, h2⟩ := hx i (by omega); rw [rowPairs] at h1; obtain ⟨p, q, rfl⟩ := pair_of h2; obtain ⟨u, v, e, h3, h4⟩ := cells?_two h1; simp at e; obtain ⟨rfl, rfl⟩ := e; exact ⟨(p, q), h3, h4⟩
  obtain ⟨f, hf⟩ := choose_lt (p := fun i (p : Int × Int) => W.cell? (a.add (i * 2)) = some (.int .i64 p.1) ∧ W.cell? ((a.add (i * 2)).add 1) = some (.int .i64 p.2)) hp
  have hspot : 0 < len → ∃ b o, a = ⟨b, o, none⟩ := by
   intro h0; obtain ⟨h1, _⟩ := hf 0 h0; have h2 : W.cell? a = some (.int .i64 (f 0).1) := by simpa [Addr.add] using h1
   obtain ⟨b, o, sp⟩ := a; cases sp with
   | none => exact ⟨b, o, rfl⟩
   | some k =>
    exfalso; simp only [World.cell?] at h2; split at h2 <;> simp at h2
  refine ⟨some a, cap, (List.range len).map f, by simp, ?_, by simpa using hl, hm⟩
  intro i u hu
  have hi := (List.getElem?_eq_some_iff.1 hu).1
  rw [pairCells_length] at hi
  simp only [List.length_map, List.length_range] at hi
  obtain ⟨b, o, rfl⟩ := hspot (by omega)
  refine ⟨b, o, rfl, ?_⟩
  have hk : i / 2 < len := by omega
  obtain ⟨h1, h2⟩ := hf (i / 2) hk
  obtain ⟨g1, g2⟩ := pairCells_get ((List.range len).map f) (i / 2) (by simpa using hk)
  simp only [List.getElem_map, List.getElem_range] at g1 g2
  rw [Addr.add_lit] at h1 h2
  rw [Addr.add_lit] at h2
  rcases Nat.mod_two_eq_zero_or_one i with h | h
  ·
   have e : i = i / 2 * 2 := by omega
   rw [e, g1] at hu; cases hu; rw [e, show i / 2 * 2 / 2 = i / 2 by omega]; exact h1
  ·
   have e : i = i / 2 * 2 + 1 := by omega
   rw [e, g2] at hu; cases hu; rw [e, ← Nat.add_assoc, show (i / 2 * 2 + 1) / 2 = i / 2 by omega]; exact h2
set_option maxRecDepth 100000 in
theorem open_graph {r : Reach} {b0 : Nat} {v : Value} {d : DataW H} {p : List MemPlace} (hv : Value.okWide Tryz.prog W r b0 24 v) (h : DataW.Trod enc Tryz.prog W base spare held 24 v d p) :
  ∃ (n : Int) (a : Option Addr) (cap : Nat) (es : List (Int × Int)), v = .agg #[.int .i64 n, .slice a es.length cap] ∧ RdP W a es ∧ es.length ≤ cap ∧ cap ≤ maxLen ∧ (Lit.int .i64 n).wf = true := by
 obtain ⟨c0, c1, y0, y1, m, rfl, rfl, rfl, h0, h1⟩ := open_agg2 Tryz.underlying24 (by kernel_rfl) rowGraph hv h
 obtain ⟨n, e0, _, wn⟩ := DataW.trod_int Tryz.underlying3 h0
 obtain ⟨a, cap, es, e1, h2, h3, h4⟩ := open_pairs h1
 simp at e0 e1
 subst e0; subst e1
 exact ⟨n, a, cap, es, rfl, h2, h3, h4, wn⟩
end
end Go.Proofs.YtagjdkkfmfombaaGreat
namespace Go.Proofs.YtagjdkkfmfombaaGreat
open Go Go.RowKit Go.ChangeShapes Go.WideShapes Go.ChangeAt Go.Joins Go.Deep
theorem no_far {w : World} {b o : Nat} {s : Option Nat} {x : Value} (h : w.cell? ⟨b, o, s⟩ = some x) : s = none := by
 cases s with
 | none => rfl
 | some k =>
  exfalso
  simp only [World.cell?] at h
  split at h <;> simp at h
section
variable {H : Type} {enc : TypeId × Value → H} {W : World} {base fuel : Nat} {spare : Nat → Bool} {held : Bool}
set_option maxRecDepth 100000 in
theorem open_nums {r : Reach} {b0 : Nat} {v : Value} {d : DataW H} {p : List MemPlace} (hv : Value.okWide Tryz.prog W r b0 25 v) (h : DataW.Trod enc Tryz.prog W base spare held 25 v d p) :
  ∃ (a : Option Addr) (cap : Nat) (zs : List Int), v = .slice a zs.length cap ∧ RdI W a zs ∧ zs.length ≤ cap ∧ cap ≤ maxLen ∧ ∀ z ∈ zs, WfZ z := by
 obtain ⟨fuel, hf⟩ := h
 obtain ⟨a1, l1, c1, rfl⟩ := okWide_slice Tryz.underlying25 hv
 rcases open_slice Tryz.underlying25 hf with ⟨e, _⟩ | ⟨a, len, cap, m, n, D, Pl, e, _, hl, hm, hmm, _, hx⟩
 ·
  simp [Value.cells] at e
  obtain ⟨rfl, rfl, rfl⟩ := e
  exact ⟨none, 0, [], rfl, by intro i u hu; simp at hu, by simp, by unfold maxLen; omega, fun k hk => by simp at hk⟩
 ·
  simp [Value.cells] at e
  obtain ⟨rfl, rfl, rfl⟩ := e
  have hle : l1 ≤ m := by rw [hmm]; split <;> omega
  have hp : ∀ i, i < l1 → ∃ z : Int, W.cell? (a.add i) = some (.int .i64 z) ∧ WfZ z := by
   intro i hi; obtain ⟨cs', h1, h2⟩ := hx i (by omega); rw [rowInt, Nat.mul_one] at h1; obtain ⟨z, e1, _, hw⟩ := DataW.trod_int Tryz.underlying3 h2; obtain ⟨_, h4, h5⟩ := World.cells?_some h1; have h6 := h5 0 (by omega); rw [e1] at h6; exact ⟨z, by simpa [Addr.add] using h6, hw⟩
  obtain ⟨f, hf2⟩ := choose_lt (p := fun i (z : Int) => W.cell? (a.add i) = some (.int .i64 z) ∧ WfZ z) hp
  refine ⟨some a, c1, (List.range l1).map f, by simp, ?_, by simpa using hl, hm, ?_⟩
  ·
   intro i u hu; have hi := (List.getElem?_eq_some_iff.1 hu).1; simp only [List.length_map, List.length_range] at hi; obtain ⟨b, o, sp⟩ := a; obtain ⟨h1, _⟩ := hf2 i hi; have hsp : sp = none := by
    obtain ⟨h1, _⟩ := hf2 0 (by omega); have h2 : W.cell? ⟨b, o, sp⟩ = some (.int .i64 (f 0)) := by simpa [Addr.add] using h1
    exact no_far h2
   subst hsp; refine ⟨b, o, rfl, ?_⟩; simp [hi] at hu; rw [Addr.add_lit] at h1; rw [← hu]; exact h1
  ·
   intro k hk; obtain ⟨i, hi, rfl⟩ := List.mem_map.1 hk; exact (hf2 i (List.mem_range.1 hi)).2
end
end Go.Proofs.YtagjdkkfmfombaaGreat
