/- Facts that the claim rests on, part 12. -/
import Derived.Test.YtagcbnpahgfgmaaGreatK10
namespace Go.Proofs.YtagcbnpahgfgmaaGreat
open Go Go.RowKit Go.Maps
theorem preQ_len {Q : List Pt} (hR : ∀ q ∈ Q, q.2.length ≤ 1000) : ∀ i k, i ≤ Q.length → (preQ Q i k).length ≤ i * 1000 + 1000 := by
 intro i k hi
 have h1 : ∀ i, i ≤ Q.length → (preO Q i).length ≤ i * 1000 := by
  intro i
  induction i with
  | zero => intro _; simp [preO]
  | succ i ih =>
   intro h; have h2 := hR _ (List.getElem_mem (show i < Q.length by omega)); rw [preO_succ, List.length_append]; have h3 : (rowO Q i).length = Q[i].2.length := by unfold rowO; rw [List.length_map, lnQ_at (show i < Q.length by omega)]
   have := ih (by omega); omega
 unfold preQ
 rw [List.length_append, List.length_take]
 have := h1 i hi
 by_cases hl : i < Q.length
 ·
  have h2 := hR _ (List.getElem_mem hl)
  have h3 : (rowO Q i).length = Q[i].2.length := by unfold rowO; rw [List.length_map, lnQ_at hl]
  omega
 ·
  have h3 : (rowO Q i).length = 0 := by unfold rowO; rw [List.length_map, lnQ_out hl]; rfl
  omega
theorem realsO_len (l : List Oc) : (realsO l).length ≤ l.length := by
 unfold realsO
 rw [List.length_map]
 exact List.length_filter_le _ _
theorem tk_two {n a b : Nat} {G : Nat → Bool} : ((tkV n G).set a true).set b true = tkV n (fun j => G j || (decide (j = a) || decide (j = b))) := by
 apply List.ext_getElem (by simp [tkV])
 intro i h1 h2
 simp only [tkV, List.getElem_set, List.getElem_map, List.getElem_range]
 by_cases e1 : b = i
 · subst e1; simp
 ·
  by_cases e2 : a = i
  · subst e2; simp
  ·
   have e3 : ¬ i = a := fun h => e2 h.symm; have e4 : ¬ i = b := fun h => e1 h.symm; simp [e1, e2, e3, e4]
theorem tk_zero {n : Nat} : (tkV n fun _ => false).set 0 true = tkV n fun j => decide (j = 0) := by
 apply List.ext_getElem (by simp [tkV])
 intro i h1 h2
 simp only [tkV, List.getElem_set, List.getElem_map, List.getElem_range]
 by_cases e1 : 0 = i
 · subst e1; simp
 ·
  have : ¬ i = 0 := fun h => e1 h.symm
  simp [e1, this]
theorem row_full {w : World} {g cap o : Nat} {e : TypeId} {vs : List Value} {v : Value} (h : Row w g e 1 cap vs) (hl : vs.length = cap) (hc : w.cell? ⟨g, o, none⟩ = some v) : v ∈ vs := by
 obtain ⟨cur, hg, hs, hle, hm, ht⟩ := h
 rw [cell_of_row w g o cur e (0, 0) hg] at hc
 have h1 : cur.toList = vs := by
  rw [← ht]
  exact (List.take_of_length_le (by simp; omega)).symm
 rw [← h1]
 rw [← Array.getElem?_toList] at hc
 exact List.mem_of_getElem? hc
theorem not_bools {w : World} {g n o : Nat} {z : Int} {G : Nat → Bool} {e : TypeId} (h : Row w g e 1 n ((tkV n G).map Value.bool)) (hc : w.cell? ⟨g, o, none⟩ = some (.int .i64 z)) : False := by
 have := row_full h (by simp [tkV]) hc
 obtain ⟨b, _, hb⟩ := List.mem_map.1 this
 cases hb
theorem bad_seen {Q : List Pt} {i : Nat} (hi : i < Q.length) (h : ¬ (Q[i].1 ≠ 0 ∧ Q[i].1 = kindR Q[i].2 ∧ (∀ h0 : 0 < i, cmpLs (Q[i - 1]'(by omega)).2 Q[i].2 < 0))) : rightB Q = false := rightB_not.2 fun hr => h (hr.seenR hi)
theorem bad_okV {Q : List Pt} {p : Oc} (hp : p ∈ allQ Q) (hv : p.2.2.2 ≠ 0) (h : ¬ okV Q p.2.2.2) : rightB Q = false := rightB_not.2 fun hr => h (hr.okV hp hv)
set_option maxRecDepth 100000 in
set_option maxHeartbeats 8000000 in
theorem refRight15_walk (a : Option Addr) (cap : Nat) (Q : List Pt) (w : World) (hr : RdQ w a Q) (hQ : Q.length ≤ 90) (hR : ∀ q ∈ Q, q.2.length ≤ 1000) :
  Calls Tryz.prog 23 #[.slice a Q.length cap] w (RetBo w (rightB Q)) := by
 obtain ⟨rb, hrb⟩ : ∃ b, b = rightB Q := ⟨_, rfl⟩
 rw [← hrb]
 by_cases h0 : Q.length = 0
 ·
  obtain rfl := List.eq_nil_of_length_eq_zero h0
  have hbad : rb = false := by rw [hrb]; exact rightB_not.2 fun h => h.ne rfl
  subst hbad
  clear h0 hrb
  go_enter Tryz.func23, Tryz.ntmps23
  go_wp2_with fail
  go_ret
  exact ⟨rfl, bl_refl _⟩
 have e0 : ((Q.length : Int) == 0) = false := by simpa using h0
 have Hrb := Lib.hid hrb; have H0 := Lib.hid h0
 clear hrb h0
 go_enter Tryz.func23, Tryz.ntmps23
 go_wp2_with fail
 have ho0 : OwnL w (.slice none 0 0) [] := own_nil _ _ _
 have hp0 : preQ Q 0 0 = [] := by simp [preQ, preO]
 go_loopg [3, 4, 5] Q.length (fun r nv rv iv wj => ∃ i : Nat, i + r = Q.length ∧ iv = .int .i64 i ∧ nv = .int .i64 (nvO (preQ Q i 0) : Nat) ∧ OwnL wj rv (realsO (preQ Q i 0)) ∧ (∀ g, rv.ownBlock = some g → w.heap.size ≤ g) ∧ seenR Q i ∧ passV Q (preQ Q i 0) ∧ Below w.heap.size w wj)
 case atStart => exact ⟨0, by omega, rfl, by rw [hp0]; rfl, by rw [hp0]; exact ho0, fun g hg => by simp [Value.ownBlock] at hg, seenR_zero Q, by rw [hp0]; exact passV_nil Q, bl_refl w⟩
 case round =>
  as_aux_lemma =>
   clear ho0 hp0; obtain ⟨i, hi, rfl, rfl, hown, hyoung, hseen, hpass, hB⟩ := hrel; have Hi := Lib.hid hi; have Hseen := Lib.hid hseen; have Hpass := Lib.hid hpass; have Hyoung := Lib.hid hyoung; clear hseen hpass hyoung; by_cases hil : i < Q.length
   ·
    clear hi; have hqi : Q[i]? = some Q[i] := List.getElem?_eq_getElem hil; have hrw := hr.below hB; obtain ⟨bp, op, au, cu, rfl, p0, p1, hrq, hcu, hcm⟩ := hrw i _ hqi; have hRq := hR _ (List.getElem_mem hil); have hbs := bad_seen hil; have hln := lnQ_at hil; have hsn := seenR_next Hseen.out hil; obtain ⟨⟨kd, ls⟩, hq⟩ : ∃ q : Pt, Q[i] = q := ⟨_, rfl⟩
    rw [hq] at p0 p1 hrq hcu hRq hbs hsn hln; simp only at p0 p1 hrq hcu hRq hbs hsn hln; have Hq := Lib.hid hq; have Hbs := Lib.hid hbs; have Hln := Lib.hid hln; have Hsn := Lib.hid hsn; have i1 : (i : Int) < (Q.length : Int) := by omega
    clear hqi hq hbs hln hsn; obtain ⟨tb, htb⟩ : ∃ tb, tb = (decide (kd = 0) || (decide (kindR ls ≠ kd) || (decide (0 < i) && !decide (cmpLs (lnQ Q (i - 1)) ls < 0)))) := ⟨_, rfl⟩
    have hgood : tb = false → seenR Q (i + 1) := fun h => by
     rw [htb] at h; simp only [Bool.or_eq_false_iff, Bool.and_eq_false_iff, decide_eq_false_iff_not, Bool.not_eq_false', decide_eq_true_eq] at h; refine Hsn.out h.1 ?_ (fun h0 => ?_)
     · exact (Classical.not_not.1 h.2.1).symm
     ·
      rcases h.2.2 with h3 | h3
      · exact absurd h0 h3
      ·
       rw [lnQ_at (by omega)] at h3; exact h3
    have hbad : tb = true → rb = false := fun h => by
     rw [Hrb.out]; refine Hbs.out fun hc => ?_; rw [htb] at h; simp only [Bool.or_eq_true, Bool.and_eq_true, decide_eq_true_eq, Bool.not_eq_true', decide_eq_false_iff_not] at h; rcases h with h | h | h
     · exact hc.1 h
     · exact h hc.2.1.symm
     ·
      have := hc.2.2 h.1; rw [lnQ_at (by omega)] at h; exact h.2 this
    have Htb := Lib.hid htb; have Hgood := Lib.hid hgood; have Hbad := Lib.hid hbad; clear htb hgood hbad; go_upto_region 8 with (fail)
    go_cut [64] (fun tv wx => tv = .bool tb ∧ Below wr.heap.size wr wx)
    case first =>
     as_aux_lemma =>
      by_cases hk0 : kd = 0
      ·
       have hb : tb = true := by rw [Htb.out, hk0]; rfl
       have HbT := Lib.hid hb; subst hk0; clear hb; refine regionT (fun w' => w'.cell? ⟨bp, op + i * 2, none⟩ = some (.int .i64 0)) 39 (by kernel_rfl) ?_; have hS : wr.drew.cell? ⟨bp, op + i * 2, none⟩ = some (.int .i64 0) := p0; refine tkT 0 ?_ rfl hS ?_ ?_ (by kernel_rfl) (fun _ _ _ h => h) (by rfl); rotate_left; (· intro wS hSw; (try dsimp only at hSw); go_simp; try with_reducible rfl); simp only [Act.put, zA, z0, z1]; refine tkT 1 ?_ rfl hS ?_ ?_ (by kernel_rfl) (fun _ _ _ h => h) (by rfl); rotate_left; (· intro wS hSw; (try dsimp only at hSw); go_simp; try with_reducible rfl); simp only [Act.put, zA, z0, z1]; refine tkT 2 ?_ rfl hS ?_ ?_ (by kernel_rfl) (fun _ _ _ h => h) (by rfl); rotate_left; (· intro wS hSw; (try dsimp only at hSw); go_simp; try with_reducible rfl); simp only [Act.put, zA, z0, z1]; refine tkT 3 ?_ rfl hS ?_ ?_ (by kernel_rfl) (fun _ _ _ h => h) (by rfl); rotate_left; (· intro wS hSw; (try dsimp only at hSw); go_simp; try with_reducible rfl); simp only [Act.put, zA, z0, z1]; refine tkT 4 ?_ rfl hS ?_ ?_ (by kernel_rfl) (fun _ _ _ h => h) (by rfl); rotate_left; (· intro wS hSw; (try dsimp only at hSw); go_simp; try with_reducible rfl); simp only [Act.put, zA, z0, z1]; refine tkT 5 ?_ rfl hS ?_ ?_ (by kernel_rfl) (fun _ _ _ h => h) (by rfl); rotate_left; (· intro wS hSw; (try dsimp only at hSw); go_simp; try with_reducible rfl); simp only [Act.put, zA, z0, z1]; refine tkT 6 ?_ rfl hS ?_ ?_ (by kernel_rfl) (fun _ _ _ h => h) (by rfl); rotate_left; (· intro wS hSw; (try dsimp only at hSw); go_simp; try with_reducible rfl); simp only [Act.put, zA, z0, z1]
       refine tkU 7 rfl hS (by rfl) ?_ (by kernel_rfl) (fun _ _ _ h => h); simp only [Act.put, zA, z0, z1]; refine tkU 8 rfl hS (by rfl) ?_ (by kernel_rfl) (fun _ _ _ h => h); simp only [Act.put, zA, z0, z1]; refine tkU 9 rfl hS (by rfl) ?_ (by kernel_rfl) (fun _ _ _ h => h); simp only [Act.put, zA, z0, z1]; refine tkU 10 rfl hS (by rfl) ?_ (by kernel_rfl) (fun _ _ _ h => h); simp only [Act.put, zA, z0, z1]; refine tkU 11 rfl hS (by rfl) ?_ (by kernel_rfl) (fun _ _ _ h => h); simp only [Act.put, zA, z0, z1]; refine tkU 12 rfl hS (by rfl) ?_ (by kernel_rfl) (fun _ _ _ h => h); simp only [Act.put, zA, z0, z1]; refine tkU 13 rfl hS (by rfl) ?_ (by kernel_rfl) (fun _ _ _ h => h); simp only [Act.put, zA, z0, z1]; refine tkU 14 rfl hS (by rfl) ?_ (by kernel_rfl) (fun _ _ _ h => h); simp only [Act.put, zA, z0, z1]; refine tkU 15 rfl hS (by rfl) ?_ (by kernel_rfl) (fun _ _ _ h => h); simp only [Act.put, zA, z0, z1]; refine tkU 16 rfl hS (by rfl) ?_ (by kernel_rfl) (fun _ _ _ h => h); simp only [Act.put, zA, z0, z1]; refine tkU 17 rfl hS (by rfl) ?_ (by kernel_rfl) (fun _ _ _ h => h); simp only [Act.put, zA, z0, z1]; refine tkU 18 rfl hS (by rfl) ?_ (by kernel_rfl) (fun _ _ _ h => h); simp only [Act.put, zA, z0, z1]; refine tkT 19 ?_ rfl hS ?_ ?_ (by kernel_rfl) (fun _ _ _ h => h) (by rfl); rotate_left; (· intro wS hSw; (try dsimp only at hSw); go_simp; try with_reducible rfl); simp only [Act.put, zA, z0, z1]; refine tkT 20 ?_ rfl hS ?_ ?_ (by kernel_rfl) (fun _ _ _ h => h) (by rfl); rotate_left; (· intro wS hSw; (try dsimp only at hSw); go_simp; try with_reducible rfl); simp only [Act.put, zA, z0, z1]
       refine tkU 21 rfl hS (by rfl) ?_ (by kernel_rfl) (fun _ _ _ h => h); simp only [Act.put, zA, z0, z1]; refine tkU 22 rfl hS (by rfl) ?_ (by kernel_rfl) (fun _ _ _ h => h); simp only [Act.put, zA, z0, z1]; refine tkU 23 rfl hS (by rfl) ?_ (by kernel_rfl) (fun _ _ _ h => h); simp only [Act.put, zA, z0, z1]; refine tkU 24 rfl hS (by rfl) ?_ (by kernel_rfl) (fun _ _ _ h => h); simp only [Act.put, zA, z0, z1]; refine tkU 25 rfl hS (by rfl) ?_ (by kernel_rfl) (fun _ _ _ h => h); simp only [Act.put, zA, z0, z1]; refine tkU 26 rfl hS (by rfl) ?_ (by kernel_rfl) (fun _ _ _ h => h); simp only [Act.put, zA, z0, z1]; refine tkU 27 rfl hS (by rfl) ?_ (by kernel_rfl) (fun _ _ _ h => h); simp only [Act.put, zA, z0, z1]; refine tkU 28 rfl hS (by rfl) ?_ (by kernel_rfl) (fun _ _ _ h => h); simp only [Act.put, zA, z0, z1]; refine tkU 29 rfl hS (by rfl) ?_ (by kernel_rfl) (fun _ _ _ h => h); simp only [Act.put, zA, z0, z1]; refine tkU 30 rfl hS (by rfl) ?_ (by kernel_rfl) (fun _ _ _ h => h); simp only [Act.put, zA, z0, z1]; refine tkU 31 rfl hS (by rfl) ?_ (by kernel_rfl) (fun _ _ _ h => h); simp only [Act.put, zA, z0, z1]; refine tkU 32 rfl hS (by rfl) ?_ (by kernel_rfl) (fun _ _ _ h => h); simp only [Act.put, zA, z0, z1]; refine tkU 33 rfl hS (by rfl) ?_ (by kernel_rfl) (fun _ _ _ h => h); simp only [Act.put, zA, z0, z1]; refine tkU 34 rfl hS (by rfl) ?_ (by kernel_rfl) (fun _ _ _ h => h); simp only [Act.put, zA, z0, z1]; refine tkU 35 rfl hS (by rfl) ?_ (by kernel_rfl) (fun _ _ _ h => h); simp only [Act.put, zA, z0, z1]
       refine tkU 36 rfl hS (by rfl) ?_ (by kernel_rfl) (fun _ _ _ h => h); simp only [Act.put, zA, z0, z1]; refine tkU 37 rfl hS (by rfl) ?_ (by kernel_rfl) (fun _ _ _ h => h); simp only [Act.put, zA, z0, z1]; refine tkT 38 ?_ rfl hS ?_ ?_ (by kernel_rfl) (fun _ _ _ h => h) (by rfl); rotate_left; (· intro wS hSw; (try dsimp only at hSw); go_simp; try with_reducible rfl); simp only [Act.put, zA, z0, z1]; refine doneT (by kernel_rfl) ?_ _; go_wp2_with fail; go_meet
       exact ⟨by rw [HbT.out] <;> rfl, (Below.refl wr.heap.size wr).drew⟩
      obtain ⟨z, hz⟩ : ∃ z, z = kindR ls := ⟨_, rfl⟩
      have ek : (kd == 0) = false := by simpa using hk0
      have hkw := fun (w : World) (hr : RdL w au ls) => kind15_walk au cu ls w hr (by omega); rw [← hz] at hkw; have Hkw := Lib.hid hkw; have Hz := Lib.hid hz; have Hk0 := Lib.hid hk0; clear hz hkw hk0; by_cases hzk : z = kd
      ·
       have ez : (z != kd) = false := by simpa using hzk
       have Hzk := Lib.hid hzk; clear hzk; rcases Nat.eq_zero_or_pos i with hi0 | hi0
       ·
        have e3 : decide ((0 : Int) < (i : Int)) = false := by simp; omega
        have e3' : decide (0 < i) = false := by simp; omega
        have hb : tb = false := by rw [Htb.out, ← Hz.out, Hzk.out, e3']; simpa using Hk0.out
        have HbT := Lib.hid hb; clear hi0 hb; refine regionT (fun w' => w'.cell? ⟨bp, op + i * 2, none⟩ = some (.int .i64 kd) ∧ w'.cell? ⟨bp, op + i * 2 + 1, none⟩ = some (.slice au ls.length cu)) 39 (by kernel_rfl) ?_; have hS : wr.drew.cell? ⟨bp, op + i * 2, none⟩ = some (.int .i64 kd) ∧ wr.drew.cell? ⟨bp, op + i * 2 + 1, none⟩ = some (.slice au ls.length cu) := ⟨p0, p1⟩
        refine tkT 0 ?_ rfl hS ?_ ?_ (by kernel_rfl) (fun _ _ _ h => h) (by rfl); rotate_left; (· intro wS hSw; (try dsimp only at hSw); go_simp; try with_reducible rfl); simp only [Act.put, zA, z0, z1]; refine tkT 1 ?_ rfl hS ?_ ?_ (by kernel_rfl) (fun _ _ _ h => h) (by rfl); rotate_left; (· intro wS hSw; (try dsimp only at hSw); go_simp; try with_reducible rfl); simp only [Act.put, zA, z0, z1]; refine tkT 2 ?_ rfl hS ?_ ?_ (by kernel_rfl) (fun _ _ _ h => h) (by rfl); rotate_left; (· intro wS hSw; (try dsimp only at hSw); go_simp; try with_reducible rfl); simp only [Act.put, zA, z0, z1]; refine tkT 3 ?_ rfl hS ?_ ?_ (by kernel_rfl) (fun _ _ _ h => h) (by rfl); rotate_left; (· intro wS hSw; (try dsimp only at hSw); go_simp; try with_reducible rfl); simp only [Act.put, zA, z0, z1]; refine tkT 4 ?_ rfl hS ?_ ?_ (by kernel_rfl) (fun _ _ _ h => h) (by rfl); rotate_left; (· intro wS hSw; (try dsimp only at hSw); go_simp; try with_reducible rfl); simp only [Act.put, zA, z0, z1]; refine tkT 5 ?_ rfl hS ?_ ?_ (by kernel_rfl) (fun _ _ _ h => h) (by rfl); rotate_left; (· intro wS hSw; (try dsimp only at hSw); go_simp; try with_reducible rfl); simp only [Act.put, zA, z0, z1]; refine tkT 6 ?_ rfl hS ?_ ?_ (by kernel_rfl) (fun _ _ _ h => h) (by rfl); rotate_left; (· intro wS hSw; (try dsimp only at hSw); go_simp; try with_reducible rfl); simp only [Act.put, zA, z0, z1]; refine tkT 7 ?_ rfl hS ?_ ?_ (by kernel_rfl) (fun _ _ _ h => h) (by rfl); rotate_left; (· intro wS hSw; (try dsimp only at hSw); go_simp; try with_reducible rfl); simp only [Act.put, zA, z0, z1]
        refine tkT 8 ?_ rfl hS ?_ ?_ (by kernel_rfl) (fun _ _ _ h => h) (by rfl); rotate_left; (· intro wS hSw; (try dsimp only at hSw); go_simp; try with_reducible rfl); simp only [Act.put, zA, z0, z1]; refine tkT 9 ?_ rfl hS ?_ ?_ (by kernel_rfl) (fun _ _ _ h => h) (by rfl); rotate_left; (· intro wS hSw; (try dsimp only at hSw); go_simp; try with_reducible rfl); simp only [Act.put, zA, z0, z1]; refine tkT 10 ?_ rfl hS ?_ ?_ (by kernel_rfl) (fun _ _ _ h => h) (by rfl); rotate_left; (· intro wS hSw; (try dsimp only at hSw); go_simp; try with_reducible rfl); simp only [Act.put, zA, z0, z1]; refine tkT 11 ?_ rfl hS ?_ ?_ (by kernel_rfl) (fun _ _ _ h => h) (by rfl); rotate_left; (· intro wS hSw; (try dsimp only at hSw); go_simp; try with_reducible rfl); simp only [Act.put, zA, z0, z1]; refine tkT 13 ?_ rfl hS ?_ ?_ (by kernel_rfl) (fun _ _ _ h => h) (by rfl); rotate_left; (· intro wS hSw; (try dsimp only at hSw); go_simp; try with_reducible rfl); simp only [Act.put, zA, z0, z1]; refine tkT 14 ?_ rfl hS ?_ ?_ (by kernel_rfl) (fun _ _ _ h => h) (by rfl); rotate_left; (· intro wS hSw; (try dsimp only at hSw); go_simp; try with_reducible rfl); simp only [Act.put, zA, z0, z1]; refine tkT 15 ?_ rfl hS ?_ ?_ (by kernel_rfl) (fun _ _ _ h => h) (by rfl); rotate_left; (· intro wS hSw; (try dsimp only at hSw); go_simp; try with_reducible rfl); simp only [Act.put, zA, z0, z1]; refine tkT 16 ?_ rfl hS ?_ ?_ (by kernel_rfl) (fun _ _ _ h => h) (by rfl); rotate_left; (· intro wS hSw; (try dsimp only at hSw); go_simp; try with_reducible rfl); simp only [Act.put, zA, z0, z1]
        refine tkT 17 ?_ rfl hS ?_ ?_ (by kernel_rfl) (fun _ _ _ h => h) (by rfl); rotate_left; (· intro wS hSw; (try dsimp only at hSw); go_simp; try with_reducible rfl); simp only [Act.put, zA, z0, z1]; refine oneT (i := 12) rfl (by kernel_rfl) (fun K hK => ?_); go_simp; refine (Hkw.out wr.drew hrq).mono ?_; rintro e w1 ⟨rfl, hb1⟩; replace hb1 : Below wr.heap.size wr w1 := bl_trans (Below.refl wr.heap.size wr).drew hb1; have hS1 : w1.cell? ⟨bp, op + i * 2, none⟩ = some (.int .i64 kd) ∧ w1.cell? ⟨bp, op + i * 2 + 1, none⟩ = some (.slice au ls.length cu) := ⟨keep_cell hb1 p0, keep_cell hb1 p1⟩
        simp only; refine hK _ _ (fun _ => hS1) ?_; clear hK K hS; have hS := hS1; refine tkT 18 ?_ rfl hS ?_ ?_ (by kernel_rfl) (fun _ _ _ h => h) (by rfl); rotate_left; (· intro wS hSw; (try dsimp only at hSw); go_simp; try with_reducible rfl); simp only [Act.put, zA, z0, z1]; refine tkT 19 ?_ rfl hS ?_ ?_ (by kernel_rfl) (fun _ _ _ h => h) (by rfl); rotate_left; (· intro wS hSw; (try dsimp only at hSw); go_simp; try with_reducible rfl); simp only [Act.put, zA, z0, z1]; refine tkT 20 ?_ rfl hS ?_ ?_ (by kernel_rfl) (fun _ _ _ h => h) (by rfl); rotate_left; (· intro wS hSw; (try dsimp only at hSw); go_simp; try with_reducible rfl); simp only [Act.put, zA, z0, z1]; refine tkT 21 ?_ rfl hS ?_ ?_ (by kernel_rfl) (fun _ _ _ h => h) (by rfl); rotate_left; (· intro wS hSw; (try dsimp only at hSw); go_simp; try with_reducible rfl); simp only [Act.put, zA, z0, z1]; refine tkT 22 ?_ rfl hS ?_ ?_ (by kernel_rfl) (fun _ _ _ h => h) (by rfl); rotate_left; (· intro wS hSw; (try dsimp only at hSw); go_simp; try with_reducible rfl); simp only [Act.put, zA, z0, z1]; refine tkT 23 ?_ rfl hS ?_ ?_ (by kernel_rfl) (fun _ _ _ h => h) (by rfl); rotate_left; (· intro wS hSw; (try dsimp only at hSw); go_simp; try with_reducible rfl); simp only [Act.put, zA, z0, z1]; refine tkU 24 rfl hS (by rfl) ?_ (by kernel_rfl) (fun _ _ _ h => h); simp only [Act.put, zA, z0, z1]; refine tkU 25 rfl hS (by rfl) ?_ (by kernel_rfl) (fun _ _ _ h => h); simp only [Act.put, zA, z0, z1]; refine tkU 26 rfl hS (by rfl) ?_ (by kernel_rfl) (fun _ _ _ h => h); simp only [Act.put, zA, z0, z1]
        refine tkU 27 rfl hS (by rfl) ?_ (by kernel_rfl) (fun _ _ _ h => h); simp only [Act.put, zA, z0, z1]; refine tkU 28 rfl hS (by rfl) ?_ (by kernel_rfl) (fun _ _ _ h => h); simp only [Act.put, zA, z0, z1]; refine tkU 29 rfl hS (by rfl) ?_ (by kernel_rfl) (fun _ _ _ h => h); simp only [Act.put, zA, z0, z1]; refine tkU 30 rfl hS (by rfl) ?_ (by kernel_rfl) (fun _ _ _ h => h); simp only [Act.put, zA, z0, z1]; refine tkU 31 rfl hS (by rfl) ?_ (by kernel_rfl) (fun _ _ _ h => h); simp only [Act.put, zA, z0, z1]; refine tkU 32 rfl hS (by rfl) ?_ (by kernel_rfl) (fun _ _ _ h => h); simp only [Act.put, zA, z0, z1]; refine tkU 33 rfl hS (by rfl) ?_ (by kernel_rfl) (fun _ _ _ h => h); simp only [Act.put, zA, z0, z1]; refine tkU 34 rfl hS (by rfl) ?_ (by kernel_rfl) (fun _ _ _ h => h); simp only [Act.put, zA, z0, z1]; refine tkU 35 rfl hS (by rfl) ?_ (by kernel_rfl) (fun _ _ _ h => h); simp only [Act.put, zA, z0, z1]; refine tkU 36 rfl hS (by rfl) ?_ (by kernel_rfl) (fun _ _ _ h => h); simp only [Act.put, zA, z0, z1]; refine tkT 37 ?_ rfl hS ?_ ?_ (by kernel_rfl) (fun _ _ _ h => h) (by rfl); rotate_left; (· intro wS hSw; (try dsimp only at hSw); go_simp; try with_reducible rfl); simp only [Act.put, zA, z0, z1]; refine tkT 38 ?_ rfl hS ?_ ?_ (by kernel_rfl) (fun _ _ _ h => h) (by rfl); rotate_left; (· intro wS hSw; (try dsimp only at hSw); go_simp; try with_reducible rfl); simp only [Act.put, zA, z0, z1]; refine doneT (by kernel_rfl) ?_ _; go_wp2_with fail; go_meet
        exact ⟨by rw [HbT.out] <;> rfl, hb1⟩
       ·
        have e3 : decide ((0 : Int) < (i : Int)) = true := by simp; omega
        have e3' : decide (0 < i) = true := by simp; omega
        have hp1 : Q[i - 1]? = some (Q[i - 1]'(by omega)) := List.getElem?_eq_getElem (by omega); obtain ⟨b2, o2, a2, c2, hb2, -, d1, hrp, hpu, hpm⟩ := hrw (i - 1) _ hp1; cases hb2; have hRp := hR _ (List.getElem_mem (show i - 1 < Q.length by omega)); have hlp := lnQ_at (show i - 1 < Q.length by omega); obtain ⟨⟨ke, ms⟩, hq2⟩ : ∃ q : Pt, Q[i - 1]'(by omega) = q := ⟨_, rfl⟩
        rw [hq2] at d1 hrp hpu hRp hlp; simp only at d1 hrp hpu hRp hlp; have ei : IntKind.i64.wrap ((i : Int) - 1) = ((i - 1 : Nat) : Int) := by rw [IntWalk.i64_in _ (by omega)]; omega
        have i3 : ((i - 1 : Nat) : Int) < (Q.length : Int) := by omega
        have hbf := fun (w : World) (h1 : RdL w a2 ms) (h2 : RdL w au ls) => before15_walk a2 au c2 cu ms ls w h1 h2 (by omega) (by omega); obtain ⟨bb, hbb⟩ : ∃ b, b = decide (cmpLs ms ls < 0) := ⟨_, rfl⟩
        rw [← hbb] at hbf; have hb : tb = !bb := by rw [Htb.out, ← Hz.out, Hzk.out, e3', hlp, hbb]; have := Hk0.out; simp [this]
        have HbT := Lib.hid hb; have Hbf := Lib.hid hbf; have Hi0 := Lib.hid hi0; clear hp1 hbb hbf hb; refine regionT (fun w' => (w'.cell? ⟨bp, op + i * 2, none⟩ = some (.int .i64 kd) ∧ w'.cell? ⟨bp, op + i * 2 + 1, none⟩ = some (.slice au ls.length cu)) ∧ w'.cell? ⟨bp, op + (i - 1) * 2 + 1, none⟩ = some (.slice a2 ms.length c2)) 39 (by kernel_rfl) ?_; have hS : (wr.drew.cell? ⟨bp, op + i * 2, none⟩ = some (.int .i64 kd) ∧ wr.drew.cell? ⟨bp, op + i * 2 + 1, none⟩ = some (.slice au ls.length cu)) ∧ wr.drew.cell? ⟨bp, op + (i - 1) * 2 + 1, none⟩ = some (.slice a2 ms.length c2) := ⟨⟨p0, p1⟩, d1⟩
        refine tkT 0 ?_ rfl hS ?_ ?_ (by kernel_rfl) (fun _ _ _ h => h) (by rfl); rotate_left; (· intro wS hSw; (try dsimp only at hSw); go_simp; try with_reducible rfl); simp only [Act.put, zA, z0, z1]; refine tkT 1 ?_ rfl hS ?_ ?_ (by kernel_rfl) (fun _ _ _ h => h) (by rfl); rotate_left; (· intro wS hSw; (try dsimp only at hSw); go_simp; try with_reducible rfl); simp only [Act.put, zA, z0, z1]; refine tkT 2 ?_ rfl hS ?_ ?_ (by kernel_rfl) (fun _ _ _ h => h) (by rfl); rotate_left; (· intro wS hSw; (try dsimp only at hSw); go_simp; try with_reducible rfl); simp only [Act.put, zA, z0, z1]; refine tkT 3 ?_ rfl hS ?_ ?_ (by kernel_rfl) (fun _ _ _ h => h) (by rfl); rotate_left; (· intro wS hSw; (try dsimp only at hSw); go_simp; try with_reducible rfl); simp only [Act.put, zA, z0, z1]; refine tkT 4 ?_ rfl hS ?_ ?_ (by kernel_rfl) (fun _ _ _ h => h) (by rfl); rotate_left; (· intro wS hSw; (try dsimp only at hSw); go_simp; try with_reducible rfl); simp only [Act.put, zA, z0, z1]; refine tkT 5 ?_ rfl hS ?_ ?_ (by kernel_rfl) (fun _ _ _ h => h) (by rfl); rotate_left; (· intro wS hSw; (try dsimp only at hSw); go_simp; try with_reducible rfl); simp only [Act.put, zA, z0, z1]; refine tkT 6 ?_ rfl hS ?_ ?_ (by kernel_rfl) (fun _ _ _ h => h) (by rfl); rotate_left; (· intro wS hSw; (try dsimp only at hSw); go_simp; try with_reducible rfl); simp only [Act.put, zA, z0, z1]; refine tkT 7 ?_ rfl hS ?_ ?_ (by kernel_rfl) (fun _ _ _ h => h) (by rfl); rotate_left; (· intro wS hSw; (try dsimp only at hSw); go_simp; try with_reducible rfl); simp only [Act.put, zA, z0, z1]
        refine tkT 8 ?_ rfl hS ?_ ?_ (by kernel_rfl) (fun _ _ _ h => h) (by rfl); rotate_left; (· intro wS hSw; (try dsimp only at hSw); go_simp; try with_reducible rfl); simp only [Act.put, zA, z0, z1]; refine tkT 9 ?_ rfl hS ?_ ?_ (by kernel_rfl) (fun _ _ _ h => h) (by rfl); rotate_left; (· intro wS hSw; (try dsimp only at hSw); go_simp; try with_reducible rfl); simp only [Act.put, zA, z0, z1]; refine tkT 10 ?_ rfl hS ?_ ?_ (by kernel_rfl) (fun _ _ _ h => h) (by rfl); rotate_left; (· intro wS hSw; (try dsimp only at hSw); go_simp; try with_reducible rfl); simp only [Act.put, zA, z0, z1]; refine tkT 11 ?_ rfl hS ?_ ?_ (by kernel_rfl) (fun _ _ _ h => h) (by rfl); rotate_left; (· intro wS hSw; (try dsimp only at hSw); go_simp; try with_reducible rfl); simp only [Act.put, zA, z0, z1]; refine tkT 13 ?_ rfl hS ?_ ?_ (by kernel_rfl) (fun _ _ _ h => h) (by rfl); rotate_left; (· intro wS hSw; (try dsimp only at hSw); go_simp; try with_reducible rfl); simp only [Act.put, zA, z0, z1]; refine tkT 14 ?_ rfl hS ?_ ?_ (by kernel_rfl) (fun _ _ _ h => h) (by rfl); rotate_left; (· intro wS hSw; (try dsimp only at hSw); go_simp; try with_reducible rfl); simp only [Act.put, zA, z0, z1]; refine tkT 15 ?_ rfl hS ?_ ?_ (by kernel_rfl) (fun _ _ _ h => h) (by rfl); rotate_left; (· intro wS hSw; (try dsimp only at hSw); go_simp; try with_reducible rfl); simp only [Act.put, zA, z0, z1]; refine tkT 16 ?_ rfl hS ?_ ?_ (by kernel_rfl) (fun _ _ _ h => h) (by rfl); rotate_left; (· intro wS hSw; (try dsimp only at hSw); go_simp; try with_reducible rfl); simp only [Act.put, zA, z0, z1]
        refine tkT 17 ?_ rfl hS ?_ ?_ (by kernel_rfl) (fun _ _ _ h => h) (by rfl); rotate_left; (· intro wS hSw; (try dsimp only at hSw); go_simp; try with_reducible rfl); simp only [Act.put, zA, z0, z1]; refine oneT (i := 12) rfl (by kernel_rfl) (fun K hK => ?_); go_simp; refine (Hkw.out wr.drew hrq).mono ?_; rintro e w0 ⟨rfl, hb0⟩; replace hb0 : Below wr.heap.size wr w0 := bl_trans (Below.refl wr.heap.size wr).drew hb0; have hS1 : (w0.cell? ⟨bp, op + i * 2, none⟩ = some (.int .i64 kd) ∧ w0.cell? ⟨bp, op + i * 2 + 1, none⟩ = some (.slice au ls.length cu)) ∧ w0.cell? ⟨bp, op + (i - 1) * 2 + 1, none⟩ = some (.slice a2 ms.length c2) := ⟨⟨keep_cell hb0 p0, keep_cell hb0 p1⟩, keep_cell hb0 d1⟩
        simp only; refine hK _ _ (fun _ => hS1) ?_; clear hK K hS; have hS := hS1; refine tkT 18 ?_ rfl hS ?_ ?_ (by kernel_rfl) (fun _ _ _ h => h) (by rfl); rotate_left; (· intro wS hSw; (try dsimp only at hSw); go_simp; try with_reducible rfl); simp only [Act.put, zA, z0, z1]; refine tkT 19 ?_ rfl hS ?_ ?_ (by kernel_rfl) (fun _ _ _ h => h) (by rfl); rotate_left; (· intro wS hSw; (try dsimp only at hSw); go_simp; try with_reducible rfl); simp only [Act.put, zA, z0, z1]; refine tkT 20 ?_ rfl hS ?_ ?_ (by kernel_rfl) (fun _ _ _ h => h) (by rfl); rotate_left; (· intro wS hSw; (try dsimp only at hSw); go_simp; try with_reducible rfl); simp only [Act.put, zA, z0, z1]; refine tkT 21 ?_ rfl hS ?_ ?_ (by kernel_rfl) (fun _ _ _ h => h) (by rfl); rotate_left; (· intro wS hSw; (try dsimp only at hSw); go_simp; try with_reducible rfl); simp only [Act.put, zA, z0, z1]; refine tkT 22 ?_ rfl hS ?_ ?_ (by kernel_rfl) (fun _ _ _ h => h) (by rfl); rotate_left; (· intro wS hSw; (try dsimp only at hSw); go_simp; try with_reducible rfl); simp only [Act.put, zA, z0, z1]; refine tkT 23 ?_ rfl hS ?_ ?_ (by kernel_rfl) (fun _ _ _ h => h) (by rfl); rotate_left; (· intro wS hSw; (try dsimp only at hSw); go_simp; try with_reducible rfl); simp only [Act.put, zA, z0, z1]; refine tkT 24 ?_ rfl hS ?_ ?_ (by kernel_rfl) (fun _ _ _ h => h) (by rfl); rotate_left; (· intro wS hSw; (try dsimp only at hSw); go_simp; try with_reducible rfl); simp only [Act.put, zA, z0, z1]; refine tkT 25 ?_ rfl hS ?_ ?_ (by kernel_rfl) (fun _ _ _ h => h) (by rfl); rotate_left; (· intro wS hSw; (try dsimp only at hSw); go_simp; try with_reducible rfl); simp only [Act.put, zA, z0, z1]
        refine tkT 26 ?_ rfl hS ?_ ?_ (by kernel_rfl) (fun _ _ _ h => h) (by rfl); rotate_left; (· intro wS hSw; (try dsimp only at hSw); go_simp; try with_reducible rfl); simp only [Act.put, zA, z0, z1]; refine tkT 27 ?_ rfl hS ?_ ?_ (by kernel_rfl) (fun _ _ _ h => h) (by rfl); rotate_left; (· intro wS hSw; (try dsimp only at hSw); go_simp; try with_reducible rfl); simp only [Act.put, zA, z0, z1]; refine tkT 28 ?_ rfl hS ?_ ?_ (by kernel_rfl) (fun _ _ _ h => h) (by rfl); rotate_left; (· intro wS hSw; (try dsimp only at hSw); go_simp; try with_reducible rfl); simp only [Act.put, zA, z0, z1]; refine tkT 29 ?_ rfl hS ?_ ?_ (by kernel_rfl) (fun _ _ _ h => h) (by rfl); rotate_left; (· intro wS hSw; (try dsimp only at hSw); go_simp; try with_reducible rfl); simp only [Act.put, zA, z0, z1]; refine tkT 30 ?_ rfl hS ?_ ?_ (by kernel_rfl) (fun _ _ _ h => h) (by rfl); rotate_left; (· intro wS hSw; (try dsimp only at hSw); go_simp; try with_reducible rfl); simp only [Act.put, zA, z0, z1]; refine tkT 31 ?_ rfl hS ?_ ?_ (by kernel_rfl) (fun _ _ _ h => h) (by rfl); rotate_left; (· intro wS hSw; (try dsimp only at hSw); go_simp; try with_reducible rfl); simp only [Act.put, zA, z0, z1]; refine tkT 32 ?_ rfl hS ?_ ?_ (by kernel_rfl) (fun _ _ _ h => h) (by rfl); rotate_left; (· intro wS hSw; (try dsimp only at hSw); go_simp; try with_reducible rfl); simp only [Act.put, zA, z0, z1]; refine tkT 33 ?_ rfl hS ?_ ?_ (by kernel_rfl) (fun _ _ _ h => h) (by rfl); rotate_left; (· intro wS hSw; (try dsimp only at hSw); go_simp; try with_reducible rfl); simp only [Act.put, zA, z0, z1]
        refine tkT 34 ?_ rfl hS ?_ ?_ (by kernel_rfl) (fun _ _ _ h => h) (by rfl); rotate_left; (· intro wS hSw; (try dsimp only at hSw); go_simp; try with_reducible rfl); simp only [Act.put, zA, z0, z1]; refine oneT (i := 35) rfl (by kernel_rfl) (fun K hK => ?_); go_simp; refine (Hbf.out w0 (hrp.below hb0) (hrq.below hb0)).mono ?_; rintro e w1 ⟨rfl, hb01⟩; have hb1 : Below wr.heap.size wr w1 := bl_trans hb0 hb01; have hS2 : (w1.cell? ⟨bp, op + i * 2, none⟩ = some (.int .i64 kd) ∧ w1.cell? ⟨bp, op + i * 2 + 1, none⟩ = some (.slice au ls.length cu)) ∧ w1.cell? ⟨bp, op + (i - 1) * 2 + 1, none⟩ = some (.slice a2 ms.length c2) := ⟨⟨keep_cell hb1 p0, keep_cell hb1 p1⟩, keep_cell hb1 d1⟩
        simp only; refine hK _ _ (fun _ => hS2) ?_; clear hK K hS hS1; have hS := hS2; refine tkT 36 ?_ rfl hS ?_ ?_ (by kernel_rfl) (fun _ _ _ h => h) (by rfl); rotate_left; (· intro wS hSw; (try dsimp only at hSw); go_simp; try with_reducible rfl); simp only [Act.put, zA, z0, z1]; refine tkT 37 ?_ rfl hS ?_ ?_ (by kernel_rfl) (fun _ _ _ h => h) (by rfl); rotate_left; (· intro wS hSw; (try dsimp only at hSw); go_simp; try with_reducible rfl); simp only [Act.put, zA, z0, z1]; refine tkT 38 ?_ rfl hS ?_ ?_ (by kernel_rfl) (fun _ _ _ h => h) (by rfl); rotate_left; (· intro wS hSw; (try dsimp only at hSw); go_simp; try with_reducible rfl); simp only [Act.put, zA, z0, z1]; refine doneT (by kernel_rfl) ?_ _; go_wp2_with fail; go_meet
        exact ⟨by rw [HbT.out] <;> rfl, hb1⟩
      ·
       have ez : (z != kd) = true := by simpa using hzk
       have hb : tb = true := by rw [Htb.out, ← Hz.out, decide_eq_true hzk]; simp
       have HbT := Lib.hid hb; clear hzk hb; refine regionT (fun w' => w'.cell? ⟨bp, op + i * 2, none⟩ = some (.int .i64 kd) ∧ w'.cell? ⟨bp, op + i * 2 + 1, none⟩ = some (.slice au ls.length cu)) 39 (by kernel_rfl) ?_; have hS : wr.drew.cell? ⟨bp, op + i * 2, none⟩ = some (.int .i64 kd) ∧ wr.drew.cell? ⟨bp, op + i * 2 + 1, none⟩ = some (.slice au ls.length cu) := ⟨p0, p1⟩
       refine tkT 0 ?_ rfl hS ?_ ?_ (by kernel_rfl) (fun _ _ _ h => h) (by rfl); rotate_left; (· intro wS hSw; (try dsimp only at hSw); go_simp; try with_reducible rfl); simp only [Act.put, zA, z0, z1]; refine tkT 1 ?_ rfl hS ?_ ?_ (by kernel_rfl) (fun _ _ _ h => h) (by rfl); rotate_left; (· intro wS hSw; (try dsimp only at hSw); go_simp; try with_reducible rfl); simp only [Act.put, zA, z0, z1]; refine tkT 2 ?_ rfl hS ?_ ?_ (by kernel_rfl) (fun _ _ _ h => h) (by rfl); rotate_left; (· intro wS hSw; (try dsimp only at hSw); go_simp; try with_reducible rfl); simp only [Act.put, zA, z0, z1]; refine tkT 3 ?_ rfl hS ?_ ?_ (by kernel_rfl) (fun _ _ _ h => h) (by rfl); rotate_left; (· intro wS hSw; (try dsimp only at hSw); go_simp; try with_reducible rfl); simp only [Act.put, zA, z0, z1]; refine tkT 4 ?_ rfl hS ?_ ?_ (by kernel_rfl) (fun _ _ _ h => h) (by rfl); rotate_left; (· intro wS hSw; (try dsimp only at hSw); go_simp; try with_reducible rfl); simp only [Act.put, zA, z0, z1]; refine tkT 5 ?_ rfl hS ?_ ?_ (by kernel_rfl) (fun _ _ _ h => h) (by rfl); rotate_left; (· intro wS hSw; (try dsimp only at hSw); go_simp; try with_reducible rfl); simp only [Act.put, zA, z0, z1]; refine tkT 6 ?_ rfl hS ?_ ?_ (by kernel_rfl) (fun _ _ _ h => h) (by rfl); rotate_left; (· intro wS hSw; (try dsimp only at hSw); go_simp; try with_reducible rfl); simp only [Act.put, zA, z0, z1]; refine tkT 7 ?_ rfl hS ?_ ?_ (by kernel_rfl) (fun _ _ _ h => h) (by rfl); rotate_left; (· intro wS hSw; (try dsimp only at hSw); go_simp; try with_reducible rfl); simp only [Act.put, zA, z0, z1]
       refine tkT 8 ?_ rfl hS ?_ ?_ (by kernel_rfl) (fun _ _ _ h => h) (by rfl); rotate_left; (· intro wS hSw; (try dsimp only at hSw); go_simp; try with_reducible rfl); simp only [Act.put, zA, z0, z1]; refine tkT 9 ?_ rfl hS ?_ ?_ (by kernel_rfl) (fun _ _ _ h => h) (by rfl); rotate_left; (· intro wS hSw; (try dsimp only at hSw); go_simp; try with_reducible rfl); simp only [Act.put, zA, z0, z1]; refine tkT 10 ?_ rfl hS ?_ ?_ (by kernel_rfl) (fun _ _ _ h => h) (by rfl); rotate_left; (· intro wS hSw; (try dsimp only at hSw); go_simp; try with_reducible rfl); simp only [Act.put, zA, z0, z1]; refine tkT 11 ?_ rfl hS ?_ ?_ (by kernel_rfl) (fun _ _ _ h => h) (by rfl); rotate_left; (· intro wS hSw; (try dsimp only at hSw); go_simp; try with_reducible rfl); simp only [Act.put, zA, z0, z1]; refine tkT 13 ?_ rfl hS ?_ ?_ (by kernel_rfl) (fun _ _ _ h => h) (by rfl); rotate_left; (· intro wS hSw; (try dsimp only at hSw); go_simp; try with_reducible rfl); simp only [Act.put, zA, z0, z1]; refine tkT 14 ?_ rfl hS ?_ ?_ (by kernel_rfl) (fun _ _ _ h => h) (by rfl); rotate_left; (· intro wS hSw; (try dsimp only at hSw); go_simp; try with_reducible rfl); simp only [Act.put, zA, z0, z1]; refine tkT 15 ?_ rfl hS ?_ ?_ (by kernel_rfl) (fun _ _ _ h => h) (by rfl); rotate_left; (· intro wS hSw; (try dsimp only at hSw); go_simp; try with_reducible rfl); simp only [Act.put, zA, z0, z1]; refine tkT 16 ?_ rfl hS ?_ ?_ (by kernel_rfl) (fun _ _ _ h => h) (by rfl); rotate_left; (· intro wS hSw; (try dsimp only at hSw); go_simp; try with_reducible rfl); simp only [Act.put, zA, z0, z1]
       refine tkT 17 ?_ rfl hS ?_ ?_ (by kernel_rfl) (fun _ _ _ h => h) (by rfl); rotate_left; (· intro wS hSw; (try dsimp only at hSw); go_simp; try with_reducible rfl); simp only [Act.put, zA, z0, z1]; refine oneT (i := 12) rfl (by kernel_rfl) (fun K hK => ?_); go_simp; refine (Hkw.out wr.drew hrq).mono ?_; rintro e w1 ⟨rfl, hb1⟩; replace hb1 : Below wr.heap.size wr w1 := bl_trans (Below.refl wr.heap.size wr).drew hb1; have hS1 : w1.cell? ⟨bp, op + i * 2, none⟩ = some (.int .i64 kd) ∧ w1.cell? ⟨bp, op + i * 2 + 1, none⟩ = some (.slice au ls.length cu) := ⟨keep_cell hb1 p0, keep_cell hb1 p1⟩
       simp only; refine hK _ _ (fun _ => hS1) ?_; clear hK K hS; have hS := hS1; refine tkT 18 ?_ rfl hS ?_ ?_ (by kernel_rfl) (fun _ _ _ h => h) (by rfl); rotate_left; (· intro wS hSw; (try dsimp only at hSw); go_simp; try with_reducible rfl); simp only [Act.put, zA, z0, z1]; refine tkT 19 ?_ rfl hS ?_ ?_ (by kernel_rfl) (fun _ _ _ h => h) (by rfl); rotate_left; (· intro wS hSw; (try dsimp only at hSw); go_simp; try with_reducible rfl); simp only [Act.put, zA, z0, z1]; refine tkT 20 ?_ rfl hS ?_ ?_ (by kernel_rfl) (fun _ _ _ h => h) (by rfl); rotate_left; (· intro wS hSw; (try dsimp only at hSw); go_simp; try with_reducible rfl); simp only [Act.put, zA, z0, z1]; refine tkU 21 rfl hS (by rfl) ?_ (by kernel_rfl) (fun _ _ _ h => h); simp only [Act.put, zA, z0, z1]; refine tkU 22 rfl hS (by rfl) ?_ (by kernel_rfl) (fun _ _ _ h => h); simp only [Act.put, zA, z0, z1]; refine tkU 23 rfl hS (by rfl) ?_ (by kernel_rfl) (fun _ _ _ h => h); simp only [Act.put, zA, z0, z1]; refine tkU 24 rfl hS (by rfl) ?_ (by kernel_rfl) (fun _ _ _ h => h); simp only [Act.put, zA, z0, z1]; refine tkU 25 rfl hS (by rfl) ?_ (by kernel_rfl) (fun _ _ _ h => h); simp only [Act.put, zA, z0, z1]; refine tkU 26 rfl hS (by rfl) ?_ (by kernel_rfl) (fun _ _ _ h => h); simp only [Act.put, zA, z0, z1]; refine tkU 27 rfl hS (by rfl) ?_ (by kernel_rfl) (fun _ _ _ h => h); simp only [Act.put, zA, z0, z1]; refine tkU 28 rfl hS (by rfl) ?_ (by kernel_rfl) (fun _ _ _ h => h); simp only [Act.put, zA, z0, z1]; refine tkU 29 rfl hS (by rfl) ?_ (by kernel_rfl) (fun _ _ _ h => h); simp only [Act.put, zA, z0, z1]
       refine tkU 30 rfl hS (by rfl) ?_ (by kernel_rfl) (fun _ _ _ h => h); simp only [Act.put, zA, z0, z1]; refine tkU 31 rfl hS (by rfl) ?_ (by kernel_rfl) (fun _ _ _ h => h); simp only [Act.put, zA, z0, z1]; refine tkU 32 rfl hS (by rfl) ?_ (by kernel_rfl) (fun _ _ _ h => h); simp only [Act.put, zA, z0, z1]; refine tkU 33 rfl hS (by rfl) ?_ (by kernel_rfl) (fun _ _ _ h => h); simp only [Act.put, zA, z0, z1]; refine tkU 34 rfl hS (by rfl) ?_ (by kernel_rfl) (fun _ _ _ h => h); simp only [Act.put, zA, z0, z1]; refine tkU 35 rfl hS (by rfl) ?_ (by kernel_rfl) (fun _ _ _ h => h); simp only [Act.put, zA, z0, z1]; refine tkU 36 rfl hS (by rfl) ?_ (by kernel_rfl) (fun _ _ _ h => h); simp only [Act.put, zA, z0, z1]; refine tkU 37 rfl hS (by rfl) ?_ (by kernel_rfl) (fun _ _ _ h => h); simp only [Act.put, zA, z0, z1]; refine tkT 38 ?_ rfl hS ?_ ?_ (by kernel_rfl) (fun _ _ _ h => h) (by rfl); rotate_left; (· intro wS hSw; (try dsimp only at hSw); go_simp; try with_reducible rfl); simp only [Act.put, zA, z0, z1]; refine doneT (by kernel_rfl) ?_ _; go_wp2_with fail; go_meet
       exact ⟨by rw [HbT.out] <;> rfl, hb1⟩
    case rest =>
    obtain ⟨rfl, hb1⟩ := hcut; have hB1 := bl_trans hB hb1; have hown1 : OwnL wc u4 (realsO (preQ Q i 0)) := Own.below hown fun g hg => hb1.block g (Own.lt hown hg); clear hb1 hown hB hrw hrq p0 p1; cases tb with
    | true =>
     have hfin := Hbad.out rfl; subst hfin; go_wp2_with fail; go_ret; exact ⟨rfl, hB1⟩
    | false =>
     have hsn1 := Hgood.out rfl; have Hsn1 := Lib.hid hsn1; clear hsn1; obtain ⟨gko, hgko⟩ : ∃ g, g = gk := ⟨_, rfl⟩
     have Hgko := Lib.hid hgko; clear hgko; go_wp2_with fail; go_loopg [3, 4, 6] ls.length (fun r nv rv kv wj => ∃ k : Nat, k + r = ls.length ∧ kv = .int .i64 k ∧ nv = .int .i64 (nvO (preQ Q i k) : Nat) ∧ OwnL wj rv (realsO (preQ Q i k)) ∧ (∀ g, rv.ownBlock = some g → w.heap.size ≤ g) ∧ passV Q (preQ Q i k) ∧ Below w.heap.size w wj)
     case atStart => exact ⟨0, by omega, rfl, rfl, hown1, Hyoung.out, Hpass.out, hB1⟩
     case round =>
      as_aux_lemma =>
       clear hown1 hB1 Hpass Hyoung; obtain ⟨k, hk, rfl, rfl, hown, hyoung, hpass, hB⟩ := hrel; have Hk := Lib.hid hk; have Hpass := Lib.hid hpass; have Hyoung := Lib.hid hyoung; clear hpass hyoung; have hrw := hr.below hB; obtain ⟨b9, o9, a9, c9, he9, p0, p1, hrq, -, -⟩ := hrw i Q[i] (List.getElem?_eq_getElem hil); cases he9; rw [Hq.out] at p0 p1 hrq; simp only at p0 p1 hrq; by_cases hkl : k < ls.length
       ·
        clear hk; obtain ⟨bk, ok, rfl, q0, q1, q2⟩ := hrq.at k hkl; have hpre : preQ Q i (k + 1) = preQ Q i k ++ [(i, ls[k])] := by
         have := preQ_succ Q i k (by rw [Hln.out]; exact hkl); rw [this]; congr 3; simp [Hln.out]
        have hall : (i, ls[k]) ∈ allQ Q := mem_allQ.2 (by simp only; rw [Hln.out]; exact List.getElem_mem hkl); obtain ⟨⟨x, y, z9⟩, hxe⟩ : ∃ u : Lk, ls[k] = u := ⟨_, rfl⟩
        rw [hxe] at q0 q1 q2 hpre hall; simp only at q0 q1 q2; have k1 : (k : Int) < (ls.length : Int) := by omega
        have Hpre := Lib.hid hpre; have Hall := Lib.hid hall; clear hpre hall hxe; have hRl : (realsO (preQ Q i k)).length ≤ 91000 := by
         have h1 := realsO_len (preQ Q i k); have h2 := preQ_len hR i k (by omega); omega
        have hNl : nvO (preQ Q i k) ≤ 91000 := by
         have h1 := nvO_le (preQ Q i k); have h2 := preQ_len hR i k (by omega); omega
        go_upto_region 14 with (fail)
        have hbA := bl_alloc wr (.cells #[.int .i64 x, .int .i64 y, .int .i64 z9] 38); have hownA : OwnL (wr.alloc (.cells #[.int .i64 x, .int .i64 y, .int .i64 z9] 38)) u4 (realsO (preQ Q i k)) := hown.alloc _; have cA0 : (wr.alloc (.cells #[.int .i64 x, .int .i64 y, .int .i64 z9] 38)).cell? ⟨wr.heap.size, 0, none⟩ = some (.int .i64 x) := by simp
        have cA1 : (wr.alloc (.cells #[.int .i64 x, .int .i64 y, .int .i64 z9] 38)).cell? ⟨wr.heap.size, 1, none⟩ = some (.int .i64 y) := by simp
        have cA2 : (wr.alloc (.cells #[.int .i64 x, .int .i64 y, .int .i64 z9] 38)).cell? ⟨wr.heap.size, 2, none⟩ = some (.int .i64 z9) := by simp
        have hBA := bl_trans hB hbA; have hwsz := hB.size; have hrA := hrw.below hbA; clear hown hB hbA q0 q1 q2 hrw hrq p0 p1; generalize wr.alloc (.cells #[.int .i64 x, .int .i64 y, .int .i64 z9] 38) = wA at hownA cA0 cA1 cA2 hBA hrA ⊢; by_cases hz9 : z9 = 0
        ·
         subst hz9; have hrl : realsO (preQ Q i (k + 1)) = realsO (preQ Q i k) ++ [(x, y, 0)] := by rw [Hpre.out, realsO_append]; simp [realsO]
         have hnl : nvO (preQ Q i (k + 1)) = nvO (preQ Q i k) := by rw [Hpre.out]; exact nvO_real rfl
         have hps : passV Q (preQ Q i (k + 1)) := by rw [Hpre.out]; exact passV_real Hpass.out rfl
         obtain ⟨R, hRR⟩ : ∃ R, R = realsO (preQ Q i k) := ⟨_, rfl⟩
         rw [← hRR] at hrl hownA hRl; have Hrl := Lib.hid hrl; have Hnl := Lib.hid hnl; have Hps := Lib.hid hps; have hownB : Own (wA.alloc (.cells #[.int .i64 x, .int .i64 y, .int .i64 0] 38)) u4 38 3 R.length (lkCells R) := Own.alloc hownA _; have hszA := hBA.size; clear hrl hnl hps hRR; go_wp2_with (at_builtin; refine wpList_append_row _ rfl (.tmp 86) (.tmp 88) 22 rfl 38 (.agg #[.int .i64 0, .int .i64 0, .int .i64 0]) 3 24 Tryz.underlying22 link_info rfl u4 R.length _ rfl hownB ⟨wA.heap.size, 0, none⟩ 1 1 [.int .i64 x, .int .i64 y, .int .i64 0] rfl rfl (news3 _ _ _ _ _) (one3 _ _ _) (by omega) (by unfold maxLen; omega) (by omega) ?_; intro g5 c5 w5 hr5 hc5 hg5 hor5); have hB5 : Below w.heap.size w w5 := (bl_trans hBA (bl_alloc wA (.cells #[.int .i64 x, .int .i64 y, .int .i64 0] 38))).grown hg5 (by simp; omega) (fun j hj => Hyoung.out j hj); have hy5 : w.heap.size ≤ g5 := by
          rcases hor5 with h | h
          · exact Hyoung.out g5 h
          · simp at h; omega
         have hown5 : OwnL w5 (.slice (some ⟨g5, 0, none⟩) (R.length + 1) c5) (realsO (preQ Q i (k + 1))) := by
          rw [Hrl.out]; have e2 : lkCells R ++ [Value.int .i64 x, Value.int .i64 y, Value.int .i64 0] = lkCells (R ++ [(x, y, 0)]) := by rw [lkCells_append]; rfl
          rw [e2] at hr5; exact ⟨lkCells_length _, .inr ⟨g5, c5, by simp, by simpa using hc5, hr5⟩⟩
         clear hr5 hg5 hor5 hownA hownB cA0 cA1 cA2 hBA hrA; go_wp2_with fail; go_roundg (gk - 1)
         case measure => have := Hk.out; omega
         case rel => exact ⟨k + 1, by have := Hk.out; omega, by go_num, by rw [Hnl.out], hown5, fun j hj => by cases hj; exact hy5, Hps.out, hB5⟩
        ·
         have e9 : (z9 == 0) = false := by simpa using hz9
         have hbad := fun (h : ¬ okV Q z9) => bad_okV Hall.out (by exact hz9) h; have hps : okV Q z9 → passV Q (preQ Q i (k + 1)) := fun h => by rw [Hpre.out]; exact passV_virt Hpass.out h
         have hnl : nvO (preQ Q i (k + 1)) = nvO (preQ Q i k) + 1 := by rw [Hpre.out]; exact nvO_virt hz9
         have hrl : realsO (preQ Q i (k + 1)) = realsO (preQ Q i k) := by rw [Hpre.out, realsO_append]; simp [realsO, hz9]
         have hends := ends15_walk _ cap Q z9 _ hrA (by omega) hR; have hm1 : (i, ((x, y, z9) : Lk)) ∈ atV z9 (allQ Q) := mem_atV.2 ⟨Hall.out, rfl⟩; have hEall : ∀ p ∈ atV z9 (allQ Q), p.1 < Q.length := fun p hp => lnQ_mem (mem_allQ.1 (mem_atV.1 hp).1); obtain ⟨E, hE⟩ : ∃ E, E = atV z9 (allQ Q) := ⟨_, rfl⟩
         have hok : okV Q z9 ↔ E.length = 2 ∧ pairB Q E = true := by rw [hE]; exact Iff.rfl
         rw [← hE] at hends hm1 hEall; have hEl : E.length ≤ 2000000 := by
          rw [hE]; have h1 : (atV z9 (allQ Q)).length ≤ (allQ Q).length := List.length_filter_le _ _; have h2 := preQ_len hR Q.length 0 (Nat.le_refl _); rw [preQ_zero] at h2; have h3 : (preO Q Q.length).length = (allQ Q).length := rfl; omega
         have Hbad := Lib.hid hbad; have Hps := Lib.hid hps; have Hnl := Lib.hid hnl; have Hrl := Lib.hid hrl; have Hok := Lib.hid hok; have Hm1 := Lib.hid hm1; have HEall := Lib.hid hEall; clear hbad hps hnl hrl hok hE hz9 hm1 hEall; go_wp2_with fail; refine hends.mono ?_; rintro e w5 ⟨a1, c1, a2, c2, rfl, hr1, hr2, hb5⟩; have hB5 := bl_trans hBA hb5; have hr5 := hrA.below hb5; have hown5 : OwnL w5 u4 (realsO (preQ Q i k)) := Own.below hownA fun g hg => hb5.block g (Own.lt hownA hg); clear hends hb5 hrA hownA hBA cA0 cA1 cA2; by_cases hE2 : E.length = 2
         ·
          match E, hE2, hEl, hr1, hr2, Hok, Hm1, HEall with
          | [pa, pb], _, _, hr1, hr2, Hok, Hm1, HEall =>
           obtain ⟨ia, xa, ya, za⟩ := pa; obtain ⟨ib, xb, yb, zb⟩ := pb; have e10 : ((2 : Int) != 2) = false := by decide
           obtain ⟨ba, oa, rfl, ca⟩ := hr1 0 (vN ia) rfl; obtain ⟨ba', oa', hba, cb⟩ := hr1 1 (vN ib) rfl; cases hba; replace ca : w5.cell? ⟨ba, oa, none⟩ = some (.int .i64 (ia : Nat)) := ca; replace cb : w5.cell? ⟨ba, oa + 1, none⟩ = some (.int .i64 (ib : Nat)) := cb; obtain ⟨bl, ol, rfl, l0, l1, l2⟩ := hr2.at 0 (by simp); obtain ⟨bl', ol', hbl, m0, m1, m2⟩ := hr2.at 1 (by simp); cases hbl; simp only [List.map_cons, List.map_nil, List.getElem_cons_zero, List.getElem_cons_succ, Nat.zero_mul, Nat.add_zero, Nat.one_mul] at l0 l1 l2 m0 m1 m2; have hia : ia < Q.length := HEall.out (ia, xa, ya, za) (by simp); have hib : ib < Q.length := HEall.out (ib, xb, yb, zb) (by simp); have j1 : (ia : Int) < (Q.length : Int) := by omega
           have j2 : (ib : Int) < (Q.length : Int) := by omega
           have hgt : Tryz.prog.eqGuardType Tryz.prog.depth 38 = false := by kernel_rfl
           have hpe := fun w => lk_eq (xa, ya, za) (xb, yb, zb) w; unfold lkV at hpe; simp only at hpe; have hokk := Hok.out; simp only [pairB, List.length_cons, List.length_nil, Bool.and_eq_true, decide_eq_true_eq, Bool.or_eq_true, true_and] at hokk; clear hr1 hr2; by_cases hiab : ia = ib
           ·
            have e11 : ((ia : Int) == (ib : Int)) = true := by simp; omega
            have hfin : rb = false := by rw [Hrb.out]; exact Hbad.out fun h => (hokk.1 h).2.1 hiab
            subst hfin; clear hiab hokk hpe; go_wp2_with fail; go_quiet (fail)
            go_wp2_with fail; go_ret; exact ⟨rfl, below_drewN hB5 _⟩
           ·
            have e11 : ((ia : Int) == (ib : Int)) = false := by simp; omega
            by_cases hxx : ((xa, ya, za) : Lk) = (xb, yb, zb)
            ·
             rw [decide_eq_true hxx] at hpe; have hra := hr5 ia _ (List.getElem?_eq_getElem hia); have hrb' := hr5 ib _ (List.getElem?_eq_getElem hib); have hri := hr5 i _ (List.getElem?_eq_getElem hil); obtain ⟨_, _, _, _, hq1, pa0, -⟩ := hra; cases hq1; obtain ⟨_, _, _, _, hq1, pb0, -⟩ := hrb'; cases hq1; obtain ⟨_, _, _, _, hq1, pi0, -⟩ := hri; cases hq1; rw [Hq.out] at pi0; simp only at pi0; have hka := kdQ_at hia; have hkb := kdQ_at hib; have hki := kdQ_at hil; rw [Hq.out] at hki; simp only at hki; have hio : i = ia ∨ i = ib := by
              have := Hm1.out; simp only [List.mem_cons, Prod.mk.injEq, List.not_mem_nil, or_false] at this; omega
             obtain ⟨ka, hkaa⟩ : ∃ ka, ka = Q[ia].1 := ⟨_, rfl⟩
             obtain ⟨kb, hkbb⟩ : ∃ kb, kb = Q[ib].1 := ⟨_, rfl⟩
             rw [← hkaa] at hka pa0; rw [← hkbb] at hkb pb0; rw [hka, hkb] at hokk; have Hokk := Lib.hid hokk; have Hka := Lib.hid hka; have Hkb := Lib.hid hkb; have Hki := Lib.hid hki; have Hio := Lib.hid hio; have Hiab := Lib.hid hiab; have Hxx := Lib.hid hxx; clear hokk hka hkb hki hio hiab hxx hkaa hkbb; go_wp2_with fail; go_quiet (fail)
             clear hpe; have pa1 := pa0; have pb1 := pb0; have pi1 := pi0; by_cases hkk : ka = kb
             ·
              have e12 : (ka == kb) = true := by simpa using hkk
              by_cases h3 : kd = 3
              ·
               have e13 : (kd != 3) = false := by simpa using h3
               have hps2 := Hps.out (Hok.out.2 (by
                simp only [pairB, List.length_cons, List.length_nil, Bool.and_eq_true, decide_eq_true_eq, Bool.or_eq_true, true_and]; refine ⟨Hxx.out, Hiab.out, .inr ?_⟩; rcases Hio.out with h | h
                · rw [Hkb.out, ← hkk, ← Hka.out, ← h, Hki.out, h3]
                · rw [← h, Hki.out, h3]))
               have Hps2 := Lib.hid hps2; clear hkk h3 hps2; go_wp2_with fail; go_quiet (fail)
               clear pa0 pb0 pi0 pa1 pb1 pi1 ca cb l0 l1 l2 m0 m1 m2; go_wp2_with fail; go_roundg (gk - 1)
               case measure => have := Hk.out; omega
               case rel => exact ⟨k + 1, by have := Hk.out; omega, by go_num, by rw [Hnl.out] <;> go_num, by rw [Hrl.out]; exact hown5, Hyoung.out, Hps2.out, below_drewN hB5 _⟩
              ·
               have e13 : (kd != 3) = true := by simpa using h3
               have hfin : rb = false := by
                rw [Hrb.out]; refine Hbad.out fun h => ?_; have h4 := (Hokk.out.1 h).2.2; rcases h4 with h4 | h4
                · exact h4 hkk
                ·
                 rcases Hio.out with h5 | h5
                 · have h6 := Hki.out; rw [h5, Hka.out] at h6; exact h3 (by rw [← h6, hkk]; exact h4)
                 · have h6 := Hki.out; rw [h5, Hkb.out] at h6; exact h3 (by rw [← h6]; exact h4)
               subst hfin; clear hkk h3; go_wp2_with fail; go_quiet (fail)
               go_wp2_with fail; go_ret; exact ⟨rfl, below_drewN (below_drewN hB5 _) _⟩
             ·
              have e12 : (ka == kb) = false := by simpa using hkk
              have hps2 := Hps.out (Hok.out.2 (by
               simp only [pairB, List.length_cons, List.length_nil, Bool.and_eq_true, decide_eq_true_eq, Bool.or_eq_true, true_and]
               exact ⟨Hxx.out, Hiab.out, .inl (by rw [Hka.out, Hkb.out]; exact hkk)⟩))
              have Hps2 := Lib.hid hps2; clear hkk hps2; go_wp2_with fail; go_quiet (fail)
              clear pa0 pb0 pi0 pa1 pb1 pi1 ca cb l0 l1 l2 m0 m1 m2; go_wp2_with fail; go_roundg (gk - 1)
              case measure => have := Hk.out; omega
              case rel => exact ⟨k + 1, by have := Hk.out; omega, by go_num, by rw [Hnl.out] <;> go_num, by rw [Hrl.out]; exact hown5, Hyoung.out, Hps2.out, below_drewN hB5 _⟩
            ·
             rw [decide_eq_false hxx] at hpe; have hfin : rb = false := by rw [Hrb.out]; exact Hbad.out fun h => hxx (hokk.1 h).1
             subst hfin; clear hiab hokk hxx; go_wp2_with fail; go_quiet (fail)
             go_wp2_with fail; go_ret; exact ⟨rfl, below_drewN hB5 _⟩
         ·
          have e10 : ((E.length : Int) != 2) = true := by simp; omega
          have hfin : rb = false := by rw [Hrb.out]; exact Hbad.out fun h => hE2 (Hok.out.1 h).1
          subst hfin; clear hE2 hr1 hr2; go_wp2_with fail; go_quiet (fail)
          go_wp2_with fail; go_ret; exact ⟨rfl, below_drewN hB5 _⟩
       ·
        have hkn : k = ls.length := by omega
        subst hkn; have hrow := preQ_row Q i; rw [Hln.out, ← preQ_zero] at hrow; rw [hrow] at hown; have hpss := Hpass.out; rw [hrow] at hpss; have hnn : nvO (preQ Q i ls.length) = nvO (preQ Q (i + 1) 0) := by rw [hrow]
        have Hnn := Lib.hid hnn; have Hpss := Lib.hid hpss; clear hk Hk hrow hpss hnn hrw hrq; go_wp2_with fail; go_roundg (gko - 1)
        case measure => have := Hi.out; have := Hgko.out; omega
        case rel => exact ⟨i + 1, by have := Hi.out; have := Hgko.out; omega, by go_num, by rw [Hnn.out], hown, Hyoung.out, Hsn1.out, Hpss.out, hB⟩
   ·
    have hin : i = Q.length := by omega
    subst hin; have hpa : preQ Q Q.length 0 = allQ Q := by rw [preQ_zero]; rfl
    rw [hpa] at hown; have hpass := Hpass.out; rw [hpa] at hpass; have hnle : nvO (allQ Q) ≤ 91000 := by
     have h1 := nvO_le (allQ Q); have h2 := preQ_len hR Q.length 0 (Nat.le_refl _); rw [hpa] at h2; omega
    have hRle : (realsO (allQ Q)).length ≤ 91000 := by
     have h1 := realsO_len (allQ Q); have h2 := preQ_len hR Q.length 0 (Nat.le_refl _); rw [hpa] at h2; omega
    have hdoc := right_doc (Nat.pos_of_ne_zero H0.out); have hokR : ∀ e ∈ realsO (allQ Q), OkL e := fun e he => by
     obtain ⟨_, j, hj⟩ := mem_realsO.1 he; have h1 := mem_allQ.1 hj; have h2 := lnQ_mem h1; simp only at h1 h2; rw [lnQ_at h2] at h1; obtain ⟨k1, k2, _⟩ := Hseen.out j h2 h2; rw [kind_same] at k2; exact (kind_right (by rw [← k2]; exact k1)).1.2.1 e h1
    have hperm : (sortL (realsO (allQ Q))).Perm (realsO (allQ Q)) := by
     have := sortL_perm (realsO (allQ Q)); rwa [map_swapL hokR] at this
    have hsrt := sortL_sorted (realsO (allQ Q)); obtain ⟨R, hRR⟩ : ∃ R, R = realsO (allQ Q) := ⟨_, rfl⟩
    obtain ⟨nv, hnv⟩ : ∃ nv, nv = nvO (allQ Q) := ⟨_, rfl⟩
    rw [hpa, ← hnv]; rw [← hRR] at hown hRle hdoc hperm hsrt; rw [← hnv] at hnle hdoc; obtain ⟨ar, cr, rfl, hrr, -, -, -⟩ := hown.read; have hsl : (sortL R).length = R.length := hperm.length_eq; obtain ⟨SS, hSS⟩ : ∃ SS, SS = sortL R := ⟨_, rfl⟩
    have hst := refSorted12_walk ar cr R wr hrr (by omega); rw [← hSS] at hst hsl hperm hsrt; have Hdoc := Lib.hid hdoc; have Hperm := Lib.hid hperm; have Hsrt := Lib.hid hsrt; have Hps := Lib.hid hpass; have Hsl := Lib.hid hsl; have hSle : SS.length ≤ 91000 := by omega
    have hwz := hB.size; clear hi Hi hpa hpass hdoc hokR hperm hsrt hRR hnv hSS hsl Hpass Hyoung hown hRle; go_wp2_with fail; refine hst.mono ?_; rintro e w2 ⟨vS, rfl, hoS, -, hb2⟩; obtain ⟨aS, cS, rfl, hrS, -, -, -⟩ := hoS.read; have hB2 := bl_trans hB hb2; clear hst hoS hb2 hrr hB; go_wp2_with fail; have hlt1 : ∀ j, 1 ≤ j → j < 1 → SS[j]? ≠ SS[j - 1]? := fun j h1 h2 => by omega
    go_loopg [10] SS.length (fun r iv wj => ∃ i : Nat, i + r = SS.length + 1 ∧ 1 ≤ i ∧ iv = .int .i64 i ∧ (∀ j, 1 ≤ j → j < i → SS[j]? ≠ SS[j - 1]?) ∧ RdL wj aS SS ∧ Below w.heap.size w wj)
    case atStart => exact ⟨1, by omega, by omega, rfl, hlt1, hrS, hB2⟩
    case round =>
     as_aux_lemma =>
      clear hlt1 hrS hB2; obtain ⟨i, hi, hi1, rfl, hne, hrS, hB⟩ := hrel; have Hi := Lib.hid hi; have Hne := Lib.hid hne; clear hne; by_cases hil : i < SS.length
      ·
       clear hi; obtain ⟨b1, o1, rfl, p0, p1, p2⟩ := hrS.at i hil; obtain ⟨_, _, hq, q0, q1, q2⟩ := hrS.at (i - 1) (by omega); cases hq; have hse : SS[i]? = some SS[i] := List.getElem?_eq_getElem hil; have hse1 : SS[i - 1]? = some (SS[i - 1]'(by omega)) := List.getElem?_eq_getElem (by omega); obtain ⟨⟨x1, x2, x3⟩, hxe⟩ : ∃ u : Lk, SS[i] = u := ⟨_, rfl⟩
       obtain ⟨⟨y1, y2, y3⟩, hye⟩ : ∃ u : Lk, SS[i - 1]'(by omega) = u := ⟨_, rfl⟩
       rw [hxe] at p0 p1 p2 hse; rw [hye] at q0 q1 q2 hse1; simp only at p0 p1 p2 q0 q1 q2; have hpe := fun w => lk_eq (x1, x2, x3) (y1, y2, y3) w; unfold lkV at hpe; simp only at hpe; have hgt : Tryz.prog.eqGuardType Tryz.prog.depth 38 = false := by kernel_rfl
       have ei : IntKind.i64.wrap ((i : Int) - 1) = ((i - 1 : Nat) : Int) := by rw [IntWalk.i64_in _ (by omega)]; omega
       have i1 : (i : Int) < (SS.length : Int) := by omega
       have i2 : ((i - 1 : Nat) : Int) < (SS.length : Int) := by omega
       by_cases he : ((x1, x2, x3) : Lk) = (y1, y2, y3)
       ·
        rw [decide_eq_true he] at hpe; have hfin : rb = false := by
         rw [Hrb.out]; refine rightB_not.2 fun h => ?_; have hnd := (Hdoc.out.1 h).2.2.1; have hnd2 : SS.Nodup := Hperm.out.nodup_iff.2 hnd; have h3 := List.pairwise_iff_getElem.1 hnd2 (i - 1) i (by omega) hil (by omega); rw [hxe, hye, he] at h3; exact h3 rfl
        subst hfin; clear he hse hse1 hxe hye; go_wp2_with fail; go_quiet (fail)
        go_wp2_with fail; go_ret; exact ⟨rfl, below_drewN hB _⟩
       ·
        rw [decide_eq_false he] at hpe; have hne2 : ∀ j, 1 ≤ j → j < i + 1 → SS[j]? ≠ SS[j - 1]? := fun j h1 h2 => by
         by_cases e : j = i
         · subst e; rw [hse, hse1]; exact fun h => he (Option.some.inj h)
         · exact Hne.out j h1 (by omega)
        have Hne2 := Lib.hid hne2; clear he hse hse1 hxe hye hne2; go_wp2_with fail; go_quiet (fail)
        clear hpe; go_wp2_with fail; go_roundg (gk - 1)
        case measure => have := Hi.out; omega
        case rel => exact ⟨i + 1, by have := Hi.out; omega, by omega, by go_num, Hne2.out, hrS, below_drewN hB _⟩
      ·
       have hnd : R.Nodup := by
        refine Hperm.out.nodup_iff.1 ?_; refine List.pairwise_iff_getElem.2 fun a b ha hb hab => ?_; intro heq; have h1 := List.pairwise_iff_getElem.1 Hsrt.out; have h2 := Hne.out (a + 1) (by omega) (by omega); rw [List.getElem?_eq_getElem (by omega), Nat.add_sub_cancel, List.getElem?_eq_getElem ha] at h2; by_cases hb2 : b = a + 1
        · subst hb2; exact h2 (by rw [heq])
        ·
         have l1 := h1 a (a + 1) ha (by omega) (by omega); have l2 := h1 (a + 1) b (by omega) hb (by omega); rw [← heq] at l2; exact h2 (congrArg some (LtL.total _ _ l1 l2))
       have Hnd := Lib.hid hnd; have hrw := hr.below hB; have i9 : ¬ ((i : Int) < (SS.length : Int)) := by omega
       clear hi Hi Hne hnd hrS Hsrt Hperm Hsl; by_cases hnv2 : nv + 2 = 2 * Q.length
       ·
        have e20 : ((nv : Int) != 2 * ((Q.length : Int) - 1)) = false := by simp; omega
        have Hnv2 := Lib.hid hnv2; have hn0 : 0 < Q.length := Nat.pos_of_ne_zero H0.out; clear hnv2; have hwn := hB.size; have hmk := run_make_row' (P := Tryz.prog) 78 4 (.bool false) 1 Tryz.underlying78 bool_info rfl .i64 .i64 Q.length (by omega) (by omega); have hrt0 : Row (wr.alloc (.cells (madeCells #[.bool false] Q.length) 4)) wr.heap.size 4 1 Q.length (List.replicate Q.length (.bool false)) := row_made wr (.bool false) Q.length 4 (by unfold maxLen; omega); have hBA := bl_trans hB (bl_alloc wr (.cells (madeCells #[.bool false] Q.length) 4)); obtain ⟨gs, hgs⟩ : ∃ gs, gs = wr.heap.size := ⟨_, rfl⟩
        go_upto_region 31 with (fail)
        clear hmk hB; rw [← hgs] at hrt0 ⊢; have hgw : w.heap.size ≤ gs := by omega
        generalize wr.alloc (.cells (madeCells #[.bool false] Q.length) 4) = wA at hrt0 hBA ⊢; have f0 := hrt0.frozen 0; have c0 : wA.cell? ⟨gs, 0, none⟩ = some (.bool false) := by
         rw [hrt0.cell? 0 (by simpa using hn0)]; simp [hn0]
        have hrt1 : Row (wA.setCell ⟨gs, 0, none⟩ (.bool true)) gs 4 1 Q.length ((tkV Q.length (roundS Q 0)).map Value.bool) := by
         have := hrt0.set 0 (.bool true); have e : tkV Q.length (roundS Q 0) = (List.replicate Q.length false).set 0 true := by rw [tkV_zero, tk_zero]; rfl
         rw [e, List.map_set, List.map_replicate]; exact this
        have hB1 : Below w.heap.size w (wA.setCell ⟨gs, 0, none⟩ (.bool true)) := hBA.setCell hgw _; have i0 : (0 : Int) < (Q.length : Int) := by omega
        clear hgs hwn hrt0 hBA; go_upto_region 32 with (fail)
        clear f0 c0; generalize wA.setCell ⟨gs, 0, none⟩ (.bool true) = wB at hrt1 hB1 ⊢; go_upto_region 33 with (fail)
        go_loopg [174] Q.length (fun r iv wj => ∃ q : Nat, q + r = Q.length ∧ iv = .int .i64 q ∧ Row wj gs 4 1 Q.length ((tkV Q.length (roundS Q q)).map Value.bool) ∧ Below w.heap.size w wj)
        case atStart => exact ⟨0, by omega, rfl, hrt1, hB1⟩
        case round =>
         as_aux_lemma =>
          clear hrt1 hB1; obtain ⟨q, hq, rfl, hrt, hB⟩ := hrel; have Hq := Lib.hid hq; by_cases hql : q < Q.length
          ·
           clear hq; have q1 : (q : Int) < (Q.length : Int) := by omega
           obtain ⟨gkq, hgkq⟩ : ∃ g, g = gk := ⟨_, rfl⟩
           have Hgkq := Lib.hid hgkq; obtain ⟨GG, hGG⟩ : ∃ GG, GG = roundS Q q := ⟨_, rfl⟩
           have hnx : roundS Q (q + 1) = foldS Q GG (allQ Q) := by rw [hGG]; rfl
           rw [← hGG] at hrt; have hrt0 : Row wr gs 4 1 Q.length ((tkV Q.length (foldS Q GG (preQ Q 0 0))).map Value.bool) := by
            rw [show preQ Q 0 0 = [] by simp [preQ, preO]]; exact hrt
           have Hnx := Lib.hid hnx; clear hgkq hGG hnx hrt; go_upto_region 35 with (fail)
           go_loopg [12] Q.length (fun r iv wj => ∃ i : Nat, i + r = Q.length ∧ iv = .int .i64 i ∧ Row wj gs 4 1 Q.length ((tkV Q.length (foldS Q GG (preQ Q i 0))).map Value.bool) ∧ Below w.heap.size w wj)
           case atStart => exact ⟨0, by omega, rfl, hrt0, hB⟩
           case round =>
            as_aux_lemma =>
             clear hrt0 hB q1; obtain ⟨i, hi, rfl, hrt, hB⟩ := hrel; have Hi := Lib.hid hi; by_cases hil : i < Q.length
             ·
              clear hi; have hqi : Q[i]? = some Q[i] := List.getElem?_eq_getElem hil; obtain ⟨bp, op, au, cu, rfl, -, pp1, hrq, hcu, hcm⟩ := hr i _ hqi; have hRq := hR _ (List.getElem_mem hil); have hln := lnQ_at hil; obtain ⟨⟨kd, ls⟩, hqq⟩ : ∃ q : Pt, Q[i] = q := ⟨_, rfl⟩
              rw [hqq] at pp1 hrq hcu hRq hln; simp only at pp1 hrq hcu hRq hln; have Hln := Lib.hid hln; have i1 : (i : Int) < (Q.length : Int) := by omega
              have pw1 := keep_cell hB pp1; obtain ⟨gki, hgki⟩ : ∃ g, g = gk := ⟨_, rfl⟩
              have Hgki := Lib.hid hgki; clear hqi hqq hln hrq hgki; go_upto_region 38 with (fail)
              clear pw1; go_loopg [13] ls.length (fun r kv wj => ∃ k : Nat, k + r = ls.length ∧ kv = .int .i64 k ∧ Row wj gs 4 1 Q.length ((tkV Q.length (foldS Q GG (preQ Q i k))).map Value.bool) ∧ Below w.heap.size w wj)
              case atStart => exact ⟨0, by omega, rfl, hrt, hB⟩
              case round =>
               as_aux_lemma =>
                clear hrt hB; obtain ⟨k, hk, rfl, hrt, hB⟩ := hrel; have Hk := Lib.hid hk; have hrw := hr.below hB; have pw1 := keep_cell hB pp1; by_cases hkl : k < ls.length
                ·
                 clear hk; obtain ⟨_, _, au9, _, hq9, -, pq1, hrq, -, -⟩ := hrw i _ (List.getElem?_eq_getElem hil); cases hq9; have hqe : Q[i].2 = ls := by rw [← lnQ_at hil]; exact Hln.out
                 rw [hqe] at pq1 hrq; have hau : au = au9 := by
                  have := pw1.symm.trans pq1; simp only [Option.some.injEq, Value.slice.injEq] at this; exact this.1
                 rw [← hau] at hrq; obtain ⟨bk, ok, rfl, q0, q1, q2⟩ := hrq.at k hkl; have hpre : preQ Q i (k + 1) = preQ Q i k ++ [(i, ls[k])] := by
                  have := preQ_succ Q i k (by rw [Hln.out]; exact hkl); rw [this]; congr 3; simp [Hln.out]
                 have hall : (i, ls[k]) ∈ allQ Q := mem_allQ.2 (by simp only; rw [Hln.out]; exact List.getElem_mem hkl); obtain ⟨⟨x, y, z9⟩, hxe⟩ : ∃ u : Lk, ls[k] = u := ⟨_, rfl⟩
                 rw [hxe] at q0 q1 q2 hpre hall; simp only at q0 q1 q2; have k1 : (k : Int) < (ls.length : Int) := by omega
                 have hfs : foldS Q GG (preQ Q i (k + 1)) = stepS Q (foldS Q GG (preQ Q i k)) (i, (x, y, z9)) := by rw [hpre, foldS_snoc]
                 obtain ⟨G, hG⟩ : ∃ G, G = foldS Q GG (preQ Q i k) := ⟨_, rfl⟩
                 rw [← hG] at hrt hfs; clear hau pq1 hqe hpre hxe hG hrq; by_cases hz9 : z9 = 0
                 ·
                  subst hz9; have hst : stepS Q G (i, (x, y, 0)) = G := by unfold stepS; rw [if_pos rfl]
                  rw [hst] at hfs; have Hfs := Lib.hid hfs; clear hst hfs hall hrw; go_wp2_with fail; go_roundg (gk - 1)
                  case measure => have := Hk.out; omega
                  case rel => exact ⟨k + 1, by have := Hk.out; omega, by go_num, by rw [Hfs.out]; exact hrt, hB⟩
                 ·
                  have e9 : (z9 == 0) = false := by simpa using hz9
                  obtain ⟨⟨ia, la⟩, ⟨ib, lb⟩, hE, hpb⟩ := okV_two (Hps.out _ hall (by exact hz9)); simp only at hE; have hends := ends15_walk (some ⟨bp, op, none⟩) cap Q z9 _ hrw (by omega) hR; rw [hE] at hends; have hia : ia < Q.length := lnQ_mem (mem_allQ.1 (mem_atV.1 (by rw [hE]; simp : (ia, la) ∈ atV z9 (allQ Q))).1); have hib : ib < Q.length := lnQ_mem (mem_allQ.1 (mem_atV.1 (by rw [hE]; simp : (ib, lb) ∈ atV z9 (allQ Q))).1); have hst : stepS Q G (i, (x, y, z9)) = if G ia || G ib then (fun j => G j || (decide (j = ia) || decide (j = ib))) else G := by
                   unfold stepS; rw [if_neg (by exact hz9)]; simp only; rw [hE]
                  rw [hst] at hfs; have Hends := Lib.hid hends; have Hfs := Lib.hid hfs; clear hst hfs hall hE hpb hends hz9; go_wp2_with fail; refine Hends.out.mono ?_; rintro e w5 ⟨a1, c1, a2, c2, rfl, hr1, -, hb5⟩; have hB5 := bl_trans hB hb5; have hrt5 : Row w5 gs 4 1 Q.length ((tkV Q.length G).map Value.bool) := hrt.below hb5 hrt.lt; obtain ⟨ba, oa, rfl, ca⟩ := hr1 0 (vN ia) rfl; obtain ⟨ba', oa', hba, cb⟩ := hr1 1 (vN ib) rfl; cases hba; have hbag : ba ≠ gs := fun e => by subst e; exact not_bools hrt5 ca
                  replace ca : w5.cell? ⟨ba, oa, none⟩ = some (.int .i64 (ia : Nat)) := ca; replace cb : w5.cell? ⟨ba, oa + 1, none⟩ = some (.int .i64 (ib : Nat)) := cb; have j1 : (ia : Int) < (Q.length : Int) := by omega
                  have j2 : (ib : Int) < (Q.length : Int) := by omega
                  have ta : w5.cell? ⟨gs, ia, none⟩ = some (.bool (G ia)) := by
                   rw [hrt5.cell? ia (by rw [List.length_map, tkV_len]; exact hia), List.getElem?_map, tkV_get hia]; rfl
                  have tb : w5.cell? ⟨gs, ib, none⟩ = some (.bool (G ib)) := by
                   rw [hrt5.cell? ib (by rw [List.length_map, tkV_len]; exact hib), List.getElem?_map, tkV_get hib]; rfl
                  obtain ⟨ga, hga⟩ : ∃ g, g = G ia := ⟨_, rfl⟩
                  obtain ⟨gb, hgb⟩ : ∃ g, g = G ib := ⟨_, rfl⟩
                  have hfs := Hfs.out; rw [← hga, ← hgb] at hfs; rw [← hga] at ta; rw [← hgb] at tb; clear hrw hB hb5 hrt Hends hr1 q0 q1 q2 hga hgb; by_cases hg2 : (ga || gb) = true
                  ·
                   rw [if_pos hg2] at hfs; have Hfs2 := Lib.hid hfs; have fa := hrt5.frozen ia; have hrt6 := hrt5.set ia (.bool true); have hB6 : Below w.heap.size w (w5.setCell ⟨gs, ia, none⟩ (.bool true)) := hB5.setCell hgw _; have cb6 : (w5.setCell ⟨gs, ia, none⟩ (.bool true)).cell? ⟨ba, oa + 1, none⟩ = some (.int .i64 (ib : Nat)) := (World.cell?_setCell_far _ _ _ _ (by simp; omega)).trans cb; have fb := hrt6.frozen ib; have tb6 : ∃ v, (w5.setCell ⟨gs, ia, none⟩ (.bool true)).cell? ⟨gs, ib, none⟩ = some v := by
                    rw [hrt6.cell? ib (by rw [List.length_set, List.length_map, tkV_len]; exact hib)]; exact ⟨_, List.getElem?_eq_getElem (by rw [List.length_set, List.length_map, tkV_len]; exact hib)⟩
                   obtain ⟨v6, tb6⟩ := tb6; have hrt7 : Row ((w5.setCell ⟨gs, ia, none⟩ (.bool true)).setCell ⟨gs, ib, none⟩ (.bool true)) gs 4 1 Q.length ((tkV Q.length (fun j => G j || (decide (j = ia) || decide (j = ib)))).map Value.bool) := by
                    have := hrt6.set ib (.bool true); rw [← tk_two, List.map_set, List.map_set]; exact this
                   have hB7 : Below w.heap.size w ((w5.setCell ⟨gs, ia, none⟩ (.bool true)).setCell ⟨gs, ib, none⟩ (.bool true)) := hB6.setCell hgw _; have Hrt7 := Lib.hid hrt7; have HB7 := Lib.hid hB7; clear hfs hrt5 hrt6 hrt7 hB6 hB7 hB5; cases ga with
                   | true =>
                    clear hg2; go_wp2_with fail; go_roundg (gk - 1)
                    case measure => have := Hk.out; omega
                    case rel => exact ⟨k + 1, by have := Hk.out; omega, by go_num, by rw [Hfs2.out]; exact Hrt7.out, HB7.out⟩
                   | false =>
                    cases gb with
                    | false => simp at hg2
                    | true =>
                     clear hg2; go_wp2_with fail; go_roundg (gk - 1)
                     case measure => have := Hk.out; omega
                     case rel => exact ⟨k + 1, by have := Hk.out; omega, by go_num, by rw [Hfs2.out]; exact Hrt7.out, HB7.out⟩
                  ·
                   rw [if_neg hg2] at hfs; have Hfs2 := Lib.hid hfs; have ga0 : ga = false := by
                    cases ga with
                    | true => exact absurd (Bool.true_or _) hg2
                    | false => rfl
                   have gb0 : gb = false := by
                    cases gb with
                    | true => exact absurd (Bool.or_true _) hg2
                    | false => rfl
                   subst ga0; subst gb0; clear hfs hg2; go_wp2_with fail; go_roundg (gk - 1)
                   case measure => have := Hk.out; omega
                   case rel => exact ⟨k + 1, by have := Hk.out; omega, by go_num, by rw [Hfs2.out]; exact hrt5, hB5⟩
                ·
                 have hkn : k = ls.length := by omega
                 subst hkn; have hrow := preQ_row Q i; rw [Hln.out, ← preQ_zero] at hrow; rw [hrow] at hrt; clear hk Hk hrow hrw; go_wp2_with fail; go_roundg (gki - 1)
                 case measure => have := Hi.out; have := Hgki.out; omega
                 case rel => exact ⟨i + 1, by have := Hi.out; have := Hgki.out; omega, by go_num, hrt, hB⟩
             ·
              have hin : i = Q.length := by omega
              subst hin; rw [show preQ Q Q.length 0 = allQ Q by rw [preQ_zero]; rfl, ← Hnx.out] at hrt; clear hi Hi; go_wp2_with fail; go_roundg (gkq - 1)
              case measure => have := Hq.out; have := Hgkq.out; omega
              case rel => exact ⟨q + 1, by have := Hq.out; have := Hgkq.out; omega, by go_num, hrt, hB⟩
          ·
           have hqn : q = Q.length := by omega
           subst hqn; clear hq Hq; have hall0 : ∀ j, j < 0 → roundS Q Q.length j = true := fun j hj => by omega
           go_upto_region 47 with (fail)
           go_loopg [16] Q.length (fun r iv wj => ∃ i : Nat, i + r = Q.length ∧ iv = .int .i64 i ∧ (∀ j, j < i → roundS Q Q.length j = true) ∧ Row wj gs 4 1 Q.length ((tkV Q.length (roundS Q Q.length)).map Value.bool) ∧ Below w.heap.size w wj)
           case atStart => exact ⟨0, by omega, rfl, hall0, hrt, hB⟩
           case round =>
            as_aux_lemma =>
             clear hall0 hrt hB; obtain ⟨i, hi, rfl, hall, hrt, hB⟩ := hrel; have Hi := Lib.hid hi; have Hall := Lib.hid hall; clear hall; by_cases hil : i < Q.length
             ·
              clear hi; have cT : wr.cell? ⟨gs, i, none⟩ = some (.bool (roundS Q Q.length i)) := by
               rw [hrt.cell? i (by rw [List.length_map, tkV_len]; exact hil), List.getElem?_map, tkV_get hil]; rfl
              have i1 : (i : Int) < (Q.length : Int) := by omega
              obtain ⟨tb, htb⟩ : ∃ t, t = roundS Q Q.length i := ⟨_, rfl⟩
              rw [← htb] at cT; cases tb with
              | true =>
               have hall2 : ∀ j, j < i + 1 → roundS Q Q.length j = true := fun j hj => by
                by_cases e : j = i
                · subst e; exact htb.symm
                · exact Hall.out j (by omega)
               have Hall2 := Lib.hid hall2; clear hall2 htb; go_wp2_with fail; go_roundg (gk - 1)
               case measure => have := Hi.out; omega
               case rel => exact ⟨i + 1, by have := Hi.out; omega, by go_num, Hall2.out, hrt, hB⟩
              | false =>
               have hfin : rb = false := by
                rw [Hrb.out]; refine rightB_not.2 fun h => ?_; have := (Hdoc.out.1 h).2.2.2.2 i hil; rw [← htb] at this; cases this
               subst hfin; clear htb; go_wp2_with fail; go_ret; exact ⟨rfl, hB⟩
             ·
              have hin : i = Q.length := by omega
              subst hin; have hfin : rb = true := by
               rw [Hrb.out]; exact rightB_iff.2 (Hdoc.out.2 ⟨Hseen.out, Hps.out, Hnd.out, Hnv2.out, Hall.out⟩)
              subst hfin; clear hi Hi; go_wp2_with fail; go_ret; exact ⟨rfl, hB⟩
       ·
        have e20 : ((nv : Int) != 2 * ((Q.length : Int) - 1)) = true := by simp; omega
        have hfin : rb = false := by
         rw [Hrb.out]; exact rightB_not.2 fun h => hnv2 (Hdoc.out.1 h).2.2.2.1
        subst hfin; clear hnv2; go_wp2_with fail; go_ret; exact ⟨rfl, hB⟩
end Go.Proofs.YtagcbnpahgfgmaaGreat
namespace Go.Proofs.YtagcbnpahgfgmaaGreat
open Go Go.RowKit Go.Sort Go.Maps
theorem own_of {w : World} {base : Nat} {e : TypeId} {s n : Nat} {v : Value} {xs : List Value} (h : w.ownsRow base e s v n xs) : Own w v e s n xs ∧ ∀ g, v.ownBlock = some g → base ≤ g := by
 obtain ⟨h1, h2 | ⟨g, cap, cur, rfl, hb, hg, hn, hm, hs, ht⟩⟩ := h
 ·
  refine ⟨⟨h1, .inl h2⟩, fun g hg => ?_⟩
  rw [h2.1] at hg; cases hg
 ·
  refine ⟨⟨h1, .inr ⟨g, cap, rfl, hn, cur, hg, hs, ?_, hm, ?_⟩⟩, fun k hk => by cases hk; exact hb⟩
  · rw [h1]; exact Nat.mul_le_mul_right _ hn
  · rw [h1]; exact ht
def RetIs (w : World) (l : List Nat) (e : Ending) (w' : World) : Prop :=
 ∃ a c, e = .returned (.slice a l.length c) ∧ CellsAt w' a (l.map vN) ∧ Below w.heap.size w w'
theorem cloneI_walk (a : Option Addr) (c : Nat) (l : List Nat) (w : World) (hr : CellsAt w a (l.map vN)) (hl : l.length ≤ 4000000) :
  Calls Tryz.prog 65 #[.slice a l.length c] w (RetIs w l) := by
 cases a with
 | none =>
  refine (Tryz.slices_Clone_int_nil l.length c w).mono ?_
  rintro e w' ⟨rfl, rfl⟩
  have h0 : l = [] := by
   rcases l with _ | ⟨x, l⟩
   · rfl
   · obtain ⟨b, o, hb, _⟩ := hr 0 (vN x) rfl; cases hb
  subst h0
  exact ⟨none, 0, rfl, fun i u hu => by simp at hu, bl_refl _⟩
 | some ad =>
  by_cases h0 : l.length = 0
  ·
   obtain rfl := List.eq_nil_of_length_eq_zero h0; refine (Tryz.slices_Clone_int_zero ad c w).mono ?_; rintro e w' ⟨v', rfl, ho, hne, hb⟩; obtain ⟨h1, ⟨h2, _⟩ | ⟨g, cap, cur, rfl, _⟩⟩ := ho
   · exact absurd h2 hne
   · exact ⟨_, _, rfl, fun i u hu => by simp at hu, hb⟩
  ·
   obtain ⟨x, hx⟩ : ∃ x, l[0]? = some x := ⟨l[0]'(by omega), by simp⟩
   obtain ⟨b, o, hb, _⟩ := hr 0 (vN x) (by rw [List.getElem?_map, hx]; rfl); cases hb; refine (Tryz.slices_Clone_int b o l.length c (l.map fun x : Nat => (x : Int)) w (by simp) (by omega) ?_).mono ?_
   ·
    intro j hj; rw [List.length_map] at hj; obtain ⟨b', o', hb', hc⟩ := hr j (vN l[j]) (by rw [List.getElem?_map, List.getElem?_eq_getElem hj]; rfl); cases hb'; rw [hc]; simp [List.getD, hj, vN]
   ·
    rintro e w' ⟨v', rfl, ho, hne, hb⟩; have hl2 : ((l.map fun x : Nat => (x : Int)).take l.length).map (Value.int .i64) = l.map vN := by
     rw [List.take_of_length_le (by simp), ← vN_map]
    rw [hl2] at ho; obtain ⟨hO, _⟩ := own_of ho; rcases hO.2 with ⟨rfl, h2⟩ | ⟨g, cg, rfl, hcg, hrow⟩
    · exact absurd h2 h0
    · exact ⟨_, _, rfl, hrow.at_, hb⟩
set_option maxHeartbeats 2000000 in
theorem sbeside_walk (a : Option Addr) (cap : Nat) (Q : List Pt) (i : Int) (w : World) (hr : RdQ w a Q) (hQ : Q.length ≤ 1000) (hi : WfZ i) :
  Calls Tryz.prog 26 #[.slice a Q.length cap, .int .i64 i] w (RetIs w (besideL Q i)) := by
 by_cases h1 : i < 0
 ·
  have e1 : decide (i < 0) = true := by simpa using h1
  have hb : besideL Q i = [] := by unfold besideL; rw [if_neg (by omega)]
  rw [hb]
  clear hb h1
  go_enter Tryz.func26, Tryz.ntmps26
  go_wp2_with fail
  go_ret
  exact ⟨none, 0, rfl, fun i u hu => by simp at hu, bl_refl w⟩
 ·
  have e1 : decide (i < 0) = false := by simpa using h1
  by_cases h2 : (Q.length : Int) ≤ i
  ·
   have e2 : decide ((Q.length : Int) ≤ i) = true := by simpa using h2
   have hb : besideL Q i = [] := by unfold besideL; rw [if_neg (by omega)]
   rw [hb]; clear hb h1 h2; go_enter Tryz.func26, Tryz.ntmps26; go_wp2_with fail; go_ret; exact ⟨none, 0, rfl, fun i u hu => by simp at hu, bl_refl w⟩
  ·
   have e2 : decide ((Q.length : Int) ≤ i) = false := by simpa using h2
   obtain ⟨k, rfl⟩ : ∃ k : Nat, i = k := ⟨i.toNat, by omega⟩
   have hkn : k < Q.length := by omega
   have i2 : (k : Int) < (Q.length : Int) := by omega
   clear h1 h2; go_enter Tryz.func26, Tryz.ntmps26; go_wp2_with fail; clear e1 e2; refine (tree_walk a cap Q _ hr hQ).mono ?_; rintro e w' ⟨hb, ⟨hR, G, rfl, hG⟩ | ⟨hR, v, rfl⟩⟩
   ·
    have hbl : besideL Q k = besQ Q k := by unfold besideL; rw [if_pos ⟨by omega, by omega, rightB_iff.2 hR⟩]; rfl
    have hlen := besQ_len hQ (fun q hq => (hR.right hq).1.1) k; have Hbl := Lib.hid hbl; obtain ⟨ab, cb, cG, hbs⟩ := hG k hkn; have hB : Below w.heap.size w w' := hb; have hcl := cloneI_walk ab cb (besQ Q k) w' hbs hlen; clear hbl hR hG hbs hr hb; go_wp2_with fail; refine hcl.mono ?_; rintro e w2 ⟨a2, c2, rfl, hc2, hb2⟩; have hB2 := bl_trans hB hb2; clear hcl hB hb2 hlen; go_wp2_with fail; go_ret; rw [Hbl.out]; exact ⟨a2, c2, rfl, hc2, hB2⟩
   ·
    have hbl : besideL Q k = [] := by unfold besideL; rw [if_neg (fun h => hR (rightB_iff.1 h.2.2))]
    have Hbl := Lib.hid hbl; have hB : Below w.heap.size w w' := hb; clear hbl hR hr hb; go_wp2_with fail; go_ret; rw [Hbl.out]; exact ⟨none, 0, rfl, fun i u hu => by simp at hu, hB⟩
set_option maxRecDepth 100000 in
set_option maxHeartbeats 4000000 in
theorem whole_walk (a : Option Addr) (cap : Nat) (Q : List Pt) (w : World) (hr : RdQ w a Q) (hQ : Q.length ≤ 1000) :
  Calls Tryz.prog 12 #[.slice a Q.length cap] w (RetLk w (wholeL Q)) := by
 cases hR : rightB Q with
 | false =>
  have hw : wholeL Q = [] := by unfold wholeL; rw [hR]; rfl
  have Hw := Lib.hid hw; have HR := Lib.hid hR
  clear hw hR
  go_enter Tryz.func12, Tryz.ntmps12
  go_wp2_with fail
  refine (sright_walk a cap Q _ hr hQ).mono ?_
  rw [HR.out]
  rintro e w1 ⟨rfl, hb⟩
  go_wp2_with fail
  go_ret
  rw [Hw.out]
  exact ⟨_, rfl, own_nil _ _ _, fun g hg => by simp [Value.ownBlock] at hg, hb⟩
 | true =>
  have hw : wholeL Q = sortL (realQ Q) := by unfold wholeL; rw [hR]; rfl
  have hRR := rightB_iff.1 hR
  have hlen : ∀ i, (realQ (Q.take i)).length ≤ 1000000 := fun i => by
   have h1 := realQ_len (Q := Q.take i) fun q hq => (hRR.right (List.mem_of_mem_take hq)).1.1; have h2 : (Q.take i).length ≤ 1000 := by rw [List.length_take]; omega
   have h3 : (Q.take i).length * 1000 ≤ 1000 * 1000 := Nat.mul_le_mul_right _ h2; omega
  have hsw : (realQ Q).mergeSort (fun x y => !decide (cmpL y x < 0)) = sortL (realQ Q) := by
   rw [← sortL_merge, swap_ok]; intro k hk; unfold realQ at hk; obtain ⟨q, hq, hkq⟩ := List.mem_flatMap.1 hk; have hok := (hRR.right hq).1.2.1 k (List.mem_filter.1 hkq).1; exact hok.2.1
  have Hw := Lib.hid hw; have HR := Lib.hid hR; have HRR := Lib.hid hRR; have Hlen := Lib.hid hlen; have Hsw := Lib.hid hsw
  clear hw hR hRR hlen hsw
  go_enter Tryz.func12, Tryz.ntmps12
  go_wp2_with fail
  refine (sright_walk a cap Q _ hr hQ).mono ?_
  rw [HR.out]
  rintro e w1 ⟨rfl, hb⟩
  go_wp2_with fail
  go_loopg [3, 13] Q.length (fun r vo iv wj => ∃ i : Nat, i + r = Q.length ∧ iv = .int .i64 i ∧ OwnL wj vo (realQ (Q.take i)) ∧ (∀ g, vo.ownBlock = some g → w.heap.size ≤ g) ∧ Below w.heap.size w wj)
  case atStart => exact ⟨0, by omega, rfl, by simpa [realQ, OwnL, lkCells] using own_nil w1 38 3, fun g hg => by simp [Value.ownBlock] at hg, hb⟩
  case round =>
   obtain ⟨i, hi, rfl, hown, hyoung, hB⟩ := hrel; have Hi := Lib.hid hi; by_cases hil : i < Q.length
   ·
    clear hi; have hqi : Q[i]? = some Q[i] := List.getElem?_eq_getElem hil; obtain ⟨bp, op, au, cu, rfl, p0, p1, hrq, hcu, hcm⟩ := hr i _ hqi; replace p0 := keep_cell hB p0; replace p1 := keep_cell hB p1; have htk := realQ_take hqi; have hL := Hlen.out (i + 1); rw [htk] at hL; obtain ⟨⟨kd, ls⟩, hq⟩ : ∃ q : Pt, Q[i] = q := ⟨_, rfl⟩
    rw [hq] at p0 p1 hrq hcu htk hL; simp only at p0 p1 hrq hcu htk hL; have hlsl : ls.length ≤ 9223372036854775807 := by unfold maxLen at hcm; omega
    have Htk := Lib.hid htk; have iI : (i : Int) < (Q.length : Int) := by omega
    have hbl := bl_alloc wr (.cells #[.int .i64 kd, .slice au ls.length cu] 49); have d1 : (wr.alloc (.cells #[.int .i64 kd, .slice au ls.length cu] 49)).cell? ⟨wr.heap.size, 1, none⟩ = some (.slice au ls.length cu) := by simp
    have hBa := bl_trans hB hbl; have howna := Own.alloc hown (.cells #[.int .i64 kd, .slice au ls.length cu] 49); obtain ⟨R, hRe⟩ : ∃ R, R = realQ (Q.take i) := ⟨_, rfl⟩
    rw [← hRe] at howna hL htk; have HT := Lib.hid htk; obtain ⟨gko, hgko⟩ : ∃ g, g = gk := ⟨_, rfl⟩
    have Hgko := Lib.hid hgko; have hlr : R.length + ls.length ≤ 2000000 := by
     have h1 := Hlen.out i; rw [← hRe] at h1; have h2 := (HRR.out.right (List.mem_of_getElem? hqi)).1.1; rw [hq] at h2; simp only at h2; omega
    clear hgko htk Htk hRe hown hB hqi hq; go_upto_region 8 with (fail)
    clear p0 p1 d1 hbl; generalize wr.alloc (.cells #[.int .i64 kd, .slice au ls.length cu] 49) = wa at *
    go_loopg [3, 20] ls.length (fun r vo kv wj => ∃ k : Nat, k + r = ls.length ∧ kv = .int .i64 k ∧ OwnL wj vo (R ++ (ls.take k).filter fun e => e.2.2 == 0) ∧ (∀ g, vo.ownBlock = some g → w.heap.size ≤ g) ∧ Below w.heap.size w wj)
    case atStart => exact ⟨0, by omega, rfl, by simpa [OwnL] using howna, hyoung, hBa⟩
    case round =>
     clear howna hyoung hBa; obtain ⟨k, hk, rfl, hown, hyoung, hB⟩ := hrel; have Hk := Lib.hid hk; by_cases hkl : k < ls.length
     ·
      clear hk; have hfl := List.length_filter_le (fun e : Lk => e.2.2 == 0) (ls.take k); have hft : (ls.take (k + 1)).filter (fun e => e.2.2 == 0) = (ls.take k).filter (fun e => e.2.2 == 0) ++ if ls[k].2.2 == 0 then [ls[k]] else [] := by
       rw [List.take_succ_eq_append_getElem hkl, List.filter_append]; congr 1; by_cases h : ls[k].2.2 == 0
       · simp [h]
       · simp [h]
      rw [List.length_take] at hfl; obtain ⟨b1, o1, rfl, q0, q1, q2⟩ := (hrq.below hB).at k hkl; obtain ⟨⟨x, y, z⟩, hxe⟩ : ∃ u : Lk, ls[k] = u := ⟨_, rfl⟩
      rw [hxe] at q0 q1 q2 hft; simp only at q0 q1 q2 hft; have i2 : (k : Int) < (ls.length : Int) := by omega
      have HB := Lib.hid hB; have hownb := Own.alloc hown (.cells #[.int .i64 x, .int .i64 y, .int .i64 z] 38); obtain ⟨F, hF⟩ : ∃ F, F = (ls.take k).filter fun e => e.2.2 == 0 := ⟨_, rfl⟩
      rw [← hF] at hfl hft hownb; have hbl := bl_alloc wr (.cells #[.int .i64 x, .int .i64 y, .int .i64 z] 38); by_cases hz : z = 0
      ·
       subst hz; have hfo : R ++ (ls.take (k + 1)).filter (fun e => e.2.2 == 0) = (R ++ F) ++ [(x, y, 0)] := by rw [hft]; simp
       have Hfo := Lib.hid hfo; have hrl : (R ++ F).length ≤ 2000000 := by rw [List.length_append]; omega
       generalize R ++ F = RF at *
       have hownc := Own.alloc hownb (.cells #[.int .i64 x, .int .i64 y, .int .i64 0] 38); clear hfo hft hfl hxe hF hB hown hownb hlr; go_upto_region 12 with (at_builtin; refine wpList_append_row _ rfl (.tmp 27) (.tmp 29) 22 rfl 38 (.agg #[.int .i64 0, .int .i64 0, .int .i64 0]) 3 24 Tryz.underlying22 link_info rfl u3 RF.length _ rfl hownc ⟨wr.heap.size + 1, 0, none⟩ 1 1 [.int .i64 x, .int .i64 y, .int .i64 0] rfl rfl (by have := news3 (wr.alloc (.cells #[.int .i64 x, .int .i64 y, .int .i64 0] 38)) 38 x y 0; simpa using this) (one3 _ _ _) (by omega) (by unfold maxLen; omega) (by omega) ?_; intro g5 c5 w5 hr5 hc5 hg5 hor5)
       have hbC := bl_trans hbl (bl_alloc _ (.cells #[.int .i64 x, .int .i64 y, .int .i64 0] 38)); have hwz := HB.out.size; have hyg : w.heap.size ≤ g5 := by
        rcases hor5 with h | h
        · exact hyoung g5 h
        · simp at h; omega
       have hB5 : Below w.heap.size w w5 := (bl_trans HB.out hbC).grown hg5 (by simp; omega) (fun j hj => hyoung j hj); have hown5 : OwnL w5 (.slice (some ⟨g5, 0, none⟩) (RF.length + 1) c5) (RF ++ [(x, y, 0)]) := by
        have e1 : lkCells RF ++ [Value.int .i64 x, Value.int .i64 y, Value.int .i64 0] = lkCells (RF ++ [(x, y, 0)]) := by rw [lkCells_append]; rfl
        rw [e1] at hr5; refine ⟨by rw [lkCells_length], .inr ⟨g5, c5, by rw [List.length_append]; rfl, by rw [List.length_append]; exact hc5, hr5⟩⟩
       clear hr5 hg5 hor5 hbC hbl hownc; go_wp2_with fail; go_roundg (gk - 1)
       case measure => have := Hk.out; omega
       case rel => exact ⟨k + 1, by have := Hk.out; omega, by go_num, by rw [Hfo.out]; exact hown5, fun j hj => by cases hj; exact hyg, hB5⟩
      ·
       have e1 : (z == 0) = false := beq_eq_false_iff_ne.2 hz; have hfo : R ++ (ls.take (k + 1)).filter (fun e => e.2.2 == 0) = R ++ F := by rw [hft, e1]; simp
       have Hfo := Lib.hid hfo; clear hfo hft hfl hxe hF hB hown hz; go_wp2_with fail; go_roundg (gk - 1)
       case measure => have := Hk.out; omega
       case rel => exact ⟨k + 1, by have := Hk.out; omega, by go_num, by rw [Hfo.out]; exact hownb, hyoung, bl_trans HB.out hbl⟩
     ·
      have hkn : k = ls.length := by omega
      subst hkn; rw [List.take_length] at hown; clear hk; go_wp2_with fail; go_roundg (gko - 1)
      case measure => have := Hi.out; have := Hgko.out; omega
      case rel => exact ⟨i + 1, by have := Hi.out; have := Hgko.out; omega, by go_num, by rw [HT.out]; exact hown, hyoung, hB⟩
   ·
    have hin : i = Q.length := by omega
    subst hin; rw [List.take_length] at hown; clear hi Hi; rcases hown.2 with ⟨rfl, h0⟩ | ⟨g, cg, rfl, hcg, hrow⟩
    ·
     have hnil := List.eq_nil_of_length_eq_zero h0; have hw2 : wholeL Q = [] := by rw [Hw.out, hnil]; rfl
     have Hw2 := Lib.hid hw2; have hnone := fun w' => AnyF.slices_SortFunc_none Tryz.laySortL none 0 (.func (.func 43) #[] #[]) w'; change ∀ w', Calls Tryz.prog 42 _ _ _ at hnone; clear hown h0 hnil hw2 hyoung; go_wp2_with fail; refine (hnone _).mono ?_; rintro e w' ⟨rfl, rfl⟩; go_wp2_with fail; go_ret; rw [Hw2.out]; exact ⟨_, rfl, own_nil _ _ _, fun g hg => by simp [Value.ownBlock] at hg, hB⟩
    ·
     have hsort := sortW_walk g cg (realQ Q) wr hrow (by have := Hlen.out Q.length; rw [List.take_length] at this; exact this); rw [Hsw.out] at hsort; have hgl := hyoung g rfl; clear hown hrow hyoung; go_wp2_with fail; refine hsort.mono ?_; rintro e w' ⟨rfl, hrow2, hgr⟩; have hb2 : Below w.heap.size w w' := hB.grown hgr (by have := hB.size; omega) (fun j hj => by cases hj; exact hgl); clear hsort hgr; go_wp2_with fail; go_ret; rw [Hw.out]; have hll : (sortL (realQ Q)).length = (realQ Q).length := (sortL_perm _).length_eq.trans (List.length_map _); exact ⟨.slice (some ⟨g, 0, none⟩) (realQ Q).length cg, rfl, ⟨by rw [lkCells_length], .inr ⟨g, cg, by rw [hll], by rw [hll]; exact hcg, hrow2⟩⟩, fun j hj => by cases hj; exact hgl, hb2⟩
end Go.Proofs.YtagcbnpahgfgmaaGreat
