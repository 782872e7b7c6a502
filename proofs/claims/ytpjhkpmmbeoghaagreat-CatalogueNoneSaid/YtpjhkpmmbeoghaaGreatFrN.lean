/- CatalogueNone returns true at every input, and leaves its arguments alone. No condition. -/
import Derived.Test.YtpjhkpmmbeoghaaGreatFrC
import Derived.Test.YtpjhkpmmbeoghaaGreatV10
namespace Go.Proofs.YtpjhkpmmbeoghaaGreat
open Go Go.RowKit
theorem catalogueNone_walk (n : Int) (a : Option Addr) (cap : Nat) (es : List (Int × Int)) (x : Int) (W : World) (_ : RdP W a es) (_ : es.length ≤ cap) (_ : cap ≤ maxLen) (_ : (Lit.int .i64 n).wf = true) (_ : (Lit.int .i64 x).wf = true) :
    Calls Tryz.prog 4 #[.agg #[.int .i64 n, .slice a es.length cap], .int .i64 x] W fun e w' => e = .returned (.bool true) ∧ Below W.heap.size W w' :=
  Ev.catalogueNone_walk n a es.length cap x W
namespace catalogueNone
open Go Go.RowKit Go.ChangeShapes Go.WideShapes Go.ChangeAt
set_option maxRecDepth 100000 in
theorem lifted (os : Os) (started : os.Started) (H : Type) (enc : TypeId × Value → H) :
    ReturnsInHanded {} Tryz.checked os 4 .any (Rows.catalogueNoneSpec.pre6 enc Tryz.prog Tryz.f4 Rows.catalogueNoneRow.domain false) (Rows.catalogueNoneSpec.post enc Tryz.prog Tryz.f4 false true false false) := by
  refine returnsInHanded_of_change (C := Tryz.checked) rowOwn started (by kernel_rfl) Tryz.func4
    (ChangeSpec.witness6 (enc := enc) (C := Tryz.checked) false ⟨#[], #[.agg #[.int .i64 0, .slice none 0 0], .int .i64 0], []⟩ 8 (by kernel_rfl) (by kernel_rfl) (by kernel_rfl) (by kernel_rfl)) ?_
  intro W base args ds gs before hval0 hW hcnd _
  have hval : ∀ (j : Nat) t v, Tryz.f4.params[j]? = some t → args[j]? = some v → Value.okWide Tryz.prog W .any base t v := hval0
  have hW' := hW
  obtain ⟨p, q, hA0, hV, rfl, hfz, hnd⟩ := hW
  have hA : DataW.TrodAll enc Tryz.prog W 0 (fun _ => true) true Tryz.f4.params.toList args.toList ds p := hA0
  rw [Tryz.params4] at hA hval
  obtain ⟨v0, vs0, d0, ds0, p0, q0, hargs, rfl, rfl, h0, r0⟩ := trodAll_cons hA
  obtain ⟨v1, vs1, d1, ds1, p1, q1, rfl, rfl, rfl, h1, r1⟩ := trodAll_cons r0
  obtain ⟨rfl, rfl, rfl⟩ := trodAll_nil r1
  obtain rfl : args = #[v0, v1] := by cases args; simp_all
  obtain ⟨rfl, rfl⟩ := trodVars_none hV
  have k0 := h0
  have lt0 : ∀ x ∈ p0, x.block < W.heap.size := by obtain ⟨m, hm⟩ := k0; exact DataW.trod_lt m _ _ _ hm
  obtain ⟨n0, a0, cap0, es0, rfl, rd0, hl0, hm0, wn0⟩ := open_graph (hval 0 29 v0 rfl rfl) h0
  obtain ⟨x1, rfl, rfl, rfl, wn1⟩ := open_int Tryz.underlying3 (hval 1 3 v1 rfl rfl) h1
  clear hA0 hval0
  refine (catalogueNone_walk n0 a0 cap0 es0 x1 W rd0 hl0 hm0 wn0 wn1).mono fun e W' ⟨he, bel⟩ => ?_
  subst he
  exact ⟨_, rfl, _, _, _, [], _, [], hW', trodAll_mk1 (shut_bool Tryz.underlying4 _), (trodAll_cons_mk (Below.trod rowLaid (by kernel_rfl) (of_decide_eq_true (by kernel_rfl)) k0 bel lt0) (trodAll_cons_mk (shut_int Tryz.underlying3 wn1) trodAll_mk0)), rfl, bel.frame _, fun h => by cases h⟩
theorem over : Rows.catalogueNoneRow.holds Tryz.pinned (OpenSpec.ofChange Rows.catalogueNoneSpec) :=
  OpenClaim.holds_of_wide 4 Tryz.f4 rfl rfl rfl rfl rfl rfl rfl ⟨rfl, rfl, rfl, rfl, rfl⟩ rfl rfl rfl rfl rfl (by kernel_rfl) Tryz.func4 closedC
    (of_decide_eq_true (by kernel_rfl)) (by unfold Func.isWrapper; first | (rw [if_pos (by decide +kernel)]; kernel_rfl) | (rw [if_neg (by decide +kernel)]; exact ⟨rfl, rfl⟩))
    (fun os started H enc _ => lifted os started H enc)
/-- The statement. -/
theorem proved : Rows.CatalogueNoneSaid := over
#print axioms proved
end catalogueNone
end Go.Proofs.YtpjhkpmmbeoghaaGreat
