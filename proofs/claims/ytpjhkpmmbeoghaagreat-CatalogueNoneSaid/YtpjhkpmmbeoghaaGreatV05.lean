/- Part 5 of a verified evaluator and the run that it reckons. -/
import Derived.Test.YtpjhkpmmbeoghaaGreatV04
set_option linter.unusedVariables false
set_option linter.unusedSimpArgs false
set_option maxRecDepth 100000
set_option linter.unusedVariables false
namespace Go.Proofs.YtpjhkpmmbeoghaaGreat.Ev
open Go
open Go.Proofs
theorem e61 : FOkS Go.Proofs.Tryz.prog 201 61 g61 := fok2 fun call t0 t1 M nm I ni kf => by
 refine top_ok Go.Proofs.Tryz.func61 rfl rfl ?_
 refine sq_ok (fun (j : Nat → Nat → Nat → Nat → Nat → Nat → Res) E => j (E 0) (E 96)) ?_ ?_
 intro E M nm I ni
 refine sq_ok (fun (j : Nat → Nat → Nat → Nat → Nat → Nat → Res) E => j (E 0) (E 96)) ?_ ?_
 intro E M nm I ni
 kernel_rfl
 intro j
 refine sq_ok (fun (j : Nat → Nat → Nat → Nat → Nat → Nat → Nat → Nat → Nat → Res) E => j (E 0) (E 96) (E 864) (E 960) (E 1056)) ?_ ?_
 intro E M nm I ni
 refine bl_ok ?_
 refine lo_ok (fun (j : Nat → Nat → Nat → Nat → Nat → Nat → Nat → Nat → Nat → Res) E => j (E 0) (E 96) (E 864) (E 960) (E 1056)) (fun _ _ _ _ _ => rfl) ?_
 intro n j E M nm I ni
 kernel_rfl
 intro j
 kernel_rfl
 intro j
 kernel_rfl
theorem e138 : FOkS Go.Proofs.Tryz.prog 201 138 g138 := fok1 fun call t0 M nm I ni kf => by
 refine top_ok Go.Proofs.Tryz.func138 rfl rfl ?_
 kernel_rfl
theorem e67 : FOkS Go.Proofs.Tryz.prog 201 67 g67 := fok2 fun call t0 t1 M nm I ni kf => by
 refine top_ok Go.Proofs.Tryz.func67 rfl rfl ?_
 kernel_rfl
theorem e56 : FOkS Go.Proofs.Tryz.prog 201 56 g56 := fok2 fun call t0 t1 M nm I ni kf => by
 refine top_ok Go.Proofs.Tryz.func56 rfl rfl ?_
 refine sq_ok (fun (j : Nat → Nat → Nat → Nat → Nat → Nat → Res) E => j (E 0) (E 96)) ?_ ?_
 intro E M nm I ni
 refine sq_ok (fun (j : Nat → Nat → Nat → Nat → Nat → Nat → Nat → Res) E => j (E 0) (E 96) (E 576)) ?_ ?_
 intro E M nm I ni
 refine sq_ok (fun (j : Nat → Nat → Nat → Nat → Nat → Nat → Nat → Nat → Nat → Res) E => j (E 0) (E 96) (E 576) (E 672) (E 768)) ?_ ?_
 intro E M nm I ni
 refine sq_ok (fun (j : Nat → Nat → Nat → Nat → Nat → Nat → Nat → Nat → Res) E => j (E 0) (E 96) (E 576) (E 672)) ?_ ?_
 intro E M nm I ni
 kernel_rfl
 intro j
 refine bl_ok ?_
 refine lo_ok (fun (j : Nat → Nat → Nat → Nat → Nat → Nat → Nat → Nat → Nat → Res) E => j (E 0) (E 96) (E 576) (E 672) (E 768)) (fun _ _ _ _ _ => rfl) ?_
 intro n j E M nm I ni
 kernel_rfl
 intro j
 kernel_rfl
 intro j
 kernel_rfl
 intro j
 kernel_rfl
theorem e183 : FOkS Go.Proofs.Tryz.prog 201 183 g183 := fok1 fun call t0 M nm I ni kf => by
 refine top_ok Go.Proofs.Tryz.func183 rfl rfl ?_
 refine sq_ok (fun (j : Nat → Nat → Nat → Nat → Nat → Res) E => j (E 96)) ?_ ?_
 intro E M nm I ni
 refine sq_ok (fun (j : Nat → Nat → Nat → Nat → Nat → Res) E => j (E 96)) ?_ ?_
 intro E M nm I ni
 refine sq_ok (fun (j : Nat → Nat → Nat → Nat → Nat → Nat → Res) E => j (E 96) (E 480)) ?_ ?_
 intro E M nm I ni
 refine sq_ok (fun (j : Nat → Nat → Nat → Nat → Nat → Nat → Nat → Res) E => j (E 96) (E 480) (E 576)) ?_ ?_
 intro E M nm I ni
 refine sq_ok (fun (j : Nat → Nat → Nat → Nat → Nat → Nat → Nat → Res) E => j (E 96) (E 480) (E 576)) ?_ ?_
 intro E M nm I ni
 refine sq_ok (fun (j : Nat → Nat → Nat → Nat → Nat → Nat → Res) E => j (E 480) (E 576)) ?_ ?_
 intro E M nm I ni
 refine sq_ok (fun (j : Nat → Nat → Nat → Nat → Nat → Nat → Res) E => j (E 480) (E 576)) ?_ ?_
 intro E M nm I ni
 kernel_rfl
 intro j
 refine sq_ok (fun (j : Nat → Nat → Nat → Nat → Nat → Nat → Nat → Res) E => j (E 480) (E 576) (E 12576)) ?_ ?_
 intro E M nm I ni
 refine bl_ok ?_
 refine rf_ok 132 133 (by kernel_rfl) rfl (by kernel_rfl) ?_ ?_
 intro iw v M nm I ni k
 kernel_rfl
 intro M nm I ni
 kernel_rfl
 intro j
 kernel_rfl
 intro j
 refine sq_ok (fun (j : Nat → Nat → Nat → Nat → Nat → Nat → Nat → Nat → Nat → Res) E => j (E 480) (E 576) (E 7200) (E 7296) (E 7392)) ?_ ?_
 intro E M nm I ni
 refine bl_ok ?_
 refine lo_ok (fun (j : Nat → Nat → Nat → Nat → Nat → Nat → Nat → Nat → Nat → Res) E => j (E 480) (E 576) (E 7200) (E 7296) (E 7392)) (fun _ _ _ _ _ => rfl) ?_
 intro n j E M nm I ni
 refine sq_ok (fun (j : Nat → Nat → Nat → Nat → Nat → Nat → Nat → Nat → Nat → Nat → Res) E => j (E 480) (E 576) (E 7200) (E 7296) (E 7392) (E 7488)) ?_ ?_
 intro E M nm I ni
 refine sq_ok (fun (j : Nat → Nat → Nat → Nat → Nat → Nat → Nat → Nat → Nat → Res) E => j (E 480) (E 576) (E 7200) (E 7296) (E 7392)) ?_ ?_
 intro E M nm I ni
 refine sq_ok (fun (j : Nat → Nat → Nat → Nat → Nat → Nat → Nat → Nat → Nat → Res) E => j (E 480) (E 576) (E 7200) (E 7296) (E 7392)) ?_ ?_
 intro E M nm I ni
 kernel_rfl
 intro j
 refine bl_ok ?_
 refine sq_ok (fun (j : Nat → Nat → Nat → Nat → Nat → Nat → Nat → Nat → Nat → Nat → Res) E => j (E 480) (E 576) (E 1344) (E 7200) (E 7296) (E 7392)) ?_ ?_
 intro E M nm I ni
 refine sq_ok (fun (j : Nat → Nat → Nat → Nat → Nat → Nat → Nat → Nat → Nat → Nat → Nat → Nat → Res) E => j (E 480) (E 576) (E 1344) (E 1440) (E 1536) (E 7200) (E 7296) (E 7392)) ?_ ?_
 intro E M nm I ni
 refine sq_ok (fun (j : Nat → Nat → Nat → Nat → Nat → Nat → Nat → Nat → Nat → Nat → Nat → Res) E => j (E 480) (E 576) (E 1440) (E 1536) (E 7200) (E 7296) (E 7392)) ?_ ?_
 intro E M nm I ni
 kernel_rfl
 intro j
 kernel_rfl
 intro j
 kernel_rfl
 intro j
 kernel_rfl
 intro j
 kernel_rfl
 intro j
 kernel_rfl
 intro j
 kernel_rfl
 intro j
 refine sq_ok (fun (j : Nat → Nat → Nat → Nat → Nat → Nat → Nat → Nat → Nat → Res) E => j (E 96) (E 480) (E 576) (E 2880) (E 2976)) ?_ ?_
 intro E M nm I ni
 refine bl_ok ?_
 refine lo_ok (fun (j : Nat → Nat → Nat → Nat → Nat → Nat → Nat → Nat → Nat → Res) E => j (E 96) (E 480) (E 576) (E 2880) (E 2976)) (fun _ _ _ _ _ => rfl) ?_
 intro n j E M nm I ni
 refine sq_ok (fun (j : Nat → Nat → Nat → Nat → Nat → Nat → Nat → Nat → Nat → Nat → Res) E => j (E 96) (E 480) (E 576) (E 2880) (E 2976) (E 3072)) ?_ ?_
 intro E M nm I ni
 refine sq_ok (fun (j : Nat → Nat → Nat → Nat → Nat → Nat → Nat → Nat → Nat → Res) E => j (E 96) (E 480) (E 576) (E 2880) (E 2976)) ?_ ?_
 intro E M nm I ni
 refine sq_ok (fun (j : Nat → Nat → Nat → Nat → Nat → Nat → Nat → Nat → Nat → Res) E => j (E 96) (E 480) (E 576) (E 2880) (E 2976)) ?_ ?_
 intro E M nm I ni
 kernel_rfl
 intro j
 refine bl_ok ?_
 refine sq_ok (fun (j : Nat → Nat → Nat → Nat → Nat → Nat → Nat → Nat → Nat → Nat → Res) E => j (E 96) (E 480) (E 576) (E 672) (E 2880) (E 2976)) ?_ ?_
 intro E M nm I ni
 refine sq_ok (fun (j : Nat → Nat → Nat → Nat → Nat → Nat → Nat → Nat → Nat → Nat → Res) E => j (E 96) (E 480) (E 576) (E 672) (E 2880) (E 2976)) ?_ ?_
 intro E M nm I ni
 refine sq_ok (fun (j : Nat → Nat → Nat → Nat → Nat → Nat → Nat → Nat → Nat → Nat → Nat → Nat → Res) E => j (E 96) (E 480) (E 576) (E 768) (E 864) (E 960) (E 2880) (E 2976)) ?_ ?_
 intro E M nm I ni
 refine sq_ok (fun (j : Nat → Nat → Nat → Nat → Nat → Nat → Nat → Nat → Nat → Nat → Nat → Res) E => j (E 96) (E 480) (E 576) (E 768) (E 864) (E 2880) (E 2976)) ?_ ?_
 intro E M nm I ni
 refine sq_ok (fun (j : Nat → Nat → Nat → Nat → Nat → Nat → Nat → Nat → Nat → Nat → Nat → Nat → Nat → Res) E => j (E 96) (E 480) (E 576) (E 864) (E 2880) (E 2976) (E 4800) (E 4896) (E 4992)) ?_ ?_
 intro E M nm I ni
 refine bl_ok ?_
 refine lo_ok (fun (j : Nat → Nat → Nat → Nat → Nat → Nat → Nat → Nat → Nat → Nat → Nat → Nat → Nat → Res) E => j (E 96) (E 480) (E 576) (E 864) (E 2880) (E 2976) (E 4800) (E 4896) (E 4992)) (fun _ _ _ _ _ => rfl) ?_
 intro n j E M nm I ni
 kernel_rfl
 intro j
 kernel_rfl
 intro j
 kernel_rfl
 intro j
 kernel_rfl
 intro j
 kernel_rfl
 intro j
 kernel_rfl
 intro j
 kernel_rfl
 intro j
 kernel_rfl
 intro j
 kernel_rfl
 intro j
 kernel_rfl
 intro j
 kernel_rfl
 intro j
 kernel_rfl
 intro j
 kernel_rfl
theorem e147 : FOkS Go.Proofs.Tryz.prog 201 147 g147 := fok2 fun call t0 t1 M nm I ni kf => by
 refine top_ok Go.Proofs.Tryz.func147 rfl rfl ?_
 refine sq_ok (fun (j : Nat → Nat → Nat → Nat → Nat → Nat → Res) E => j (E 96) (E 192)) ?_ ?_
 intro E M nm I ni
 refine sq_ok (fun (j : Nat → Nat → Nat → Nat → Nat → Nat → Nat → Res) E => j (E 96) (E 192) (E 480)) ?_ ?_
 intro E M nm I ni
 refine sq_ok (fun (j : Nat → Nat → Nat → Nat → Nat → Nat → Nat → Res) E => j (E 96) (E 192) (E 480)) ?_ ?_
 intro E M nm I ni
 refine sq_ok (fun (j : Nat → Nat → Nat → Nat → Nat → Nat → Nat → Res) E => j (E 96) (E 192) (E 480)) ?_ ?_
 intro E M nm I ni
 refine sq_ok (fun (j : Nat → Nat → Nat → Nat → Nat → Nat → Nat → Nat → Res) E => j (E 96) (E 192) (E 480) (E 576)) ?_ ?_
 intro E M nm I ni
 refine sq_ok (fun (j : Nat → Nat → Nat → Nat → Nat → Nat → Res) E => j (E 192) (E 576)) ?_ ?_
 intro E M nm I ni
 refine sq_ok (fun (j : Nat → Nat → Nat → Nat → Nat → Nat → Res) E => j (E 192) (E 576)) ?_ ?_
 intro E M nm I ni
 refine sq_ok (fun (j : Nat → Nat → Nat → Nat → Nat → Nat → Res) E => j (E 192) (E 576)) ?_ ?_
 intro E M nm I ni
 refine sq_ok (fun (j : Nat → Nat → Nat → Nat → Nat → Nat → Nat → Res) E => j (E 192) (E 576) (E 1728)) ?_ ?_
 intro E M nm I ni
 refine sq_ok (fun (j : Nat → Nat → Nat → Nat → Nat → Nat → Res) E => j (E 192) (E 576)) ?_ ?_
 intro E M nm I ni
 refine sq_ok (fun (j : Nat → Nat → Nat → Nat → Nat → Nat → Res) E => j (E 192) (E 576)) ?_ ?_
 intro E M nm I ni
 refine sq_ok (fun (j : Nat → Nat → Nat → Nat → Nat → Nat → Nat → Nat → Res) E => j (E 192) (E 576) (E 2208) (E 2304)) ?_ ?_
 intro E M nm I ni
 refine sq_ok (fun (j : Nat → Nat → Nat → Nat → Nat → Nat → Res) E => j (E 576) (E 2304)) ?_ ?_
 intro E M nm I ni
 kernel_rfl
 intro j
 kernel_rfl
 intro j
 kernel_rfl
 intro j
 refine sq_ok (fun (j : Nat → Nat → Nat → Nat → Nat → Nat → Nat → Nat → Nat → Res) E => j (E 192) (E 576) (E 18720) (E 18816) (E 18912)) ?_ ?_
 intro E M nm I ni
 refine bl_ok ?_
 refine lo_ok (fun (j : Nat → Nat → Nat → Nat → Nat → Nat → Nat → Nat → Nat → Res) E => j (E 192) (E 576) (E 18720) (E 18816) (E 18912)) (fun _ _ _ _ _ => rfl) ?_
 intro n j E M nm I ni
 refine sq_ok (fun (j : Nat → Nat → Nat → Nat → Nat → Nat → Nat → Nat → Nat → Nat → Res) E => j (E 192) (E 576) (E 18720) (E 18816) (E 18912) (E 19008)) ?_ ?_
 intro E M nm I ni
 refine sq_ok (fun (j : Nat → Nat → Nat → Nat → Nat → Nat → Nat → Nat → Nat → Res) E => j (E 192) (E 576) (E 18720) (E 18816) (E 18912)) ?_ ?_
 intro E M nm I ni
 refine sq_ok (fun (j : Nat → Nat → Nat → Nat → Nat → Nat → Nat → Nat → Nat → Res) E => j (E 192) (E 576) (E 18720) (E 18816) (E 18912)) ?_ ?_
 intro E M nm I ni
 kernel_rfl
 intro j
 refine bl_ok ?_
 refine sq_ok (fun (j : Nat → Nat → Nat → Nat → Nat → Nat → Nat → Nat → Nat → Nat → Res) E => j (E 192) (E 576) (E 1920) (E 18720) (E 18816) (E 18912)) ?_ ?_
 intro E M nm I ni
 refine sq_ok (fun (j : Nat → Nat → Nat → Nat → Nat → Nat → Nat → Nat → Nat → Nat → Nat → Res) E => j (E 192) (E 576) (E 2016) (E 2112) (E 18720) (E 18816) (E 18912)) ?_ ?_
 intro E M nm I ni
 kernel_rfl
 intro j
 kernel_rfl
 intro j
 kernel_rfl
 intro j
 kernel_rfl
 intro j
 kernel_rfl
 intro j
 kernel_rfl
 intro j
 kernel_rfl
 intro j
 kernel_rfl
 intro j
 refine sq_ok (fun (j : Nat → Nat → Nat → Nat → Nat → Nat → Nat → Nat → Nat → Res) E => j (E 192) (E 576) (E 12768) (E 12864) (E 12960)) ?_ ?_
 intro E M nm I ni
 refine bl_ok ?_
 refine lo_ok (fun (j : Nat → Nat → Nat → Nat → Nat → Nat → Nat → Nat → Nat → Res) E => j (E 192) (E 576) (E 12768) (E 12864) (E 12960)) (fun _ _ _ _ _ => rfl) ?_
 intro n j E M nm I ni
 kernel_rfl
 intro j
 kernel_rfl
 intro j
 refine sq_ok (fun (j : Nat → Nat → Nat → Nat → Nat → Nat → Nat → Nat → Nat → Res) E => j (E 192) (E 576) (E 6048) (E 6144) (E 6240)) ?_ ?_
 intro E M nm I ni
 refine bl_ok ?_
 refine lo_ok (fun (j : Nat → Nat → Nat → Nat → Nat → Nat → Nat → Nat → Nat → Res) E => j (E 192) (E 576) (E 6048) (E 6144) (E 6240)) (fun _ _ _ _ _ => rfl) ?_
 intro n j E M nm I ni
 refine sq_ok (fun (j : Nat → Nat → Nat → Nat → Nat → Nat → Nat → Nat → Nat → Nat → Res) E => j (E 192) (E 576) (E 6048) (E 6144) (E 6240) (E 6336)) ?_ ?_
 intro E M nm I ni
 refine sq_ok (fun (j : Nat → Nat → Nat → Nat → Nat → Nat → Nat → Nat → Nat → Res) E => j (E 192) (E 576) (E 6048) (E 6144) (E 6240)) ?_ ?_
 intro E M nm I ni
 refine sq_ok (fun (j : Nat → Nat → Nat → Nat → Nat → Nat → Nat → Nat → Nat → Res) E => j (E 192) (E 576) (E 6048) (E 6144) (E 6240)) ?_ ?_
 intro E M nm I ni
 kernel_rfl
 intro j
 refine bl_ok ?_
 refine sq_ok (fun (j : Nat → Nat → Nat → Nat → Nat → Nat → Nat → Nat → Nat → Nat → Nat → Res) E => j (E 192) (E 576) (E 1056) (E 1152) (E 6048) (E 6144) (E 6240)) ?_ ?_
 intro E M nm I ni
 refine sq_ok (fun (j : Nat → Nat → Nat → Nat → Nat → Nat → Nat → Nat → Nat → Nat → Nat → Res) E => j (E 192) (E 576) (E 1152) (E 1248) (E 6048) (E 6144) (E 6240)) ?_ ?_
 intro E M nm I ni
 refine sq_ok (fun (j : Nat → Nat → Nat → Nat → Nat → Nat → Nat → Nat → Nat → Nat → Res) E => j (E 192) (E 576) (E 1248) (E 6048) (E 6144) (E 6240)) ?_ ?_
 intro E M nm I ni
 kernel_rfl
 intro j
 refine sq_ok (fun (j : Nat → Nat → Nat → Nat → Nat → Nat → Nat → Nat → Nat → Nat → Nat → Nat → Nat → Res) E => j (E 192) (E 576) (E 1248) (E 6048) (E 6144) (E 6240) (E 7008) (E 7104) (E 7200)) ?_ ?_
 intro E M nm I ni
 refine bl_ok ?_
 refine lo_ok (fun (j : Nat → Nat → Nat → Nat → Nat → Nat → Nat → Nat → Nat → Nat → Nat → Nat → Nat → Res) E => j (E 192) (E 576) (E 1248) (E 6048) (E 6144) (E 6240) (E 7008) (E 7104) (E 7200)) (fun _ _ _ _ _ => rfl) ?_
 intro n j E M nm I ni
 kernel_rfl
 intro j
 kernel_rfl
 intro j
 kernel_rfl
 intro j
 kernel_rfl
 intro j
 kernel_rfl
 intro j
 kernel_rfl
 intro j
 kernel_rfl
 intro j
 refine sq_ok (fun (j : Nat → Nat → Nat → Nat → Nat → Nat → Nat → Nat → Nat → Nat → Res) E => j (E 192) (E 480) (E 576) (E 3744) (E 3840) (E 3936)) ?_ ?_
 intro E M nm I ni
 refine bl_ok ?_
 refine lo_ok (fun (j : Nat → Nat → Nat → Nat → Nat → Nat → Nat → Nat → Nat → Nat → Res) E => j (E 192) (E 480) (E 576) (E 3744) (E 3840) (E 3936)) (fun _ _ _ _ _ => rfl) ?_
 intro n j E M nm I ni
 kernel_rfl
 intro j
 kernel_rfl
 intro j
 kernel_rfl
 intro j
 kernel_rfl
 intro j
 kernel_rfl
 intro j
 kernel_rfl
 intro j
 kernel_rfl
theorem e168 : FOkS Go.Proofs.Tryz.prog 201 168 g168 := fok1 fun call t0 M nm I ni kf => by
 refine top_ok Go.Proofs.Tryz.func168 rfl rfl ?_
 refine sq_ok (fun (j : Nat → Nat → Nat → Nat → Nat → Res) E => j (E 0)) ?_ ?_
 intro E M nm I ni
 refine sq_ok (fun (j : Nat → Nat → Nat → Nat → Nat → Res) E => j (E 0)) ?_ ?_
 intro E M nm I ni
 refine sq_ok (fun (j : Nat → Nat → Nat → Nat → Nat → Res) E => j (E 0)) ?_ ?_
 intro E M nm I ni
 kernel_rfl
 intro j
 refine sq_ok (fun (j : Nat → Nat → Nat → Nat → Nat → Nat → Res) E => j (E 0) (E 288)) ?_ ?_
 intro E M nm I ni
 refine bl_ok ?_
 refine lo_ok (fun (j : Nat → Nat → Nat → Nat → Nat → Nat → Res) E => j (E 0) (E 288)) (fun _ _ _ _ _ => rfl) ?_
 intro n j E M nm I ni
 refine sq_ok (fun (j : Nat → Nat → Nat → Nat → Nat → Nat → Res) E => j (E 0) (E 288)) ?_ ?_
 intro E M nm I ni
 refine sq_ok (fun (j : Nat → Nat → Nat → Nat → Nat → Nat → Res) E => j (E 0) (E 288)) ?_ ?_
 intro E M nm I ni
 kernel_rfl
 intro j
 refine bl_ok ?_
 refine sq_ok (fun (j : Nat → Nat → Nat → Nat → Nat → Nat → Nat → Res) E => j (E 0) (E 288) (E 2400)) ?_ ?_
 intro E M nm I ni
 refine cn_ok rfl ?_ ?_
 refine sq_ok (fun (j : Nat → Nat → Nat → Nat → Nat → Nat → Nat → Res) E => j (E 0) (E 288) (E 384)) ?_ ?_
 intro E M nm I ni
 refine sq_ok (fun (j : Nat → Nat → Nat → Nat → Nat → Nat → Res) E => j (E 0) (E 288)) ?_ ?_
 intro E M nm I ni
 kernel_rfl
 intro j
 refine sq_ok (fun (j : Nat → Nat → Nat → Nat → Nat → Nat → Nat → Nat → Res) E => j (E 0) (E 288) (E 384) (E 480)) ?_ ?_
 intro E M nm I ni
 refine bl_ok ?_
 refine lo_ok (fun (j : Nat → Nat → Nat → Nat → Nat → Nat → Nat → Nat → Res) E => j (E 0) (E 288) (E 384) (E 480)) (fun _ _ _ _ _ => rfl) ?_
 intro n j E M nm I ni
 kernel_rfl
 intro j
 kernel_rfl
 intro j
 kernel_rfl
 kernel_rfl
 intro j
 kernel_rfl
 intro j
 kernel_rfl
 intro j
 kernel_rfl
 intro j
 kernel_rfl
 intro j
 kernel_rfl
theorem e89 : FOkS Go.Proofs.Tryz.prog 201 89 g89 := fok2 fun call t0 t1 M nm I ni kf => by
 refine top_ok Go.Proofs.Tryz.func89 rfl rfl ?_
 refine sq_ok (fun (j : Nat → Nat → Nat → Nat → Nat → Nat → Res) E => j (E 0) (E 96)) ?_ ?_
 intro E M nm I ni
 refine sq_ok (fun (j : Nat → Nat → Nat → Nat → Nat → Nat → Res) E => j (E 0) (E 96)) ?_ ?_
 intro E M nm I ni
 refine sq_ok (fun (j : Nat → Nat → Nat → Nat → Nat → Nat → Nat → Res) E => j (E 0) (E 480) (E 576)) ?_ ?_
 intro E M nm I ni
 refine sq_ok (fun (j : Nat → Nat → Nat → Nat → Nat → Nat → Res) E => j (E 0) (E 576)) ?_ ?_
 intro E M nm I ni
 refine sq_ok (fun (j : Nat → Nat → Nat → Nat → Nat → Nat → Res) E => j (E 0) (E 672)) ?_ ?_
 intro E M nm I ni
 refine sq_ok (fun (j : Nat → Nat → Nat → Nat → Nat → Nat → Res) E => j (E 672) (E 768)) ?_ ?_
 intro E M nm I ni
 refine sq_ok (fun (j : Nat → Nat → Nat → Nat → Nat → Res) E => j (E 672)) ?_ ?_
 intro E M nm I ni
 kernel_rfl
 intro j
 refine bl_ok ?_
 refine lo_ok (fun (j : Nat → Nat → Nat → Nat → Nat → Nat → Res) E => j (E 672) (E 768)) (fun _ _ _ _ _ => rfl) ?_
 intro n j E M nm I ni
 kernel_rfl
 intro j
 kernel_rfl
 intro j
 kernel_rfl
 intro j
 kernel_rfl
 intro j
 kernel_rfl
 intro j
 kernel_rfl
 intro j
 kernel_rfl
theorem e160 : FOkS Go.Proofs.Tryz.prog 201 160 g160 := fok2 fun call t0 t1 M nm I ni kf => by
 refine top_ok Go.Proofs.Tryz.func160 rfl rfl ?_
 kernel_rfl
theorem e148 : FOkS Go.Proofs.Tryz.prog 201 148 g148 := fok1 fun call t0 M nm I ni kf => by
 refine top_ok Go.Proofs.Tryz.func148 rfl rfl ?_
 refine sq_ok (fun (j : Nat → Nat → Nat → Nat → Nat → Res) E => j (E 0)) ?_ ?_
 intro E M nm I ni
 refine sq_ok (fun (j : Nat → Nat → Nat → Nat → Res) _ => j) ?_ ?_
 intro E M nm I ni
 kernel_rfl
 intro j
 refine sq_ok (fun (j : Nat → Nat → Nat → Nat → Nat → Nat → Res) E => j (E 0) (E 288)) ?_ ?_
 intro E M nm I ni
 refine bl_ok ?_
 refine lo_ok (fun (j : Nat → Nat → Nat → Nat → Nat → Nat → Res) E => j (E 0) (E 288)) (fun _ _ _ _ _ => rfl) ?_
 intro n j E M nm I ni
 refine sq_ok (fun (j : Nat → Nat → Nat → Nat → Nat → Nat → Res) E => j (E 0) (E 288)) ?_ ?_
 intro E M nm I ni
 refine sq_ok (fun (j : Nat → Nat → Nat → Nat → Nat → Nat → Res) E => j (E 0) (E 288)) ?_ ?_
 intro E M nm I ni
 kernel_rfl
 intro j
 refine bl_ok ?_
 refine sq_ok (fun (j : Nat → Nat → Nat → Nat → Nat → Nat → Nat → Res) E => j (E 0) (E 288) (E 384)) ?_ ?_
 intro E M nm I ni
 refine sq_ok (fun (j : Nat → Nat → Nat → Nat → Nat → Nat → Nat → Nat → Res) E => j (E 0) (E 288) (E 384) (E 480)) ?_ ?_
 intro E M nm I ni
 refine sq_ok (fun (j : Nat → Nat → Nat → Nat → Nat → Nat → Nat → Nat → Res) E => j (E 0) (E 288) (E 384) (E 480)) ?_ ?_
 intro E M nm I ni
 refine sq_ok (fun (j : Nat → Nat → Nat → Nat → Nat → Nat → Nat → Nat → Nat → Res) E => j (E 0) (E 288) (E 384) (E 480) (E 960)) ?_ ?_
 intro E M nm I ni
 refine sq_ok (fun (j : Nat → Nat → Nat → Nat → Nat → Nat → Nat → Nat → Nat → Nat → Res) E => j (E 0) (E 288) (E 384) (E 480) (E 960) (E 1056)) ?_ ?_
 intro E M nm I ni
 refine sq_ok (fun (j : Nat → Nat → Nat → Nat → Nat → Nat → Nat → Nat → Nat → Nat → Res) E => j (E 0) (E 288) (E 384) (E 480) (E 960) (E 1056)) ?_ ?_
 intro E M nm I ni
 refine sq_ok (fun (j : Nat → Nat → Nat → Nat → Nat → Nat → Nat → Nat → Nat → Nat → Res) E => j (E 0) (E 288) (E 384) (E 480) (E 960) (E 1056)) ?_ ?_
 intro E M nm I ni
 refine sq_ok (fun (j : Nat → Nat → Nat → Nat → Nat → Nat → Nat → Nat → Nat → Nat → Nat → Nat → Res) E => j (E 0) (E 288) (E 480) (E 960) (E 1056) (E 6528) (E 6624) (E 6720)) ?_ ?_
 intro E M nm I ni
 refine bl_ok ?_
 refine lo_ok (fun (j : Nat → Nat → Nat → Nat → Nat → Nat → Nat → Nat → Nat → Nat → Nat → Nat → Res) E => j (E 0) (E 288) (E 480) (E 960) (E 1056) (E 6528) (E 6624) (E 6720)) (fun _ _ _ _ _ => rfl) ?_
 intro n j E M nm I ni
 kernel_rfl
 intro j
 kernel_rfl
 intro j
 kernel_rfl
 intro j
 kernel_rfl
 intro j
 kernel_rfl
 intro j
 kernel_rfl
 intro j
 refine sq_ok (fun (j : Nat → Nat → Nat → Nat → Nat → Nat → Nat → Nat → Nat → Nat → Nat → Res) E => j (E 0) (E 288) (E 384) (E 480) (E 2496) (E 2592) (E 2688)) ?_ ?_
 intro E M nm I ni
 refine bl_ok ?_
 refine lo_ok (fun (j : Nat → Nat → Nat → Nat → Nat → Nat → Nat → Nat → Nat → Nat → Nat → Res) E => j (E 0) (E 288) (E 384) (E 480) (E 2496) (E 2592) (E 2688)) (fun _ _ _ _ _ => rfl) ?_
 intro n j E M nm I ni
 kernel_rfl
 intro j
 kernel_rfl
 intro j
 kernel_rfl
 intro j
 kernel_rfl
 intro j
 kernel_rfl
 intro j
 kernel_rfl
 intro j
 kernel_rfl
theorem e121 : FOkS Go.Proofs.Tryz.prog 201 121 g121 := fok2 fun call t0 t1 M nm I ni kf => by
 refine top_ok Go.Proofs.Tryz.func121 rfl rfl ?_
 refine sq_ok (fun (j : Nat → Nat → Nat → Nat → Nat → Nat → Res) E => j (E 96) (E 192)) ?_ ?_
 intro E M nm I ni
 refine sq_ok (fun (j : Nat → Nat → Nat → Nat → Nat → Nat → Res) E => j (E 96) (E 192)) ?_ ?_
 intro E M nm I ni
 refine sq_ok (fun (j : Nat → Nat → Nat → Nat → Nat → Nat → Res) E => j (E 96) (E 192)) ?_ ?_
 intro E M nm I ni
 refine sq_ok (fun (j : Nat → Nat → Nat → Nat → Nat → Nat → Nat → Res) E => j (E 96) (E 192) (E 672)) ?_ ?_
 intro E M nm I ni
 refine sq_ok (fun (j : Nat → Nat → Nat → Nat → Nat → Nat → Nat → Res) E => j (E 96) (E 192) (E 672)) ?_ ?_
 intro E M nm I ni
 kernel_rfl
 intro j
 refine sq_ok (fun (j : Nat → Nat → Nat → Nat → Nat → Nat → Nat → Nat → Nat → Res) E => j (E 96) (E 192) (E 672) (E 2496) (E 2592)) ?_ ?_
 intro E M nm I ni
 refine bl_ok ?_
 refine lo_ok (fun (j : Nat → Nat → Nat → Nat → Nat → Nat → Nat → Nat → Nat → Res) E => j (E 96) (E 192) (E 672) (E 2496) (E 2592)) (fun _ _ _ _ _ => rfl) ?_
 intro n j E M nm I ni
 kernel_rfl
 intro j
 kernel_rfl
 intro j
 kernel_rfl
 intro j
 kernel_rfl
 intro j
 kernel_rfl
 intro j
 kernel_rfl
theorem e225 : FOkS Go.Proofs.Tryz.prog 201 225 g225 := fok2 fun call t0 t1 M nm I ni kf => by
 refine top_ok Go.Proofs.Tryz.func225 rfl rfl ?_
 refine sq_ok (fun (j : Nat → Nat → Nat → Nat → Nat → Nat → Res) E => j (E 0) (E 96)) ?_ ?_
 intro E M nm I ni
 refine sq_ok (fun (j : Nat → Nat → Nat → Nat → Nat → Nat → Nat → Res) E => j (E 0) (E 96) (E 576)) ?_ ?_
 intro E M nm I ni
 refine sq_ok (fun (j : Nat → Nat → Nat → Nat → Nat → Nat → Res) E => j (E 0) (E 576)) ?_ ?_
 intro E M nm I ni
 kernel_rfl
 intro j
 refine sq_ok (fun (j : Nat → Nat → Nat → Nat → Nat → Nat → Nat → Nat → Nat → Nat → Res) E => j (E 0) (E 96) (E 576) (E 2208) (E 2304) (E 2400)) ?_ ?_
 intro E M nm I ni
 refine bl_ok ?_
 refine lo_ok (fun (j : Nat → Nat → Nat → Nat → Nat → Nat → Nat → Nat → Nat → Nat → Res) E => j (E 0) (E 96) (E 576) (E 2208) (E 2304) (E 2400)) (fun _ _ _ _ _ => rfl) ?_
 intro n j E M nm I ni
 refine sq_ok (fun (j : Nat → Nat → Nat → Nat → Nat → Nat → Nat → Nat → Nat → Nat → Nat → Res) E => j (E 0) (E 96) (E 576) (E 2208) (E 2304) (E 2400) (E 2496)) ?_ ?_
 intro E M nm I ni
 refine sq_ok (fun (j : Nat → Nat → Nat → Nat → Nat → Nat → Nat → Nat → Nat → Nat → Res) E => j (E 0) (E 96) (E 576) (E 2208) (E 2304) (E 2400)) ?_ ?_
 intro E M nm I ni
 refine sq_ok (fun (j : Nat → Nat → Nat → Nat → Nat → Nat → Nat → Nat → Nat → Nat → Res) E => j (E 0) (E 96) (E 576) (E 2208) (E 2304) (E 2400)) ?_ ?_
 intro E M nm I ni
 kernel_rfl
 intro j
 refine bl_ok ?_
 refine sq_ok (fun (j : Nat → Nat → Nat → Nat → Nat → Nat → Nat → Nat → Nat → Nat → Nat → Res) E => j (E 0) (E 96) (E 576) (E 768) (E 2208) (E 2304) (E 2400)) ?_ ?_
 intro E M nm I ni
 refine sq_ok (fun (j : Nat → Nat → Nat → Nat → Nat → Nat → Nat → Nat → Nat → Nat → Nat → Nat → Res) E => j (E 0) (E 96) (E 576) (E 768) (E 864) (E 2208) (E 2304) (E 2400)) ?_ ?_
 intro E M nm I ni
 refine sq_ok (fun (j : Nat → Nat → Nat → Nat → Nat → Nat → Nat → Nat → Nat → Nat → Nat → Res) E => j (E 0) (E 96) (E 576) (E 864) (E 2208) (E 2304) (E 2400)) ?_ ?_
 intro E M nm I ni
 kernel_rfl
 intro j
 kernel_rfl
 intro j
 kernel_rfl
 intro j
 kernel_rfl
 intro j
 kernel_rfl
 intro j
 kernel_rfl
 intro j
 kernel_rfl
 intro j
 kernel_rfl
 intro j
 kernel_rfl
theorem e166 : FOkS Go.Proofs.Tryz.prog 201 166 g166 := fok1 fun call t0 M nm I ni kf => by
 refine top_ok Go.Proofs.Tryz.func166 rfl rfl ?_
 refine sq_ok (fun (j : Nat → Nat → Nat → Nat → Nat → Res) E => j (E 96)) ?_ ?_
 intro E M nm I ni
 refine sq_ok (fun (j : Nat → Nat → Nat → Nat → Nat → Nat → Nat → Nat → Res) E => j (E 96) (E 384) (E 480) (E 576)) ?_ ?_
 intro E M nm I ni
 refine sq_ok (fun (j : Nat → Nat → Nat → Nat → Nat → Nat → Nat → Res) E => j (E 96) (E 384) (E 480)) ?_ ?_
 intro E M nm I ni
 refine sq_ok (fun (j : Nat → Nat → Nat → Nat → Nat → Nat → Nat → Nat → Res) E => j (E 96) (E 384) (E 480) (E 672)) ?_ ?_
 intro E M nm I ni
 refine sq_ok (fun (j : Nat → Nat → Nat → Nat → Nat → Nat → Nat → Res) E => j (E 96) (E 384) (E 672)) ?_ ?_
 intro E M nm I ni
 refine sq_ok (fun (j : Nat → Nat → Nat → Nat → Nat → Nat → Nat → Res) E => j (E 96) (E 672) (E 1056)) ?_ ?_
 intro E M nm I ni
 refine sq_ok (fun (j : Nat → Nat → Nat → Nat → Nat → Nat → Nat → Nat → Res) E => j (E 96) (E 672) (E 1056) (E 1152)) ?_ ?_
 intro E M nm I ni
 refine sq_ok (fun (j : Nat → Nat → Nat → Nat → Nat → Nat → Nat → Nat → Nat → Res) E => j (E 96) (E 672) (E 1056) (E 1152) (E 1248)) ?_ ?_
 intro E M nm I ni
 refine sq_ok (fun (j : Nat → Nat → Nat → Nat → Nat → Nat → Res) E => j (E 1152) (E 1248)) ?_ ?_
 intro E M nm I ni
 refine sq_ok (fun (j : Nat → Nat → Nat → Nat → Nat → Nat → Nat → Res) E => j (E 1152) (E 1248) (E 1632)) ?_ ?_
 intro E M nm I ni
 refine sq_ok (fun (j : Nat → Nat → Nat → Nat → Nat → Res) E => j (E 1632)) ?_ ?_
 intro E M nm I ni
 kernel_rfl
 intro j
 refine sq_ok (fun (j : Nat → Nat → Nat → Nat → Nat → Nat → Nat → Nat → Nat → Res) E => j (E 1152) (E 1632) (E 10272) (E 10368) (E 10464)) ?_ ?_
 intro E M nm I ni
 refine bl_ok ?_
 refine lo_ok (fun (j : Nat → Nat → Nat → Nat → Nat → Nat → Nat → Nat → Nat → Res) E => j (E 1152) (E 1632) (E 10272) (E 10368) (E 10464)) (fun _ _ _ _ _ => rfl) ?_
 intro n j E M nm I ni
 kernel_rfl
 intro j
 kernel_rfl
 intro j
 kernel_rfl
 intro j
 refine sq_ok (fun (j : Nat → Nat → Nat → Nat → Nat → Nat → Nat → Nat → Nat → Nat → Nat → Res) E => j (E 672) (E 1056) (E 1152) (E 1248) (E 7104) (E 7200) (E 7296)) ?_ ?_
 intro E M nm I ni
 refine bl_ok ?_
 refine lo_ok (fun (j : Nat → Nat → Nat → Nat → Nat → Nat → Nat → Nat → Nat → Nat → Nat → Res) E => j (E 672) (E 1056) (E 1152) (E 1248) (E 7104) (E 7200) (E 7296)) (fun _ _ _ _ _ => rfl) ?_
 intro n j E M nm I ni
 refine sq_ok (fun (j : Nat → Nat → Nat → Nat → Nat → Nat → Nat → Nat → Nat → Nat → Nat → Nat → Res) E => j (E 672) (E 1056) (E 1152) (E 1248) (E 7104) (E 7200) (E 7296) (E 7392)) ?_ ?_
 intro E M nm I ni
 refine sq_ok (fun (j : Nat → Nat → Nat → Nat → Nat → Nat → Nat → Nat → Nat → Nat → Nat → Res) E => j (E 672) (E 1056) (E 1152) (E 1248) (E 7104) (E 7200) (E 7296)) ?_ ?_
 intro E M nm I ni
 refine sq_ok (fun (j : Nat → Nat → Nat → Nat → Nat → Nat → Nat → Nat → Nat → Nat → Nat → Res) E => j (E 672) (E 1056) (E 1152) (E 1248) (E 7104) (E 7200) (E 7296)) ?_ ?_
 intro E M nm I ni
 kernel_rfl
 intro j
 refine bl_ok ?_
 refine sq_ok (fun (j : Nat → Nat → Nat → Nat → Nat → Nat → Nat → Nat → Nat → Nat → Nat → Nat → Res) E => j (E 672) (E 1056) (E 1152) (E 1248) (E 1440) (E 7104) (E 7200) (E 7296)) ?_ ?_
 intro E M nm I ni
 refine sq_ok (fun (j : Nat → Nat → Nat → Nat → Nat → Nat → Nat → Nat → Nat → Nat → Nat → Nat → Nat → Res) E => j (E 672) (E 1056) (E 1152) (E 1248) (E 1440) (E 1536) (E 7104) (E 7200) (E 7296)) ?_ ?_
 intro E M nm I ni
 refine sq_ok (fun (j : Nat → Nat → Nat → Nat → Nat → Nat → Nat → Nat → Nat → Nat → Nat → Nat → Nat → Res) E => j (E 672) (E 1056) (E 1152) (E 1248) (E 1440) (E 1536) (E 7104) (E 7200) (E 7296)) ?_ ?_
 intro E M nm I ni
 kernel_rfl
 intro j
 kernel_rfl
 intro j
 kernel_rfl
 intro j
 kernel_rfl
 intro j
 kernel_rfl
 intro j
 kernel_rfl
 intro j
 kernel_rfl
 intro j
 kernel_rfl
 intro j
 kernel_rfl
 intro j
 kernel_rfl
 intro j
 refine sq_ok (fun (j : Nat → Nat → Nat → Nat → Nat → Nat → Nat → Nat → Nat → Nat → Res) E => j (E 96) (E 384) (E 672) (E 3072) (E 3168) (E 3264)) ?_ ?_
 intro E M nm I ni
 refine bl_ok ?_
 refine lo_ok (fun (j : Nat → Nat → Nat → Nat → Nat → Nat → Nat → Nat → Nat → Nat → Res) E => j (E 96) (E 384) (E 672) (E 3072) (E 3168) (E 3264)) (fun _ _ _ _ _ => rfl) ?_
 intro n j E M nm I ni
 kernel_rfl
 intro j
 kernel_rfl
 intro j
 kernel_rfl
 intro j
 kernel_rfl
 intro j
 kernel_rfl
 intro j
 kernel_rfl
theorem e170 : FOkS Go.Proofs.Tryz.prog 201 170 g170 := fok1 fun call t0 M nm I ni kf => by
 refine top_ok Go.Proofs.Tryz.func170 rfl rfl ?_
 refine sq_ok (fun (j : Nat → Nat → Nat → Nat → Nat → Res) E => j (E 0)) ?_ ?_
 intro E M nm I ni
 refine sq_ok (fun (j : Nat → Nat → Nat → Nat → Nat → Nat → Res) E => j (E 0) (E 192)) ?_ ?_
 intro E M nm I ni
 refine sq_ok (fun (j : Nat → Nat → Nat → Nat → Nat → Nat → Nat → Res) E => j (E 0) (E 192) (E 288)) ?_ ?_
 intro E M nm I ni
 refine bl_ok ?_
 refine lo_ok (fun (j : Nat → Nat → Nat → Nat → Nat → Nat → Nat → Res) E => j (E 0) (E 192) (E 288)) (fun _ _ _ _ _ => rfl) ?_
 intro n j E M nm I ni
 refine sq_ok (fun (j : Nat → Nat → Nat → Nat → Nat → Nat → Nat → Res) E => j (E 0) (E 192) (E 288)) ?_ ?_
 intro E M nm I ni
 refine sq_ok (fun (j : Nat → Nat → Nat → Nat → Nat → Nat → Nat → Res) E => j (E 0) (E 192) (E 288)) ?_ ?_
 intro E M nm I ni
 kernel_rfl
 intro j
 refine bl_ok ?_
 refine sq_ok (fun (j : Nat → Nat → Nat → Nat → Nat → Nat → Nat → Nat → Res) E => j (E 0) (E 192) (E 288) (E 384)) ?_ ?_
 intro E M nm I ni
 refine sq_ok (fun (j : Nat → Nat → Nat → Nat → Nat → Nat → Nat → Nat → Nat → Nat → Nat → Res) E => j (E 0) (E 192) (E 288) (E 384) (E 3552) (E 3648) (E 3744)) ?_ ?_
 intro E M nm I ni
 refine bl_ok ?_
 refine lo_ok (fun (j : Nat → Nat → Nat → Nat → Nat → Nat → Nat → Nat → Nat → Nat → Nat → Res) E => j (E 0) (E 192) (E 288) (E 384) (E 3552) (E 3648) (E 3744)) (fun _ _ _ _ _ => rfl) ?_
 intro n j E M nm I ni
 kernel_rfl
 intro j
 kernel_rfl
 intro j
 kernel_rfl
 intro j
 kernel_rfl
 intro j
 kernel_rfl
 intro j
 kernel_rfl
 intro j
 kernel_rfl
theorem e55 : FOkS Go.Proofs.Tryz.prog 201 55 g55 := fok1 fun call t0 M nm I ni kf => by
 refine top_ok Go.Proofs.Tryz.func55 rfl rfl ?_
 kernel_rfl
theorem e146 : FOkS Go.Proofs.Tryz.prog 201 146 g146 := fok1 fun call t0 M nm I ni kf => by
 refine top_ok Go.Proofs.Tryz.func146 rfl rfl ?_
 refine sq_ok (fun (j : Nat → Nat → Nat → Nat → Nat → Nat → Res) E => j (E 96) (E 192)) ?_ ?_
 intro E M nm I ni
 refine sq_ok (fun (j : Nat → Nat → Nat → Nat → Nat → Nat → Res) E => j (E 96) (E 192)) ?_ ?_
 intro E M nm I ni
 refine sq_ok (fun (j : Nat → Nat → Nat → Nat → Nat → Nat → Res) E => j (E 96) (E 192)) ?_ ?_
 intro E M nm I ni
 refine sq_ok (fun (j : Nat → Nat → Nat → Nat → Nat → Nat → Nat → Nat → Res) E => j (E 96) (E 192) (E 384) (E 480)) ?_ ?_
 intro E M nm I ni
 refine sq_ok (fun (j : Nat → Nat → Nat → Nat → Nat → Nat → Nat → Res) E => j (E 96) (E 192) (E 384)) ?_ ?_
 intro E M nm I ni
 refine sq_ok (fun (j : Nat → Nat → Nat → Nat → Nat → Nat → Nat → Nat → Nat → Res) E => j (E 96) (E 192) (E 384) (E 480) (E 576)) ?_ ?_
 intro E M nm I ni
 refine sq_ok (fun (j : Nat → Nat → Nat → Nat → Nat → Nat → Nat → Nat → Res) E => j (E 96) (E 192) (E 384) (E 576)) ?_ ?_
 intro E M nm I ni
 refine sq_ok (fun (j : Nat → Nat → Nat → Nat → Nat → Nat → Nat → Nat → Nat → Res) E => j (E 96) (E 192) (E 384) (E 576) (E 672)) ?_ ?_
 intro E M nm I ni
 refine sq_ok (fun (j : Nat → Nat → Nat → Nat → Nat → Nat → Nat → Nat → Res) E => j (E 192) (E 384) (E 576) (E 672)) ?_ ?_
 intro E M nm I ni
 kernel_rfl
 intro j
 refine sq_ok (fun (j : Nat → Nat → Nat → Nat → Nat → Nat → Nat → Nat → Nat → Nat → Nat → Nat → Res) E => j (E 96) (E 192) (E 384) (E 576) (E 672) (E 4704) (E 4800) (E 4896)) ?_ ?_
 intro E M nm I ni
 refine bl_ok ?_
 refine lo_ok (fun (j : Nat → Nat → Nat → Nat → Nat → Nat → Nat → Nat → Nat → Nat → Nat → Nat → Res) E => j (E 96) (E 192) (E 384) (E 576) (E 672) (E 4704) (E 4800) (E 4896)) (fun _ _ _ _ _ => rfl) ?_
 intro n j E M nm I ni
 refine sq_ok (fun (j : Nat → Nat → Nat → Nat → Nat → Nat → Nat → Nat → Nat → Nat → Nat → Nat → Nat → Res) E => j (E 96) (E 192) (E 384) (E 576) (E 672) (E 4704) (E 4800) (E 4896) (E 4992)) ?_ ?_
 intro E M nm I ni
 refine sq_ok (fun (j : Nat → Nat → Nat → Nat → Nat → Nat → Nat → Nat → Nat → Nat → Nat → Nat → Res) E => j (E 96) (E 192) (E 384) (E 576) (E 672) (E 4704) (E 4800) (E 4896)) ?_ ?_
 intro E M nm I ni
 refine sq_ok (fun (j : Nat → Nat → Nat → Nat → Nat → Nat → Nat → Nat → Nat → Nat → Nat → Nat → Res) E => j (E 96) (E 192) (E 384) (E 576) (E 672) (E 4704) (E 4800) (E 4896)) ?_ ?_
 intro E M nm I ni
 kernel_rfl
 intro j
 refine bl_ok ?_
 refine sq_ok (fun (j : Nat → Nat → Nat → Nat → Nat → Nat → Nat → Nat → Nat → Nat → Nat → Nat → Nat → Nat → Res) E => j (E 96) (E 192) (E 384) (E 576) (E 672) (E 768) (E 864) (E 4704) (E 4800) (E 4896)) ?_ ?_
 intro E M nm I ni
 refine sq_ok (fun (j : Nat → Nat → Nat → Nat → Nat → Nat → Nat → Nat → Nat → Nat → Nat → Nat → Nat → Nat → Nat → Res) E => j (E 96) (E 192) (E 384) (E 576) (E 672) (E 768) (E 864) (E 960) (E 4704) (E 4800) (E 4896)) ?_ ?_
 intro E M nm I ni
 refine sq_ok (fun (j : Nat → Nat → Nat → Nat → Nat → Nat → Nat → Nat → Nat → Nat → Nat → Nat → Nat → Nat → Res) E => j (E 96) (E 192) (E 384) (E 576) (E 672) (E 768) (E 960) (E 4704) (E 4800) (E 4896)) ?_ ?_
 intro E M nm I ni
 refine sq_ok (fun (j : Nat → Nat → Nat → Nat → Nat → Nat → Nat → Nat → Nat → Nat → Nat → Nat → Nat → Nat → Nat → Nat → Nat → Res) E => j (E 96) (E 192) (E 384) (E 576) (E 672) (E 768) (E 960) (E 4704) (E 4800) (E 4896) (E 7104) (E 7200) (E 7296)) ?_ ?_
 intro E M nm I ni
 refine bl_ok ?_
 refine lo_ok (fun (j : Nat → Nat → Nat → Nat → Nat → Nat → Nat → Nat → Nat → Nat → Nat → Nat → Nat → Nat → Nat → Nat → Nat → Res) E => j (E 96) (E 192) (E 384) (E 576) (E 672) (E 768) (E 960) (E 4704) (E 4800) (E 4896) (E 7104) (E 7200) (E 7296)) (fun _ _ _ _ _ => rfl) ?_
 intro n j E M nm I ni
 kernel_rfl
 intro j
 kernel_rfl
 intro j
 refine sq_ok (fun (j : Nat → Nat → Nat → Nat → Nat → Nat → Nat → Nat → Nat → Nat → Nat → Nat → Nat → Nat → Nat → Nat → Nat → Res) E => j (E 96) (E 192) (E 384) (E 576) (E 672) (E 768) (E 960) (E 4704) (E 4800) (E 4896) (E 5664) (E 5760) (E 5856)) ?_ ?_
 intro E M nm I ni
 refine bl_ok ?_
 refine lo_ok (fun (j : Nat → Nat → Nat → Nat → Nat → Nat → Nat → Nat → Nat → Nat → Nat → Nat → Nat → Nat → Nat → Nat → Nat → Res) E => j (E 96) (E 192) (E 384) (E 576) (E 672) (E 768) (E 960) (E 4704) (E 4800) (E 4896) (E 5664) (E 5760) (E 5856)) (fun _ _ _ _ _ => rfl) ?_
 intro n j E M nm I ni
 kernel_rfl
 intro j
 kernel_rfl
 intro j
 kernel_rfl
 intro j
 kernel_rfl
 intro j
 kernel_rfl
 intro j
 kernel_rfl
 intro j
 kernel_rfl
 intro j
 kernel_rfl
 intro j
 kernel_rfl
 intro j
 kernel_rfl
 intro j
 kernel_rfl
 intro j
 kernel_rfl
 intro j
 kernel_rfl
 intro j
 kernel_rfl
 intro j
 kernel_rfl
theorem e177 : FOkS Go.Proofs.Tryz.prog 201 177 g177 := fok3 fun call t0 t1 t2 M nm I ni kf => by
 refine top_ok Go.Proofs.Tryz.func177 rfl rfl ?_
 refine sq_ok (fun (j : Nat → Nat → Nat → Nat → Nat → Nat → Nat → Res) E => j (E 0) (E 96) (E 192)) ?_ ?_
 intro E M nm I ni
 refine sq_ok (fun (j : Nat → Nat → Nat → Nat → Nat → Nat → Nat → Nat → Res) E => j (E 0) (E 96) (E 192) (E 768)) ?_ ?_
 intro E M nm I ni
 refine sq_ok (fun (j : Nat → Nat → Nat → Nat → Nat → Nat → Nat → Nat → Nat → Nat → Res) E => j (E 0) (E 96) (E 192) (E 768) (E 864) (E 960)) ?_ ?_
 intro E M nm I ni
 refine sq_ok (fun (j : Nat → Nat → Nat → Nat → Nat → Nat → Nat → Nat → Nat → Res) E => j (E 0) (E 96) (E 192) (E 768) (E 864)) ?_ ?_
 intro E M nm I ni
 kernel_rfl
 intro j
 refine bl_ok ?_
 refine lo_ok (fun (j : Nat → Nat → Nat → Nat → Nat → Nat → Nat → Nat → Nat → Nat → Res) E => j (E 0) (E 96) (E 192) (E 768) (E 864) (E 960)) (fun _ _ _ _ _ => rfl) ?_
 intro n j E M nm I ni
 kernel_rfl
 intro j
 kernel_rfl
 intro j
 kernel_rfl
 intro j
 kernel_rfl
theorem e23 : FOkS Go.Proofs.Tryz.prog 201 23 g23 := fok1 fun call t0 M nm I ni kf => by
 refine top_ok Go.Proofs.Tryz.func23 rfl rfl ?_
 refine sq_ok (fun (j : Nat → Nat → Nat → Nat → Nat → Nat → Res) E => j (E 96) (E 192)) ?_ ?_
 intro E M nm I ni
 refine sq_ok (fun (j : Nat → Nat → Nat → Nat → Nat → Nat → Res) E => j (E 96) (E 192)) ?_ ?_
 intro E M nm I ni
 refine sq_ok (fun (j : Nat → Nat → Nat → Nat → Nat → Nat → Nat → Nat → Res) E => j (E 96) (E 192) (E 384) (E 480)) ?_ ?_
 intro E M nm I ni
 refine sq_ok (fun (j : Nat → Nat → Nat → Nat → Nat → Nat → Nat → Res) E => j (E 96) (E 192) (E 384)) ?_ ?_
 intro E M nm I ni
 refine sq_ok (fun (j : Nat → Nat → Nat → Nat → Nat → Nat → Nat → Nat → Res) E => j (E 96) (E 192) (E 384) (E 576)) ?_ ?_
 intro E M nm I ni
 refine sq_ok (fun (j : Nat → Nat → Nat → Nat → Nat → Nat → Nat → Res) E => j (E 96) (E 192) (E 576)) ?_ ?_
 intro E M nm I ni
 kernel_rfl
 intro j
 refine sq_ok (fun (j : Nat → Nat → Nat → Nat → Nat → Nat → Nat → Nat → Nat → Nat → Res) E => j (E 96) (E 192) (E 576) (E 2976) (E 3072) (E 3168)) ?_ ?_
 intro E M nm I ni
 refine bl_ok ?_
 refine lo_ok (fun (j : Nat → Nat → Nat → Nat → Nat → Nat → Nat → Nat → Nat → Nat → Res) E => j (E 96) (E 192) (E 576) (E 2976) (E 3072) (E 3168)) (fun _ _ _ _ _ => rfl) ?_
 intro n j E M nm I ni
 kernel_rfl
 intro j
 kernel_rfl
 intro j
 kernel_rfl
 intro j
 kernel_rfl
 intro j
 kernel_rfl
 intro j
 kernel_rfl
 intro j
 kernel_rfl
theorem e239 : FOkS Go.Proofs.Tryz.prog 201 239 g239 := fok2 fun call t0 t1 M nm I ni kf => by
 refine top_ok Go.Proofs.Tryz.func239 rfl rfl ?_
 refine sq_ok (fun (j : Nat → Nat → Nat → Nat → Nat → Nat → Res) E => j (E 0) (E 96)) ?_ ?_
 intro E M nm I ni
 refine sq_ok (fun (j : Nat → Nat → Nat → Nat → Nat → Nat → Res) E => j (E 0) (E 96)) ?_ ?_
 intro E M nm I ni
 refine sq_ok (fun (j : Nat → Nat → Nat → Nat → Nat → Nat → Nat → Res) E => j (E 0) (E 96) (E 480)) ?_ ?_
 intro E M nm I ni
 refine sq_ok (fun (j : Nat → Nat → Nat → Nat → Res) _ => j) ?_ ?_
 intro E M nm I ni
 kernel_rfl
 intro j
 refine sq_ok (fun (j : Nat → Nat → Nat → Nat → Nat → Nat → Nat → Nat → Nat → Res) E => j (E 96) (E 480) (E 1344) (E 1440) (E 1536)) ?_ ?_
 intro E M nm I ni
 refine bl_ok ?_
 refine lo_ok (fun (j : Nat → Nat → Nat → Nat → Nat → Nat → Nat → Nat → Nat → Res) E => j (E 96) (E 480) (E 1344) (E 1440) (E 1536)) (fun _ _ _ _ _ => rfl) ?_
 intro n j E M nm I ni
 kernel_rfl
 intro j
 kernel_rfl
 intro j
 kernel_rfl
 intro j
 kernel_rfl
 intro j
 kernel_rfl
theorem e398 : FOkS Go.Proofs.Tryz.prog 201 398 g398 := fok2 fun call t0 t1 M nm I ni kf => by
 refine top_ok Go.Proofs.Tryz.func398 rfl rfl ?_
 refine sq_ok (fun (j : Nat → Nat → Nat → Nat → Nat → Nat → Res) E => j (E 96) (E 192)) ?_ ?_
 intro E M nm I ni
 refine sq_ok (fun (j : Nat → Nat → Nat → Nat → Nat → Nat → Nat → Res) E => j (E 96) (E 192) (E 480)) ?_ ?_
 intro E M nm I ni
 refine sq_ok (fun (j : Nat → Nat → Nat → Nat → Nat → Nat → Res) E => j (E 192) (E 480)) ?_ ?_
 intro E M nm I ni
 kernel_rfl
 intro j
 refine sq_ok (fun (j : Nat → Nat → Nat → Nat → Nat → Nat → Nat → Nat → Nat → Nat → Res) E => j (E 96) (E 192) (E 480) (E 1344) (E 1440) (E 1536)) ?_ ?_
 intro E M nm I ni
 refine bl_ok ?_
 refine lo_ok (fun (j : Nat → Nat → Nat → Nat → Nat → Nat → Nat → Nat → Nat → Nat → Res) E => j (E 96) (E 192) (E 480) (E 1344) (E 1440) (E 1536)) (fun _ _ _ _ _ => rfl) ?_
 intro n j E M nm I ni
 kernel_rfl
 intro j
 kernel_rfl
 intro j
 kernel_rfl
 intro j
 kernel_rfl
theorem e120 : FOkS Go.Proofs.Tryz.prog 201 120 g120 := fok1 fun call t0 M nm I ni kf => by
 refine top_ok Go.Proofs.Tryz.func120 rfl rfl ?_
 kernel_rfl
theorem e234 : FOkS Go.Proofs.Tryz.prog 201 234 g234 := fok1 fun call t0 M nm I ni kf => by
 refine top_ok Go.Proofs.Tryz.func234 rfl rfl ?_
 kernel_rfl
theorem e201 : FOkS Go.Proofs.Tryz.prog 201 201 g201 := fok2 fun call t0 t1 M nm I ni kf => by
 refine top_ok Go.Proofs.Tryz.func201 rfl rfl ?_
 refine sq_ok (fun (j : Nat → Nat → Nat → Nat → Nat → Nat → Nat → Res) E => j (E 0) (E 96) (E 288)) ?_ ?_
 intro E M nm I ni
 refine bl_ok ?_
 refine lo_ok (fun (j : Nat → Nat → Nat → Nat → Nat → Nat → Nat → Res) E => j (E 0) (E 96) (E 288)) (fun _ _ _ _ _ => rfl) ?_
 intro n j E M nm I ni
 kernel_rfl
 intro j
 kernel_rfl
theorem e37 : FOkS Go.Proofs.Tryz.prog 201 37 g37 := fok2 fun call t0 t1 M nm I ni kf => by
 refine top_ok Go.Proofs.Tryz.func37 rfl rfl ?_
 kernel_rfl
theorem e338 : FOkS Go.Proofs.Tryz.prog 201 338 g338 := fok4 fun call t0 t1 t2 t3 M nm I ni kf => by
 refine top_ok Go.Proofs.Tryz.func338 rfl rfl ?_
 refine sq_ok (fun (j : Nat → Nat → Nat → Nat → Nat → Nat → Nat → Nat → Nat → Res) E => j (E 0) (E 96) (E 192) (E 288) (E 768)) ?_ ?_
 intro E M nm I ni
 refine bl_ok ?_
 refine lo_ok (fun (j : Nat → Nat → Nat → Nat → Nat → Nat → Nat → Nat → Nat → Res) E => j (E 0) (E 96) (E 192) (E 288) (E 768)) (fun _ _ _ _ _ => rfl) ?_
 intro n j E M nm I ni
 refine sq_ok (fun (j : Nat → Nat → Nat → Nat → Nat → Nat → Nat → Nat → Nat → Res) E => j (E 0) (E 96) (E 192) (E 288) (E 768)) ?_ ?_
 intro E M nm I ni
 refine sq_ok (fun (j : Nat → Nat → Nat → Nat → Nat → Nat → Nat → Nat → Nat → Res) E => j (E 0) (E 96) (E 192) (E 288) (E 768)) ?_ ?_
 intro E M nm I ni
 kernel_rfl
 intro j
 refine bl_ok ?_
 refine sq_ok (fun (j : Nat → Nat → Nat → Nat → Nat → Nat → Nat → Nat → Nat → Nat → Res) E => j (E 0) (E 96) (E 192) (E 288) (E 768) (E 864)) ?_ ?_
 intro E M nm I ni
 refine bl_ok ?_
 refine lo_ok (fun (j : Nat → Nat → Nat → Nat → Nat → Nat → Nat → Nat → Nat → Nat → Res) E => j (E 0) (E 96) (E 192) (E 288) (E 768) (E 864)) (fun _ _ _ _ _ => rfl) ?_
 intro n j E M nm I ni
 kernel_rfl
 intro j
 kernel_rfl
 intro j
 kernel_rfl
 intro j
 kernel_rfl
theorem e72 : FOkS Go.Proofs.Tryz.prog 201 72 g72 := fok2 fun call t0 t1 M nm I ni kf => by
 refine top_ok Go.Proofs.Tryz.func72 rfl rfl ?_
 refine sq_ok (fun (j : Nat → Nat → Nat → Nat → Nat → Nat → Nat → Res) E => j (E 96) (E 192) (E 384)) ?_ ?_
 intro E M nm I ni
 refine sq_ok (fun (j : Nat → Nat → Nat → Nat → Nat → Nat → Nat → Res) E => j (E 96) (E 192) (E 384)) ?_ ?_
 intro E M nm I ni
 refine sq_ok (fun (j : Nat → Nat → Nat → Nat → Nat → Nat → Nat → Nat → Res) E => j (E 96) (E 192) (E 384) (E 576)) ?_ ?_
 intro E M nm I ni
 refine sq_ok (fun (j : Nat → Nat → Nat → Nat → Nat → Nat → Nat → Nat → Res) E => j (E 96) (E 192) (E 384) (E 576)) ?_ ?_
 intro E M nm I ni
 kernel_rfl
 intro j
 kernel_rfl
 intro j
 kernel_rfl
 intro j
 kernel_rfl
 intro j
 kernel_rfl
theorem e396 : FOkS Go.Proofs.Tryz.prog 201 396 g396 := fok2 fun call t0 t1 M nm I ni kf => by
 refine top_ok Go.Proofs.Tryz.func396 rfl rfl ?_
 refine sq_ok (fun (j : Nat → Nat → Nat → Nat → Nat → Nat → Res) E => j (E 0) (E 96)) ?_ ?_
 intro E M nm I ni
 refine sq_ok (fun (j : Nat → Nat → Nat → Nat → Nat → Nat → Nat → Nat → Res) E => j (E 96) (E 1632) (E 1728) (E 1824)) ?_ ?_
 intro E M nm I ni
 refine bl_ok ?_
 refine lo_ok (fun (j : Nat → Nat → Nat → Nat → Nat → Nat → Nat → Nat → Res) E => j (E 96) (E 1632) (E 1728) (E 1824)) (fun _ _ _ _ _ => rfl) ?_
 intro n j E M nm I ni
 kernel_rfl
 intro j
 kernel_rfl
 intro j
 kernel_rfl
theorem e171 : FOkS Go.Proofs.Tryz.prog 201 171 g171 := fok1 fun call t0 M nm I ni kf => by
 refine top_ok Go.Proofs.Tryz.func171 rfl rfl ?_
 refine sq_ok (fun (j : Nat → Nat → Nat → Nat → Nat → Res) E => j (E 0)) ?_ ?_
 intro E M nm I ni
 refine sq_ok (fun (j : Nat → Nat → Nat → Nat → Nat → Res) E => j (E 0)) ?_ ?_
 intro E M nm I ni
 refine sq_ok (fun (j : Nat → Nat → Nat → Nat → Nat → Nat → Res) E => j (E 0) (E 288)) ?_ ?_
 intro E M nm I ni
 refine sq_ok (fun (j : Nat → Nat → Nat → Nat → Nat → Res) E => j (E 288)) ?_ ?_
 intro E M nm I ni
 kernel_rfl
 intro j
 refine sq_ok (fun (j : Nat → Nat → Nat → Nat → Nat → Nat → Nat → Res) E => j (E 0) (E 288) (E 384)) ?_ ?_
 intro E M nm I ni
 refine bl_ok ?_
 refine lo_ok (fun (j : Nat → Nat → Nat → Nat → Nat → Nat → Nat → Res) E => j (E 0) (E 288) (E 384)) (fun _ _ _ _ _ => rfl) ?_
 intro n j E M nm I ni
 kernel_rfl
 intro j
 kernel_rfl
 intro j
 kernel_rfl
 intro j
 kernel_rfl
 intro j
 kernel_rfl
theorem e124 : FOkS Go.Proofs.Tryz.prog 201 124 g124 := fok2 fun call t0 t1 M nm I ni kf => by
 refine top_ok Go.Proofs.Tryz.func124 rfl rfl ?_
 kernel_rfl
theorem e193 : FOkS Go.Proofs.Tryz.prog 201 193 g193 := fok4 fun call t0 t1 t2 t3 M nm I ni kf => by
 refine top_ok Go.Proofs.Tryz.func193 rfl rfl ?_
 refine sq_ok (fun (j : Nat → Nat → Nat → Nat → Nat → Nat → Nat → Nat → Nat → Res) E => j (E 0) (E 96) (E 192) (E 288) (E 768)) ?_ ?_
 intro E M nm I ni
 refine bl_ok ?_
 refine lo_ok (fun (j : Nat → Nat → Nat → Nat → Nat → Nat → Nat → Nat → Nat → Res) E => j (E 0) (E 96) (E 192) (E 288) (E 768)) (fun _ _ _ _ _ => rfl) ?_
 intro n j E M nm I ni
 refine sq_ok (fun (j : Nat → Nat → Nat → Nat → Nat → Nat → Nat → Nat → Nat → Res) E => j (E 0) (E 96) (E 192) (E 288) (E 768)) ?_ ?_
 intro E M nm I ni
 refine sq_ok (fun (j : Nat → Nat → Nat → Nat → Nat → Nat → Nat → Nat → Nat → Res) E => j (E 0) (E 96) (E 192) (E 288) (E 768)) ?_ ?_
 intro E M nm I ni
 kernel_rfl
 intro j
 refine bl_ok ?_
 refine sq_ok (fun (j : Nat → Nat → Nat → Nat → Nat → Nat → Nat → Nat → Nat → Nat → Res) E => j (E 0) (E 96) (E 192) (E 288) (E 768) (E 864)) ?_ ?_
 intro E M nm I ni
 refine bl_ok ?_
 refine lo_ok (fun (j : Nat → Nat → Nat → Nat → Nat → Nat → Nat → Nat → Nat → Nat → Res) E => j (E 0) (E 96) (E 192) (E 288) (E 768) (E 864)) (fun _ _ _ _ _ => rfl) ?_
 intro n j E M nm I ni
 kernel_rfl
 intro j
 kernel_rfl
 intro j
 kernel_rfl
 intro j
 kernel_rfl
theorem e126 : FOkS Go.Proofs.Tryz.prog 201 126 g126 := fok2 fun call t0 t1 M nm I ni kf => by
 refine top_ok Go.Proofs.Tryz.func126 rfl rfl ?_
 kernel_rfl
theorem e188 : FOkS Go.Proofs.Tryz.prog 201 188 g188 := fok5 fun call t0 t1 t2 t3 t4 M nm I ni kf => by
 refine top_ok Go.Proofs.Tryz.func188 rfl rfl ?_
 refine sq_ok (fun (j : Nat → Nat → Nat → Nat → Nat → Nat → Nat → Nat → Nat → Nat → Res) E => j (E 0) (E 96) (E 192) (E 288) (E 384) (E 960)) ?_ ?_
 intro E M nm I ni
 refine sq_ok (fun (j : Nat → Nat → Nat → Nat → Nat → Nat → Nat → Nat → Nat → Nat → Nat → Res) E => j (E 0) (E 96) (E 192) (E 288) (E 384) (E 960) (E 1056)) ?_ ?_
 intro E M nm I ni
 refine bl_ok ?_
 refine lo_ok (fun (j : Nat → Nat → Nat → Nat → Nat → Nat → Nat → Nat → Nat → Nat → Nat → Res) E => j (E 0) (E 96) (E 192) (E 288) (E 384) (E 960) (E 1056)) (fun _ _ _ _ _ => rfl) ?_
 intro n j E M nm I ni
 refine bl_ok ?_
 refine sq_ok (fun (j : Nat → Nat → Nat → Nat → Nat → Nat → Nat → Nat → Nat → Nat → Nat → Nat → Res) E => j (E 0) (E 96) (E 192) (E 288) (E 384) (E 960) (E 1056) (E 1152)) ?_ ?_
 intro E M nm I ni
 refine sq_ok (fun (j : Nat → Nat → Nat → Nat → Nat → Nat → Nat → Nat → Nat → Nat → Nat → Nat → Res) E => j (E 0) (E 96) (E 192) (E 288) (E 384) (E 960) (E 1056) (E 1152)) ?_ ?_
 intro E M nm I ni
 refine sq_ok (fun (j : Nat → Nat → Nat → Nat → Nat → Nat → Nat → Nat → Nat → Nat → Nat → Nat → Res) E => j (E 0) (E 96) (E 192) (E 288) (E 384) (E 960) (E 1056) (E 1152)) ?_ ?_
 intro E M nm I ni
 refine sq_ok (fun (j : Nat → Nat → Nat → Nat → Nat → Nat → Nat → Nat → Nat → Nat → Nat → Nat → Res) E => j (E 0) (E 96) (E 192) (E 288) (E 384) (E 960) (E 1056) (E 1152)) ?_ ?_
 intro E M nm I ni
 refine sq_ok (fun (j : Nat → Nat → Nat → Nat → Nat → Nat → Nat → Nat → Nat → Nat → Nat → Nat → Nat → Nat → Res) E => j (E 0) (E 96) (E 192) (E 288) (E 384) (E 960) (E 1056) (E 1152) (E 1248) (E 1344)) ?_ ?_
 intro E M nm I ni
 refine sq_ok (fun (j : Nat → Nat → Nat → Nat → Nat → Nat → Nat → Nat → Nat → Nat → Nat → Nat → Nat → Nat → Res) E => j (E 0) (E 96) (E 192) (E 288) (E 384) (E 960) (E 1056) (E 1152) (E 1248) (E 1344)) ?_ ?_
 intro E M nm I ni
 refine sq_ok (fun (j : Nat → Nat → Nat → Nat → Nat → Nat → Nat → Nat → Nat → Nat → Nat → Nat → Nat → Res) E => j (E 0) (E 96) (E 192) (E 288) (E 384) (E 960) (E 1056) (E 1152) (E 1248)) ?_ ?_
 intro E M nm I ni
 kernel_rfl
 intro j
 kernel_rfl
 intro j
 kernel_rfl
 intro j
 kernel_rfl
 intro j
 kernel_rfl
 intro j
 kernel_rfl
 intro j
 kernel_rfl
 intro j
 kernel_rfl
 intro j
 kernel_rfl
 intro j
 kernel_rfl
theorem e77 : FOkS Go.Proofs.Tryz.prog 201 77 g77 := fok1 fun call t0 M nm I ni kf => by
 refine top_ok Go.Proofs.Tryz.func77 rfl rfl ?_
 kernel_rfl
theorem e174 : FOkS Go.Proofs.Tryz.prog 201 174 g174 := fok2 fun call t0 t1 M nm I ni kf => by
 refine top_ok Go.Proofs.Tryz.func174 rfl rfl ?_
 kernel_rfl
theorem e20 : FOkS Go.Proofs.Tryz.prog 201 20 g20 := fok1 fun call t0 M nm I ni kf => by
 refine top_ok Go.Proofs.Tryz.func20 rfl rfl ?_
 kernel_rfl
theorem e173 : FOkS Go.Proofs.Tryz.prog 201 173 g173 := fok1 fun call t0 M nm I ni kf => by
 refine top_ok Go.Proofs.Tryz.func173 rfl rfl ?_
 kernel_rfl
theorem e192 : FOkS Go.Proofs.Tryz.prog 201 192 g192 := fok1 fun call t0 M nm I ni kf => by
 refine top_ok Go.Proofs.Tryz.func192 rfl rfl ?_
 kernel_rfl
theorem e176 : FOkS Go.Proofs.Tryz.prog 201 176 g176 := fok3 fun call t0 t1 t2 M nm I ni kf => by
 refine top_ok Go.Proofs.Tryz.func176 rfl rfl ?_
 kernel_rfl
theorem e119 : FOkS Go.Proofs.Tryz.prog 201 119 g119 := fok1 fun call t0 M nm I ni kf => by
 refine top_ok Go.Proofs.Tryz.func119 rfl rfl ?_
 kernel_rfl
end Go.Proofs.YtpjhkpmmbeoghaaGreat.Ev
