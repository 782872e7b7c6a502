/- Part 6 of a verified evaluator and the run that it reckons. -/
import Derived.Test.YtpjhkpmmbeoghaaGreatV05
set_option linter.unusedVariables false
set_option linter.unusedSimpArgs false
set_option maxRecDepth 100000
set_option linter.unusedVariables false
namespace Go.Proofs.YtpjhkpmmbeoghaaGreat.Ev
open Go
open Go.Proofs
theorem e104 : FOkS Go.Proofs.Tryz.prog 201 104 g104 := fok2 fun call t0 t1 M nm I ni kf => by
 refine top_ok Go.Proofs.Tryz.func104 rfl rfl ?_
 kernel_rfl
theorem e54 : FOkS Go.Proofs.Tryz.prog 201 54 g54 := fok2 fun call t0 t1 M nm I ni kf => by
 refine top_ok Go.Proofs.Tryz.func54 rfl rfl ?_
 refine sq_ok (fun (j : Nat → Nat → Nat → Nat → Nat → Nat → Res) E => j (E 0) (E 96)) ?_ ?_
 intro E M nm I ni
 refine sc_ok ?_
 refine sq_ok (fun (j : Nat → Nat → Nat → Nat → Nat → Nat → Nat → Res) E => j (E 0) (E 96) (E 576)) ?_ ?_
 intro E M nm I ni
 refine sq_ok (fun (j : Nat → Nat → Nat → Nat → Nat → Nat → Nat → Nat → Res) E => j (E 0) (E 96) (E 576) (E 672)) ?_ ?_
 intro E M nm I ni
 refine sq_ok (fun (j : Nat → Nat → Nat → Nat → Nat → Nat → Nat → Nat → Nat → Res) E => j (E 0) (E 96) (E 576) (E 672) (E 768)) ?_ ?_
 intro E M nm I ni
 refine sq_ok (fun (j : Nat → Nat → Nat → Nat → Nat → Nat → Nat → Nat → Nat → Nat → Nat → Res) E => j (E 0) (E 96) (E 576) (E 672) (E 768) (E 864) (E 960)) ?_ ?_
 intro E M nm I ni
 refine sq_ok (fun (j : Nat → Nat → Nat → Nat → Nat → Nat → Nat → Nat → Nat → Nat → Res) E => j (E 0) (E 576) (E 672) (E 768) (E 864) (E 960)) ?_ ?_
 intro E M nm I ni
 refine sq_ok (fun (j : Nat → Nat → Nat → Nat → Nat → Nat → Nat → Nat → Nat → Nat → Res) E => j (E 0) (E 576) (E 672) (E 768) (E 864) (E 960)) ?_ ?_
 intro E M nm I ni
 refine sq_ok (fun (j : Nat → Nat → Nat → Nat → Nat → Nat → Res) E => j (E 576) (E 864)) ?_ ?_
 intro E M nm I ni
 kernel_rfl
 intro j
 refine bl_ok ?_
 refine lo_ok (fun (j : Nat → Nat → Nat → Nat → Nat → Nat → Nat → Nat → Nat → Nat → Res) E => j (E 0) (E 576) (E 672) (E 768) (E 864) (E 960)) (fun _ _ _ _ _ => rfl) ?_
 intro n j E M nm I ni
 refine sq_ok (fun (j : Nat → Nat → Nat → Nat → Nat → Nat → Nat → Nat → Nat → Nat → Res) E => j (E 0) (E 576) (E 672) (E 768) (E 864) (E 960)) ?_ ?_
 intro E M nm I ni
 refine bl_ok ?_
 refine sq_ok (fun (j : Nat → Nat → Nat → Nat → Nat → Nat → Nat → Nat → Nat → Nat → Nat → Res) E => j (E 0) (E 576) (E 672) (E 768) (E 864) (E 960) (E 1056)) ?_ ?_
 intro E M nm I ni
 refine sq_ok (fun (j : Nat → Nat → Nat → Nat → Nat → Nat → Nat → Nat → Nat → Nat → Res) E => j (E 0) (E 576) (E 672) (E 768) (E 864) (E 960)) ?_ ?_
 intro E M nm I ni
 kernel_rfl
 intro j
 refine bl_ok ?_
 refine lo_ok (fun (j : Nat → Nat → Nat → Nat → Nat → Nat → Nat → Nat → Nat → Nat → Nat → Res) E => j (E 0) (E 576) (E 672) (E 768) (E 864) (E 960) (E 1056)) (fun _ _ _ _ _ => rfl) ?_
 intro n j E M nm I ni
 refine sq_ok (fun (j : Nat → Nat → Nat → Nat → Nat → Nat → Nat → Nat → Nat → Nat → Nat → Res) E => j (E 0) (E 576) (E 672) (E 768) (E 864) (E 960) (E 1056)) ?_ ?_
 intro E M nm I ni
 kernel_rfl
 intro j
 kernel_rfl
 intro j
 kernel_rfl
 intro j
 kernel_rfl
 intro j
 kernel_rfl
 intro j
 kernel_rfl
 intro j
 kernel_rfl
 intro j
 kernel_rfl
 intro j
 kernel_rfl
 intro j
 kernel_rfl
 intro j
 kernel_rfl
theorem e118 : FOkS Go.Proofs.Tryz.prog 201 118 g118 := fok1 fun call t0 M nm I ni kf => by
 refine top_ok Go.Proofs.Tryz.func118 rfl rfl ?_
 kernel_rfl
theorem e129 : FOkS Go.Proofs.Tryz.prog 201 129 g129 := fok3 fun call t0 t1 t2 M nm I ni kf => by
 refine top_ok Go.Proofs.Tryz.func129 rfl rfl ?_
 refine sq_ok (fun (j : Nat → Nat → Nat → Nat → Nat → Nat → Nat → Nat → Res) E => j (E 0) (E 96) (E 192) (E 576)) ?_ ?_
 intro E M nm I ni
 refine bl_ok ?_
 refine lo_ok (fun (j : Nat → Nat → Nat → Nat → Nat → Nat → Nat → Nat → Res) E => j (E 0) (E 96) (E 192) (E 576)) (fun _ _ _ _ _ => rfl) ?_
 intro n j E M nm I ni
 refine sq_ok (fun (j : Nat → Nat → Nat → Nat → Nat → Nat → Nat → Nat → Res) E => j (E 0) (E 96) (E 192) (E 576)) ?_ ?_
 intro E M nm I ni
 refine sq_ok (fun (j : Nat → Nat → Nat → Nat → Nat → Nat → Nat → Nat → Res) E => j (E 0) (E 96) (E 192) (E 576)) ?_ ?_
 intro E M nm I ni
 kernel_rfl
 intro j
 refine bl_ok ?_
 refine sq_ok (fun (j : Nat → Nat → Nat → Nat → Nat → Nat → Nat → Nat → Nat → Res) E => j (E 0) (E 96) (E 192) (E 576) (E 672)) ?_ ?_
 intro E M nm I ni
 refine bl_ok ?_
 refine lo_ok (fun (j : Nat → Nat → Nat → Nat → Nat → Nat → Nat → Nat → Nat → Res) E => j (E 0) (E 96) (E 192) (E 576) (E 672)) (fun _ _ _ _ _ => rfl) ?_
 intro n j E M nm I ni
 kernel_rfl
 intro j
 kernel_rfl
 intro j
 kernel_rfl
 intro j
 kernel_rfl
theorem e106 : FOkS Go.Proofs.Tryz.prog 201 106 g106 := fok1 fun call t0 M nm I ni kf => by
 refine top_ok Go.Proofs.Tryz.func106 rfl rfl ?_
 refine sq_ok (fun (j : Nat → Nat → Nat → Nat → Nat → Nat → Res) E => j (E 0) (E 192)) ?_ ?_
 intro E M nm I ni
 refine sq_ok (fun (j : Nat → Nat → Nat → Nat → Nat → Nat → Res) E => j (E 0) (E 192)) ?_ ?_
 intro E M nm I ni
 refine sq_ok (fun (j : Nat → Nat → Nat → Nat → Nat → Nat → Res) E => j (E 0) (E 192)) ?_ ?_
 intro E M nm I ni
 refine sq_ok (fun (j : Nat → Nat → Nat → Nat → Nat → Nat → Res) E => j (E 0) (E 192)) ?_ ?_
 intro E M nm I ni
 kernel_rfl
 intro j
 kernel_rfl
 intro j
 kernel_rfl
 intro j
 kernel_rfl
 intro j
 kernel_rfl
theorem e91 : FOkS Go.Proofs.Tryz.prog 201 91 g91 := fok2 fun call t0 t1 M nm I ni kf => by
 refine top_ok Go.Proofs.Tryz.func91 rfl rfl ?_
 kernel_rfl
theorem e30 : FOkS Go.Proofs.Tryz.prog 201 30 g30 := fok1 fun call t0 M nm I ni kf => by
 refine top_ok Go.Proofs.Tryz.func30 rfl rfl ?_
 refine sq_ok (fun (j : Nat → Nat → Nat → Nat → Nat → Res) E => j (E 96)) ?_ ?_
 intro E M nm I ni
 refine sq_ok (fun (j : Nat → Nat → Nat → Nat → Nat → Nat → Nat → Res) E => j (E 96) (E 288) (E 384)) ?_ ?_
 intro E M nm I ni
 refine sq_ok (fun (j : Nat → Nat → Nat → Nat → Nat → Nat → Res) E => j (E 96) (E 288)) ?_ ?_
 intro E M nm I ni
 refine sq_ok (fun (j : Nat → Nat → Nat → Nat → Nat → Nat → Nat → Res) E => j (E 96) (E 288) (E 480)) ?_ ?_
 intro E M nm I ni
 refine sq_ok (fun (j : Nat → Nat → Nat → Nat → Nat → Nat → Nat → Nat → Res) E => j (E 96) (E 288) (E 480) (E 576)) ?_ ?_
 intro E M nm I ni
 refine sq_ok (fun (j : Nat → Nat → Nat → Nat → Nat → Res) E => j (E 480)) ?_ ?_
 intro E M nm I ni
 kernel_rfl
 intro j
 refine sq_ok (fun (j : Nat → Nat → Nat → Nat → Nat → Nat → Nat → Nat → Nat → Res) E => j (E 288) (E 480) (E 576) (E 2304) (E 2400)) ?_ ?_
 intro E M nm I ni
 refine bl_ok ?_
 refine lo_ok (fun (j : Nat → Nat → Nat → Nat → Nat → Nat → Nat → Nat → Nat → Res) E => j (E 288) (E 480) (E 576) (E 2304) (E 2400)) (fun _ _ _ _ _ => rfl) ?_
 intro n j E M nm I ni
 refine sq_ok (fun (j : Nat → Nat → Nat → Nat → Nat → Nat → Nat → Nat → Nat → Nat → Res) E => j (E 288) (E 480) (E 576) (E 2304) (E 2400) (E 2496)) ?_ ?_
 intro E M nm I ni
 refine sq_ok (fun (j : Nat → Nat → Nat → Nat → Nat → Nat → Nat → Nat → Nat → Res) E => j (E 288) (E 480) (E 576) (E 2304) (E 2400)) ?_ ?_
 intro E M nm I ni
 refine sq_ok (fun (j : Nat → Nat → Nat → Nat → Nat → Nat → Nat → Nat → Nat → Res) E => j (E 288) (E 480) (E 576) (E 2304) (E 2400)) ?_ ?_
 intro E M nm I ni
 kernel_rfl
 intro j
 refine bl_ok ?_
 refine sq_ok (fun (j : Nat → Nat → Nat → Nat → Nat → Nat → Nat → Nat → Nat → Nat → Res) E => j (E 288) (E 480) (E 576) (E 672) (E 2304) (E 2400)) ?_ ?_
 intro E M nm I ni
 refine sq_ok (fun (j : Nat → Nat → Nat → Nat → Nat → Nat → Nat → Nat → Nat → Nat → Res) E => j (E 288) (E 480) (E 576) (E 672) (E 2304) (E 2400)) ?_ ?_
 intro E M nm I ni
 refine sq_ok (fun (j : Nat → Nat → Nat → Nat → Nat → Nat → Nat → Nat → Nat → Nat → Res) E => j (E 288) (E 480) (E 576) (E 768) (E 2304) (E 2400)) ?_ ?_
 intro E M nm I ni
 refine sq_ok (fun (j : Nat → Nat → Nat → Nat → Nat → Nat → Nat → Nat → Nat → Nat → Res) E => j (E 288) (E 480) (E 576) (E 768) (E 2304) (E 2400)) ?_ ?_
 intro E M nm I ni
 kernel_rfl
 intro j
 refine sq_ok (fun (j : Nat → Nat → Nat → Nat → Nat → Nat → Nat → Nat → Nat → Nat → Nat → Nat → Nat → Res) E => j (E 288) (E 480) (E 576) (E 768) (E 2304) (E 2400) (E 3648) (E 3744) (E 3840)) ?_ ?_
 intro E M nm I ni
 refine bl_ok ?_
 refine lo_ok (fun (j : Nat → Nat → Nat → Nat → Nat → Nat → Nat → Nat → Nat → Nat → Nat → Nat → Nat → Res) E => j (E 288) (E 480) (E 576) (E 768) (E 2304) (E 2400) (E 3648) (E 3744) (E 3840)) (fun _ _ _ _ _ => rfl) ?_
 intro n j E M nm I ni
 kernel_rfl
 intro j
 kernel_rfl
 intro j
 kernel_rfl
 intro j
 kernel_rfl
 intro j
 kernel_rfl
 intro j
 kernel_rfl
 intro j
 kernel_rfl
 intro j
 kernel_rfl
 intro j
 kernel_rfl
 intro j
 kernel_rfl
 intro j
 kernel_rfl
 intro j
 kernel_rfl
 intro j
 kernel_rfl
theorem e185 : FOkS Go.Proofs.Tryz.prog 201 185 g185 := fok1 fun call t0 M nm I ni kf => by
 refine top_ok Go.Proofs.Tryz.func185 rfl rfl ?_
 refine sq_ok (fun (j : Nat → Nat → Nat → Nat → Nat → Nat → Res) E => j (E 96) (E 192)) ?_ ?_
 intro E M nm I ni
 refine sq_ok (fun (j : Nat → Nat → Nat → Nat → Nat → Nat → Nat → Res) E => j (E 96) (E 192) (E 384)) ?_ ?_
 intro E M nm I ni
 refine sq_ok (fun (j : Nat → Nat → Nat → Nat → Nat → Nat → Nat → Res) E => j (E 96) (E 192) (E 384)) ?_ ?_
 intro E M nm I ni
 refine sq_ok (fun (j : Nat → Nat → Nat → Nat → Nat → Nat → Nat → Nat → Res) E => j (E 96) (E 192) (E 384) (E 480)) ?_ ?_
 intro E M nm I ni
 refine sq_ok (fun (j : Nat → Nat → Nat → Nat → Nat → Nat → Nat → Nat → Res) E => j (E 96) (E 192) (E 384) (E 480)) ?_ ?_
 intro E M nm I ni
 refine sq_ok (fun (j : Nat → Nat → Nat → Nat → Nat → Nat → Nat → Nat → Nat → Res) E => j (E 96) (E 192) (E 384) (E 480) (E 960)) ?_ ?_
 intro E M nm I ni
 refine sq_ok (fun (j : Nat → Nat → Nat → Nat → Nat → Nat → Nat → Nat → Nat → Nat → Res) E => j (E 96) (E 192) (E 384) (E 480) (E 960) (E 1056)) ?_ ?_
 intro E M nm I ni
 refine sq_ok (fun (j : Nat → Nat → Nat → Nat → Nat → Nat → Nat → Nat → Nat → Res) E => j (E 192) (E 384) (E 480) (E 960) (E 1056)) ?_ ?_
 intro E M nm I ni
 refine sq_ok (fun (j : Nat → Nat → Nat → Nat → Nat → Nat → Nat → Nat → Nat → Res) E => j (E 192) (E 384) (E 480) (E 960) (E 1056)) ?_ ?_
 intro E M nm I ni
 refine sq_ok (fun (j : Nat → Nat → Nat → Nat → Nat → Nat → Nat → Nat → Nat → Res) E => j (E 192) (E 384) (E 480) (E 960) (E 1152)) ?_ ?_
 intro E M nm I ni
 refine sq_ok (fun (j : Nat → Nat → Nat → Nat → Nat → Nat → Nat → Nat → Res) E => j (E 192) (E 384) (E 480) (E 1152)) ?_ ?_
 intro E M nm I ni
 kernel_rfl
 intro j
 refine sq_ok (fun (j : Nat → Nat → Nat → Nat → Nat → Nat → Nat → Nat → Nat → Nat → Res) E => j (E 192) (E 384) (E 480) (E 960) (E 1152) (E 1248)) ?_ ?_
 intro E M nm I ni
 refine bl_ok ?_
 refine lo_ok (fun (j : Nat → Nat → Nat → Nat → Nat → Nat → Nat → Nat → Nat → Nat → Res) E => j (E 192) (E 384) (E 480) (E 960) (E 1152) (E 1248)) (fun _ _ _ _ _ => rfl) ?_
 intro n j E M nm I ni
 refine sq_ok (fun (j : Nat → Nat → Nat → Nat → Nat → Nat → Nat → Nat → Nat → Nat → Res) E => j (E 192) (E 384) (E 480) (E 960) (E 1152) (E 1248)) ?_ ?_
 intro E M nm I ni
 refine sq_ok (fun (j : Nat → Nat → Nat → Nat → Nat → Nat → Nat → Nat → Nat → Nat → Res) E => j (E 192) (E 384) (E 480) (E 960) (E 1152) (E 1248)) ?_ ?_
 intro E M nm I ni
 kernel_rfl
 intro j
 refine bl_ok ?_
 refine sq_ok (fun (j : Nat → Nat → Nat → Nat → Nat → Nat → Nat → Nat → Nat → Nat → Nat → Res) E => j (E 192) (E 384) (E 480) (E 960) (E 1152) (E 1248) (E 1344)) ?_ ?_
 intro E M nm I ni
 refine sq_ok (fun (j : Nat → Nat → Nat → Nat → Nat → Nat → Nat → Nat → Nat → Nat → Nat → Nat → Nat → Nat → Res) E => j (E 192) (E 384) (E 480) (E 960) (E 1152) (E 1248) (E 1344) (E 13440) (E 13536) (E 13632)) ?_ ?_
 intro E M nm I ni
 refine bl_ok ?_
 refine lo_ok (fun (j : Nat → Nat → Nat → Nat → Nat → Nat → Nat → Nat → Nat → Nat → Nat → Nat → Nat → Nat → Res) E => j (E 192) (E 384) (E 480) (E 960) (E 1152) (E 1248) (E 1344) (E 13440) (E 13536) (E 13632)) (fun _ _ _ _ _ => rfl) ?_
 intro n j E M nm I ni
 kernel_rfl
 intro j
 kernel_rfl
 intro j
 kernel_rfl
 intro j
 kernel_rfl
 intro j
 kernel_rfl
 intro j
 kernel_rfl
 intro j
 kernel_rfl
 intro j
 kernel_rfl
 intro j
 kernel_rfl
 intro j
 kernel_rfl
 intro j
 refine sq_ok (fun (j : Nat → Nat → Nat → Nat → Nat → Nat → Nat → Nat → Nat → Nat → Nat → Res) E => j (E 96) (E 192) (E 384) (E 480) (E 4320) (E 4416) (E 4512)) ?_ ?_
 intro E M nm I ni
 refine bl_ok ?_
 refine lo_ok (fun (j : Nat → Nat → Nat → Nat → Nat → Nat → Nat → Nat → Nat → Nat → Nat → Res) E => j (E 96) (E 192) (E 384) (E 480) (E 4320) (E 4416) (E 4512)) (fun _ _ _ _ _ => rfl) ?_
 intro n j E M nm I ni
 refine sq_ok (fun (j : Nat → Nat → Nat → Nat → Nat → Nat → Nat → Nat → Nat → Nat → Nat → Nat → Res) E => j (E 96) (E 192) (E 384) (E 480) (E 4320) (E 4416) (E 4512) (E 4608)) ?_ ?_
 intro E M nm I ni
 refine sq_ok (fun (j : Nat → Nat → Nat → Nat → Nat → Nat → Nat → Nat → Nat → Nat → Nat → Res) E => j (E 96) (E 192) (E 384) (E 480) (E 4320) (E 4416) (E 4512)) ?_ ?_
 intro E M nm I ni
 refine sq_ok (fun (j : Nat → Nat → Nat → Nat → Nat → Nat → Nat → Nat → Nat → Nat → Nat → Res) E => j (E 96) (E 192) (E 384) (E 480) (E 4320) (E 4416) (E 4512)) ?_ ?_
 intro E M nm I ni
 kernel_rfl
 intro j
 refine bl_ok ?_
 refine sq_ok (fun (j : Nat → Nat → Nat → Nat → Nat → Nat → Nat → Nat → Nat → Nat → Nat → Nat → Res) E => j (E 96) (E 192) (E 384) (E 480) (E 672) (E 4320) (E 4416) (E 4512)) ?_ ?_
 intro E M nm I ni
 refine sq_ok (fun (j : Nat → Nat → Nat → Nat → Nat → Nat → Nat → Nat → Nat → Nat → Nat → Nat → Nat → Res) E => j (E 96) (E 192) (E 384) (E 480) (E 768) (E 864) (E 4320) (E 4416) (E 4512)) ?_ ?_
 intro E M nm I ni
 refine sq_ok (fun (j : Nat → Nat → Nat → Nat → Nat → Nat → Nat → Nat → Nat → Nat → Nat → Nat → Nat → Res) E => j (E 96) (E 192) (E 384) (E 480) (E 768) (E 864) (E 4320) (E 4416) (E 4512)) ?_ ?_
 intro E M nm I ni
 kernel_rfl
 intro j
 kernel_rfl
 intro j
 kernel_rfl
 intro j
 kernel_rfl
 intro j
 kernel_rfl
 intro j
 kernel_rfl
 intro j
 kernel_rfl
 intro j
 kernel_rfl
 intro j
 kernel_rfl
 intro j
 kernel_rfl
 intro j
 kernel_rfl
theorem e229 : FOkS Go.Proofs.Tryz.prog 201 229 g229 := fok1 fun call t0 M nm I ni kf => by
 refine top_ok Go.Proofs.Tryz.func229 rfl rfl ?_
 refine sq_ok (fun (j : Nat → Nat → Nat → Nat → Nat → Res) E => j (E 0)) ?_ ?_
 intro E M nm I ni
 refine sq_ok (fun (j : Nat → Nat → Nat → Nat → Nat → Nat → Res) E => j (E 0) (E 288)) ?_ ?_
 intro E M nm I ni
 refine sq_ok (fun (j : Nat → Nat → Nat → Nat → Nat → Res) E => j (E 288)) ?_ ?_
 intro E M nm I ni
 kernel_rfl
 intro j
 refine sq_ok (fun (j : Nat → Nat → Nat → Nat → Nat → Nat → Nat → Nat → Res) E => j (E 288) (E 576) (E 672) (E 768)) ?_ ?_
 intro E M nm I ni
 refine bl_ok ?_
 refine lo_ok (fun (j : Nat → Nat → Nat → Nat → Nat → Nat → Nat → Nat → Res) E => j (E 288) (E 576) (E 672) (E 768)) (fun _ _ _ _ _ => rfl) ?_
 intro n j E M nm I ni
 kernel_rfl
 intro j
 kernel_rfl
 intro j
 kernel_rfl
 intro j
 kernel_rfl
theorem e62 : FOkS Go.Proofs.Tryz.prog 201 62 g62 := fok2 fun call t0 t1 M nm I ni kf => by
 refine top_ok Go.Proofs.Tryz.func62 rfl rfl ?_
 refine sq_ok (fun (j : Nat → Nat → Nat → Nat → Nat → Nat → Nat → Res) E => j (E 96) (E 192) (E 384)) ?_ ?_
 intro E M nm I ni
 kernel_rfl
 intro j
 kernel_rfl
theorem e71 : FOkS Go.Proofs.Tryz.prog 201 71 g71 := fok2 fun call t0 t1 M nm I ni kf => by
 refine top_ok Go.Proofs.Tryz.func71 rfl rfl ?_
 refine sq_ok (fun (j : Nat → Nat → Nat → Nat → Nat → Nat → Res) E => j (E 96) (E 192)) ?_ ?_
 intro E M nm I ni
 refine sq_ok (fun (j : Nat → Nat → Nat → Nat → Nat → Nat → Nat → Res) E => j (E 96) (E 192) (E 480)) ?_ ?_
 intro E M nm I ni
 refine sq_ok (fun (j : Nat → Nat → Nat → Nat → Nat → Nat → Nat → Nat → Res) E => j (E 96) (E 192) (E 480) (E 576)) ?_ ?_
 intro E M nm I ni
 refine sq_ok (fun (j : Nat → Nat → Nat → Nat → Nat → Nat → Nat → Nat → Nat → Res) E => j (E 96) (E 192) (E 480) (E 576) (E 672)) ?_ ?_
 intro E M nm I ni
 refine sq_ok (fun (j : Nat → Nat → Nat → Nat → Nat → Nat → Nat → Nat → Res) E => j (E 192) (E 480) (E 576) (E 672)) ?_ ?_
 intro E M nm I ni
 refine sq_ok (fun (j : Nat → Nat → Nat → Nat → Nat → Res) E => j (E 480)) ?_ ?_
 intro E M nm I ni
 kernel_rfl
 intro j
 refine sq_ok (fun (j : Nat → Nat → Nat → Nat → Nat → Nat → Nat → Nat → Nat → Nat → Res) E => j (E 480) (E 576) (E 672) (E 6240) (E 6336) (E 6432)) ?_ ?_
 intro E M nm I ni
 refine bl_ok ?_
 refine lo_ok (fun (j : Nat → Nat → Nat → Nat → Nat → Nat → Nat → Nat → Nat → Nat → Res) E => j (E 480) (E 576) (E 672) (E 6240) (E 6336) (E 6432)) (fun _ _ _ _ _ => rfl) ?_
 intro n j E M nm I ni
 kernel_rfl
 intro j
 kernel_rfl
 intro j
 refine sq_ok (fun (j : Nat → Nat → Nat → Nat → Nat → Nat → Nat → Nat → Nat → Nat → Nat → Nat → Res) E => j (E 96) (E 192) (E 480) (E 576) (E 672) (E 2208) (E 2304) (E 2400)) ?_ ?_
 intro E M nm I ni
 refine bl_ok ?_
 refine lo_ok (fun (j : Nat → Nat → Nat → Nat → Nat → Nat → Nat → Nat → Nat → Nat → Nat → Nat → Res) E => j (E 96) (E 192) (E 480) (E 576) (E 672) (E 2208) (E 2304) (E 2400)) (fun _ _ _ _ _ => rfl) ?_
 intro n j E M nm I ni
 refine sq_ok (fun (j : Nat → Nat → Nat → Nat → Nat → Nat → Nat → Nat → Nat → Nat → Nat → Nat → Nat → Res) E => j (E 96) (E 192) (E 480) (E 576) (E 672) (E 2208) (E 2304) (E 2400) (E 2496)) ?_ ?_
 intro E M nm I ni
 refine sq_ok (fun (j : Nat → Nat → Nat → Nat → Nat → Nat → Nat → Nat → Nat → Nat → Nat → Nat → Res) E => j (E 96) (E 192) (E 480) (E 576) (E 672) (E 2208) (E 2304) (E 2400)) ?_ ?_
 intro E M nm I ni
 refine sq_ok (fun (j : Nat → Nat → Nat → Nat → Nat → Nat → Nat → Nat → Nat → Nat → Nat → Nat → Res) E => j (E 96) (E 192) (E 480) (E 576) (E 672) (E 2208) (E 2304) (E 2400)) ?_ ?_
 intro E M nm I ni
 kernel_rfl
 intro j
 refine bl_ok ?_
 refine sq_ok (fun (j : Nat → Nat → Nat → Nat → Nat → Nat → Nat → Nat → Nat → Nat → Nat → Nat → Nat → Nat → Res) E => j (E 96) (E 192) (E 480) (E 576) (E 672) (E 768) (E 864) (E 2208) (E 2304) (E 2400)) ?_ ?_
 intro E M nm I ni
 refine sq_ok (fun (j : Nat → Nat → Nat → Nat → Nat → Nat → Nat → Nat → Nat → Nat → Nat → Nat → Nat → Nat → Nat → Res) E => j (E 96) (E 192) (E 480) (E 576) (E 672) (E 768) (E 864) (E 960) (E 2208) (E 2304) (E 2400)) ?_ ?_
 intro E M nm I ni
 refine sq_ok (fun (j : Nat → Nat → Nat → Nat → Nat → Nat → Nat → Nat → Nat → Nat → Nat → Nat → Nat → Res) E => j (E 96) (E 192) (E 480) (E 576) (E 672) (E 960) (E 2208) (E 2304) (E 2400)) ?_ ?_
 intro E M nm I ni
 kernel_rfl
 intro j
 refine sq_ok (fun (j : Nat → Nat → Nat → Nat → Nat → Nat → Nat → Nat → Nat → Nat → Nat → Nat → Nat → Nat → Nat → Nat → Nat → Res) E => j (E 96) (E 192) (E 480) (E 576) (E 672) (E 768) (E 960) (E 2208) (E 2304) (E 2400) (E 3360) (E 3456) (E 3552)) ?_ ?_
 intro E M nm I ni
 refine bl_ok ?_
 refine lo_ok (fun (j : Nat → Nat → Nat → Nat → Nat → Nat → Nat → Nat → Nat → Nat → Nat → Nat → Nat → Nat → Nat → Nat → Nat → Res) E => j (E 96) (E 192) (E 480) (E 576) (E 672) (E 768) (E 960) (E 2208) (E 2304) (E 2400) (E 3360) (E 3456) (E 3552)) (fun _ _ _ _ _ => rfl) ?_
 intro n j E M nm I ni
 kernel_rfl
 intro j
 kernel_rfl
 intro j
 kernel_rfl
 intro j
 kernel_rfl
 intro j
 kernel_rfl
 intro j
 kernel_rfl
 intro j
 kernel_rfl
 intro j
 kernel_rfl
 intro j
 kernel_rfl
 intro j
 kernel_rfl
 intro j
 kernel_rfl
theorem e90 : FOkS Go.Proofs.Tryz.prog 201 90 g90 := fok4 fun call t0 t1 t2 t3 M nm I ni kf => by
 refine top_ok Go.Proofs.Tryz.func90 rfl rfl ?_
 refine sq_ok (fun (j : Nat → Nat → Nat → Nat → Nat → Nat → Nat → Nat → Nat → Res) E => j (E 0) (E 96) (E 192) (E 288) (E 768)) ?_ ?_
 intro E M nm I ni
 refine sq_ok (fun (j : Nat → Nat → Nat → Nat → Nat → Nat → Nat → Nat → Nat → Nat → Res) E => j (E 0) (E 96) (E 192) (E 288) (E 768) (E 864)) ?_ ?_
 intro E M nm I ni
 refine bl_ok ?_
 refine lo_ok (fun (j : Nat → Nat → Nat → Nat → Nat → Nat → Nat → Nat → Nat → Nat → Res) E => j (E 0) (E 96) (E 192) (E 288) (E 768) (E 864)) (fun _ _ _ _ _ => rfl) ?_
 intro n j E M nm I ni
 refine bl_ok ?_
 refine sq_ok (fun (j : Nat → Nat → Nat → Nat → Nat → Nat → Nat → Nat → Nat → Nat → Nat → Res) E => j (E 0) (E 96) (E 192) (E 288) (E 768) (E 864) (E 960)) ?_ ?_
 intro E M nm I ni
 refine sq_ok (fun (j : Nat → Nat → Nat → Nat → Nat → Nat → Nat → Nat → Nat → Nat → Nat → Res) E => j (E 0) (E 96) (E 192) (E 288) (E 768) (E 864) (E 960)) ?_ ?_
 intro E M nm I ni
 refine sq_ok (fun (j : Nat → Nat → Nat → Nat → Nat → Nat → Nat → Nat → Nat → Nat → Nat → Res) E => j (E 0) (E 96) (E 192) (E 288) (E 768) (E 864) (E 960)) ?_ ?_
 intro E M nm I ni
 refine sq_ok (fun (j : Nat → Nat → Nat → Nat → Nat → Nat → Nat → Nat → Nat → Nat → Nat → Res) E => j (E 0) (E 96) (E 192) (E 288) (E 768) (E 864) (E 960)) ?_ ?_
 intro E M nm I ni
 refine sq_ok (fun (j : Nat → Nat → Nat → Nat → Nat → Nat → Nat → Nat → Nat → Nat → Nat → Nat → Nat → Res) E => j (E 0) (E 96) (E 192) (E 288) (E 768) (E 864) (E 960) (E 1056) (E 1152)) ?_ ?_
 intro E M nm I ni
 refine sq_ok (fun (j : Nat → Nat → Nat → Nat → Nat → Nat → Nat → Nat → Nat → Nat → Nat → Nat → Nat → Res) E => j (E 0) (E 96) (E 192) (E 288) (E 768) (E 864) (E 960) (E 1056) (E 1152)) ?_ ?_
 intro E M nm I ni
 refine sq_ok (fun (j : Nat → Nat → Nat → Nat → Nat → Nat → Nat → Nat → Nat → Nat → Nat → Nat → Res) E => j (E 0) (E 96) (E 192) (E 288) (E 768) (E 864) (E 960) (E 1056)) ?_ ?_
 intro E M nm I ni
 kernel_rfl
 intro j
 kernel_rfl
 intro j
 kernel_rfl
 intro j
 kernel_rfl
 intro j
 kernel_rfl
 intro j
 kernel_rfl
 intro j
 kernel_rfl
 intro j
 kernel_rfl
 intro j
 kernel_rfl
 intro j
 kernel_rfl
theorem e232 : FOkS Go.Proofs.Tryz.prog 201 232 g232 := fok3 fun call t0 t1 t2 M nm I ni kf => by
 refine top_ok Go.Proofs.Tryz.func232 rfl rfl ?_
 refine sq_ok (fun (j : Nat → Nat → Nat → Nat → Nat → Nat → Nat → Res) E => j (E 0) (E 96) (E 192)) ?_ ?_
 intro E M nm I ni
 refine sq_ok (fun (j : Nat → Nat → Nat → Nat → Nat → Nat → Nat → Res) E => j (E 0) (E 96) (E 192)) ?_ ?_
 intro E M nm I ni
 refine sq_ok (fun (j : Nat → Nat → Nat → Nat → Nat → Nat → Nat → Nat → Res) E => j (E 0) (E 96) (E 192) (E 768)) ?_ ?_
 intro E M nm I ni
 refine sq_ok (fun (j : Nat → Nat → Nat → Nat → Nat → Nat → Nat → Nat → Nat → Res) E => j (E 0) (E 96) (E 192) (E 768) (E 864)) ?_ ?_
 intro E M nm I ni
 refine sq_ok (fun (j : Nat → Nat → Nat → Nat → Nat → Nat → Nat → Nat → Res) E => j (E 0) (E 96) (E 768) (E 864)) ?_ ?_
 intro E M nm I ni
 refine sq_ok (fun (j : Nat → Nat → Nat → Nat → Nat → Nat → Nat → Nat → Res) E => j (E 0) (E 96) (E 768) (E 864)) ?_ ?_
 intro E M nm I ni
 refine sq_ok (fun (j : Nat → Nat → Nat → Nat → Nat → Nat → Nat → Nat → Nat → Res) E => j (E 0) (E 96) (E 768) (E 864) (E 1344)) ?_ ?_
 intro E M nm I ni
 refine sq_ok (fun (j : Nat → Nat → Nat → Nat → Nat → Nat → Nat → Res) E => j (E 96) (E 864) (E 1344)) ?_ ?_
 intro E M nm I ni
 kernel_rfl
 intro j
 refine sq_ok (fun (j : Nat → Nat → Nat → Nat → Nat → Nat → Nat → Nat → Nat → Nat → Nat → Res) E => j (E 96) (E 768) (E 864) (E 1344) (E 5472) (E 5568) (E 5664)) ?_ ?_
 intro E M nm I ni
 refine bl_ok ?_
 refine lo_ok (fun (j : Nat → Nat → Nat → Nat → Nat → Nat → Nat → Nat → Nat → Nat → Nat → Res) E => j (E 96) (E 768) (E 864) (E 1344) (E 5472) (E 5568) (E 5664)) (fun _ _ _ _ _ => rfl) ?_
 intro n j E M nm I ni
 kernel_rfl
 intro j
 kernel_rfl
 intro j
 kernel_rfl
 intro j
 kernel_rfl
 intro j
 refine sq_ok (fun (j : Nat → Nat → Nat → Nat → Nat → Nat → Nat → Nat → Nat → Nat → Nat → Res) E => j (E 0) (E 96) (E 768) (E 864) (E 2880) (E 2976) (E 3072)) ?_ ?_
 intro E M nm I ni
 refine bl_ok ?_
 refine lo_ok (fun (j : Nat → Nat → Nat → Nat → Nat → Nat → Nat → Nat → Nat → Nat → Nat → Res) E => j (E 0) (E 96) (E 768) (E 864) (E 2880) (E 2976) (E 3072)) (fun _ _ _ _ _ => rfl) ?_
 intro n j E M nm I ni
 kernel_rfl
 intro j
 kernel_rfl
 intro j
 kernel_rfl
 intro j
 kernel_rfl
 intro j
 kernel_rfl
 intro j
 kernel_rfl
theorem e144 : FOkS Go.Proofs.Tryz.prog 201 144 g144 := fok2 fun call t0 t1 M nm I ni kf => by
 refine top_ok Go.Proofs.Tryz.func144 rfl rfl ?_
 kernel_rfl
theorem e167 : FOkS Go.Proofs.Tryz.prog 201 167 g167 := fok1 fun call t0 M nm I ni kf => by
 refine top_ok Go.Proofs.Tryz.func167 rfl rfl ?_
 refine sq_ok (fun (j : Nat → Nat → Nat → Nat → Nat → Res) E => j (E 96)) ?_ ?_
 intro E M nm I ni
 refine sq_ok (fun (j : Nat → Nat → Nat → Nat → Nat → Nat → Nat → Nat → Res) E => j (E 96) (E 384) (E 480) (E 576)) ?_ ?_
 intro E M nm I ni
 refine sq_ok (fun (j : Nat → Nat → Nat → Nat → Nat → Nat → Nat → Res) E => j (E 96) (E 384) (E 480)) ?_ ?_
 intro E M nm I ni
 refine sq_ok (fun (j : Nat → Nat → Nat → Nat → Nat → Nat → Nat → Nat → Res) E => j (E 96) (E 384) (E 480) (E 672)) ?_ ?_
 intro E M nm I ni
 refine sq_ok (fun (j : Nat → Nat → Nat → Nat → Nat → Nat → Nat → Res) E => j (E 96) (E 384) (E 672)) ?_ ?_
 intro E M nm I ni
 refine sq_ok (fun (j : Nat → Nat → Nat → Nat → Nat → Nat → Nat → Nat → Res) E => j (E 96) (E 384) (E 672) (E 1056)) ?_ ?_
 intro E M nm I ni
 refine sq_ok (fun (j : Nat → Nat → Nat → Nat → Nat → Res) E => j (E 1056)) ?_ ?_
 intro E M nm I ni
 kernel_rfl
 intro j
 refine sq_ok (fun (j : Nat → Nat → Nat → Nat → Nat → Nat → Nat → Nat → Nat → Res) E => j (E 384) (E 672) (E 1056) (E 5760) (E 5856)) ?_ ?_
 intro E M nm I ni
 refine bl_ok ?_
 refine lo_ok (fun (j : Nat → Nat → Nat → Nat → Nat → Nat → Nat → Nat → Nat → Res) E => j (E 384) (E 672) (E 1056) (E 5760) (E 5856)) (fun _ _ _ _ _ => rfl) ?_
 intro n j E M nm I ni
 kernel_rfl
 intro j
 kernel_rfl
 intro j
 kernel_rfl
 intro j
 refine sq_ok (fun (j : Nat → Nat → Nat → Nat → Nat → Nat → Nat → Nat → Nat → Nat → Res) E => j (E 96) (E 384) (E 672) (E 2400) (E 2496) (E 2592)) ?_ ?_
 intro E M nm I ni
 refine bl_ok ?_
 refine lo_ok (fun (j : Nat → Nat → Nat → Nat → Nat → Nat → Nat → Nat → Nat → Nat → Res) E => j (E 96) (E 384) (E 672) (E 2400) (E 2496) (E 2592)) (fun _ _ _ _ _ => rfl) ?_
 intro n j E M nm I ni
 kernel_rfl
 intro j
 kernel_rfl
 intro j
 kernel_rfl
 intro j
 kernel_rfl
 intro j
 kernel_rfl
 intro j
 kernel_rfl
theorem e107 : FOkS Go.Proofs.Tryz.prog 201 107 g107 := fok2 fun call t0 t1 M nm I ni kf => by
 refine top_ok Go.Proofs.Tryz.func107 rfl rfl ?_
 kernel_rfl
theorem e228 : FOkS Go.Proofs.Tryz.prog 201 228 g228 := fok2 fun call t0 t1 M nm I ni kf => by
 refine top_ok Go.Proofs.Tryz.func228 rfl rfl ?_
 refine sq_ok (fun (j : Nat → Nat → Nat → Nat → Nat → Nat → Res) E => j (E 0) (E 96)) ?_ ?_
 intro E M nm I ni
 refine sq_ok (fun (j : Nat → Nat → Nat → Nat → Nat → Nat → Res) E => j (E 0) (E 96)) ?_ ?_
 intro E M nm I ni
 refine sq_ok (fun (j : Nat → Nat → Nat → Nat → Nat → Nat → Res) E => j (E 0) (E 96)) ?_ ?_
 intro E M nm I ni
 kernel_rfl
 intro j
 refine sq_ok (fun (j : Nat → Nat → Nat → Nat → Nat → Nat → Nat → Nat → Nat → Res) E => j (E 0) (E 96) (E 1056) (E 1152) (E 1248)) ?_ ?_
 intro E M nm I ni
 refine bl_ok ?_
 refine lo_ok (fun (j : Nat → Nat → Nat → Nat → Nat → Nat → Nat → Nat → Nat → Res) E => j (E 0) (E 96) (E 1056) (E 1152) (E 1248)) (fun _ _ _ _ _ => rfl) ?_
 intro n j E M nm I ni
 kernel_rfl
 intro j
 kernel_rfl
 intro j
 kernel_rfl
 intro j
 kernel_rfl
theorem e65 : FOkS Go.Proofs.Tryz.prog 201 65 g65 := fok1 fun call t0 M nm I ni kf => by
 refine top_ok Go.Proofs.Tryz.func65 rfl rfl ?_
 kernel_rfl
theorem e109 : FOkS Go.Proofs.Tryz.prog 201 109 g109 := fok4 fun call t0 t1 t2 t3 M nm I ni kf => by
 refine top_ok Go.Proofs.Tryz.func109 rfl rfl ?_
 refine sq_ok (fun (j : Nat → Nat → Nat → Nat → Nat → Nat → Nat → Nat → Nat → Res) E => j (E 0) (E 96) (E 192) (E 288) (E 768)) ?_ ?_
 intro E M nm I ni
 refine bl_ok ?_
 refine lo_ok (fun (j : Nat → Nat → Nat → Nat → Nat → Nat → Nat → Nat → Nat → Res) E => j (E 0) (E 96) (E 192) (E 288) (E 768)) (fun _ _ _ _ _ => rfl) ?_
 intro n j E M nm I ni
 refine sq_ok (fun (j : Nat → Nat → Nat → Nat → Nat → Nat → Nat → Nat → Nat → Res) E => j (E 0) (E 96) (E 192) (E 288) (E 768)) ?_ ?_
 intro E M nm I ni
 refine sq_ok (fun (j : Nat → Nat → Nat → Nat → Nat → Nat → Nat → Nat → Nat → Res) E => j (E 0) (E 96) (E 192) (E 288) (E 768)) ?_ ?_
 intro E M nm I ni
 kernel_rfl
 intro j
 refine bl_ok ?_
 refine sq_ok (fun (j : Nat → Nat → Nat → Nat → Nat → Nat → Nat → Nat → Nat → Nat → Res) E => j (E 0) (E 96) (E 192) (E 288) (E 768) (E 864)) ?_ ?_
 intro E M nm I ni
 refine bl_ok ?_
 refine lo_ok (fun (j : Nat → Nat → Nat → Nat → Nat → Nat → Nat → Nat → Nat → Nat → Res) E => j (E 0) (E 96) (E 192) (E 288) (E 768) (E 864)) (fun _ _ _ _ _ => rfl) ?_
 intro n j E M nm I ni
 kernel_rfl
 intro j
 kernel_rfl
 intro j
 kernel_rfl
 intro j
 kernel_rfl
theorem e69 : FOkS Go.Proofs.Tryz.prog 201 69 g69 := fok3 fun call t0 t1 t2 M nm I ni kf => by
 refine top_ok Go.Proofs.Tryz.func69 rfl rfl ?_
 kernel_rfl
theorem e42 : FOkS Go.Proofs.Tryz.prog 201 42 g42 := fok2 fun call t0 t1 M nm I ni kf => by
 refine top_ok Go.Proofs.Tryz.func42 rfl rfl ?_
 refine sq_ok (fun (j : Nat → Nat → Nat → Nat → Nat → Nat → Nat → Res) E => j (E 96) (E 192) (E 384)) ?_ ?_
 intro E M nm I ni
 refine sq_ok (fun (j : Nat → Nat → Nat → Nat → Nat → Nat → Nat → Res) E => j (E 96) (E 192) (E 384)) ?_ ?_
 intro E M nm I ni
 refine sq_ok (fun (j : Nat → Nat → Nat → Nat → Nat → Nat → Nat → Res) E => j (E 96) (E 192) (E 384)) ?_ ?_
 intro E M nm I ni
 refine sq_ok (fun (j : Nat → Nat → Nat → Nat → Nat → Nat → Nat → Nat → Res) E => j (E 96) (E 192) (E 384) (E 576)) ?_ ?_
 intro E M nm I ni
 refine sq_ok (fun (j : Nat → Nat → Nat → Nat → Nat → Nat → Nat → Res) E => j (E 192) (E 384) (E 576)) ?_ ?_
 intro E M nm I ni
 kernel_rfl
 intro j
 refine sq_ok (fun (j : Nat → Nat → Nat → Nat → Nat → Nat → Nat → Nat → Nat → Nat → Nat → Res) E => j (E 96) (E 192) (E 384) (E 576) (E 2784) (E 2880) (E 2976)) ?_ ?_
 intro E M nm I ni
 refine bl_ok ?_
 refine lo_ok (fun (j : Nat → Nat → Nat → Nat → Nat → Nat → Nat → Nat → Nat → Nat → Nat → Res) E => j (E 96) (E 192) (E 384) (E 576) (E 2784) (E 2880) (E 2976)) (fun _ _ _ _ _ => rfl) ?_
 intro n j E M nm I ni
 kernel_rfl
 intro j
 kernel_rfl
 intro j
 kernel_rfl
 intro j
 kernel_rfl
 intro j
 kernel_rfl
 intro j
 kernel_rfl
theorem e226 : FOkS Go.Proofs.Tryz.prog 201 226 g226 := fok2 fun call t0 t1 M nm I ni kf => by
 refine top_ok Go.Proofs.Tryz.func226 rfl rfl ?_
 kernel_rfl
theorem e227 : FOkS Go.Proofs.Tryz.prog 201 227 g227 := fok2 fun call t0 t1 M nm I ni kf => by
 refine top_ok Go.Proofs.Tryz.func227 rfl rfl ?_
 refine sq_ok (fun (j : Nat → Nat → Nat → Nat → Nat → Nat → Nat → Res) E => j (E 0) (E 96) (E 384)) ?_ ?_
 intro E M nm I ni
 refine sq_ok (fun (j : Nat → Nat → Nat → Nat → Nat → Nat → Nat → Res) E => j (E 0) (E 96) (E 384)) ?_ ?_
 intro E M nm I ni
 refine sq_ok (fun (j : Nat → Nat → Nat → Nat → Nat → Nat → Nat → Nat → Res) E => j (E 0) (E 96) (E 384) (E 576)) ?_ ?_
 intro E M nm I ni
 refine sq_ok (fun (j : Nat → Nat → Nat → Nat → Nat → Nat → Nat → Nat → Nat → Res) E => j (E 0) (E 96) (E 384) (E 576) (E 672)) ?_ ?_
 intro E M nm I ni
 refine sq_ok (fun (j : Nat → Nat → Nat → Nat → Nat → Nat → Nat → Nat → Res) E => j (E 0) (E 96) (E 384) (E 672)) ?_ ?_
 intro E M nm I ni
 kernel_rfl
 intro j
 kernel_rfl
 intro j
 kernel_rfl
 intro j
 kernel_rfl
 intro j
 kernel_rfl
 intro j
 kernel_rfl
theorem e52 : FOkS Go.Proofs.Tryz.prog 201 52 g52 := fok1 fun call t0 M nm I ni kf => by
 refine top_ok Go.Proofs.Tryz.func52 rfl rfl ?_
 kernel_rfl
theorem e397 : FOkS Go.Proofs.Tryz.prog 201 397 g397 := fok2 fun call t0 t1 M nm I ni kf => by
 refine top_ok Go.Proofs.Tryz.func397 rfl rfl ?_
 refine sq_ok (fun (j : Nat → Nat → Nat → Nat → Nat → Nat → Res) E => j (E 0) (E 96)) ?_ ?_
 intro E M nm I ni
 refine sq_ok (fun (j : Nat → Nat → Nat → Nat → Nat → Nat → Nat → Res) E => j (E 0) (E 96) (E 576)) ?_ ?_
 intro E M nm I ni
 refine sq_ok (fun (j : Nat → Nat → Nat → Nat → Nat → Res) E => j (E 576)) ?_ ?_
 intro E M nm I ni
 kernel_rfl
 intro j
 refine sq_ok (fun (j : Nat → Nat → Nat → Nat → Nat → Nat → Nat → Nat → Nat → Res) E => j (E 96) (E 576) (E 2400) (E 2496) (E 2592)) ?_ ?_
 intro E M nm I ni
 refine bl_ok ?_
 refine lo_ok (fun (j : Nat → Nat → Nat → Nat → Nat → Nat → Nat → Nat → Nat → Res) E => j (E 96) (E 576) (E 2400) (E 2496) (E 2592)) (fun _ _ _ _ _ => rfl) ?_
 intro n j E M nm I ni
 kernel_rfl
 intro j
 kernel_rfl
 intro j
 kernel_rfl
 intro j
 kernel_rfl
theorem e63 : FOkS Go.Proofs.Tryz.prog 201 63 g63 := fok1 fun call t0 M nm I ni kf => by
 refine top_ok Go.Proofs.Tryz.func63 rfl rfl ?_
 kernel_rfl
theorem e123 : FOkS Go.Proofs.Tryz.prog 201 123 g123 := fok2 fun call t0 t1 M nm I ni kf => by
 refine top_ok Go.Proofs.Tryz.func123 rfl rfl ?_
 kernel_rfl
theorem e175 : FOkS Go.Proofs.Tryz.prog 201 175 g175 := fok2 fun call t0 t1 M nm I ni kf => by
 refine top_ok Go.Proofs.Tryz.func175 rfl rfl ?_
 refine sq_ok (fun (j : Nat → Nat → Nat → Nat → Nat → Nat → Res) E => j (E 0) (E 96)) ?_ ?_
 intro E M nm I ni
 refine sq_ok (fun (j : Nat → Nat → Nat → Nat → Nat → Nat → Res) E => j (E 0) (E 96)) ?_ ?_
 intro E M nm I ni
 refine sq_ok (fun (j : Nat → Nat → Nat → Nat → Nat → Res) E => j (E 0)) ?_ ?_
 intro E M nm I ni
 kernel_rfl
 intro j
 refine sq_ok (fun (j : Nat → Nat → Nat → Nat → Nat → Nat → Nat → Res) E => j (E 0) (E 96) (E 480)) ?_ ?_
 intro E M nm I ni
 refine bl_ok ?_
 refine lo_ok (fun (j : Nat → Nat → Nat → Nat → Nat → Nat → Nat → Res) E => j (E 0) (E 96) (E 480)) (fun _ _ _ _ _ => rfl) ?_
 intro n j E M nm I ni
 refine sq_ok (fun (j : Nat → Nat → Nat → Nat → Nat → Nat → Nat → Res) E => j (E 0) (E 96) (E 480)) ?_ ?_
 intro E M nm I ni
 refine sq_ok (fun (j : Nat → Nat → Nat → Nat → Nat → Nat → Nat → Res) E => j (E 0) (E 96) (E 480)) ?_ ?_
 intro E M nm I ni
 kernel_rfl
 intro j
 refine bl_ok ?_
 refine sq_ok (fun (j : Nat → Nat → Nat → Nat → Nat → Nat → Nat → Nat → Res) E => j (E 0) (E 96) (E 480) (E 2688)) ?_ ?_
 intro E M nm I ni
 refine cn_ok rfl ?_ ?_
 refine sq_ok (fun (j : Nat → Nat → Nat → Nat → Nat → Nat → Nat → Nat → Res) E => j (E 0) (E 96) (E 480) (E 576)) ?_ ?_
 intro E M nm I ni
 refine sq_ok (fun (j : Nat → Nat → Nat → Nat → Nat → Nat → Res) E => j (E 0) (E 480)) ?_ ?_
 intro E M nm I ni
 kernel_rfl
 intro j
 refine sq_ok (fun (j : Nat → Nat → Nat → Nat → Nat → Nat → Nat → Nat → Nat → Res) E => j (E 0) (E 96) (E 480) (E 576) (E 672)) ?_ ?_
 intro E M nm I ni
 refine bl_ok ?_
 refine lo_ok (fun (j : Nat → Nat → Nat → Nat → Nat → Nat → Nat → Nat → Nat → Res) E => j (E 0) (E 96) (E 480) (E 576) (E 672)) (fun _ _ _ _ _ => rfl) ?_
 intro n j E M nm I ni
 kernel_rfl
 intro j
 kernel_rfl
 intro j
 kernel_rfl
 kernel_rfl
 intro j
 kernel_rfl
 intro j
 kernel_rfl
 intro j
 kernel_rfl
 intro j
 kernel_rfl
 intro j
 kernel_rfl
theorem e26 : FOkS Go.Proofs.Tryz.prog 201 26 g26 := fok3 fun call t0 t1 t2 M nm I ni kf => by
 refine top_ok Go.Proofs.Tryz.func26 rfl rfl ?_
 kernel_rfl
theorem e184 : FOkS Go.Proofs.Tryz.prog 201 184 g184 := fok2 fun call t0 t1 M nm I ni kf => by
 refine top_ok Go.Proofs.Tryz.func184 rfl rfl ?_
 kernel_rfl
theorem e10 : FOkS Go.Proofs.Tryz.prog 201 10 g10 := fok2 fun call t0 t1 M nm I ni kf => by
 refine top_ok Go.Proofs.Tryz.func10 rfl rfl ?_
 refine sq_ok (fun (j : Nat → Nat → Nat → Nat → Nat → Nat → Res) E => j (E 0) (E 288)) ?_ ?_
 intro E M nm I ni
 refine sq_ok (fun (j : Nat → Nat → Nat → Nat → Nat → Nat → Res) E => j (E 0) (E 288)) ?_ ?_
 intro E M nm I ni
 refine sq_ok (fun (j : Nat → Nat → Nat → Nat → Nat → Nat → Nat → Res) E => j (E 0) (E 672) (E 768)) ?_ ?_
 intro E M nm I ni
 refine sq_ok (fun (j : Nat → Nat → Nat → Nat → Nat → Nat → Res) E => j (E 0) (E 672)) ?_ ?_
 intro E M nm I ni
 refine sq_ok (fun (j : Nat → Nat → Nat → Nat → Nat → Nat → Res) E => j (E 0) (E 672)) ?_ ?_
 intro E M nm I ni
 kernel_rfl
 intro j
 kernel_rfl
 intro j
 kernel_rfl
 intro j
 kernel_rfl
 intro j
 kernel_rfl
 intro j
 kernel_rfl
theorem e323 : FOkS Go.Proofs.Tryz.prog 201 323 g323 := fok5 fun call t0 t1 t2 t3 t4 M nm I ni kf => by
 refine top_ok Go.Proofs.Tryz.func323 rfl rfl ?_
 refine sq_ok (fun (j : Nat → Nat → Nat → Nat → Nat → Nat → Nat → Nat → Nat → Nat → Res) E => j (E 0) (E 96) (E 192) (E 288) (E 384) (E 960)) ?_ ?_
 intro E M nm I ni
 refine sq_ok (fun (j : Nat → Nat → Nat → Nat → Nat → Nat → Nat → Nat → Nat → Nat → Nat → Res) E => j (E 0) (E 96) (E 192) (E 288) (E 384) (E 960) (E 1056)) ?_ ?_
 intro E M nm I ni
 refine bl_ok ?_
 refine lo_ok (fun (j : Nat → Nat → Nat → Nat → Nat → Nat → Nat → Nat → Nat → Nat → Nat → Res) E => j (E 0) (E 96) (E 192) (E 288) (E 384) (E 960) (E 1056)) (fun _ _ _ _ _ => rfl) ?_
 intro n j E M nm I ni
 refine bl_ok ?_
 refine sq_ok (fun (j : Nat → Nat → Nat → Nat → Nat → Nat → Nat → Nat → Nat → Nat → Nat → Nat → Res) E => j (E 0) (E 96) (E 192) (E 288) (E 384) (E 960) (E 1056) (E 1152)) ?_ ?_
 intro E M nm I ni
 refine sq_ok (fun (j : Nat → Nat → Nat → Nat → Nat → Nat → Nat → Nat → Nat → Nat → Nat → Nat → Res) E => j (E 0) (E 96) (E 192) (E 288) (E 384) (E 960) (E 1056) (E 1152)) ?_ ?_
 intro E M nm I ni
 refine sq_ok (fun (j : Nat → Nat → Nat → Nat → Nat → Nat → Nat → Nat → Nat → Nat → Nat → Nat → Res) E => j (E 0) (E 96) (E 192) (E 288) (E 384) (E 960) (E 1056) (E 1152)) ?_ ?_
 intro E M nm I ni
 refine sq_ok (fun (j : Nat → Nat → Nat → Nat → Nat → Nat → Nat → Nat → Nat → Nat → Nat → Nat → Res) E => j (E 0) (E 96) (E 192) (E 288) (E 384) (E 960) (E 1056) (E 1152)) ?_ ?_
 intro E M nm I ni
 refine sq_ok (fun (j : Nat → Nat → Nat → Nat → Nat → Nat → Nat → Nat → Nat → Nat → Nat → Nat → Nat → Nat → Res) E => j (E 0) (E 96) (E 192) (E 288) (E 384) (E 960) (E 1056) (E 1152) (E 1248) (E 1344)) ?_ ?_
 intro E M nm I ni
 refine sq_ok (fun (j : Nat → Nat → Nat → Nat → Nat → Nat → Nat → Nat → Nat → Nat → Nat → Nat → Nat → Nat → Res) E => j (E 0) (E 96) (E 192) (E 288) (E 384) (E 960) (E 1056) (E 1152) (E 1248) (E 1344)) ?_ ?_
 intro E M nm I ni
 refine sq_ok (fun (j : Nat → Nat → Nat → Nat → Nat → Nat → Nat → Nat → Nat → Nat → Nat → Nat → Nat → Res) E => j (E 0) (E 96) (E 192) (E 288) (E 384) (E 960) (E 1056) (E 1152) (E 1248)) ?_ ?_
 intro E M nm I ni
 kernel_rfl
 intro j
 kernel_rfl
 intro j
 kernel_rfl
 intro j
 kernel_rfl
 intro j
 kernel_rfl
 intro j
 kernel_rfl
 intro j
 kernel_rfl
 intro j
 kernel_rfl
 intro j
 kernel_rfl
 intro j
 kernel_rfl
theorem e12 : FOkS Go.Proofs.Tryz.prog 201 12 g12 := fok1 fun call t0 M nm I ni kf => by
 refine top_ok Go.Proofs.Tryz.func12 rfl rfl ?_
 refine sq_ok (fun (j : Nat → Nat → Nat → Nat → Nat → Res) E => j (E 0)) ?_ ?_
 intro E M nm I ni
 refine sq_ok (fun (j : Nat → Nat → Nat → Nat → Nat → Res) E => j (E 0)) ?_ ?_
 intro E M nm I ni
 refine sq_ok (fun (j : Nat → Nat → Nat → Nat → Nat → Nat → Res) E => j (E 0) (E 288)) ?_ ?_
 intro E M nm I ni
 refine sq_ok (fun (j : Nat → Nat → Nat → Nat → Nat → Res) E => j (E 288)) ?_ ?_
 intro E M nm I ni
 kernel_rfl
 intro j
 refine sq_ok (fun (j : Nat → Nat → Nat → Nat → Nat → Nat → Nat → Nat → Nat → Res) E => j (E 0) (E 288) (E 1728) (E 1824) (E 1920)) ?_ ?_
 intro E M nm I ni
 refine bl_ok ?_
 refine lo_ok (fun (j : Nat → Nat → Nat → Nat → Nat → Nat → Nat → Nat → Nat → Res) E => j (E 0) (E 288) (E 1728) (E 1824) (E 1920)) (fun _ _ _ _ _ => rfl) ?_
 intro n j E M nm I ni
 kernel_rfl
 intro j
 kernel_rfl
 intro j
 kernel_rfl
 intro j
 kernel_rfl
 intro j
 kernel_rfl
theorem e305 : FOkS Go.Proofs.Tryz.prog 201 305 g305 := fok2 fun call t0 t1 M nm I ni kf => by
 refine top_ok Go.Proofs.Tryz.func305 rfl rfl ?_
 kernel_rfl
theorem e186 : FOkS Go.Proofs.Tryz.prog 201 186 g186 := fok2 fun call t0 t1 M nm I ni kf => by
 refine top_ok Go.Proofs.Tryz.func186 rfl rfl ?_
 refine sq_ok (fun (j : Nat → Nat → Nat → Nat → Nat → Nat → Res) E => j (E 0) (E 96)) ?_ ?_
 intro E M nm I ni
 refine sq_ok (fun (j : Nat → Nat → Nat → Nat → Res) _ => j) ?_ ?_
 intro E M nm I ni
 kernel_rfl
 intro j
 refine sq_ok (fun (j : Nat → Nat → Nat → Nat → Nat → Nat → Nat → Nat → Res) E => j (E 0) (E 96) (E 672) (E 768)) ?_ ?_
 intro E M nm I ni
 refine bl_ok ?_
 refine lo_ok (fun (j : Nat → Nat → Nat → Nat → Nat → Nat → Nat → Nat → Res) E => j (E 0) (E 96) (E 672) (E 768)) (fun _ _ _ _ _ => rfl) ?_
 intro n j E M nm I ni
 kernel_rfl
 intro j
 kernel_rfl
 intro j
 kernel_rfl
theorem e8 : FOkS Go.Proofs.Tryz.prog 201 8 g8 := fok2 fun call t0 t1 M nm I ni kf => by
 refine top_ok Go.Proofs.Tryz.func8 rfl rfl ?_
 refine sq_ok (fun (j : Nat → Nat → Nat → Nat → Nat → Nat → Nat → Res) E => j (E 0) (E 96) (E 384)) ?_ ?_
 intro E M nm I ni
 refine sq_ok (fun (j : Nat → Nat → Nat → Nat → Nat → Nat → Nat → Res) E => j (E 0) (E 96) (E 384)) ?_ ?_
 intro E M nm I ni
 kernel_rfl
 intro j
 kernel_rfl
 intro j
 kernel_rfl
theorem e73 : FOkS Go.Proofs.Tryz.prog 201 73 g73 := fok2 fun call t0 t1 M nm I ni kf => by
 refine top_ok Go.Proofs.Tryz.func73 rfl rfl ?_
 kernel_rfl
theorem e187 : FOkS Go.Proofs.Tryz.prog 201 187 g187 := fok1 fun call t0 M nm I ni kf => by
 refine top_ok Go.Proofs.Tryz.func187 rfl rfl ?_
 kernel_rfl
theorem e18 : FOkS Go.Proofs.Tryz.prog 201 18 g18 := fok1 fun call t0 M nm I ni kf => by
 refine top_ok Go.Proofs.Tryz.func18 rfl rfl ?_
 kernel_rfl
end Go.Proofs.YtpjhkpmmbeoghaaGreat.Ev
