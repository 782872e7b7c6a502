/- Part 7 of a verified evaluator and the run that it reckons. -/
import Derived.Test.YtpjhkpmmbeoghaaGreatV06
set_option linter.unusedVariables false
set_option linter.unusedSimpArgs false
set_option maxRecDepth 100000
set_option linter.unusedVariables false
namespace Go.Proofs.YtpjhkpmmbeoghaaGreat.Ev
open Go
open Go.Proofs
theorem e22 : FOkS Go.Proofs.Tryz.prog 201 22 g22 := fok1 fun call t0 M nm I ni kf => by
 refine top_ok Go.Proofs.Tryz.func22 rfl rfl ?_
 refine sq_ok (fun (j : Nat → Nat → Nat → Nat → Nat → Res) E => j (E 96)) ?_ ?_
 intro E M nm I ni
 refine sq_ok (fun (j : Nat → Nat → Nat → Nat → Nat → Res) E => j (E 96)) ?_ ?_
 intro E M nm I ni
 refine sq_ok (fun (j : Nat → Nat → Nat → Nat → Res) _ => j) ?_ ?_
 intro E M nm I ni
 kernel_rfl
 intro j
 refine sq_ok (fun (j : Nat → Nat → Nat → Nat → Nat → Nat → Nat → Nat → Res) E => j (E 96) (E 1920) (E 2016) (E 2112)) ?_ ?_
 intro E M nm I ni
 refine bl_ok ?_
 refine lo_ok (fun (j : Nat → Nat → Nat → Nat → Nat → Nat → Nat → Nat → Res) E => j (E 96) (E 1920) (E 2016) (E 2112)) (fun _ _ _ _ _ => rfl) ?_
 intro n j E M nm I ni
 kernel_rfl
 intro j
 kernel_rfl
 intro j
 kernel_rfl
 intro j
 kernel_rfl
theorem e75 : FOkS Go.Proofs.Tryz.prog 201 75 g75 := fok3 fun call t0 t1 t2 M nm I ni kf => by
 refine top_ok Go.Proofs.Tryz.func75 rfl rfl ?_
 refine sq_ok (fun (j : Nat → Nat → Nat → Nat → Nat → Nat → Nat → Res) E => j (E 0) (E 96) (E 192)) ?_ ?_
 intro E M nm I ni
 refine sq_ok (fun (j : Nat → Nat → Nat → Nat → Nat → Nat → Nat → Nat → Res) E => j (E 0) (E 96) (E 192) (E 672)) ?_ ?_
 intro E M nm I ni
 refine sq_ok (fun (j : Nat → Nat → Nat → Nat → Nat → Nat → Nat → Nat → Nat → Res) E => j (E 0) (E 96) (E 192) (E 672) (E 768)) ?_ ?_
 intro E M nm I ni
 refine sq_ok (fun (j : Nat → Nat → Nat → Nat → Nat → Nat → Nat → Res) E => j (E 192) (E 672) (E 768)) ?_ ?_
 intro E M nm I ni
 refine sq_ok (fun (j : Nat → Nat → Nat → Nat → Nat → Nat → Nat → Nat → Res) E => j (E 192) (E 672) (E 768) (E 1056)) ?_ ?_
 intro E M nm I ni
 refine sq_ok (fun (j : Nat → Nat → Nat → Nat → Nat → Nat → Res) E => j (E 768) (E 1056)) ?_ ?_
 intro E M nm I ni
 refine sq_ok (fun (j : Nat → Nat → Nat → Nat → Nat → Nat → Res) E => j (E 768) (E 1056)) ?_ ?_
 intro E M nm I ni
 refine sq_ok (fun (j : Nat → Nat → Nat → Nat → Nat → Nat → Res) E => j (E 768) (E 1056)) ?_ ?_
 intro E M nm I ni
 refine sq_ok (fun (j : Nat → Nat → Nat → Nat → Nat → Res) E => j (E 768)) ?_ ?_
 intro E M nm I ni
 kernel_rfl
 intro j
 refine sq_ok (fun (j : Nat → Nat → Nat → Nat → Nat → Nat → Nat → Nat → Res) E => j (E 768) (E 7680) (E 7776) (E 7872)) ?_ ?_
 intro E M nm I ni
 refine bl_ok ?_
 refine lo_ok (fun (j : Nat → Nat → Nat → Nat → Nat → Nat → Nat → Nat → Res) E => j (E 768) (E 7680) (E 7776) (E 7872)) (fun _ _ _ _ _ => rfl) ?_
 intro n j E M nm I ni
 kernel_rfl
 intro j
 kernel_rfl
 intro j
 kernel_rfl
 intro j
 kernel_rfl
 intro j
 refine sq_ok (fun (j : Nat → Nat → Nat → Nat → Nat → Nat → Nat → Nat → Nat → Nat → Res) E => j (E 672) (E 768) (E 1056) (E 4416) (E 4512) (E 4608)) ?_ ?_
 intro E M nm I ni
 refine bl_ok ?_
 refine lo_ok (fun (j : Nat → Nat → Nat → Nat → Nat → Nat → Nat → Nat → Nat → Nat → Res) E => j (E 672) (E 768) (E 1056) (E 4416) (E 4512) (E 4608)) (fun _ _ _ _ _ => rfl) ?_
 intro n j E M nm I ni
 kernel_rfl
 intro j
 kernel_rfl
 intro j
 kernel_rfl
 intro j
 refine sq_ok (fun (j : Nat → Nat → Nat → Nat → Nat → Nat → Nat → Nat → Nat → Nat → Nat → Res) E => j (E 0) (E 192) (E 672) (E 768) (E 2304) (E 2400) (E 2496)) ?_ ?_
 intro E M nm I ni
 refine bl_ok ?_
 refine lo_ok (fun (j : Nat → Nat → Nat → Nat → Nat → Nat → Nat → Nat → Nat → Nat → Nat → Res) E => j (E 0) (E 192) (E 672) (E 768) (E 2304) (E 2400) (E 2496)) (fun _ _ _ _ _ => rfl) ?_
 intro n j E M nm I ni
 kernel_rfl
 intro j
 kernel_rfl
 intro j
 kernel_rfl
 intro j
 kernel_rfl
 intro j
 kernel_rfl
theorem e27 : FOkS Go.Proofs.Tryz.prog 201 27 g27 := fok1 fun call t0 M nm I ni kf => by
 refine top_ok Go.Proofs.Tryz.func27 rfl rfl ?_
 refine sq_ok (fun (j : Nat → Nat → Nat → Nat → Nat → Res) E => j (E 0)) ?_ ?_
 intro E M nm I ni
 refine sq_ok (fun (j : Nat → Nat → Nat → Nat → Nat → Nat → Res) E => j (E 0) (E 288)) ?_ ?_
 intro E M nm I ni
 refine sq_ok (fun (j : Nat → Nat → Nat → Nat → Nat → Res) E => j (E 288)) ?_ ?_
 intro E M nm I ni
 kernel_rfl
 intro j
 refine sq_ok (fun (j : Nat → Nat → Nat → Nat → Nat → Nat → Nat → Nat → Res) E => j (E 288) (E 1056) (E 1152) (E 1248)) ?_ ?_
 intro E M nm I ni
 refine bl_ok ?_
 refine lo_ok (fun (j : Nat → Nat → Nat → Nat → Nat → Nat → Nat → Nat → Res) E => j (E 288) (E 1056) (E 1152) (E 1248)) (fun _ _ _ _ _ => rfl) ?_
 intro n j E M nm I ni
 kernel_rfl
 intro j
 kernel_rfl
 intro j
 kernel_rfl
 intro j
 kernel_rfl
theorem e51 : FOkS Go.Proofs.Tryz.prog 201 51 g51 := fok1 fun call t0 M nm I ni kf => by
 refine top_ok Go.Proofs.Tryz.func51 rfl rfl ?_
 kernel_rfl
theorem e66 : FOkS Go.Proofs.Tryz.prog 201 66 g66 := fok1 fun call t0 M nm I ni kf => by
 refine top_ok Go.Proofs.Tryz.func66 rfl rfl ?_
 refine sq_ok (fun (j : Nat → Nat → Nat → Nat → Nat → Res) E => j (E 0)) ?_ ?_
 intro E M nm I ni
 refine sq_ok (fun (j : Nat → Nat → Nat → Nat → Nat → Nat → Res) E => j (E 0) (E 288)) ?_ ?_
 intro E M nm I ni
 refine sq_ok (fun (j : Nat → Nat → Nat → Nat → Nat → Res) E => j (E 288)) ?_ ?_
 intro E M nm I ni
 kernel_rfl
 intro j
 refine sq_ok (fun (j : Nat → Nat → Nat → Nat → Nat → Nat → Nat → Nat → Res) E => j (E 288) (E 576) (E 672) (E 768)) ?_ ?_
 intro E M nm I ni
 refine bl_ok ?_
 refine lo_ok (fun (j : Nat → Nat → Nat → Nat → Nat → Nat → Nat → Nat → Res) E => j (E 288) (E 576) (E 672) (E 768)) (fun _ _ _ _ _ => rfl) ?_
 intro n j E M nm I ni
 kernel_rfl
 intro j
 kernel_rfl
 intro j
 kernel_rfl
 intro j
 kernel_rfl
theorem e88 : FOkS Go.Proofs.Tryz.prog 201 88 g88 := fok1 fun call t0 M nm I ni kf => by
 refine top_ok Go.Proofs.Tryz.func88 rfl rfl ?_
 refine sq_ok (fun (j : Nat → Nat → Nat → Nat → Nat → Res) E => j (E 96)) ?_ ?_
 intro E M nm I ni
 refine sq_ok (fun (j : Nat → Nat → Nat → Nat → Nat → Res) E => j (E 96)) ?_ ?_
 intro E M nm I ni
 refine sq_ok (fun (j : Nat → Nat → Nat → Nat → Nat → Nat → Res) E => j (E 96) (E 288)) ?_ ?_
 intro E M nm I ni
 refine sq_ok (fun (j : Nat → Nat → Nat → Nat → Nat → Res) E => j (E 288)) ?_ ?_
 intro E M nm I ni
 kernel_rfl
 intro j
 refine sq_ok (fun (j : Nat → Nat → Nat → Nat → Nat → Nat → Nat → Nat → Res) E => j (E 288) (E 1248) (E 1344) (E 1440)) ?_ ?_
 intro E M nm I ni
 refine bl_ok ?_
 refine lo_ok (fun (j : Nat → Nat → Nat → Nat → Nat → Nat → Nat → Nat → Res) E => j (E 288) (E 1248) (E 1344) (E 1440)) (fun _ _ _ _ _ => rfl) ?_
 intro n j E M nm I ni
 kernel_rfl
 intro j
 kernel_rfl
 intro j
 kernel_rfl
 intro j
 kernel_rfl
 intro j
 kernel_rfl
theorem e105 : FOkS Go.Proofs.Tryz.prog 201 105 g105 := fok1 fun call t0 M nm I ni kf => by
 refine top_ok Go.Proofs.Tryz.func105 rfl rfl ?_
 kernel_rfl
theorem e108 : FOkS Go.Proofs.Tryz.prog 201 108 g108 := fok4 fun call t0 t1 t2 t3 M nm I ni kf => by
 refine top_ok Go.Proofs.Tryz.func108 rfl rfl ?_
 refine sq_ok (fun (j : Nat → Nat → Nat → Nat → Nat → Nat → Nat → Nat → Res) E => j (E 96) (E 192) (E 288) (E 384)) ?_ ?_
 intro E M nm I ni
 refine sq_ok (fun (j : Nat → Nat → Nat → Nat → Nat → Nat → Nat → Nat → Nat → Nat → Res) E => j (E 96) (E 192) (E 288) (E 384) (E 864) (E 960)) ?_ ?_
 intro E M nm I ni
 refine bl_ok ?_
 refine lo_ok (fun (j : Nat → Nat → Nat → Nat → Nat → Nat → Nat → Nat → Nat → Nat → Res) E => j (E 96) (E 192) (E 288) (E 384) (E 864) (E 960)) (fun _ _ _ _ _ => rfl) ?_
 intro n j E M nm I ni
 kernel_rfl
 intro j
 kernel_rfl
 intro j
 kernel_rfl
theorem e38 : FOkS Go.Proofs.Tryz.prog 201 38 g38 := fok2 fun call t0 t1 M nm I ni kf => by
 refine top_ok Go.Proofs.Tryz.func38 rfl rfl ?_
 kernel_rfl
theorem e122 : FOkS Go.Proofs.Tryz.prog 201 122 g122 := fok2 fun call t0 t1 M nm I ni kf => by
 refine top_ok Go.Proofs.Tryz.func122 rfl rfl ?_
 refine sq_ok (fun (j : Nat → Nat → Nat → Nat → Nat → Nat → Res) E => j (E 0) (E 96)) ?_ ?_
 intro E M nm I ni
 refine sq_ok (fun (j : Nat → Nat → Nat → Nat → Nat → Res) E => j (E 0)) ?_ ?_
 intro E M nm I ni
 refine sq_ok (fun (j : Nat → Nat → Nat → Nat → Res) _ => j) ?_ ?_
 intro E M nm I ni
 kernel_rfl
 intro j
 refine sq_ok (fun (j : Nat → Nat → Nat → Nat → Nat → Nat → Nat → Res) E => j (E 1056) (E 1152) (E 1248)) ?_ ?_
 intro E M nm I ni
 refine bl_ok ?_
 refine lo_ok (fun (j : Nat → Nat → Nat → Nat → Nat → Nat → Nat → Res) E => j (E 1056) (E 1152) (E 1248)) (fun _ _ _ _ _ => rfl) ?_
 intro n j E M nm I ni
 kernel_rfl
 intro j
 kernel_rfl
 intro j
 kernel_rfl
 intro j
 kernel_rfl
theorem e169 : FOkS Go.Proofs.Tryz.prog 201 169 g169 := fok1 fun call t0 M nm I ni kf => by
 refine top_ok Go.Proofs.Tryz.func169 rfl rfl ?_
 refine sq_ok (fun (j : Nat → Nat → Nat → Nat → Nat → Res) E => j (E 96)) ?_ ?_
 intro E M nm I ni
 refine sq_ok (fun (j : Nat → Nat → Nat → Nat → Nat → Nat → Nat → Res) E => j (E 96) (E 384) (E 480)) ?_ ?_
 intro E M nm I ni
 refine sq_ok (fun (j : Nat → Nat → Nat → Nat → Nat → Nat → Res) E => j (E 96) (E 384)) ?_ ?_
 intro E M nm I ni
 refine sq_ok (fun (j : Nat → Nat → Nat → Nat → Nat → Nat → Nat → Res) E => j (E 96) (E 384) (E 576)) ?_ ?_
 intro E M nm I ni
 refine sq_ok (fun (j : Nat → Nat → Nat → Nat → Nat → Nat → Nat → Nat → Res) E => j (E 96) (E 384) (E 576) (E 672)) ?_ ?_
 intro E M nm I ni
 refine sq_ok (fun (j : Nat → Nat → Nat → Nat → Nat → Nat → Nat → Nat → Res) E => j (E 96) (E 384) (E 576) (E 672)) ?_ ?_
 intro E M nm I ni
 refine sq_ok (fun (j : Nat → Nat → Nat → Nat → Nat → Res) E => j (E 672)) ?_ ?_
 intro E M nm I ni
 refine sq_ok (fun (j : Nat → Nat → Nat → Nat → Nat → Nat → Res) E => j (E 672) (E 1632)) ?_ ?_
 intro E M nm I ni
 refine sq_ok (fun (j : Nat → Nat → Nat → Nat → Nat → Res) E => j (E 1632)) ?_ ?_
 intro E M nm I ni
 kernel_rfl
 intro j
 kernel_rfl
 intro j
 kernel_rfl
 intro j
 refine sq_ok (fun (j : Nat → Nat → Nat → Nat → Nat → Nat → Nat → Nat → Res) E => j (E 384) (E 576) (E 672) (E 1056)) ?_ ?_
 intro E M nm I ni
 refine bl_ok ?_
 refine lo_ok (fun (j : Nat → Nat → Nat → Nat → Nat → Nat → Nat → Nat → Res) E => j (E 384) (E 576) (E 672) (E 1056)) (fun _ _ _ _ _ => rfl) ?_
 intro n j E M nm I ni
 refine sq_ok (fun (j : Nat → Nat → Nat → Nat → Nat → Nat → Nat → Nat → Res) E => j (E 384) (E 576) (E 672) (E 1056)) ?_ ?_
 intro E M nm I ni
 refine bl_ok ?_
 refine sq_ok (fun (j : Nat → Nat → Nat → Nat → Nat → Nat → Nat → Nat → Res) E => j (E 384) (E 576) (E 672) (E 1056)) ?_ ?_
 intro E M nm I ni
 refine sq_ok (fun (j : Nat → Nat → Nat → Nat → Nat → Nat → Nat → Nat → Nat → Res) E => j (E 384) (E 576) (E 672) (E 1056) (E 1152)) ?_ ?_
 intro E M nm I ni
 refine sq_ok (fun (j : Nat → Nat → Nat → Nat → Nat → Nat → Nat → Nat → Res) E => j (E 384) (E 576) (E 1056) (E 1152)) ?_ ?_
 intro E M nm I ni
 kernel_rfl
 intro j
 refine sq_ok (fun (j : Nat → Nat → Nat → Nat → Nat → Nat → Nat → Nat → Nat → Nat → Nat → Res) E => j (E 384) (E 576) (E 1056) (E 1152) (E 7680) (E 7776) (E 7872)) ?_ ?_
 intro E M nm I ni
 refine bl_ok ?_
 refine lo_ok (fun (j : Nat → Nat → Nat → Nat → Nat → Nat → Nat → Nat → Nat → Nat → Nat → Res) E => j (E 384) (E 576) (E 1056) (E 1152) (E 7680) (E 7776) (E 7872)) (fun _ _ _ _ _ => rfl) ?_
 intro n j E M nm I ni
 refine sq_ok (fun (j : Nat → Nat → Nat → Nat → Nat → Nat → Nat → Nat → Nat → Nat → Nat → Nat → Res) E => j (E 384) (E 576) (E 1056) (E 1152) (E 7680) (E 7776) (E 7872) (E 7968)) ?_ ?_
 intro E M nm I ni
 refine sq_ok (fun (j : Nat → Nat → Nat → Nat → Nat → Nat → Nat → Nat → Nat → Nat → Nat → Res) E => j (E 384) (E 576) (E 1056) (E 1152) (E 7680) (E 7776) (E 7872)) ?_ ?_
 intro E M nm I ni
 refine sq_ok (fun (j : Nat → Nat → Nat → Nat → Nat → Nat → Nat → Nat → Nat → Nat → Nat → Res) E => j (E 384) (E 576) (E 1056) (E 1152) (E 7680) (E 7776) (E 7872)) ?_ ?_
 intro E M nm I ni
 kernel_rfl
 intro j
 refine bl_ok ?_
 refine sq_ok (fun (j : Nat → Nat → Nat → Nat → Nat → Nat → Nat → Nat → Nat → Nat → Nat → Nat → Res) E => j (E 384) (E 576) (E 1056) (E 1152) (E 1344) (E 7680) (E 7776) (E 7872)) ?_ ?_
 intro E M nm I ni
 refine sq_ok (fun (j : Nat → Nat → Nat → Nat → Nat → Nat → Nat → Nat → Nat → Nat → Nat → Nat → Nat → Nat → Nat → Res) E => j (E 384) (E 576) (E 1056) (E 1152) (E 1344) (E 7680) (E 7776) (E 7872) (E 8928) (E 9024) (E 9120)) ?_ ?_
 intro E M nm I ni
 refine bl_ok ?_
 refine lo_ok (fun (j : Nat → Nat → Nat → Nat → Nat → Nat → Nat → Nat → Nat → Nat → Nat → Nat → Nat → Nat → Nat → Res) E => j (E 384) (E 576) (E 1056) (E 1152) (E 1344) (E 7680) (E 7776) (E 7872) (E 8928) (E 9024) (E 9120)) (fun _ _ _ _ _ => rfl) ?_
 intro n j E M nm I ni
 kernel_rfl
 intro j
 kernel_rfl
 intro j
 kernel_rfl
 intro j
 kernel_rfl
 intro j
 kernel_rfl
 intro j
 kernel_rfl
 intro j
 kernel_rfl
 intro j
 kernel_rfl
 intro j
 kernel_rfl
 intro j
 kernel_rfl
 intro j
 refine sq_ok (fun (j : Nat → Nat → Nat → Nat → Nat → Nat → Nat → Nat → Nat → Res) E => j (E 96) (E 384) (E 576) (E 672) (E 3456)) ?_ ?_
 intro E M nm I ni
 refine bl_ok ?_
 refine lo_ok (fun (j : Nat → Nat → Nat → Nat → Nat → Nat → Nat → Nat → Nat → Res) E => j (E 96) (E 384) (E 576) (E 672) (E 3456)) (fun _ _ _ _ _ => rfl) ?_
 intro n j E M nm I ni
 refine sq_ok (fun (j : Nat → Nat → Nat → Nat → Nat → Nat → Nat → Nat → Nat → Nat → Res) E => j (E 96) (E 384) (E 576) (E 672) (E 3456) (E 3552)) ?_ ?_
 intro E M nm I ni
 refine sq_ok (fun (j : Nat → Nat → Nat → Nat → Nat → Nat → Nat → Nat → Nat → Res) E => j (E 96) (E 384) (E 576) (E 672) (E 3456)) ?_ ?_
 intro E M nm I ni
 refine sq_ok (fun (j : Nat → Nat → Nat → Nat → Nat → Nat → Nat → Nat → Nat → Res) E => j (E 96) (E 384) (E 576) (E 672) (E 3456)) ?_ ?_
 intro E M nm I ni
 kernel_rfl
 intro j
 refine bl_ok ?_
 refine sq_ok (fun (j : Nat → Nat → Nat → Nat → Nat → Nat → Nat → Nat → Nat → Nat → Res) E => j (E 96) (E 384) (E 576) (E 672) (E 768) (E 3456)) ?_ ?_
 intro E M nm I ni
 refine sq_ok (fun (j : Nat → Nat → Nat → Nat → Nat → Nat → Nat → Nat → Nat → Nat → Nat → Nat → Nat → Res) E => j (E 96) (E 384) (E 576) (E 672) (E 768) (E 3456) (E 3936) (E 4032) (E 4128)) ?_ ?_
 intro E M nm I ni
 refine bl_ok ?_
 refine lo_ok (fun (j : Nat → Nat → Nat → Nat → Nat → Nat → Nat → Nat → Nat → Nat → Nat → Nat → Nat → Res) E => j (E 96) (E 384) (E 576) (E 672) (E 768) (E 3456) (E 3936) (E 4032) (E 4128)) (fun _ _ _ _ _ => rfl) ?_
 intro n j E M nm I ni
 kernel_rfl
 intro j
 kernel_rfl
 intro j
 kernel_rfl
 intro j
 kernel_rfl
 intro j
 kernel_rfl
 intro j
 kernel_rfl
 intro j
 kernel_rfl
 intro j
 kernel_rfl
 intro j
 kernel_rfl
 intro j
 kernel_rfl
 intro j
 kernel_rfl
theorem e34 : FOkS Go.Proofs.Tryz.prog 201 34 g34 := fok1 fun call t0 M nm I ni kf => by
 refine top_ok Go.Proofs.Tryz.func34 rfl rfl ?_
 refine sq_ok (fun (j : Nat → Nat → Nat → Nat → Nat → Res) E => j (E 96)) ?_ ?_
 intro E M nm I ni
 refine sq_ok (fun (j : Nat → Nat → Nat → Nat → Nat → Res) E => j (E 96)) ?_ ?_
 intro E M nm I ni
 refine sq_ok (fun (j : Nat → Nat → Nat → Nat → Nat → Nat → Res) E => j (E 96) (E 384)) ?_ ?_
 intro E M nm I ni
 refine sq_ok (fun (j : Nat → Nat → Nat → Nat → Nat → Res) E => j (E 384)) ?_ ?_
 intro E M nm I ni
 refine sq_ok (fun (j : Nat → Nat → Nat → Nat → Nat → Nat → Res) E => j (E 384) (E 672)) ?_ ?_
 intro E M nm I ni
 refine sq_ok (fun (j : Nat → Nat → Nat → Nat → Nat → Res) E => j (E 672)) ?_ ?_
 intro E M nm I ni
 kernel_rfl
 intro j
 refine sq_ok (fun (j : Nat → Nat → Nat → Nat → Nat → Nat → Nat → Nat → Res) E => j (E 672) (E 3744) (E 3840) (E 3936)) ?_ ?_
 intro E M nm I ni
 refine bl_ok ?_
 refine lo_ok (fun (j : Nat → Nat → Nat → Nat → Nat → Nat → Nat → Nat → Res) E => j (E 672) (E 3744) (E 3840) (E 3936)) (fun _ _ _ _ _ => rfl) ?_
 intro n j E M nm I ni
 kernel_rfl
 intro j
 kernel_rfl
 intro j
 kernel_rfl
 intro j
 refine sq_ok (fun (j : Nat → Nat → Nat → Nat → Nat → Nat → Nat → Nat → Res) E => j (E 384) (E 2304) (E 2400) (E 2496)) ?_ ?_
 intro E M nm I ni
 refine bl_ok ?_
 refine lo_ok (fun (j : Nat → Nat → Nat → Nat → Nat → Nat → Nat → Nat → Res) E => j (E 384) (E 2304) (E 2400) (E 2496)) (fun _ _ _ _ _ => rfl) ?_
 intro n j E M nm I ni
 kernel_rfl
 intro j
 kernel_rfl
 intro j
 kernel_rfl
 intro j
 kernel_rfl
 intro j
 kernel_rfl
theorem e41 : FOkS Go.Proofs.Tryz.prog 201 41 g41 := fok2 fun call t0 t1 M nm I ni kf => by
 refine top_ok Go.Proofs.Tryz.func41 rfl rfl ?_
 refine sq_ok (fun (j : Nat → Nat → Nat → Nat → Nat → Nat → Nat → Res) E => j (E 96) (E 192) (E 384)) ?_ ?_
 intro E M nm I ni
 refine sq_ok (fun (j : Nat → Nat → Nat → Nat → Nat → Nat → Nat → Res) E => j (E 96) (E 192) (E 384)) ?_ ?_
 intro E M nm I ni
 refine sq_ok (fun (j : Nat → Nat → Nat → Nat → Nat → Nat → Nat → Nat → Res) E => j (E 96) (E 192) (E 384) (E 576)) ?_ ?_
 intro E M nm I ni
 refine sq_ok (fun (j : Nat → Nat → Nat → Nat → Nat → Nat → Nat → Nat → Nat → Res) E => j (E 96) (E 192) (E 384) (E 576) (E 672)) ?_ ?_
 intro E M nm I ni
 refine sq_ok (fun (j : Nat → Nat → Nat → Nat → Nat → Nat → Nat → Nat → Res) E => j (E 96) (E 192) (E 384) (E 672)) ?_ ?_
 intro E M nm I ni
 refine sq_ok (fun (j : Nat → Nat → Nat → Nat → Nat → Nat → Nat → Nat → Res) E => j (E 96) (E 192) (E 384) (E 672)) ?_ ?_
 intro E M nm I ni
 refine sq_ok (fun (j : Nat → Nat → Nat → Nat → Nat → Nat → Nat → Nat → Nat → Res) E => j (E 96) (E 192) (E 384) (E 672) (E 1344)) ?_ ?_
 intro E M nm I ni
 refine sq_ok (fun (j : Nat → Nat → Nat → Nat → Nat → Nat → Nat → Nat → Res) E => j (E 96) (E 192) (E 384) (E 1344)) ?_ ?_
 intro E M nm I ni
 kernel_rfl
 intro j
 refine sq_ok (fun (j : Nat → Nat → Nat → Nat → Nat → Nat → Nat → Nat → Nat → Nat → Nat → Res) E => j (E 96) (E 192) (E 384) (E 1344) (E 7200) (E 7296) (E 7392)) ?_ ?_
 intro E M nm I ni
 refine bl_ok ?_
 refine lo_ok (fun (j : Nat → Nat → Nat → Nat → Nat → Nat → Nat → Nat → Nat → Nat → Nat → Res) E => j (E 96) (E 192) (E 384) (E 1344) (E 7200) (E 7296) (E 7392)) (fun _ _ _ _ _ => rfl) ?_
 intro n j E M nm I ni
 kernel_rfl
 intro j
 kernel_rfl
 intro j
 kernel_rfl
 intro j
 kernel_rfl
 intro j
 refine sq_ok (fun (j : Nat → Nat → Nat → Nat → Nat → Nat → Nat → Nat → Nat → Nat → Nat → Res) E => j (E 96) (E 192) (E 384) (E 672) (E 2688) (E 2784) (E 2880)) ?_ ?_
 intro E M nm I ni
 refine bl_ok ?_
 refine lo_ok (fun (j : Nat → Nat → Nat → Nat → Nat → Nat → Nat → Nat → Nat → Nat → Nat → Res) E => j (E 96) (E 192) (E 384) (E 672) (E 2688) (E 2784) (E 2880)) (fun _ _ _ _ _ => rfl) ?_
 intro n j E M nm I ni
 refine sq_ok (fun (j : Nat → Nat → Nat → Nat → Nat → Nat → Nat → Nat → Nat → Nat → Nat → Nat → Res) E => j (E 96) (E 192) (E 384) (E 672) (E 2688) (E 2784) (E 2880) (E 2976)) ?_ ?_
 intro E M nm I ni
 refine sq_ok (fun (j : Nat → Nat → Nat → Nat → Nat → Nat → Nat → Nat → Nat → Nat → Nat → Res) E => j (E 96) (E 192) (E 384) (E 672) (E 2688) (E 2784) (E 2880)) ?_ ?_
 intro E M nm I ni
 refine sq_ok (fun (j : Nat → Nat → Nat → Nat → Nat → Nat → Nat → Nat → Nat → Nat → Nat → Res) E => j (E 96) (E 192) (E 384) (E 672) (E 2688) (E 2784) (E 2880)) ?_ ?_
 intro E M nm I ni
 kernel_rfl
 intro j
 refine bl_ok ?_
 refine sq_ok (fun (j : Nat → Nat → Nat → Nat → Nat → Nat → Nat → Nat → Nat → Nat → Nat → Nat → Nat → Res) E => j (E 96) (E 192) (E 384) (E 672) (E 768) (E 864) (E 2688) (E 2784) (E 2880)) ?_ ?_
 intro E M nm I ni
 refine sq_ok (fun (j : Nat → Nat → Nat → Nat → Nat → Nat → Nat → Nat → Nat → Nat → Nat → Nat → Nat → Nat → Nat → Res) E => j (E 96) (E 192) (E 384) (E 672) (E 768) (E 864) (E 960) (E 1056) (E 2688) (E 2784) (E 2880)) ?_ ?_
 intro E M nm I ni
 refine sq_ok (fun (j : Nat → Nat → Nat → Nat → Nat → Nat → Nat → Nat → Nat → Nat → Nat → Nat → Nat → Nat → Res) E => j (E 96) (E 192) (E 384) (E 672) (E 768) (E 864) (E 960) (E 2688) (E 2784) (E 2880)) ?_ ?_
 intro E M nm I ni
 refine sq_ok (fun (j : Nat → Nat → Nat → Nat → Nat → Nat → Nat → Nat → Nat → Nat → Nat → Nat → Nat → Res) E => j (E 96) (E 192) (E 384) (E 672) (E 768) (E 960) (E 2688) (E 2784) (E 2880)) ?_ ?_
 intro E M nm I ni
 kernel_rfl
 intro j
 refine sq_ok (fun (j : Nat → Nat → Nat → Nat → Nat → Nat → Nat → Nat → Nat → Nat → Nat → Nat → Nat → Nat → Nat → Nat → Nat → Res) E => j (E 96) (E 192) (E 384) (E 672) (E 768) (E 864) (E 960) (E 2688) (E 2784) (E 2880) (E 4608) (E 4704) (E 4800)) ?_ ?_
 intro E M nm I ni
 refine bl_ok ?_
 refine lo_ok (fun (j : Nat → Nat → Nat → Nat → Nat → Nat → Nat → Nat → Nat → Nat → Nat → Nat → Nat → Nat → Nat → Nat → Nat → Res) E => j (E 96) (E 192) (E 384) (E 672) (E 768) (E 864) (E 960) (E 2688) (E 2784) (E 2880) (E 4608) (E 4704) (E 4800)) (fun _ _ _ _ _ => rfl) ?_
 intro n j E M nm I ni
 kernel_rfl
 intro j
 kernel_rfl
 intro j
 kernel_rfl
 intro j
 kernel_rfl
 intro j
 kernel_rfl
 intro j
 kernel_rfl
 intro j
 kernel_rfl
 intro j
 kernel_rfl
 intro j
 kernel_rfl
 intro j
 kernel_rfl
 intro j
 kernel_rfl
 intro j
 kernel_rfl
theorem e240 : FOkS Go.Proofs.Tryz.prog 201 240 g240 := fok1 fun call t0 M nm I ni kf => by
 refine top_ok Go.Proofs.Tryz.func240 rfl rfl ?_
 refine sq_ok (fun (j : Nat → Nat → Nat → Nat → Nat → Res) E => j (E 0)) ?_ ?_
 intro E M nm I ni
 refine sq_ok (fun (j : Nat → Nat → Nat → Nat → Nat → Res) E => j (E 0)) ?_ ?_
 intro E M nm I ni
 refine sq_ok (fun (j : Nat → Nat → Nat → Nat → Res) _ => j) ?_ ?_
 intro E M nm I ni
 kernel_rfl
 intro j
 refine sq_ok (fun (j : Nat → Nat → Nat → Nat → Nat → Nat → Nat → Nat → Res) E => j (E 0) (E 768) (E 864) (E 960)) ?_ ?_
 intro E M nm I ni
 refine bl_ok ?_
 refine lo_ok (fun (j : Nat → Nat → Nat → Nat → Nat → Nat → Nat → Nat → Res) E => j (E 0) (E 768) (E 864) (E 960)) (fun _ _ _ _ _ => rfl) ?_
 intro n j E M nm I ni
 refine sq_ok (fun (j : Nat → Nat → Nat → Nat → Nat → Nat → Nat → Nat → Nat → Res) E => j (E 0) (E 768) (E 864) (E 960) (E 1056)) ?_ ?_
 intro E M nm I ni
 refine sq_ok (fun (j : Nat → Nat → Nat → Nat → Nat → Nat → Nat → Nat → Res) E => j (E 0) (E 768) (E 864) (E 960)) ?_ ?_
 intro E M nm I ni
 refine sq_ok (fun (j : Nat → Nat → Nat → Nat → Nat → Nat → Nat → Nat → Res) E => j (E 0) (E 768) (E 864) (E 960)) ?_ ?_
 intro E M nm I ni
 kernel_rfl
 intro j
 refine bl_ok ?_
 refine sq_ok (fun (j : Nat → Nat → Nat → Nat → Nat → Nat → Nat → Nat → Nat → Nat → Res) E => j (E 0) (E 288) (E 384) (E 768) (E 864) (E 960)) ?_ ?_
 intro E M nm I ni
 kernel_rfl
 intro j
 kernel_rfl
 intro j
 kernel_rfl
 intro j
 kernel_rfl
 intro j
 kernel_rfl
 intro j
 kernel_rfl
 intro j
 kernel_rfl
theorem e224 : FOkS Go.Proofs.Tryz.prog 201 224 g224 := fok2 fun call t0 t1 M nm I ni kf => by
 refine top_ok Go.Proofs.Tryz.func224 rfl rfl ?_
 refine sq_ok (fun (j : Nat → Nat → Nat → Nat → Nat → Nat → Res) E => j (E 0) (E 96)) ?_ ?_
 intro E M nm I ni
 refine sq_ok (fun (j : Nat → Nat → Nat → Nat → Nat → Nat → Nat → Nat → Nat → Res) E => j (E 0) (E 96) (E 2688) (E 2784) (E 2880)) ?_ ?_
 intro E M nm I ni
 refine bl_ok ?_
 refine lo_ok (fun (j : Nat → Nat → Nat → Nat → Nat → Nat → Nat → Nat → Nat → Res) E => j (E 0) (E 96) (E 2688) (E 2784) (E 2880)) (fun _ _ _ _ _ => rfl) ?_
 intro n j E M nm I ni
 kernel_rfl
 intro j
 kernel_rfl
 intro j
 refine sq_ok (fun (j : Nat → Nat → Nat → Nat → Nat → Nat → Nat → Nat → Nat → Res) E => j (E 0) (E 96) (E 1344) (E 1440) (E 1536)) ?_ ?_
 intro E M nm I ni
 refine bl_ok ?_
 refine lo_ok (fun (j : Nat → Nat → Nat → Nat → Nat → Nat → Nat → Nat → Nat → Res) E => j (E 0) (E 96) (E 1344) (E 1440) (E 1536)) (fun _ _ _ _ _ => rfl) ?_
 intro n j E M nm I ni
 kernel_rfl
 intro j
 kernel_rfl
theorem e19 : FOkS Go.Proofs.Tryz.prog 201 19 g19 := fok2 fun call t0 t1 M nm I ni kf => by
 refine top_ok Go.Proofs.Tryz.func19 rfl rfl ?_
 refine sq_ok (fun (j : Nat → Nat → Nat → Nat → Nat → Nat → Nat → Res) E => j (E 0) (E 96) (E 384)) ?_ ?_
 intro E M nm I ni
 refine sq_ok (fun (j : Nat → Nat → Nat → Nat → Nat → Nat → Nat → Res) E => j (E 0) (E 96) (E 384)) ?_ ?_
 intro E M nm I ni
 refine sq_ok (fun (j : Nat → Nat → Nat → Nat → Nat → Nat → Nat → Res) E => j (E 0) (E 96) (E 384)) ?_ ?_
 intro E M nm I ni
 refine sq_ok (fun (j : Nat → Nat → Nat → Nat → Nat → Nat → Nat → Nat → Res) E => j (E 0) (E 96) (E 384) (E 576)) ?_ ?_
 intro E M nm I ni
 refine sq_ok (fun (j : Nat → Nat → Nat → Nat → Nat → Nat → Nat → Nat → Nat → Res) E => j (E 0) (E 96) (E 384) (E 576) (E 672)) ?_ ?_
 intro E M nm I ni
 refine sq_ok (fun (j : Nat → Nat → Nat → Nat → Nat → Nat → Nat → Res) E => j (E 0) (E 384) (E 672)) ?_ ?_
 intro E M nm I ni
 kernel_rfl
 intro j
 refine sq_ok (fun (j : Nat → Nat → Nat → Nat → Nat → Nat → Nat → Nat → Nat → Nat → Nat → Res) E => j (E 0) (E 384) (E 576) (E 672) (E 2688) (E 2784) (E 2880)) ?_ ?_
 intro E M nm I ni
 refine bl_ok ?_
 refine lo_ok (fun (j : Nat → Nat → Nat → Nat → Nat → Nat → Nat → Nat → Nat → Nat → Nat → Res) E => j (E 0) (E 384) (E 576) (E 672) (E 2688) (E 2784) (E 2880)) (fun _ _ _ _ _ => rfl) ?_
 intro n j E M nm I ni
 refine sq_ok (fun (j : Nat → Nat → Nat → Nat → Nat → Nat → Nat → Nat → Nat → Nat → Nat → Nat → Res) E => j (E 0) (E 384) (E 576) (E 672) (E 2688) (E 2784) (E 2880) (E 2976)) ?_ ?_
 intro E M nm I ni
 refine sq_ok (fun (j : Nat → Nat → Nat → Nat → Nat → Nat → Nat → Nat → Nat → Nat → Nat → Res) E => j (E 0) (E 384) (E 576) (E 672) (E 2688) (E 2784) (E 2880)) ?_ ?_
 intro E M nm I ni
 refine sq_ok (fun (j : Nat → Nat → Nat → Nat → Nat → Nat → Nat → Nat → Nat → Nat → Nat → Res) E => j (E 0) (E 384) (E 576) (E 672) (E 2688) (E 2784) (E 2880)) ?_ ?_
 intro E M nm I ni
 kernel_rfl
 intro j
 refine bl_ok ?_
 refine sq_ok (fun (j : Nat → Nat → Nat → Nat → Nat → Nat → Nat → Nat → Nat → Nat → Nat → Nat → Nat → Res) E => j (E 0) (E 384) (E 576) (E 672) (E 768) (E 864) (E 2688) (E 2784) (E 2880)) ?_ ?_
 intro E M nm I ni
 refine sq_ok (fun (j : Nat → Nat → Nat → Nat → Nat → Nat → Nat → Nat → Nat → Nat → Nat → Nat → Nat → Res) E => j (E 0) (E 384) (E 576) (E 672) (E 768) (E 960) (E 2688) (E 2784) (E 2880)) ?_ ?_
 intro E M nm I ni
 kernel_rfl
 intro j
 kernel_rfl
 intro j
 kernel_rfl
 intro j
 kernel_rfl
 intro j
 kernel_rfl
 intro j
 kernel_rfl
 intro j
 kernel_rfl
 intro j
 kernel_rfl
 intro j
 kernel_rfl
 intro j
 kernel_rfl
 intro j
 kernel_rfl
theorem e145 : FOkS Go.Proofs.Tryz.prog 201 145 g145 := fok3 fun call t0 t1 t2 M nm I ni kf => by
 refine top_ok Go.Proofs.Tryz.func145 rfl rfl ?_
 refine sq_ok (fun (j : Nat → Nat → Nat → Nat → Nat → Nat → Nat → Res) E => j (E 96) (E 192) (E 288)) ?_ ?_
 intro E M nm I ni
 refine sq_ok (fun (j : Nat → Nat → Nat → Nat → Nat → Nat → Nat → Nat → Res) E => j (E 96) (E 192) (E 288) (E 672)) ?_ ?_
 intro E M nm I ni
 refine sq_ok (fun (j : Nat → Nat → Nat → Nat → Nat → Res) E => j (E 672)) ?_ ?_
 intro E M nm I ni
 kernel_rfl
 intro j
 refine sq_ok (fun (j : Nat → Nat → Nat → Nat → Nat → Nat → Nat → Nat → Nat → Res) E => j (E 96) (E 288) (E 672) (E 864) (E 960)) ?_ ?_
 intro E M nm I ni
 refine bl_ok ?_
 refine lo_ok (fun (j : Nat → Nat → Nat → Nat → Nat → Nat → Nat → Nat → Nat → Res) E => j (E 96) (E 288) (E 672) (E 864) (E 960)) (fun _ _ _ _ _ => rfl) ?_
 intro n j E M nm I ni
 kernel_rfl
 intro j
 kernel_rfl
 intro j
 kernel_rfl
 intro j
 kernel_rfl
theorem e53 : FOkS Go.Proofs.Tryz.prog 201 53 g53 := fok2 fun call t0 t1 M nm I ni kf => by
 refine top_ok Go.Proofs.Tryz.func53 rfl rfl ?_
 refine sq_ok (fun (j : Nat → Nat → Nat → Nat → Nat → Nat → Res) E => j (E 96) (E 192)) ?_ ?_
 intro E M nm I ni
 refine sq_ok (fun (j : Nat → Nat → Nat → Nat → Nat → Nat → Res) E => j (E 96) (E 192)) ?_ ?_
 intro E M nm I ni
 refine sq_ok (fun (j : Nat → Nat → Nat → Nat → Nat → Res) E => j (E 192)) ?_ ?_
 intro E M nm I ni
 kernel_rfl
 intro j
 refine sq_ok (fun (j : Nat → Nat → Nat → Nat → Nat → Nat → Nat → Nat → Res) E => j (E 192) (E 1056) (E 1152) (E 1248)) ?_ ?_
 intro E M nm I ni
 refine bl_ok ?_
 refine lo_ok (fun (j : Nat → Nat → Nat → Nat → Nat → Nat → Nat → Nat → Res) E => j (E 192) (E 1056) (E 1152) (E 1248)) (fun _ _ _ _ _ => rfl) ?_
 intro n j E M nm I ni
 kernel_rfl
 intro j
 kernel_rfl
 intro j
 kernel_rfl
 intro j
 kernel_rfl
theorem e76 : FOkS Go.Proofs.Tryz.prog 201 76 g76 := fok1 fun call t0 M nm I ni kf => by
 refine top_ok Go.Proofs.Tryz.func76 rfl rfl ?_
 refine sq_ok (fun (j : Nat → Nat → Nat → Nat → Nat → Res) E => j (E 0)) ?_ ?_
 intro E M nm I ni
 refine sq_ok (fun (j : Nat → Nat → Nat → Nat → Nat → Res) E => j (E 0)) ?_ ?_
 intro E M nm I ni
 refine sq_ok (fun (j : Nat → Nat → Nat → Nat → Nat → Nat → Res) E => j (E 0) (E 288)) ?_ ?_
 intro E M nm I ni
 refine sq_ok (fun (j : Nat → Nat → Nat → Nat → Res) _ => j) ?_ ?_
 intro E M nm I ni
 kernel_rfl
 intro j
 refine sq_ok (fun (j : Nat → Nat → Nat → Nat → Nat → Nat → Nat → Nat → Nat → Res) E => j (E 0) (E 288) (E 1152) (E 1248) (E 1344)) ?_ ?_
 intro E M nm I ni
 refine bl_ok ?_
 refine lo_ok (fun (j : Nat → Nat → Nat → Nat → Nat → Nat → Nat → Nat → Nat → Res) E => j (E 0) (E 288) (E 1152) (E 1248) (E 1344)) (fun _ _ _ _ _ => rfl) ?_
 intro n j E M nm I ni
 kernel_rfl
 intro j
 kernel_rfl
 intro j
 kernel_rfl
 intro j
 kernel_rfl
 intro j
 kernel_rfl
theorem e39 : FOkS Go.Proofs.Tryz.prog 201 39 g39 := fok1 fun call t0 M nm I ni kf => by
 refine top_ok Go.Proofs.Tryz.func39 rfl rfl ?_
 refine sq_ok (fun (j : Nat → Nat → Nat → Nat → Nat → Nat → Res) E => j (E 0) (E 192)) ?_ ?_
 intro E M nm I ni
 refine sq_ok (fun (j : Nat → Nat → Nat → Nat → Nat → Nat → Nat → Res) E => j (E 192) (E 384) (E 480)) ?_ ?_
 intro E M nm I ni
 refine sq_ok (fun (j : Nat → Nat → Nat → Nat → Nat → Nat → Res) E => j (E 192) (E 384)) ?_ ?_
 intro E M nm I ni
 refine sq_ok (fun (j : Nat → Nat → Nat → Nat → Nat → Nat → Nat → Nat → Nat → Res) E => j (E 192) (E 384) (E 576) (E 672) (E 768)) ?_ ?_
 intro E M nm I ni
 refine sq_ok (fun (j : Nat → Nat → Nat → Nat → Nat → Nat → Nat → Nat → Res) E => j (E 192) (E 384) (E 576) (E 672)) ?_ ?_
 intro E M nm I ni
 refine sq_ok (fun (j : Nat → Nat → Nat → Nat → Nat → Nat → Nat → Nat → Nat → Nat → Res) E => j (E 192) (E 384) (E 576) (E 672) (E 768) (E 864)) ?_ ?_
 intro E M nm I ni
 refine sq_ok (fun (j : Nat → Nat → Nat → Nat → Nat → Nat → Nat → Nat → Nat → Res) E => j (E 192) (E 384) (E 576) (E 672) (E 864)) ?_ ?_
 intro E M nm I ni
 refine sq_ok (fun (j : Nat → Nat → Nat → Nat → Nat → Nat → Nat → Nat → Res) E => j (E 192) (E 384) (E 672) (E 960)) ?_ ?_
 intro E M nm I ni
 refine sq_ok (fun (j : Nat → Nat → Nat → Nat → Nat → Nat → Nat → Nat → Res) E => j (E 192) (E 384) (E 672) (E 960)) ?_ ?_
 intro E M nm I ni
 kernel_rfl
 intro j
 refine sq_ok (fun (j : Nat → Nat → Nat → Nat → Nat → Nat → Nat → Nat → Nat → Nat → Res) E => j (E 192) (E 384) (E 672) (E 960) (E 4416) (E 4512)) ?_ ?_
 intro E M nm I ni
 refine bl_ok ?_
 refine lo_ok (fun (j : Nat → Nat → Nat → Nat → Nat → Nat → Nat → Nat → Nat → Nat → Res) E => j (E 192) (E 384) (E 672) (E 960) (E 4416) (E 4512)) (fun _ _ _ _ _ => rfl) ?_
 intro n j E M nm I ni
 refine sq_ok (fun (j : Nat → Nat → Nat → Nat → Nat → Nat → Nat → Nat → Nat → Nat → Nat → Res) E => j (E 192) (E 384) (E 672) (E 960) (E 4416) (E 4512) (E 4608)) ?_ ?_
 intro E M nm I ni
 refine sq_ok (fun (j : Nat → Nat → Nat → Nat → Nat → Nat → Nat → Nat → Nat → Nat → Res) E => j (E 192) (E 384) (E 672) (E 960) (E 4416) (E 4512)) ?_ ?_
 intro E M nm I ni
 refine sq_ok (fun (j : Nat → Nat → Nat → Nat → Nat → Nat → Nat → Nat → Nat → Nat → Res) E => j (E 192) (E 384) (E 672) (E 960) (E 4416) (E 4512)) ?_ ?_
 intro E M nm I ni
 kernel_rfl
 intro j
 refine bl_ok ?_
 refine sq_ok (fun (j : Nat → Nat → Nat → Nat → Nat → Nat → Nat → Nat → Nat → Nat → Nat → Res) E => j (E 192) (E 384) (E 672) (E 960) (E 1056) (E 4416) (E 4512)) ?_ ?_
 intro E M nm I ni
 refine sq_ok (fun (j : Nat → Nat → Nat → Nat → Nat → Nat → Nat → Nat → Nat → Nat → Nat → Nat → Res) E => j (E 192) (E 384) (E 672) (E 960) (E 1056) (E 4416) (E 4512) (E 4800)) ?_ ?_
 intro E M nm I ni
 refine bl_ok ?_
 refine lo_ok (fun (j : Nat → Nat → Nat → Nat → Nat → Nat → Nat → Nat → Nat → Nat → Nat → Nat → Res) E => j (E 192) (E 384) (E 672) (E 960) (E 1056) (E 4416) (E 4512) (E 4800)) (fun _ _ _ _ _ => rfl) ?_
 intro n j E M nm I ni
 kernel_rfl
 intro j
 kernel_rfl
 intro j
 kernel_rfl
 intro j
 kernel_rfl
 intro j
 kernel_rfl
 intro j
 kernel_rfl
 intro j
 kernel_rfl
 intro j
 kernel_rfl
 intro j
 kernel_rfl
 intro j
 kernel_rfl
 intro j
 kernel_rfl
 intro j
 kernel_rfl
 intro j
 kernel_rfl
 intro j
 kernel_rfl
theorem e128 : FOkS Go.Proofs.Tryz.prog 201 128 g128 := fok2 fun call t0 t1 M nm I ni kf => by
 refine top_ok Go.Proofs.Tryz.func128 rfl rfl ?_
 kernel_rfl
theorem e64 : FOkS Go.Proofs.Tryz.prog 201 64 g64 := fok5 fun call t0 t1 t2 t3 t4 M nm I ni kf => by
 refine top_ok Go.Proofs.Tryz.func64 rfl rfl ?_
 refine sq_ok (fun (j : Nat → Nat → Nat → Nat → Nat → Nat → Nat → Nat → Nat → Nat → Res) E => j (E 0) (E 96) (E 192) (E 288) (E 384) (E 960)) ?_ ?_
 intro E M nm I ni
 refine sq_ok (fun (j : Nat → Nat → Nat → Nat → Nat → Nat → Nat → Nat → Nat → Nat → Nat → Res) E => j (E 0) (E 96) (E 192) (E 288) (E 384) (E 960) (E 1056)) ?_ ?_
 intro E M nm I ni
 refine bl_ok ?_
 refine lo_ok (fun (j : Nat → Nat → Nat → Nat → Nat → Nat → Nat → Nat → Nat → Nat → Nat → Res) E => j (E 0) (E 96) (E 192) (E 288) (E 384) (E 960) (E 1056)) (fun _ _ _ _ _ => rfl) ?_
 intro n j E M nm I ni
 refine bl_ok ?_
 refine sq_ok (fun (j : Nat → Nat → Nat → Nat → Nat → Nat → Nat → Nat → Nat → Nat → Nat → Nat → Res) E => j (E 0) (E 96) (E 192) (E 288) (E 384) (E 960) (E 1056) (E 1152)) ?_ ?_
 intro E M nm I ni
 refine sq_ok (fun (j : Nat → Nat → Nat → Nat → Nat → Nat → Nat → Nat → Nat → Nat → Nat → Nat → Res) E => j (E 0) (E 96) (E 192) (E 288) (E 384) (E 960) (E 1056) (E 1152)) ?_ ?_
 intro E M nm I ni
 refine sq_ok (fun (j : Nat → Nat → Nat → Nat → Nat → Nat → Nat → Nat → Nat → Nat → Nat → Nat → Res) E => j (E 0) (E 96) (E 192) (E 288) (E 384) (E 960) (E 1056) (E 1152)) ?_ ?_
 intro E M nm I ni
 refine sq_ok (fun (j : Nat → Nat → Nat → Nat → Nat → Nat → Nat → Nat → Nat → Nat → Nat → Nat → Res) E => j (E 0) (E 96) (E 192) (E 288) (E 384) (E 960) (E 1056) (E 1152)) ?_ ?_
 intro E M nm I ni
 refine sq_ok (fun (j : Nat → Nat → Nat → Nat → Nat → Nat → Nat → Nat → Nat → Nat → Nat → Nat → Nat → Nat → Res) E => j (E 0) (E 96) (E 192) (E 288) (E 384) (E 960) (E 1056) (E 1152) (E 1248) (E 1344)) ?_ ?_
 intro E M nm I ni
 refine sq_ok (fun (j : Nat → Nat → Nat → Nat → Nat → Nat → Nat → Nat → Nat → Nat → Nat → Nat → Nat → Nat → Res) E => j (E 0) (E 96) (E 192) (E 288) (E 384) (E 960) (E 1056) (E 1152) (E 1248) (E 1344)) ?_ ?_
 intro E M nm I ni
 refine sq_ok (fun (j : Nat → Nat → Nat → Nat → Nat → Nat → Nat → Nat → Nat → Nat → Nat → Nat → Nat → Res) E => j (E 0) (E 96) (E 192) (E 288) (E 384) (E 960) (E 1056) (E 1152) (E 1248)) ?_ ?_
 intro E M nm I ni
 kernel_rfl
 intro j
 kernel_rfl
 intro j
 kernel_rfl
 intro j
 kernel_rfl
 intro j
 kernel_rfl
 intro j
 kernel_rfl
 intro j
 kernel_rfl
 intro j
 kernel_rfl
 intro j
 kernel_rfl
 intro j
 kernel_rfl
theorem e28 : FOkS Go.Proofs.Tryz.prog 201 28 g28 := fok2 fun call t0 t1 M nm I ni kf => by
 refine top_ok Go.Proofs.Tryz.func28 rfl rfl ?_
 refine sq_ok (fun (j : Nat → Nat → Nat → Nat → Nat → Nat → Res) E => j (E 0) (E 96)) ?_ ?_
 intro E M nm I ni
 refine sq_ok (fun (j : Nat → Nat → Nat → Nat → Nat → Nat → Res) E => j (E 0) (E 96)) ?_ ?_
 intro E M nm I ni
 refine sq_ok (fun (j : Nat → Nat → Nat → Nat → Nat → Nat → Nat → Res) E => j (E 0) (E 96) (E 576)) ?_ ?_
 intro E M nm I ni
 refine sq_ok (fun (j : Nat → Nat → Nat → Nat → Nat → Nat → Nat → Nat → Nat → Res) E => j (E 0) (E 96) (E 576) (E 672) (E 768)) ?_ ?_
 intro E M nm I ni
 refine sq_ok (fun (j : Nat → Nat → Nat → Nat → Nat → Nat → Nat → Nat → Res) E => j (E 0) (E 96) (E 576) (E 672)) ?_ ?_
 intro E M nm I ni
 refine sq_ok (fun (j : Nat → Nat → Nat → Nat → Nat → Nat → Nat → Nat → Res) E => j (E 0) (E 96) (E 576) (E 672)) ?_ ?_
 intro E M nm I ni
 kernel_rfl
 intro j
 refine sq_ok (fun (j : Nat → Nat → Nat → Nat → Nat → Nat → Nat → Nat → Nat → Nat → Res) E => j (E 0) (E 96) (E 576) (E 672) (E 3264) (E 3360)) ?_ ?_
 intro E M nm I ni
 refine bl_ok ?_
 refine lo_ok (fun (j : Nat → Nat → Nat → Nat → Nat → Nat → Nat → Nat → Nat → Nat → Res) E => j (E 0) (E 96) (E 576) (E 672) (E 3264) (E 3360)) (fun _ _ _ _ _ => rfl) ?_
 intro n j E M nm I ni
 refine sq_ok (fun (j : Nat → Nat → Nat → Nat → Nat → Nat → Nat → Nat → Nat → Nat → Nat → Res) E => j (E 0) (E 96) (E 576) (E 672) (E 3264) (E 3360) (E 3456)) ?_ ?_
 intro E M nm I ni
 refine sq_ok (fun (j : Nat → Nat → Nat → Nat → Nat → Nat → Nat → Nat → Nat → Nat → Res) E => j (E 0) (E 96) (E 576) (E 672) (E 3264) (E 3360)) ?_ ?_
 intro E M nm I ni
 refine sq_ok (fun (j : Nat → Nat → Nat → Nat → Nat → Nat → Nat → Nat → Nat → Nat → Res) E => j (E 0) (E 96) (E 576) (E 672) (E 3264) (E 3360)) ?_ ?_
 intro E M nm I ni
 kernel_rfl
 intro j
 refine bl_ok ?_
 refine sq_ok (fun (j : Nat → Nat → Nat → Nat → Nat → Nat → Nat → Nat → Nat → Nat → Nat → Nat → Res) E => j (E 0) (E 576) (E 672) (E 864) (E 960) (E 1056) (E 3264) (E 3360)) ?_ ?_
 intro E M nm I ni
 refine sq_ok (fun (j : Nat → Nat → Nat → Nat → Nat → Nat → Nat → Nat → Nat → Nat → Nat → Res) E => j (E 0) (E 576) (E 672) (E 864) (E 960) (E 3264) (E 3360)) ?_ ?_
 intro E M nm I ni
 kernel_rfl
 intro j
 kernel_rfl
 intro j
 kernel_rfl
 intro j
 kernel_rfl
 intro j
 kernel_rfl
 intro j
 kernel_rfl
 intro j
 kernel_rfl
 intro j
 kernel_rfl
 intro j
 kernel_rfl
 intro j
 kernel_rfl
 intro j
 kernel_rfl
theorem e233 : FOkS Go.Proofs.Tryz.prog 201 233 g233 := fok1 fun call t0 M nm I ni kf => by
 refine top_ok Go.Proofs.Tryz.func233 rfl rfl ?_
 refine sq_ok (fun (j : Nat → Nat → Nat → Nat → Nat → Res) E => j (E 0)) ?_ ?_
 intro E M nm I ni
 refine sq_ok (fun (j : Nat → Nat → Nat → Nat → Nat → Res) E => j (E 0)) ?_ ?_
 intro E M nm I ni
 refine sq_ok (fun (j : Nat → Nat → Nat → Nat → Nat → Nat → Res) E => j (E 0) (E 288)) ?_ ?_
 intro E M nm I ni
 refine sq_ok (fun (j : Nat → Nat → Nat → Nat → Nat → Nat → Res) E => j (E 0) (E 288)) ?_ ?_
 intro E M nm I ni
 refine sq_ok (fun (j : Nat → Nat → Nat → Nat → Nat → Nat → Nat → Res) E => j (E 0) (E 288) (E 384)) ?_ ?_
 intro E M nm I ni
 refine sq_ok (fun (j : Nat → Nat → Nat → Nat → Nat → Nat → Nat → Res) E => j (E 0) (E 288) (E 384)) ?_ ?_
 intro E M nm I ni
 refine sq_ok (fun (j : Nat → Nat → Nat → Nat → Nat → Nat → Nat → Res) E => j (E 0) (E 384) (E 672)) ?_ ?_
 intro E M nm I ni
 refine sq_ok (fun (j : Nat → Nat → Nat → Nat → Nat → Res) E => j (E 672)) ?_ ?_
 intro E M nm I ni
 kernel_rfl
 intro j
 refine sq_ok (fun (j : Nat → Nat → Nat → Nat → Nat → Nat → Nat → Nat → Nat → Res) E => j (E 384) (E 672) (E 4224) (E 4320) (E 4416)) ?_ ?_
 intro E M nm I ni
 refine bl_ok ?_
 refine lo_ok (fun (j : Nat → Nat → Nat → Nat → Nat → Nat → Nat → Nat → Nat → Res) E => j (E 384) (E 672) (E 4224) (E 4320) (E 4416)) (fun _ _ _ _ _ => rfl) ?_
 intro n j E M nm I ni
 kernel_rfl
 intro j
 kernel_rfl
 intro j
 kernel_rfl
 intro j
 refine sq_ok (fun (j : Nat → Nat → Nat → Nat → Nat → Nat → Nat → Nat → Nat → Nat → Res) E => j (E 0) (E 288) (E 384) (E 2880) (E 2976) (E 3072)) ?_ ?_
 intro E M nm I ni
 refine bl_ok ?_
 refine lo_ok (fun (j : Nat → Nat → Nat → Nat → Nat → Nat → Nat → Nat → Nat → Nat → Res) E => j (E 0) (E 288) (E 384) (E 2880) (E 2976) (E 3072)) (fun _ _ _ _ _ => rfl) ?_
 intro n j E M nm I ni
 kernel_rfl
 intro j
 kernel_rfl
 intro j
 kernel_rfl
 intro j
 kernel_rfl
 intro j
 kernel_rfl
 intro j
 kernel_rfl
 intro j
 kernel_rfl
theorem e191 : FOkS Go.Proofs.Tryz.prog 201 191 g191 := fok2 fun call t0 t1 M nm I ni kf => by
 refine top_ok Go.Proofs.Tryz.func191 rfl rfl ?_
 kernel_rfl
theorem e68 : FOkS Go.Proofs.Tryz.prog 201 68 g68 := fok1 fun call t0 M nm I ni kf => by
 refine top_ok Go.Proofs.Tryz.func68 rfl rfl ?_
 refine sq_ok (fun (j : Nat → Nat → Nat → Nat → Nat → Nat → Res) E => j (E 0) (E 192)) ?_ ?_
 intro E M nm I ni
 refine sq_ok (fun (j : Nat → Nat → Nat → Nat → Nat → Nat → Res) E => j (E 0) (E 192)) ?_ ?_
 intro E M nm I ni
 refine sq_ok (fun (j : Nat → Nat → Nat → Nat → Nat → Nat → Res) E => j (E 0) (E 192)) ?_ ?_
 intro E M nm I ni
 refine sq_ok (fun (j : Nat → Nat → Nat → Nat → Nat → Nat → Nat → Res) E => j (E 0) (E 192) (E 384)) ?_ ?_
 intro E M nm I ni
 refine sq_ok (fun (j : Nat → Nat → Nat → Nat → Nat → Nat → Nat → Res) E => j (E 0) (E 192) (E 384)) ?_ ?_
 intro E M nm I ni
 refine sq_ok (fun (j : Nat → Nat → Nat → Nat → Nat → Nat → Nat → Nat → Res) E => j (E 0) (E 192) (E 384) (E 480)) ?_ ?_
 intro E M nm I ni
 refine sq_ok (fun (j : Nat → Nat → Nat → Nat → Nat → Nat → Nat → Res) E => j (E 192) (E 384) (E 480)) ?_ ?_
 intro E M nm I ni
 refine sq_ok (fun (j : Nat → Nat → Nat → Nat → Nat → Nat → Res) E => j (E 192) (E 480)) ?_ ?_
 intro E M nm I ni
 kernel_rfl
 intro j
 kernel_rfl
 intro j
 kernel_rfl
 intro j
 kernel_rfl
 intro j
 kernel_rfl
 intro j
 kernel_rfl
 intro j
 kernel_rfl
 intro j
 kernel_rfl
 intro j
 kernel_rfl
theorem e399 : FOkS Go.Proofs.Tryz.prog 201 399 g399 := fok3 fun call t0 t1 t2 M nm I ni kf => by
 refine top_ok Go.Proofs.Tryz.func399 rfl rfl ?_
 kernel_rfl
theorem e172 : FOkS Go.Proofs.Tryz.prog 201 172 g172 := fok2 fun call t0 t1 M nm I ni kf => by
 refine top_ok Go.Proofs.Tryz.func172 rfl rfl ?_
 kernel_rfl
theorem e40 : FOkS Go.Proofs.Tryz.prog 201 40 g40 := fok2 fun call t0 t1 M nm I ni kf => by
 refine top_ok Go.Proofs.Tryz.func40 rfl rfl ?_
 refine sq_ok (fun (j : Nat → Nat → Nat → Nat → Nat → Nat → Res) E => j (E 0) (E 96)) ?_ ?_
 intro E M nm I ni
 refine sq_ok (fun (j : Nat → Nat → Nat → Nat → Nat → Nat → Res) E => j (E 0) (E 96)) ?_ ?_
 intro E M nm I ni
 refine sq_ok (fun (j : Nat → Nat → Nat → Nat → Res) _ => j) ?_ ?_
 intro E M nm I ni
 kernel_rfl
 intro j
 refine sq_ok (fun (j : Nat → Nat → Nat → Nat → Nat → Nat → Nat → Nat → Res) E => j (E 0) (E 96) (E 1152) (E 1248)) ?_ ?_
 intro E M nm I ni
 refine bl_ok ?_
 refine lo_ok (fun (j : Nat → Nat → Nat → Nat → Nat → Nat → Nat → Nat → Res) E => j (E 0) (E 96) (E 1152) (E 1248)) (fun _ _ _ _ _ => rfl) ?_
 intro n j E M nm I ni
 kernel_rfl
 intro j
 kernel_rfl
 intro j
 kernel_rfl
 intro j
 kernel_rfl
theorem e13 : FOkS Go.Proofs.Tryz.prog 201 13 g13 := fok0 fun call  M nm I ni kf => by
 refine top_ok Go.Proofs.Tryz.func13 rfl rfl ?_
 refine sq_ok (fun (j : Nat → Nat → Nat → Nat → Res) _ => j) ?_ ?_
 intro E M nm I ni
 refine sq_ok (fun (j : Nat → Nat → Nat → Nat → Nat → Nat → Res) E => j (E 96) (E 192)) ?_ ?_
 intro E M nm I ni
 refine sq_ok (fun (j : Nat → Nat → Nat → Nat → Nat → Nat → Nat → Nat → Res) E => j (E 96) (E 192) (E 288) (E 384)) ?_ ?_
 intro E M nm I ni
 refine sq_ok (fun (j : Nat → Nat → Nat → Nat → Nat → Nat → Nat → Nat → Nat → Nat → Res) E => j (E 96) (E 192) (E 384) (E 480) (E 576) (E 672)) ?_ ?_
 intro E M nm I ni
 refine sq_ok (fun (j : Nat → Nat → Nat → Nat → Nat → Nat → Nat → Nat → Nat → Nat → Nat → Nat → Res) E => j (E 96) (E 192) (E 480) (E 576) (E 672) (E 768) (E 864) (E 960)) ?_ ?_
 intro E M nm I ni
 refine sq_ok (fun (j : Nat → Nat → Nat → Nat → Nat → Nat → Nat → Nat → Nat → Nat → Nat → Nat → Nat → Nat → Nat → Res) E => j (E 96) (E 192) (E 480) (E 576) (E 672) (E 768) (E 864) (E 960) (E 1056) (E 1152) (E 1248)) ?_ ?_
 intro E M nm I ni
 refine sq_ok (fun (j : Nat → Nat → Nat → Nat → Nat → Res) E => j (E 96)) ?_ ?_
 intro E M nm I ni
 refine sq_ok (fun (j : Nat → Nat → Nat → Nat → Nat → Nat → Res) E => j (E 96) (E 1536)) ?_ ?_
 intro E M nm I ni
 refine sq_ok (fun (j : Nat → Nat → Nat → Nat → Nat → Nat → Nat → Nat → Res) E => j (E 96) (E 1536) (E 1632) (E 1824)) ?_ ?_
 intro E M nm I ni
 refine sq_ok (fun (j : Nat → Nat → Nat → Nat → Nat → Nat → Nat → Nat → Nat → Nat → Nat → Res) E => j (E 96) (E 1536) (E 1632) (E 1824) (E 1920) (E 2016) (E 2112)) ?_ ?_
 intro E M nm I ni
 refine sq_ok (fun (j : Nat → Nat → Nat → Nat → Nat → Nat → Nat → Nat → Nat → Nat → Nat → Nat → Res) E => j (E 96) (E 1536) (E 1632) (E 1824) (E 1920) (E 2016) (E 2112) (E 2400)) ?_ ?_
 intro E M nm I ni
 refine sq_ok (fun (j : Nat → Nat → Nat → Nat → Nat → Nat → Nat → Nat → Nat → Nat → Nat → Nat → Nat → Res) E => j (E 96) (E 1536) (E 1632) (E 1824) (E 1920) (E 2016) (E 2112) (E 2400) (E 2496)) ?_ ?_
 intro E M nm I ni
 refine sq_ok (fun (j : Nat → Nat → Nat → Nat → Nat → Nat → Nat → Nat → Nat → Nat → Nat → Nat → Nat → Nat → Res) E => j (E 96) (E 1536) (E 1632) (E 1824) (E 1920) (E 2016) (E 2112) (E 2400) (E 2496) (E 2688)) ?_ ?_
 intro E M nm I ni
 refine sq_ok (fun (j : Nat → Nat → Nat → Nat → Nat → Res) E => j (E 2496)) ?_ ?_
 intro E M nm I ni
 kernel_rfl
 intro j
 refine sq_ok (fun (j : Nat → Nat → Nat → Nat → Nat → Nat → Res) E => j (E 2496) (E 18816)) ?_ ?_
 intro E M nm I ni
 kernel_rfl
 intro j
 kernel_rfl
 intro j
 kernel_rfl
 intro j
 kernel_rfl
 intro j
 kernel_rfl
 intro j
 kernel_rfl
 intro j
 kernel_rfl
 intro j
 kernel_rfl
 intro j
 kernel_rfl
 intro j
 kernel_rfl
 intro j
 kernel_rfl
 intro j
 kernel_rfl
 intro j
 kernel_rfl
 intro j
 kernel_rfl
 intro j
 kernel_rfl
theorem e21 : FOkS Go.Proofs.Tryz.prog 201 21 g21 := fok1 fun call t0 M nm I ni kf => by
 refine top_ok Go.Proofs.Tryz.func21 rfl rfl ?_
 kernel_rfl
theorem e125 : FOkS Go.Proofs.Tryz.prog 201 125 g125 := fok3 fun call t0 t1 t2 M nm I ni kf => by
 refine top_ok Go.Proofs.Tryz.func125 rfl rfl ?_
 refine sq_ok (fun (j : Nat → Nat → Nat → Nat → Nat → Nat → Nat → Nat → Res) E => j (E 0) (E 96) (E 192) (E 576)) ?_ ?_
 intro E M nm I ni
 refine sq_ok (fun (j : Nat → Nat → Nat → Nat → Nat → Nat → Nat → Nat → Nat → Nat → Res) E => j (E 0) (E 96) (E 192) (E 576) (E 672) (E 768)) ?_ ?_
 intro E M nm I ni
 refine sq_ok (fun (j : Nat → Nat → Nat → Nat → Nat → Nat → Nat → Nat → Nat → Res) E => j (E 0) (E 96) (E 192) (E 576) (E 672)) ?_ ?_
 intro E M nm I ni
 refine sq_ok (fun (j : Nat → Nat → Nat → Nat → Nat → Nat → Nat → Nat → Res) E => j (E 0) (E 96) (E 192) (E 576)) ?_ ?_
 intro E M nm I ni
 refine bl_ok ?_
 refine lo_ok (fun (j : Nat → Nat → Nat → Nat → Nat → Nat → Nat → Nat → Res) E => j (E 0) (E 96) (E 192) (E 576)) (fun _ _ _ _ _ => rfl) ?_
 intro n j E M nm I ni
 refine sq_ok (fun (j : Nat → Nat → Nat → Nat → Nat → Nat → Nat → Nat → Res) E => j (E 0) (E 96) (E 192) (E 576)) ?_ ?_
 intro E M nm I ni
 refine bl_ok ?_
 refine sq_ok (fun (j : Nat → Nat → Nat → Nat → Nat → Nat → Nat → Nat → Nat → Nat → Res) E => j (E 0) (E 96) (E 192) (E 576) (E 672) (E 768)) ?_ ?_
 intro E M nm I ni
 refine sq_ok (fun (j : Nat → Nat → Nat → Nat → Nat → Nat → Nat → Nat → Nat → Res) E => j (E 0) (E 96) (E 192) (E 576) (E 672)) ?_ ?_
 intro E M nm I ni
 kernel_rfl
 intro j
 refine bl_ok ?_
 refine lo_ok (fun (j : Nat → Nat → Nat → Nat → Nat → Nat → Nat → Nat → Nat → Nat → Res) E => j (E 0) (E 96) (E 192) (E 576) (E 672) (E 768)) (fun _ _ _ _ _ => rfl) ?_
 intro n j E M nm I ni
 kernel_rfl
 intro j
 kernel_rfl
 intro j
 kernel_rfl
 intro j
 kernel_rfl
 intro j
 refine bl_ok ?_
 refine lo_ok (fun (j : Nat → Nat → Nat → Nat → Nat → Nat → Nat → Nat → Nat → Nat → Res) E => j (E 0) (E 96) (E 192) (E 576) (E 672) (E 768)) (fun _ _ _ _ _ => rfl) ?_
 intro n j E M nm I ni
 kernel_rfl
 intro j
 kernel_rfl
 intro j
 kernel_rfl
theorem e149 : FOkS Go.Proofs.Tryz.prog 201 149 g149 := fok4 fun call t0 t1 t2 t3 M nm I ni kf => by
 refine top_ok Go.Proofs.Tryz.func149 rfl rfl ?_
 refine sq_ok (fun (j : Nat → Nat → Nat → Nat → Nat → Nat → Nat → Nat → Nat → Res) E => j (E 0) (E 96) (E 192) (E 288) (E 768)) ?_ ?_
 intro E M nm I ni
 refine bl_ok ?_
 refine lo_ok (fun (j : Nat → Nat → Nat → Nat → Nat → Nat → Nat → Nat → Nat → Res) E => j (E 0) (E 96) (E 192) (E 288) (E 768)) (fun _ _ _ _ _ => rfl) ?_
 intro n j E M nm I ni
 refine sq_ok (fun (j : Nat → Nat → Nat → Nat → Nat → Nat → Nat → Nat → Nat → Res) E => j (E 0) (E 96) (E 192) (E 288) (E 768)) ?_ ?_
 intro E M nm I ni
 refine sq_ok (fun (j : Nat → Nat → Nat → Nat → Nat → Nat → Nat → Nat → Nat → Res) E => j (E 0) (E 96) (E 192) (E 288) (E 768)) ?_ ?_
 intro E M nm I ni
 kernel_rfl
 intro j
 refine bl_ok ?_
 refine sq_ok (fun (j : Nat → Nat → Nat → Nat → Nat → Nat → Nat → Nat → Nat → Nat → Res) E => j (E 0) (E 96) (E 192) (E 288) (E 768) (E 864)) ?_ ?_
 intro E M nm I ni
 refine bl_ok ?_
 refine lo_ok (fun (j : Nat → Nat → Nat → Nat → Nat → Nat → Nat → Nat → Nat → Nat → Res) E => j (E 0) (E 96) (E 192) (E 288) (E 768) (E 864)) (fun _ _ _ _ _ => rfl) ?_
 intro n j E M nm I ni
 kernel_rfl
 intro j
 kernel_rfl
 intro j
 kernel_rfl
 intro j
 kernel_rfl
theorem e70 : FOkS Go.Proofs.Tryz.prog 201 70 g70 := fok2 fun call t0 t1 M nm I ni kf => by
 refine top_ok Go.Proofs.Tryz.func70 rfl rfl ?_
 kernel_rfl
theorem e230 : FOkS Go.Proofs.Tryz.prog 201 230 g230 := fok1 fun call t0 M nm I ni kf => by
 refine top_ok Go.Proofs.Tryz.func230 rfl rfl ?_
 refine sq_ok (fun (j : Nat → Nat → Nat → Nat → Nat → Nat → Nat → Res) E => j (E 0) (E 192) (E 288)) ?_ ?_
 intro E M nm I ni
 refine bl_ok ?_
 refine lo_ok (fun (j : Nat → Nat → Nat → Nat → Nat → Nat → Nat → Res) E => j (E 0) (E 192) (E 288)) (fun _ _ _ _ _ => rfl) ?_
 intro n j E M nm I ni
 kernel_rfl
 intro j
 kernel_rfl
theorem e74 : FOkS Go.Proofs.Tryz.prog 201 74 g74 := fok2 fun call t0 t1 M nm I ni kf => by
 refine top_ok Go.Proofs.Tryz.func74 rfl rfl ?_
 kernel_rfl
theorem e36 : FOkS Go.Proofs.Tryz.prog 201 36 g36 := fok1 fun call t0 M nm I ni kf => by
 refine top_ok Go.Proofs.Tryz.func36 rfl rfl ?_
 kernel_rfl
theorem e11 : FOkS Go.Proofs.Tryz.prog 201 11 g11 := fok2 fun call t0 t1 M nm I ni kf => by
 refine top_ok Go.Proofs.Tryz.func11 rfl rfl ?_
 kernel_rfl
theorem e7 : FOkS Go.Proofs.Tryz.prog 201 7 g7 := fok1 fun call t0 M nm I ni kf => by
 refine top_ok Go.Proofs.Tryz.func7 rfl rfl ?_
 kernel_rfl
end Go.Proofs.YtpjhkpmmbeoghaaGreat.Ev
