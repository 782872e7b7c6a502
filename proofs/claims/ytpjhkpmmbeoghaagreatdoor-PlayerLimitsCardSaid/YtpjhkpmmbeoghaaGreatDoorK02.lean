/- Part 2 of a verified evaluator, and what it reckons of the player. -/
import Derived.Test.YtpjhkpmmbeoghaaGreatDoorK01
import Derived.RangeFuncNested
import Derived.RangeFuncBound
import Derived.RangeFuncFrom
import Derived.Below
import Derived.KernelRfl
set_option linter.unusedVariables false
set_option linter.unusedSimpArgs false
set_option linter.unusedSectionVars false
namespace Go.Proofs.YtpjhkpmmbeoghaaGreatDoor.Ev
open Go
section
variable {P : Program} {call : CallT} {E : Fr} {M nm I ni : Nat}
theorem step_lin (hc : ∀ f ws M nm I ni, Lin (call f ws M nm I ni)) (i : In) : Lin (stepK P call i E M nm I ni) := by
  cases i
  case mov x =>
    show Good _ (fun kf : KF => (opdK x) E I ni fun w I ni => kf w M nm I ni)
    repeat' first
    | exact good_bad
    | refine good_leaf ⟨_, _, _, _, _, fun _ => rfl⟩
    | refine good_iff ?_ ?_ | refine good_op2 fun _ _ _ _ => ?_ | refine good_opd fun _ _ _ => ?_ | refine good_opds fun _ _ _ => ?_ | refine good_grow fun _ _ => ?_
    | refine good_bool fun _ _ _ => ?_ | refine good_enc fun _ _ _ => ?_ | refine good_optz fun _ _ _ => ?_ | refine good_nat fun _ => ?_ | refine good_bnd fun _ _ _ => ?_
    | refine good_part fun _ => ?_ | refine good_fill fun _ _ _ => ?_ | refine good_in ?_ | refine good_ptr ?_ | refine good_ptrK fun _ _ _ => ?_
    | refine good_keyTag ?_ | refine good_find (fun _ => ?_) ?_ | refine good_mapIn fun _ _ => ?_ | refine good_okK fun _ _ _ => ?_ | refine good_zer fun _ _ _ => ?_ | refine good_bytes fun _ => ?_ | refine good_alloc ?_ | refine good_orec ?_ fun _ => ?_
  case pick c a b =>
    show Good _ (fun kf : KF => (pickK c a b) E I ni fun w I ni => kf w M nm I ni)
    unfold pickK
    repeat' first
    | exact good_bad
    | refine good_leaf ⟨_, _, _, _, _, fun _ => rfl⟩
    | refine good_iff ?_ ?_ | refine good_op2 fun _ _ _ _ => ?_ | refine good_opd fun _ _ _ => ?_ | refine good_opds fun _ _ _ => ?_ | refine good_grow fun _ _ => ?_
    | refine good_bool fun _ _ _ => ?_ | refine good_enc fun _ _ _ => ?_ | refine good_optz fun _ _ _ => ?_ | refine good_nat fun _ => ?_ | refine good_bnd fun _ _ _ => ?_
    | refine good_part fun _ => ?_ | refine good_fill fun _ _ _ => ?_ | refine good_in ?_ | refine good_ptr ?_ | refine good_ptrK fun _ _ _ => ?_
    | refine good_keyTag ?_ | refine good_find (fun _ => ?_) ?_ | refine good_mapIn fun _ _ => ?_ | refine good_okK fun _ _ _ => ?_ | refine good_zer fun _ _ _ => ?_ | refine good_bytes fun _ => ?_ | refine good_alloc ?_ | refine good_orec ?_ fun _ => ?_
  case add x y =>
    show Good _ (fun kf : KF => op2 x y E I ni fun wx wy I ni => add64 wx wy I ni fun w I ni => kf w M nm I ni)
    refine good_op2 fun _ _ _ _ => ?_
    unfold add64
    exact good_iff (good_iff (good_leaf ⟨_, _, _, _, _, fun _ => rfl⟩) good_bad) good_bad
  case sub x y =>
    show Good _ (fun kf : KF => op2 x y E I ni fun wx wy I ni => sub64 wx wy I ni fun w I ni => kf w M nm I ni)
    refine good_op2 fun _ _ _ _ => ?_
    unfold sub64
    exact good_iff (good_iff (good_leaf ⟨_, _, _, _, _, fun _ => rfl⟩) good_bad) good_bad
  case iop op k x y =>
    show Good _ (fun kf : KF => (iopK op k x y) E I ni fun w I ni => kf w M nm I ni)
    unfold iopK
    repeat' first
    | exact good_bad
    | refine good_leaf ⟨_, _, _, _, _, fun _ => rfl⟩
    | refine good_iff ?_ ?_ | refine good_op2 fun _ _ _ _ => ?_ | refine good_opd fun _ _ _ => ?_ | refine good_opds fun _ _ _ => ?_ | refine good_grow fun _ _ => ?_
    | refine good_bool fun _ _ _ => ?_ | refine good_enc fun _ _ _ => ?_ | refine good_optz fun _ _ _ => ?_ | refine good_nat fun _ => ?_ | refine good_bnd fun _ _ _ => ?_
    | refine good_part fun _ => ?_ | refine good_fill fun _ _ _ => ?_ | refine good_in ?_ | refine good_ptr ?_ | refine good_ptrK fun _ _ _ => ?_
    | refine good_keyTag ?_ | refine good_find (fun _ => ?_) ?_ | refine good_mapIn fun _ _ => ?_ | refine good_okK fun _ _ _ => ?_ | refine good_zer fun _ _ _ => ?_ | refine good_bytes fun _ => ?_ | refine good_alloc ?_ | refine good_orec ?_ fun _ => ?_
  case shf op k yk x y =>
    show Good _ (fun kf : KF => (shfK op k yk x y) E I ni fun w I ni => kf w M nm I ni)
    unfold shfK
    repeat' first
    | exact good_bad
    | refine good_leaf ⟨_, _, _, _, _, fun _ => rfl⟩
    | refine good_iff ?_ ?_ | refine good_op2 fun _ _ _ _ => ?_ | refine good_opd fun _ _ _ => ?_ | refine good_opds fun _ _ _ => ?_ | refine good_grow fun _ _ => ?_
    | refine good_bool fun _ _ _ => ?_ | refine good_enc fun _ _ _ => ?_ | refine good_optz fun _ _ _ => ?_ | refine good_nat fun _ => ?_ | refine good_bnd fun _ _ _ => ?_
    | refine good_part fun _ => ?_ | refine good_fill fun _ _ _ => ?_ | refine good_in ?_ | refine good_ptr ?_ | refine good_ptrK fun _ _ _ => ?_
    | refine good_keyTag ?_ | refine good_find (fun _ => ?_) ?_ | refine good_mapIn fun _ _ => ?_ | refine good_okK fun _ _ _ => ?_ | refine good_zer fun _ _ _ => ?_ | refine good_bytes fun _ => ?_ | refine good_alloc ?_ | refine good_orec ?_ fun _ => ?_
  case ieq t neg x y =>
    show Good _ (fun kf : KF => (ieqK t neg x y) E I ni fun w I ni => kf w M nm I ni)
    unfold ieqK
    repeat' first
    | exact good_bad
    | refine good_leaf ⟨_, _, _, _, _, fun _ => rfl⟩
    | refine good_iff ?_ ?_ | refine good_op2 fun _ _ _ _ => ?_ | refine good_opd fun _ _ _ => ?_ | refine good_opds fun _ _ _ => ?_ | refine good_grow fun _ _ => ?_
    | refine good_bool fun _ _ _ => ?_ | refine good_enc fun _ _ _ => ?_ | refine good_optz fun _ _ _ => ?_ | refine good_nat fun _ => ?_ | refine good_bnd fun _ _ _ => ?_
    | refine good_part fun _ => ?_ | refine good_fill fun _ _ _ => ?_ | refine good_in ?_ | refine good_ptr ?_ | refine good_ptrK fun _ _ _ => ?_
    | refine good_keyTag ?_ | refine good_find (fun _ => ?_) ?_ | refine good_mapIn fun _ _ => ?_ | refine good_okK fun _ _ _ => ?_ | refine good_zer fun _ _ _ => ?_ | refine good_bytes fun _ => ?_ | refine good_alloc ?_ | refine good_orec ?_ fun _ => ?_
  case ilt t neg x y =>
    show Good _ (fun kf : KF => (iltK t neg x y) E I ni fun w I ni => kf w M nm I ni)
    unfold iltK
    repeat' first
    | exact good_bad
    | refine good_leaf ⟨_, _, _, _, _, fun _ => rfl⟩
    | refine good_iff ?_ ?_ | refine good_op2 fun _ _ _ _ => ?_ | refine good_opd fun _ _ _ => ?_ | refine good_opds fun _ _ _ => ?_ | refine good_grow fun _ _ => ?_
    | refine good_bool fun _ _ _ => ?_ | refine good_enc fun _ _ _ => ?_ | refine good_optz fun _ _ _ => ?_ | refine good_nat fun _ => ?_ | refine good_bnd fun _ _ _ => ?_
    | refine good_part fun _ => ?_ | refine good_fill fun _ _ _ => ?_ | refine good_in ?_ | refine good_ptr ?_ | refine good_ptrK fun _ _ _ => ?_
    | refine good_keyTag ?_ | refine good_find (fun _ => ?_) ?_ | refine good_mapIn fun _ _ => ?_ | refine good_okK fun _ _ _ => ?_ | refine good_zer fun _ _ _ => ?_ | refine good_bytes fun _ => ?_ | refine good_alloc ?_ | refine good_orec ?_ fun _ => ?_
  case seq neg x y =>
    show Good _ (fun kf : KF => (seqK neg x y) E I ni fun w I ni => kf w M nm I ni)
    unfold seqK
    repeat' first
    | exact good_bad
    | refine good_leaf ⟨_, _, _, _, _, fun _ => rfl⟩
    | refine good_iff ?_ ?_ | refine good_op2 fun _ _ _ _ => ?_ | refine good_opd fun _ _ _ => ?_ | refine good_opds fun _ _ _ => ?_ | refine good_grow fun _ _ => ?_
    | refine good_bool fun _ _ _ => ?_ | refine good_enc fun _ _ _ => ?_ | refine good_optz fun _ _ _ => ?_ | refine good_nat fun _ => ?_ | refine good_bnd fun _ _ _ => ?_
    | refine good_part fun _ => ?_ | refine good_fill fun _ _ _ => ?_ | refine good_in ?_ | refine good_ptr ?_ | refine good_ptrK fun _ _ _ => ?_
    | refine good_keyTag ?_ | refine good_find (fun _ => ?_) ?_ | refine good_mapIn fun _ _ => ?_ | refine good_okK fun _ _ _ => ?_ | refine good_zer fun _ _ _ => ?_ | refine good_bytes fun _ => ?_ | refine good_alloc ?_ | refine good_orec ?_ fun _ => ?_
  case nilq neg z t x =>
    show Good _ (fun kf : KF => (nilqK neg z t x) E I ni fun w I ni => kf w M nm I ni)
    unfold nilqK
    repeat' first
    | exact good_bad
    | refine good_leaf ⟨_, _, _, _, _, fun _ => rfl⟩
    | refine good_iff ?_ ?_ | refine good_op2 fun _ _ _ _ => ?_ | refine good_opd fun _ _ _ => ?_ | refine good_opds fun _ _ _ => ?_ | refine good_grow fun _ _ => ?_
    | refine good_bool fun _ _ _ => ?_ | refine good_enc fun _ _ _ => ?_ | refine good_optz fun _ _ _ => ?_ | refine good_nat fun _ => ?_ | refine good_bnd fun _ _ _ => ?_
    | refine good_part fun _ => ?_ | refine good_fill fun _ _ _ => ?_ | refine good_in ?_ | refine good_ptr ?_ | refine good_ptrK fun _ _ _ => ?_
    | refine good_keyTag ?_ | refine good_find (fun _ => ?_) ?_ | refine good_mapIn fun _ _ => ?_ | refine good_okK fun _ _ _ => ?_ | refine good_zer fun _ _ _ => ?_ | refine good_bytes fun _ => ?_ | refine good_alloc ?_ | refine good_orec ?_ fun _ => ?_
  case not x =>
    show Good _ (fun kf : KF => (notK x) E I ni fun w I ni => kf w M nm I ni)
    unfold notK
    repeat' first
    | exact good_bad
    | refine good_leaf ⟨_, _, _, _, _, fun _ => rfl⟩
    | refine good_iff ?_ ?_ | refine good_op2 fun _ _ _ _ => ?_ | refine good_opd fun _ _ _ => ?_ | refine good_opds fun _ _ _ => ?_ | refine good_grow fun _ _ => ?_
    | refine good_bool fun _ _ _ => ?_ | refine good_enc fun _ _ _ => ?_ | refine good_optz fun _ _ _ => ?_ | refine good_nat fun _ => ?_ | refine good_bnd fun _ _ _ => ?_
    | refine good_part fun _ => ?_ | refine good_fill fun _ _ _ => ?_ | refine good_in ?_ | refine good_ptr ?_ | refine good_ptrK fun _ _ _ => ?_
    | refine good_keyTag ?_ | refine good_find (fun _ => ?_) ?_ | refine good_mapIn fun _ _ => ?_ | refine good_okK fun _ _ _ => ?_ | refine good_zer fun _ _ _ => ?_ | refine good_bytes fun _ => ?_ | refine good_alloc ?_ | refine good_orec ?_ fun _ => ?_
  case neg k x =>
    show Good _ (fun kf : KF => (negK k x) E I ni fun w I ni => kf w M nm I ni)
    unfold negK
    repeat' first
    | exact good_bad
    | refine good_leaf ⟨_, _, _, _, _, fun _ => rfl⟩
    | refine good_iff ?_ ?_ | refine good_op2 fun _ _ _ _ => ?_ | refine good_opd fun _ _ _ => ?_ | refine good_opds fun _ _ _ => ?_ | refine good_grow fun _ _ => ?_
    | refine good_bool fun _ _ _ => ?_ | refine good_enc fun _ _ _ => ?_ | refine good_optz fun _ _ _ => ?_ | refine good_nat fun _ => ?_ | refine good_bnd fun _ _ _ => ?_
    | refine good_part fun _ => ?_ | refine good_fill fun _ _ _ => ?_ | refine good_in ?_ | refine good_ptr ?_ | refine good_ptrK fun _ _ _ => ?_
    | refine good_keyTag ?_ | refine good_find (fun _ => ?_) ?_ | refine good_mapIn fun _ _ => ?_ | refine good_okK fun _ _ _ => ?_ | refine good_zer fun _ _ _ => ?_ | refine good_bytes fun _ => ?_ | refine good_alloc ?_ | refine good_orec ?_ fun _ => ?_
  case conv s k x =>
    show Good _ (fun kf : KF => (convK s k x) E I ni fun w I ni => kf w M nm I ni)
    unfold convK
    repeat' first
    | exact good_bad
    | refine good_leaf ⟨_, _, _, _, _, fun _ => rfl⟩
    | refine good_iff ?_ ?_ | refine good_op2 fun _ _ _ _ => ?_ | refine good_opd fun _ _ _ => ?_ | refine good_opds fun _ _ _ => ?_ | refine good_grow fun _ _ => ?_
    | refine good_bool fun _ _ _ => ?_ | refine good_enc fun _ _ _ => ?_ | refine good_optz fun _ _ _ => ?_ | refine good_nat fun _ => ?_ | refine good_bnd fun _ _ _ => ?_
    | refine good_part fun _ => ?_ | refine good_fill fun _ _ _ => ?_ | refine good_in ?_ | refine good_ptr ?_ | refine good_ptrK fun _ _ _ => ?_
    | refine good_keyTag ?_ | refine good_find (fun _ => ?_) ?_ | refine good_mapIn fun _ _ => ?_ | refine good_okK fun _ _ _ => ?_ | refine good_zer fun _ _ _ => ?_ | refine good_bytes fun _ => ?_ | refine good_alloc ?_ | refine good_orec ?_ fun _ => ?_
  case len x =>
    show Good _ (fun kf : KF => (lenSK x) E I ni fun w I ni => kf w M nm I ni)
    unfold lenSK
    repeat' first
    | exact good_bad
    | refine good_leaf ⟨_, _, _, _, _, fun _ => rfl⟩
    | refine good_iff ?_ ?_ | refine good_op2 fun _ _ _ _ => ?_ | refine good_opd fun _ _ _ => ?_ | refine good_opds fun _ _ _ => ?_ | refine good_grow fun _ _ => ?_
    | refine good_bool fun _ _ _ => ?_ | refine good_enc fun _ _ _ => ?_ | refine good_optz fun _ _ _ => ?_ | refine good_nat fun _ => ?_ | refine good_bnd fun _ _ _ => ?_
    | refine good_part fun _ => ?_ | refine good_fill fun _ _ _ => ?_ | refine good_in ?_ | refine good_ptr ?_ | refine good_ptrK fun _ _ _ => ?_
    | refine good_keyTag ?_ | refine good_find (fun _ => ?_) ?_ | refine good_mapIn fun _ _ => ?_ | refine good_okK fun _ _ _ => ?_ | refine good_zer fun _ _ _ => ?_ | refine good_bytes fun _ => ?_ | refine good_alloc ?_ | refine good_orec ?_ fun _ => ?_
  case lenT x =>
    show Good _ (fun kf : KF => (lenTK x) E I ni fun w I ni => kf w M nm I ni)
    unfold lenTK
    repeat' first
    | exact good_bad
    | refine good_leaf ⟨_, _, _, _, _, fun _ => rfl⟩
    | refine good_iff ?_ ?_ | refine good_op2 fun _ _ _ _ => ?_ | refine good_opd fun _ _ _ => ?_ | refine good_opds fun _ _ _ => ?_ | refine good_grow fun _ _ => ?_
    | refine good_bool fun _ _ _ => ?_ | refine good_enc fun _ _ _ => ?_ | refine good_optz fun _ _ _ => ?_ | refine good_nat fun _ => ?_ | refine good_bnd fun _ _ _ => ?_
    | refine good_part fun _ => ?_ | refine good_fill fun _ _ _ => ?_ | refine good_in ?_ | refine good_ptr ?_ | refine good_ptrK fun _ _ _ => ?_
    | refine good_keyTag ?_ | refine good_find (fun _ => ?_) ?_ | refine good_mapIn fun _ _ => ?_ | refine good_okK fun _ _ _ => ?_ | refine good_zer fun _ _ _ => ?_ | refine good_bytes fun _ => ?_ | refine good_alloc ?_ | refine good_orec ?_ fun _ => ?_
  case iadrS sz x i =>
    show Good _ (fun kf : KF => (iadrSK sz x i) E I ni fun w I ni => kf w M nm I ni)
    unfold iadrSK
    repeat' first
    | exact good_bad
    | refine good_leaf ⟨_, _, _, _, _, fun _ => rfl⟩
    | refine good_iff ?_ ?_ | refine good_op2 fun _ _ _ _ => ?_ | refine good_opd fun _ _ _ => ?_ | refine good_opds fun _ _ _ => ?_ | refine good_grow fun _ _ => ?_
    | refine good_bool fun _ _ _ => ?_ | refine good_enc fun _ _ _ => ?_ | refine good_optz fun _ _ _ => ?_ | refine good_nat fun _ => ?_ | refine good_bnd fun _ _ _ => ?_
    | refine good_part fun _ => ?_ | refine good_fill fun _ _ _ => ?_ | refine good_in ?_ | refine good_ptr ?_ | refine good_ptrK fun _ _ _ => ?_
    | refine good_keyTag ?_ | refine good_find (fun _ => ?_) ?_ | refine good_mapIn fun _ _ => ?_ | refine good_okK fun _ _ _ => ?_ | refine good_zer fun _ _ _ => ?_ | refine good_bytes fun _ => ?_ | refine good_alloc ?_ | refine good_orec ?_ fun _ => ?_
  case iadrA len sz x i =>
    show Good _ (fun kf : KF => (iadrAK len sz x i) E I ni fun w I ni => kf w M nm I ni)
    unfold iadrAK
    repeat' first
    | exact good_bad
    | refine good_leaf ⟨_, _, _, _, _, fun _ => rfl⟩
    | refine good_iff ?_ ?_ | refine good_op2 fun _ _ _ _ => ?_ | refine good_opd fun _ _ _ => ?_ | refine good_opds fun _ _ _ => ?_ | refine good_grow fun _ _ => ?_
    | refine good_bool fun _ _ _ => ?_ | refine good_enc fun _ _ _ => ?_ | refine good_optz fun _ _ _ => ?_ | refine good_nat fun _ => ?_ | refine good_bnd fun _ _ _ => ?_
    | refine good_part fun _ => ?_ | refine good_fill fun _ _ _ => ?_ | refine good_in ?_ | refine good_ptr ?_ | refine good_ptrK fun _ _ _ => ?_
    | refine good_keyTag ?_ | refine good_find (fun _ => ?_) ?_ | refine good_mapIn fun _ _ => ?_ | refine good_okK fun _ _ _ => ?_ | refine good_zer fun _ _ _ => ?_ | refine good_bytes fun _ => ?_ | refine good_alloc ?_ | refine good_orec ?_ fun _ => ?_
  case fadr off x =>
    show Good _ (fun kf : KF => (fadrK off x) E I ni fun w I ni => kf w M nm I ni)
    unfold fadrK
    repeat' first
    | exact good_bad
    | refine good_leaf ⟨_, _, _, _, _, fun _ => rfl⟩
    | refine good_iff ?_ ?_ | refine good_op2 fun _ _ _ _ => ?_ | refine good_opd fun _ _ _ => ?_ | refine good_opds fun _ _ _ => ?_ | refine good_grow fun _ _ => ?_
    | refine good_bool fun _ _ _ => ?_ | refine good_enc fun _ _ _ => ?_ | refine good_optz fun _ _ _ => ?_ | refine good_nat fun _ => ?_ | refine good_bnd fun _ _ _ => ?_
    | refine good_part fun _ => ?_ | refine good_fill fun _ _ _ => ?_ | refine good_in ?_ | refine good_ptr ?_ | refine good_ptrK fun _ _ _ => ?_
    | refine good_keyTag ?_ | refine good_find (fun _ => ?_) ?_ | refine good_mapIn fun _ _ => ?_ | refine good_okK fun _ _ _ => ?_ | refine good_zer fun _ _ _ => ?_ | refine good_bytes fun _ => ?_ | refine good_alloc ?_ | refine good_orec ?_ fun _ => ?_
  case fld1 t off x =>
    show Good _ (fun kf : KF => (fld1K t off x) E I ni fun w I ni => kf w M nm I ni)
    unfold fld1K
    repeat' first
    | exact good_bad
    | refine good_leaf ⟨_, _, _, _, _, fun _ => rfl⟩
    | refine good_iff ?_ ?_ | refine good_op2 fun _ _ _ _ => ?_ | refine good_opd fun _ _ _ => ?_ | refine good_opds fun _ _ _ => ?_ | refine good_grow fun _ _ => ?_
    | refine good_bool fun _ _ _ => ?_ | refine good_enc fun _ _ _ => ?_ | refine good_optz fun _ _ _ => ?_ | refine good_nat fun _ => ?_ | refine good_bnd fun _ _ _ => ?_
    | refine good_part fun _ => ?_ | refine good_fill fun _ _ _ => ?_ | refine good_in ?_ | refine good_ptr ?_ | refine good_ptrK fun _ _ _ => ?_
    | refine good_keyTag ?_ | refine good_find (fun _ => ?_) ?_ | refine good_mapIn fun _ _ => ?_ | refine good_okK fun _ _ _ => ?_ | refine good_zer fun _ _ _ => ?_ | refine good_bytes fun _ => ?_ | refine good_alloc ?_ | refine good_orec ?_ fun _ => ?_
  case fldN off n x =>
    show Good _ (fun kf : KF => (fldNK off n x) E I ni fun w I ni => kf w M nm I ni)
    unfold fldNK
    repeat' first
    | exact good_bad
    | refine good_leaf ⟨_, _, _, _, _, fun _ => rfl⟩
    | refine good_iff ?_ ?_ | refine good_op2 fun _ _ _ _ => ?_ | refine good_opd fun _ _ _ => ?_ | refine good_opds fun _ _ _ => ?_ | refine good_grow fun _ _ => ?_
    | refine good_bool fun _ _ _ => ?_ | refine good_enc fun _ _ _ => ?_ | refine good_optz fun _ _ _ => ?_ | refine good_nat fun _ => ?_ | refine good_bnd fun _ _ _ => ?_
    | refine good_part fun _ => ?_ | refine good_fill fun _ _ _ => ?_ | refine good_in ?_ | refine good_ptr ?_ | refine good_ptrK fun _ _ _ => ?_
    | refine good_keyTag ?_ | refine good_find (fun _ => ?_) ?_ | refine good_mapIn fun _ _ => ?_ | refine good_okK fun _ _ _ => ?_ | refine good_zer fun _ _ _ => ?_ | refine good_bytes fun _ => ?_ | refine good_alloc ?_ | refine good_orec ?_ fun _ => ?_
  case idx1 len x i =>
    show Good _ (fun kf : KF => (idx1K len x i) E I ni fun w I ni => kf w M nm I ni)
    unfold idx1K
    repeat' first
    | exact good_bad
    | refine good_leaf ⟨_, _, _, _, _, fun _ => rfl⟩
    | refine good_iff ?_ ?_ | refine good_op2 fun _ _ _ _ => ?_ | refine good_opd fun _ _ _ => ?_ | refine good_opds fun _ _ _ => ?_ | refine good_grow fun _ _ => ?_
    | refine good_bool fun _ _ _ => ?_ | refine good_enc fun _ _ _ => ?_ | refine good_optz fun _ _ _ => ?_ | refine good_nat fun _ => ?_ | refine good_bnd fun _ _ _ => ?_
    | refine good_part fun _ => ?_ | refine good_fill fun _ _ _ => ?_ | refine good_in ?_ | refine good_ptr ?_ | refine good_ptrK fun _ _ _ => ?_
    | refine good_keyTag ?_ | refine good_find (fun _ => ?_) ?_ | refine good_mapIn fun _ _ => ?_ | refine good_okK fun _ _ _ => ?_ | refine good_zer fun _ _ _ => ?_ | refine good_bytes fun _ => ?_ | refine good_alloc ?_ | refine good_orec ?_ fun _ => ?_
  case nilc x =>
    show Good _ (fun kf : KF => (nilcK x) E I ni fun w I ni => kf w M nm I ni)
    unfold nilcK
    repeat' first
    | exact good_bad
    | refine good_leaf ⟨_, _, _, _, _, fun _ => rfl⟩
    | refine good_iff ?_ ?_ | refine good_op2 fun _ _ _ _ => ?_ | refine good_opd fun _ _ _ => ?_ | refine good_opds fun _ _ _ => ?_ | refine good_grow fun _ _ => ?_
    | refine good_bool fun _ _ _ => ?_ | refine good_enc fun _ _ _ => ?_ | refine good_optz fun _ _ _ => ?_ | refine good_nat fun _ => ?_ | refine good_bnd fun _ _ _ => ?_
    | refine good_part fun _ => ?_ | refine good_fill fun _ _ _ => ?_ | refine good_in ?_ | refine good_ptr ?_ | refine good_ptrK fun _ _ _ => ?_
    | refine good_keyTag ?_ | refine good_find (fun _ => ?_) ?_ | refine good_mapIn fun _ _ => ?_ | refine good_okK fun _ _ _ => ?_ | refine good_zer fun _ _ _ => ?_ | refine good_bytes fun _ => ?_ | refine good_alloc ?_ | refine good_orec ?_ fun _ => ?_
  case mki t x =>
    show Good _ (fun kf : KF => (mkiK t x) E I ni fun w I ni => kf w M nm I ni)
    unfold mkiK
    repeat' first
    | exact good_bad
    | refine good_leaf ⟨_, _, _, _, _, fun _ => rfl⟩
    | refine good_iff ?_ ?_ | refine good_op2 fun _ _ _ _ => ?_ | refine good_opd fun _ _ _ => ?_ | refine good_opds fun _ _ _ => ?_ | refine good_grow fun _ _ => ?_
    | refine good_bool fun _ _ _ => ?_ | refine good_enc fun _ _ _ => ?_ | refine good_optz fun _ _ _ => ?_ | refine good_nat fun _ => ?_ | refine good_bnd fun _ _ _ => ?_
    | refine good_part fun _ => ?_ | refine good_fill fun _ _ _ => ?_ | refine good_in ?_ | refine good_ptr ?_ | refine good_ptrK fun _ _ _ => ?_
    | refine good_keyTag ?_ | refine good_find (fun _ => ?_) ?_ | refine good_mapIn fun _ _ => ?_ | refine good_okK fun _ _ _ => ?_ | refine good_zer fun _ _ _ => ?_ | refine good_bytes fun _ => ?_ | refine good_alloc ?_ | refine good_orec ?_ fun _ => ?_
  case mkf fn n xs =>
    show Good _ (fun kf : KF => (mkfK fn n xs) E I ni fun w I ni => kf w M nm I ni)
    unfold mkfK
    repeat' first
    | exact good_bad
    | refine good_leaf ⟨_, _, _, _, _, fun _ => rfl⟩
    | refine good_iff ?_ ?_ | refine good_op2 fun _ _ _ _ => ?_ | refine good_opd fun _ _ _ => ?_ | refine good_opds fun _ _ _ => ?_ | refine good_grow fun _ _ => ?_
    | refine good_bool fun _ _ _ => ?_ | refine good_enc fun _ _ _ => ?_ | refine good_optz fun _ _ _ => ?_ | refine good_nat fun _ => ?_ | refine good_bnd fun _ _ _ => ?_
    | refine good_part fun _ => ?_ | refine good_fill fun _ _ _ => ?_ | refine good_in ?_ | refine good_ptr ?_ | refine good_ptrK fun _ _ _ => ?_
    | refine good_keyTag ?_ | refine good_find (fun _ => ?_) ?_ | refine good_mapIn fun _ _ => ?_ | refine good_okK fun _ _ _ => ?_ | refine good_zer fun _ _ _ => ?_ | refine good_bytes fun _ => ?_ | refine good_alloc ?_ | refine good_orec ?_ fun _ => ?_
  case min mx t x y =>
    show Good _ (fun kf : KF => (minK mx t x y) E I ni fun w I ni => kf w M nm I ni)
    unfold minK
    repeat' first
    | exact good_bad
    | refine good_leaf ⟨_, _, _, _, _, fun _ => rfl⟩
    | refine good_iff ?_ ?_ | refine good_op2 fun _ _ _ _ => ?_ | refine good_opd fun _ _ _ => ?_ | refine good_opds fun _ _ _ => ?_ | refine good_grow fun _ _ => ?_
    | refine good_bool fun _ _ _ => ?_ | refine good_enc fun _ _ _ => ?_ | refine good_optz fun _ _ _ => ?_ | refine good_nat fun _ => ?_ | refine good_bnd fun _ _ _ => ?_
    | refine good_part fun _ => ?_ | refine good_fill fun _ _ _ => ?_ | refine good_in ?_ | refine good_ptr ?_ | refine good_ptrK fun _ _ _ => ?_
    | refine good_keyTag ?_ | refine good_find (fun _ => ?_) ?_ | refine good_mapIn fun _ _ => ?_ | refine good_okK fun _ _ _ => ?_ | refine good_zer fun _ _ _ => ?_ | refine good_bytes fun _ => ?_ | refine good_alloc ?_ | refine good_orec ?_ fun _ => ?_
  case bld n r ps =>
    show Good _ (fun kf : KF => (buildK n r ps) E I ni fun w I ni => kf w M nm I ni)
    unfold buildK
    repeat' first
    | exact good_bad
    | refine good_leaf ⟨_, _, _, _, _, fun _ => rfl⟩
    | refine good_iff ?_ ?_ | refine good_op2 fun _ _ _ _ => ?_ | refine good_opd fun _ _ _ => ?_ | refine good_opds fun _ _ _ => ?_ | refine good_grow fun _ _ => ?_
    | refine good_bool fun _ _ _ => ?_ | refine good_enc fun _ _ _ => ?_ | refine good_optz fun _ _ _ => ?_ | refine good_nat fun _ => ?_ | refine good_bnd fun _ _ _ => ?_
    | refine good_part fun _ => ?_ | refine good_fill fun _ _ _ => ?_ | refine good_in ?_ | refine good_ptr ?_ | refine good_ptrK fun _ _ _ => ?_
    | refine good_keyTag ?_ | refine good_find (fun _ => ?_) ?_ | refine good_mapIn fun _ _ => ?_ | refine good_okK fun _ _ _ => ?_ | refine good_zer fun _ _ _ => ?_ | refine good_bytes fun _ => ?_ | refine good_alloc ?_ | refine good_orec ?_ fun _ => ?_
  case slp len sz x lo hi =>
    show Good _ (fun kf : KF => (slpK len sz x lo hi) E I ni fun w I ni => kf w M nm I ni)
    unfold slpK
    repeat' first
    | exact good_bad
    | refine good_leaf ⟨_, _, _, _, _, fun _ => rfl⟩
    | refine good_iff ?_ ?_ | refine good_op2 fun _ _ _ _ => ?_ | refine good_opd fun _ _ _ => ?_ | refine good_opds fun _ _ _ => ?_ | refine good_grow fun _ _ => ?_
    | refine good_bool fun _ _ _ => ?_ | refine good_enc fun _ _ _ => ?_ | refine good_optz fun _ _ _ => ?_ | refine good_nat fun _ => ?_ | refine good_bnd fun _ _ _ => ?_
    | refine good_part fun _ => ?_ | refine good_fill fun _ _ _ => ?_ | refine good_in ?_ | refine good_ptr ?_ | refine good_ptrK fun _ _ _ => ?_
    | refine good_keyTag ?_ | refine good_find (fun _ => ?_) ?_ | refine good_mapIn fun _ _ => ?_ | refine good_okK fun _ _ _ => ?_ | refine good_zer fun _ _ _ => ?_ | refine good_bytes fun _ => ?_ | refine good_alloc ?_ | refine good_orec ?_ fun _ => ?_
  case idxT x i =>
    show Good _ (fun kf : KF => (idxTK x i) E I ni fun w I ni => kf w M nm I ni)
    unfold idxTK
    repeat' first
    | exact good_bad
    | refine good_leaf ⟨_, _, _, _, _, fun _ => rfl⟩
    | refine good_iff ?_ ?_ | refine good_op2 fun _ _ _ _ => ?_ | refine good_opd fun _ _ _ => ?_ | refine good_opds fun _ _ _ => ?_ | refine good_grow fun _ _ => ?_
    | refine good_bool fun _ _ _ => ?_ | refine good_enc fun _ _ _ => ?_ | refine good_optz fun _ _ _ => ?_ | refine good_nat fun _ => ?_ | refine good_bnd fun _ _ _ => ?_
    | refine good_part fun _ => ?_ | refine good_fill fun _ _ _ => ?_ | refine good_in ?_ | refine good_ptr ?_ | refine good_ptrK fun _ _ _ => ?_
    | refine good_keyTag ?_ | refine good_find (fun _ => ?_) ?_ | refine good_mapIn fun _ _ => ?_ | refine good_okK fun _ _ _ => ?_ | refine good_zer fun _ _ _ => ?_ | refine good_bytes fun _ => ?_ | refine good_alloc ?_ | refine good_orec ?_ fun _ => ?_
  case peq neg x y =>
    show Good _ (fun kf : KF => (peqK neg x y) E I ni fun w I ni => kf w M nm I ni)
    unfold peqK
    repeat' first
    | exact good_bad
    | refine good_leaf ⟨_, _, _, _, _, fun _ => rfl⟩
    | refine good_iff ?_ ?_ | refine good_op2 fun _ _ _ _ => ?_ | refine good_opd fun _ _ _ => ?_ | refine good_opds fun _ _ _ => ?_ | refine good_grow fun _ _ => ?_
    | refine good_bool fun _ _ _ => ?_ | refine good_enc fun _ _ _ => ?_ | refine good_optz fun _ _ _ => ?_ | refine good_nat fun _ => ?_ | refine good_bnd fun _ _ _ => ?_
    | refine good_part fun _ => ?_ | refine good_fill fun _ _ _ => ?_ | refine good_in ?_ | refine good_ptr ?_ | refine good_ptrK fun _ _ _ => ?_
    | refine good_keyTag ?_ | refine good_find (fun _ => ?_) ?_ | refine good_mapIn fun _ _ => ?_ | refine good_okK fun _ _ _ => ?_ | refine good_zer fun _ _ _ => ?_ | refine good_bytes fun _ => ?_ | refine good_alloc ?_ | refine good_orec ?_ fun _ => ?_
  case aeq q neg x y =>
    show Good _ (fun kf : KF => (aeqK q neg x y) E I ni fun w I ni => kf w M nm I ni)
    unfold aeqK
    repeat' first
    | exact good_bad
    | refine good_leaf ⟨_, _, _, _, _, fun _ => rfl⟩
    | refine good_iff ?_ ?_ | refine good_op2 fun _ _ _ _ => ?_ | refine good_opd fun _ _ _ => ?_ | refine good_opds fun _ _ _ => ?_ | refine good_grow fun _ _ => ?_
    | refine good_bool fun _ _ _ => ?_ | refine good_enc fun _ _ _ => ?_ | refine good_optz fun _ _ _ => ?_ | refine good_nat fun _ => ?_ | refine good_bnd fun _ _ _ => ?_
    | refine good_part fun _ => ?_ | refine good_fill fun _ _ _ => ?_ | refine good_in ?_ | refine good_ptr ?_ | refine good_ptrK fun _ _ _ => ?_
    | refine good_keyTag ?_ | refine good_find (fun _ => ?_) ?_ | refine good_mapIn fun _ _ => ?_ | refine good_okK fun _ _ _ => ?_ | refine good_zer fun _ _ _ => ?_ | refine good_bytes fun _ => ?_ | refine good_alloc ?_ | refine good_orec ?_ fun _ => ?_
  case slcT x lo hi =>
    show Good _ (fun kf : KF => (slcTK x lo hi) E I ni fun w I ni => kf w M nm I ni)
    unfold slcTK
    repeat' first
    | exact good_bad
    | refine good_leaf ⟨_, _, _, _, _, fun _ => rfl⟩
    | refine good_iff ?_ ?_ | refine good_op2 fun _ _ _ _ => ?_ | refine good_opd fun _ _ _ => ?_ | refine good_opds fun _ _ _ => ?_ | refine good_grow fun _ _ => ?_
    | refine good_bool fun _ _ _ => ?_ | refine good_enc fun _ _ _ => ?_ | refine good_optz fun _ _ _ => ?_ | refine good_nat fun _ => ?_ | refine good_bnd fun _ _ _ => ?_
    | refine good_part fun _ => ?_ | refine good_fill fun _ _ _ => ?_ | refine good_in ?_ | refine good_ptr ?_ | refine good_ptrK fun _ _ _ => ?_
    | refine good_keyTag ?_ | refine good_find (fun _ => ?_) ?_ | refine good_mapIn fun _ _ => ?_ | refine good_okK fun _ _ _ => ?_ | refine good_zer fun _ _ _ => ?_ | refine good_bytes fun _ => ?_ | refine good_alloc ?_ | refine good_orec ?_ fun _ => ?_
  case catT x y =>
    show Good _ (fun kf : KF => (catTK x y) E I ni fun w I ni => kf w M nm I ni)
    unfold catTK
    repeat' first
    | exact good_bad
    | refine good_leaf ⟨_, _, _, _, _, fun _ => rfl⟩
    | refine good_iff ?_ ?_ | refine good_op2 fun _ _ _ _ => ?_ | refine good_opd fun _ _ _ => ?_ | refine good_opds fun _ _ _ => ?_ | refine good_grow fun _ _ => ?_
    | refine good_bool fun _ _ _ => ?_ | refine good_enc fun _ _ _ => ?_ | refine good_optz fun _ _ _ => ?_ | refine good_nat fun _ => ?_ | refine good_bnd fun _ _ _ => ?_
    | refine good_part fun _ => ?_ | refine good_fill fun _ _ _ => ?_ | refine good_in ?_ | refine good_ptr ?_ | refine good_ptrK fun _ _ _ => ?_
    | refine good_keyTag ?_ | refine good_find (fun _ => ?_) ?_ | refine good_mapIn fun _ _ => ?_ | refine good_okK fun _ _ _ => ?_ | refine good_zer fun _ _ _ => ?_ | refine good_bytes fun _ => ?_ | refine good_alloc ?_ | refine good_orec ?_ fun _ => ?_
  case capS x =>
    show Good _ (fun kf : KF => (capSK x) E I ni fun w I ni => kf w M nm I ni)
    unfold capSK capSW
    repeat' first
    | exact good_bad
    | refine good_leaf ⟨_, _, _, _, _, fun _ => rfl⟩
    | refine good_iff ?_ ?_ | refine good_op2 fun _ _ _ _ => ?_ | refine good_opd fun _ _ _ => ?_ | refine good_opds fun _ _ _ => ?_ | refine good_grow fun _ _ => ?_
    | refine good_bool fun _ _ _ => ?_ | refine good_enc fun _ _ _ => ?_ | refine good_optz fun _ _ _ => ?_ | refine good_nat fun _ => ?_ | refine good_bnd fun _ _ _ => ?_
    | refine good_part fun _ => ?_ | refine good_fill fun _ _ _ => ?_ | refine good_in ?_ | refine good_ptr ?_ | refine good_ptrK fun _ _ _ => ?_
    | refine good_keyTag ?_ | refine good_find (fun _ => ?_) ?_ | refine good_mapIn fun _ _ => ?_ | refine good_okK fun _ _ _ => ?_ | refine good_zer fun _ _ _ => ?_ | refine good_bytes fun _ => ?_ | refine good_alloc ?_ | refine good_orec ?_ fun _ => ?_
  case slc sz x lo hi mx =>
    show Good _ (fun kf : KF => slcK sz x lo hi mx E I ni fun w I ni => kf w M nm I ni)
    unfold slcK slcW
    cases mx <;>
    repeat' first
    | exact good_bad
    | refine good_leaf ⟨_, _, _, _, _, fun _ => rfl⟩
    | refine good_iff ?_ ?_ | refine good_op2 fun _ _ _ _ => ?_ | refine good_opd fun _ _ _ => ?_ | refine good_opds fun _ _ _ => ?_ | refine good_grow fun _ _ => ?_
    | refine good_bool fun _ _ _ => ?_ | refine good_enc fun _ _ _ => ?_ | refine good_optz fun _ _ _ => ?_ | refine good_nat fun _ => ?_ | refine good_bnd fun _ _ _ => ?_
    | refine good_part fun _ => ?_ | refine good_fill fun _ _ _ => ?_ | refine good_in ?_ | refine good_ptr ?_ | refine good_ptrK fun _ _ _ => ?_
    | refine good_keyTag ?_ | refine good_find (fun _ => ?_) ?_ | refine good_mapIn fun _ _ => ?_ | refine good_okK fun _ _ _ => ?_ | refine good_zer fun _ _ _ => ?_ | refine good_bytes fun _ => ?_ | refine good_alloc ?_ | refine good_orec ?_ fun _ => ?_
  case load1 x =>
    show Good _ (fun kf : KF => (load1K x) E M I ni fun w I ni => kf w M nm I ni)
    unfold load1K
    repeat' first
    | exact good_bad
    | refine good_leaf ⟨_, _, _, _, _, fun _ => rfl⟩
    | refine good_iff ?_ ?_ | refine good_op2 fun _ _ _ _ => ?_ | refine good_opd fun _ _ _ => ?_ | refine good_opds fun _ _ _ => ?_ | refine good_grow fun _ _ => ?_
    | refine good_bool fun _ _ _ => ?_ | refine good_enc fun _ _ _ => ?_ | refine good_optz fun _ _ _ => ?_ | refine good_nat fun _ => ?_ | refine good_bnd fun _ _ _ => ?_
    | refine good_part fun _ => ?_ | refine good_fill fun _ _ _ => ?_ | refine good_in ?_ | refine good_ptr ?_ | refine good_ptrK fun _ _ _ => ?_
    | refine good_keyTag ?_ | refine good_find (fun _ => ?_) ?_ | refine good_mapIn fun _ _ => ?_ | refine good_okK fun _ _ _ => ?_ | refine good_zer fun _ _ _ => ?_ | refine good_bytes fun _ => ?_ | refine good_alloc ?_ | refine good_orec ?_ fun _ => ?_
  case loadN n x =>
    show Good _ (fun kf : KF => (loadNK n x) E M I ni fun w I ni => kf w M nm I ni)
    unfold loadNK
    repeat' first
    | exact good_bad
    | refine good_leaf ⟨_, _, _, _, _, fun _ => rfl⟩
    | refine good_iff ?_ ?_ | refine good_op2 fun _ _ _ _ => ?_ | refine good_opd fun _ _ _ => ?_ | refine good_opds fun _ _ _ => ?_ | refine good_grow fun _ _ => ?_
    | refine good_bool fun _ _ _ => ?_ | refine good_enc fun _ _ _ => ?_ | refine good_optz fun _ _ _ => ?_ | refine good_nat fun _ => ?_ | refine good_bnd fun _ _ _ => ?_
    | refine good_part fun _ => ?_ | refine good_fill fun _ _ _ => ?_ | refine good_in ?_ | refine good_ptr ?_ | refine good_ptrK fun _ _ _ => ?_
    | refine good_keyTag ?_ | refine good_find (fun _ => ?_) ?_ | refine good_mapIn fun _ _ => ?_ | refine good_okK fun _ _ _ => ?_ | refine good_zer fun _ _ _ => ?_ | refine good_bytes fun _ => ?_ | refine good_alloc ?_ | refine good_orec ?_ fun _ => ?_
  case look q com agg n r x key =>
    show Good _ (fun kf : KF => (lookK q com agg n r x key) E M I ni fun w I ni => kf w M nm I ni)
    unfold lookK lookW
    repeat' first
    | exact good_bad
    | refine good_leaf ⟨_, _, _, _, _, fun _ => rfl⟩
    | refine good_iff ?_ ?_ | refine good_op2 fun _ _ _ _ => ?_ | refine good_opd fun _ _ _ => ?_ | refine good_opds fun _ _ _ => ?_ | refine good_grow fun _ _ => ?_
    | refine good_bool fun _ _ _ => ?_ | refine good_enc fun _ _ _ => ?_ | refine good_optz fun _ _ _ => ?_ | refine good_nat fun _ => ?_ | refine good_bnd fun _ _ _ => ?_
    | refine good_part fun _ => ?_ | refine good_fill fun _ _ _ => ?_ | refine good_in ?_ | refine good_ptr ?_ | refine good_ptrK fun _ _ _ => ?_
    | refine good_keyTag ?_ | refine good_find (fun _ => ?_) ?_ | refine good_mapIn fun _ _ => ?_ | refine good_okK fun _ _ _ => ?_ | refine good_zer fun _ _ _ => ?_ | refine good_bytes fun _ => ?_ | refine good_alloc ?_ | refine good_orec ?_ fun _ => ?_
  case lenM x =>
    show Good _ (fun kf : KF => (lenMK x) E M I ni fun w I ni => kf w M nm I ni)
    unfold lenMK lenMW
    repeat' first
    | exact good_bad
    | refine good_leaf ⟨_, _, _, _, _, fun _ => rfl⟩
    | refine good_iff ?_ ?_ | refine good_op2 fun _ _ _ _ => ?_ | refine good_opd fun _ _ _ => ?_ | refine good_opds fun _ _ _ => ?_ | refine good_grow fun _ _ => ?_
    | refine good_bool fun _ _ _ => ?_ | refine good_enc fun _ _ _ => ?_ | refine good_optz fun _ _ _ => ?_ | refine good_nat fun _ => ?_ | refine good_bnd fun _ _ _ => ?_
    | refine good_part fun _ => ?_ | refine good_fill fun _ _ _ => ?_ | refine good_in ?_ | refine good_ptr ?_ | refine good_ptrK fun _ _ _ => ?_
    | refine good_keyTag ?_ | refine good_find (fun _ => ?_) ?_ | refine good_mapIn fun _ _ => ?_ | refine good_okK fun _ _ _ => ?_ | refine good_zer fun _ _ _ => ?_ | refine good_bytes fun _ => ?_ | refine good_alloc ?_ | refine good_orec ?_ fun _ => ?_
  case strOf x =>
    show Good _ (fun kf : KF => (strOfK x) E M I ni fun w I ni => kf w M nm I ni)
    unfold strOfK strOfW
    repeat' first
    | exact good_bad
    | refine good_leaf ⟨_, _, _, _, _, fun _ => rfl⟩
    | refine good_iff ?_ ?_ | refine good_op2 fun _ _ _ _ => ?_ | refine good_opd fun _ _ _ => ?_ | refine good_opds fun _ _ _ => ?_ | refine good_grow fun _ _ => ?_
    | refine good_bool fun _ _ _ => ?_ | refine good_enc fun _ _ _ => ?_ | refine good_optz fun _ _ _ => ?_ | refine good_nat fun _ => ?_ | refine good_bnd fun _ _ _ => ?_
    | refine good_part fun _ => ?_ | refine good_fill fun _ _ _ => ?_ | refine good_in ?_ | refine good_ptr ?_ | refine good_ptrK fun _ _ _ => ?_
    | refine good_keyTag ?_ | refine good_find (fun _ => ?_) ?_ | refine good_mapIn fun _ _ => ?_ | refine good_okK fun _ _ _ => ?_ | refine good_zer fun _ _ _ => ?_ | refine good_bytes fun _ => ?_ | refine good_alloc ?_ | refine good_orec ?_ fun _ => ?_
  case alloc n r =>
    show Good _ (fun kf : KF => newK n r M nm I ni kf)
    unfold newK
    repeat' first
    | exact good_bad
    | refine good_leaf ⟨_, _, _, _, _, fun _ => rfl⟩
    | refine good_iff ?_ ?_ | refine good_op2 fun _ _ _ _ => ?_ | refine good_opd fun _ _ _ => ?_ | refine good_opds fun _ _ _ => ?_ | refine good_grow fun _ _ => ?_
    | refine good_bool fun _ _ _ => ?_ | refine good_enc fun _ _ _ => ?_ | refine good_optz fun _ _ _ => ?_ | refine good_nat fun _ => ?_ | refine good_bnd fun _ _ _ => ?_
    | refine good_part fun _ => ?_ | refine good_fill fun _ _ _ => ?_ | refine good_in ?_ | refine good_ptr ?_ | refine good_ptrK fun _ _ _ => ?_
    | refine good_keyTag ?_ | refine good_find (fun _ => ?_) ?_ | refine good_mapIn fun _ _ => ?_ | refine good_okK fun _ _ _ => ?_ | refine good_zer fun _ _ _ => ?_ | refine good_bytes fun _ => ?_ | refine good_alloc ?_ | refine good_orec ?_ fun _ => ?_
  case box n x =>
    show Good _ (fun kf : KF => boxK n x E M nm I ni kf)
    unfold boxK newK
    repeat' first
    | exact good_bad
    | refine good_leaf ⟨_, _, _, _, _, fun _ => rfl⟩
    | refine good_iff ?_ ?_ | refine good_op2 fun _ _ _ _ => ?_ | refine good_opd fun _ _ _ => ?_ | refine good_opds fun _ _ _ => ?_ | refine good_grow fun _ _ => ?_
    | refine good_bool fun _ _ _ => ?_ | refine good_enc fun _ _ _ => ?_ | refine good_optz fun _ _ _ => ?_ | refine good_nat fun _ => ?_ | refine good_bnd fun _ _ _ => ?_
    | refine good_part fun _ => ?_ | refine good_fill fun _ _ _ => ?_ | refine good_in ?_ | refine good_ptr ?_ | refine good_ptrK fun _ _ _ => ?_
    | refine good_keyTag ?_ | refine good_find (fun _ => ?_) ?_ | refine good_mapIn fun _ _ => ?_ | refine good_okK fun _ _ _ => ?_ | refine good_zer fun _ _ _ => ?_ | refine good_bytes fun _ => ?_ | refine good_alloc ?_ | refine good_orec ?_ fun _ => ?_
  case mkSl s r l c =>
    show Good _ (fun kf : KF => mkSlK s r l c E M nm I ni kf)
    unfold mkSlK
    repeat' first
    | exact good_bad
    | refine good_leaf ⟨_, _, _, _, _, fun _ => rfl⟩
    | refine good_iff ?_ ?_ | refine good_op2 fun _ _ _ _ => ?_ | refine good_opd fun _ _ _ => ?_ | refine good_opds fun _ _ _ => ?_ | refine good_grow fun _ _ => ?_
    | refine good_bool fun _ _ _ => ?_ | refine good_enc fun _ _ _ => ?_ | refine good_optz fun _ _ _ => ?_ | refine good_nat fun _ => ?_ | refine good_bnd fun _ _ _ => ?_
    | refine good_part fun _ => ?_ | refine good_fill fun _ _ _ => ?_ | refine good_in ?_ | refine good_ptr ?_ | refine good_ptrK fun _ _ _ => ?_
    | refine good_keyTag ?_ | refine good_find (fun _ => ?_) ?_ | refine good_mapIn fun _ _ => ?_ | refine good_okK fun _ _ _ => ?_ | refine good_zer fun _ _ _ => ?_ | refine good_bytes fun _ => ?_ | refine good_alloc ?_ | refine good_orec ?_ fun _ => ?_
  case bldS len s r ps =>
    show Good _ (fun kf : KF => bldSK len s r ps E M nm I ni kf)
    unfold bldSK
    repeat' first
    | exact good_bad
    | refine good_leaf ⟨_, _, _, _, _, fun _ => rfl⟩
    | refine good_iff ?_ ?_ | refine good_op2 fun _ _ _ _ => ?_ | refine good_opd fun _ _ _ => ?_ | refine good_opds fun _ _ _ => ?_ | refine good_grow fun _ _ => ?_
    | refine good_bool fun _ _ _ => ?_ | refine good_enc fun _ _ _ => ?_ | refine good_optz fun _ _ _ => ?_ | refine good_nat fun _ => ?_ | refine good_bnd fun _ _ _ => ?_
    | refine good_part fun _ => ?_ | refine good_fill fun _ _ _ => ?_ | refine good_in ?_ | refine good_ptr ?_ | refine good_ptrK fun _ _ _ => ?_
    | refine good_keyTag ?_ | refine good_find (fun _ => ?_) ?_ | refine good_mapIn fun _ _ => ?_ | refine good_okK fun _ _ _ => ?_ | refine good_zer fun _ _ _ => ?_ | refine good_bytes fun _ => ?_ | refine good_alloc ?_ | refine good_orec ?_ fun _ => ?_
  case mkMap =>
    show Good _ (fun kf : KF => mkMapK M nm I ni kf)
    unfold mkMapK
    repeat' first
    | exact good_bad
    | refine good_leaf ⟨_, _, _, _, _, fun _ => rfl⟩
    | refine good_iff ?_ ?_ | refine good_op2 fun _ _ _ _ => ?_ | refine good_opd fun _ _ _ => ?_ | refine good_opds fun _ _ _ => ?_ | refine good_grow fun _ _ => ?_
    | refine good_bool fun _ _ _ => ?_ | refine good_enc fun _ _ _ => ?_ | refine good_optz fun _ _ _ => ?_ | refine good_nat fun _ => ?_ | refine good_bnd fun _ _ _ => ?_
    | refine good_part fun _ => ?_ | refine good_fill fun _ _ _ => ?_ | refine good_in ?_ | refine good_ptr ?_ | refine good_ptrK fun _ _ _ => ?_
    | refine good_keyTag ?_ | refine good_find (fun _ => ?_) ?_ | refine good_mapIn fun _ _ => ?_ | refine good_okK fun _ _ _ => ?_ | refine good_zer fun _ _ _ => ?_ | refine good_bytes fun _ => ?_ | refine good_alloc ?_ | refine good_orec ?_ fun _ => ?_
  case mkMapH x =>
    show Good _ (fun kf : KF => mkMapHK x E M nm I ni kf)
    unfold mkMapHK mkMapK
    repeat' first
    | exact good_bad
    | refine good_leaf ⟨_, _, _, _, _, fun _ => rfl⟩
    | refine good_iff ?_ ?_ | refine good_op2 fun _ _ _ _ => ?_ | refine good_opd fun _ _ _ => ?_ | refine good_opds fun _ _ _ => ?_ | refine good_grow fun _ _ => ?_
    | refine good_bool fun _ _ _ => ?_ | refine good_enc fun _ _ _ => ?_ | refine good_optz fun _ _ _ => ?_ | refine good_nat fun _ => ?_ | refine good_bnd fun _ _ _ => ?_
    | refine good_part fun _ => ?_ | refine good_fill fun _ _ _ => ?_ | refine good_in ?_ | refine good_ptr ?_ | refine good_ptrK fun _ _ _ => ?_
    | refine good_keyTag ?_ | refine good_find (fun _ => ?_) ?_ | refine good_mapIn fun _ _ => ?_ | refine good_okK fun _ _ _ => ?_ | refine good_zer fun _ _ _ => ?_ | refine good_bytes fun _ => ?_ | refine good_alloc ?_ | refine good_orec ?_ fun _ => ?_
  case store n x v =>
    show Good _ (fun kf : KF => storeK n x v E M nm I ni kf)
    unfold storeK
    repeat' first
    | exact good_bad
    | refine good_leaf ⟨_, _, _, _, _, fun _ => rfl⟩
    | refine good_iff ?_ ?_ | refine good_op2 fun _ _ _ _ => ?_ | refine good_opd fun _ _ _ => ?_ | refine good_opds fun _ _ _ => ?_ | refine good_grow fun _ _ => ?_
    | refine good_bool fun _ _ _ => ?_ | refine good_enc fun _ _ _ => ?_ | refine good_optz fun _ _ _ => ?_ | refine good_nat fun _ => ?_ | refine good_bnd fun _ _ _ => ?_
    | refine good_part fun _ => ?_ | refine good_fill fun _ _ _ => ?_ | refine good_in ?_ | refine good_ptr ?_ | refine good_ptrK fun _ _ _ => ?_
    | refine good_keyTag ?_ | refine good_find (fun _ => ?_) ?_ | refine good_mapIn fun _ _ => ?_ | refine good_okK fun _ _ _ => ?_ | refine good_zer fun _ _ _ => ?_ | refine good_bytes fun _ => ?_ | refine good_alloc ?_ | refine good_orec ?_ fun _ => ?_
  case upd q x key v =>
    show Good _ (fun kf : KF => updK q x key v E M nm I ni kf)
    unfold updK updW
    repeat' first
    | exact good_bad
    | refine good_leaf ⟨_, _, _, _, _, fun _ => rfl⟩
    | refine good_iff ?_ ?_ | refine good_op2 fun _ _ _ _ => ?_ | refine good_opd fun _ _ _ => ?_ | refine good_opds fun _ _ _ => ?_ | refine good_grow fun _ _ => ?_
    | refine good_bool fun _ _ _ => ?_ | refine good_enc fun _ _ _ => ?_ | refine good_optz fun _ _ _ => ?_ | refine good_nat fun _ => ?_ | refine good_bnd fun _ _ _ => ?_
    | refine good_part fun _ => ?_ | refine good_fill fun _ _ _ => ?_ | refine good_in ?_ | refine good_ptr ?_ | refine good_ptrK fun _ _ _ => ?_
    | refine good_keyTag ?_ | refine good_find (fun _ => ?_) ?_ | refine good_mapIn fun _ _ => ?_ | refine good_okK fun _ _ _ => ?_ | refine good_zer fun _ _ _ => ?_ | refine good_bytes fun _ => ?_ | refine good_alloc ?_ | refine good_orec ?_ fun _ => ?_
  case copy s x y =>
    show Good _ (fun kf : KF => copyK s x y E M nm I ni kf)
    unfold copyK copyW
    repeat' first
    | exact good_bad
    | refine good_leaf ⟨_, _, _, _, _, fun _ => rfl⟩
    | refine good_iff ?_ ?_ | refine good_op2 fun _ _ _ _ => ?_ | refine good_opd fun _ _ _ => ?_ | refine good_opds fun _ _ _ => ?_ | refine good_grow fun _ _ => ?_
    | refine good_bool fun _ _ _ => ?_ | refine good_enc fun _ _ _ => ?_ | refine good_optz fun _ _ _ => ?_ | refine good_nat fun _ => ?_ | refine good_bnd fun _ _ _ => ?_
    | refine good_part fun _ => ?_ | refine good_fill fun _ _ _ => ?_ | refine good_in ?_ | refine good_ptr ?_ | refine good_ptrK fun _ _ _ => ?_
    | refine good_keyTag ?_ | refine good_find (fun _ => ?_) ?_ | refine good_mapIn fun _ _ => ?_ | refine good_okK fun _ _ _ => ?_ | refine good_zer fun _ _ _ => ?_ | refine good_bytes fun _ => ?_ | refine good_alloc ?_ | refine good_orec ?_ fun _ => ?_
  case clear s r x =>
    show Good _ (fun kf : KF => clearK s r x E M nm I ni kf)
    unfold clearK clearW
    repeat' first
    | exact good_bad
    | refine good_leaf ⟨_, _, _, _, _, fun _ => rfl⟩
    | refine good_iff ?_ ?_ | refine good_op2 fun _ _ _ _ => ?_ | refine good_opd fun _ _ _ => ?_ | refine good_opds fun _ _ _ => ?_ | refine good_grow fun _ _ => ?_
    | refine good_bool fun _ _ _ => ?_ | refine good_enc fun _ _ _ => ?_ | refine good_optz fun _ _ _ => ?_ | refine good_nat fun _ => ?_ | refine good_bnd fun _ _ _ => ?_
    | refine good_part fun _ => ?_ | refine good_fill fun _ _ _ => ?_ | refine good_in ?_ | refine good_ptr ?_ | refine good_ptrK fun _ _ _ => ?_
    | refine good_keyTag ?_ | refine good_find (fun _ => ?_) ?_ | refine good_mapIn fun _ _ => ?_ | refine good_okK fun _ _ _ => ?_ | refine good_zer fun _ _ _ => ?_ | refine good_bytes fun _ => ?_ | refine good_alloc ?_ | refine good_orec ?_ fun _ => ?_
  case app s x y =>
    show Good _ (fun kf : KF => appK s x y E M nm I ni kf)
    unfold appK appW
    repeat' first
    | exact good_bad
    | refine good_leaf ⟨_, _, _, _, _, fun _ => rfl⟩
    | refine good_iff ?_ ?_ | refine good_op2 fun _ _ _ _ => ?_ | refine good_opd fun _ _ _ => ?_ | refine good_opds fun _ _ _ => ?_ | refine good_grow fun _ _ => ?_
    | refine good_bool fun _ _ _ => ?_ | refine good_enc fun _ _ _ => ?_ | refine good_optz fun _ _ _ => ?_ | refine good_nat fun _ => ?_ | refine good_bnd fun _ _ _ => ?_
    | refine good_part fun _ => ?_ | refine good_fill fun _ _ _ => ?_ | refine good_in ?_ | refine good_ptr ?_ | refine good_ptrK fun _ _ _ => ?_
    | refine good_keyTag ?_ | refine good_find (fun _ => ?_) ?_ | refine good_mapIn fun _ _ => ?_ | refine good_okK fun _ _ _ => ?_ | refine good_zer fun _ _ _ => ?_ | refine good_bytes fun _ => ?_ | refine good_alloc ?_ | refine good_orec ?_ fun _ => ?_
  case appT x y =>
    show Good _ (fun kf : KF => appTK x y E M nm I ni kf)
    unfold appTK appTW
    repeat' first
    | exact good_bad
    | refine good_leaf ⟨_, _, _, _, _, fun _ => rfl⟩
    | refine good_iff ?_ ?_ | refine good_op2 fun _ _ _ _ => ?_ | refine good_opd fun _ _ _ => ?_ | refine good_opds fun _ _ _ => ?_ | refine good_grow fun _ _ => ?_
    | refine good_bool fun _ _ _ => ?_ | refine good_enc fun _ _ _ => ?_ | refine good_optz fun _ _ _ => ?_ | refine good_nat fun _ => ?_ | refine good_bnd fun _ _ _ => ?_
    | refine good_part fun _ => ?_ | refine good_fill fun _ _ _ => ?_ | refine good_in ?_ | refine good_ptr ?_ | refine good_ptrK fun _ _ _ => ?_
    | refine good_keyTag ?_ | refine good_find (fun _ => ?_) ?_ | refine good_mapIn fun _ _ => ?_ | refine good_okK fun _ _ _ => ?_ | refine good_zer fun _ _ _ => ?_ | refine good_bytes fun _ => ?_ | refine good_alloc ?_ | refine good_orec ?_ fun _ => ?_
  case toBytes x =>
    show Good _ (fun kf : KF => toBytesK x E M nm I ni kf)
    unfold toBytesK
    repeat' first
    | exact good_bad
    | refine good_leaf ⟨_, _, _, _, _, fun _ => rfl⟩
    | refine good_iff ?_ ?_ | refine good_op2 fun _ _ _ _ => ?_ | refine good_opd fun _ _ _ => ?_ | refine good_opds fun _ _ _ => ?_ | refine good_grow fun _ _ => ?_
    | refine good_bool fun _ _ _ => ?_ | refine good_enc fun _ _ _ => ?_ | refine good_optz fun _ _ _ => ?_ | refine good_nat fun _ => ?_ | refine good_bnd fun _ _ _ => ?_
    | refine good_part fun _ => ?_ | refine good_fill fun _ _ _ => ?_ | refine good_in ?_ | refine good_ptr ?_ | refine good_ptrK fun _ _ _ => ?_
    | refine good_keyTag ?_ | refine good_find (fun _ => ?_) ?_ | refine good_mapIn fun _ _ => ?_ | refine good_okK fun _ _ _ => ?_ | refine good_zer fun _ _ _ => ?_ | refine good_bytes fun _ => ?_ | refine good_alloc ?_ | refine good_orec ?_ fun _ => ?_
  case inv name x xs =>
    show Good _ (fun kf : KF => invS P call name x xs E M nm I ni kf)
    unfold invS
    refine good_opd fun _ _ _ => good_iff (good_opds fun _ _ _ => good_orec good_bad fun _ => hc _ _ _ _ _ _) good_bad
  case call f xs =>
    show Good _ (fun kf : KF => callS call f xs E M nm I ni kf)
    unfold callS
    exact good_opds fun _ _ _ => hc _ _ _ _ _ _
  case callv x xs =>
    show Good _ (fun kf : KF => callvS call x xs E M nm I ni kf)
    unfold callvS
    exact good_opd fun _ _ _ => good_iff (good_opds fun _ _ _ => hc _ _ _ _ _ _) good_bad
  case bad n => exact good_bad
end
end Go.Proofs.YtpjhkpmmbeoghaaGreatDoor.Ev
namespace Go.Proofs.YtpjhkpmmbeoghaaGreatDoor.Ev
open Go
def Lin2 (G : KN → KX → Res) : Prop := Good (κ := KN × KX) (fun G => (∃ E M nm I ni, ∀ k, G k = k.1 E M nm I ni) ∨ ∃ x E M nm I ni, ∀ k, G k = k.2 x E M nm I ni) fun k => G k.1 k.2
section
variable {κ : Type} {L : (κ → Res) → Prop} {P : Program} {call : CallT}
theorem Lin.bind {G : KF → Res} (h : Lin G) {H : Nat → Nat → Nat → Nat → Nat → κ → Res} (hH : ∀ w M nm I ni, Good L (H w M nm I ni)) : Good L (fun k => G fun w M nm I ni => H w M nm I ni k) := by
  rcases h with ⟨w, M, nm, I, ni, h⟩ | h
  · have : (fun k => G fun w M nm I ni => H w M nm I ni k) = H w M nm I ni := funext fun k => h _
    rw [this]; exact hH _ _ _ _ _
  · exact .inr fun k => h _
theorem Lin2.bind {G : KN → KX → Res} (h : Lin2 G) {H : Fr → Nat → Nat → Nat → Nat → κ → Res} {H' : Nat → Fr → Nat → Nat → Nat → Nat → κ → Res} (hH : ∀ w M nm I ni, Good L (H w M nm I ni)) (hH' : ∀ x w M nm I ni, Good L (H' x w M nm I ni)) :
    Good L (fun k => G (fun w M nm I ni => H w M nm I ni k) (fun x w M nm I ni => H' x w M nm I ni k)) := by
  rcases h with (⟨w, M, nm, I, ni, h⟩ | ⟨x, w, M, nm, I, ni, h⟩) | h
  · have : (fun k => G (fun w M nm I ni => H w M nm I ni k) (fun x w M nm I ni => H' x w M nm I ni k)) = H w M nm I ni := funext fun k => h (_, _)
    rw [this]; exact hH _ _ _ _ _
  · have : (fun k => G (fun w M nm I ni => H w M nm I ni k) (fun x w M nm I ni => H' x w M nm I ni k)) = H' x w M nm I ni := funext fun k => h (_, _)
    rw [this]; exact hH' _ _ _ _ _ _
  · exact .inr fun k => h (_, _)
theorem ri_good (hc : CallLin call) (x : RI) {E : Fr} {M nm I ni : Nat} {H : Fr → Nat → Nat → Nat → Nat → κ → Res} (hH : ∀ w M nm I ni, Good L (H w M nm I ni)) : Good L (fun k => riK P call x E M nm I ni fun w M nm I ni => H w M nm I ni k) := by
  cases x with
  | plain off i => exact Lin.bind (step_lin hc i) fun _ _ _ _ _ => hH _ _ _ _ _
  | none i => exact Lin.bind (step_lin hc i) fun _ _ _ _ _ => hH _ _ _ _ _
  | guarded g want off i => exact good_iff (Lin.bind (step_lin hc i) fun _ _ _ _ _ => hH _ _ _ _ _) (hH _ _ _ _ _)
  | guardedNone g want i => exact good_iff (Lin.bind (step_lin hc i) fun _ _ _ _ _ => hH _ _ _ _ _) (hH _ _ _ _ _)
theorem reg_good (hc : CallLin call) : ∀ (l : List RI) {E : Fr} {M nm I ni : Nat} {H : Fr → Nat → Nat → Nat → Nat → κ → Res}, (∀ w M nm I ni, Good L (H w M nm I ni)) → Good L (fun k => regK P call l E M nm I ni fun w M nm I ni => H w M nm I ni k)
  | [], _, _, _, _, _, _, hH => hH _ _ _ _ _
  | x :: l, _, _, _, _, _, _, hH => ri_good hc x fun _ _ _ _ _ => reg_good hc l hH
theorem flt_good {x : Option (Nat × Nat) × FlS} {E : Fr} {M M' : Nat} {G : κ → Res} (h : Good L G) : Good L (fun k => fltK x E M M' (G k)) := by
  obtain ⟨g, s⟩ := x
  have go : Good L (fun k => fltK (none, s) E M M' (G k)) := by
    cases s with
    | load off n => exact good_ptr (good_in (good_iff h good_bad))
    | str off => exact good_iff (good_iff h (good_in (good_iff h good_bad))) good_bad
    | map off => exact good_iff h (good_iff (good_iff (good_iff h good_bad) good_bad) good_bad)
    | bad => exact good_bad
  cases g with
  | none => exact go
  | some gw => exact good_iff go h
theorem flts_good {E : Fr} {M M' : Nat} {G : κ → Res} (h : Good L G) : ∀ l : List (Option (Nat × Nat) × FlS), Good L (fun k => fltsK l E M M' (G k))
  | [] => h
  | _ :: l => flt_good (flts_good h l)
theorem regD_good (hc : CallLin call) : ∀ (l : List DI) {E : Fr} {M nm I ni : Nat} {H : Fr → Nat → Nat → Nat → Nat → κ → Res}, (∀ w M nm I ni, Good L (H w M nm I ni)) → Good L (fun k => regDK P call l E M nm I ni fun w M nm I ni => H w M nm I ni k)
  | [], _, _, _, _, _, _, hH => hH _ _ _ _ _
  | ⟨ri, w, fl⟩ :: l, _, _, _, _, _, _, hH => by
    cases w
    · exact ri_good hc ri fun _ _ _ _ _ => regD_good hc l hH
    · exact ri_good hc ri fun _ _ _ _ _ => flts_good (regD_good hc l hH) fl
theorem load1_good {x : Opd} {E : Fr} {M I ni : Nat} {G : Nat → Nat → Nat → κ → Res} (h : ∀ w I ni, Good L (G w I ni)) : Good L (fun k => load1K x E M I ni fun w I ni => G w I ni k) := good_opd fun _ _ _ => good_ptr (good_in (h _ _ _))
theorem loadN_good {x : Opd} {n : Nat} {E : Fr} {M I ni : Nat} {G : Nat → Nat → Nat → κ → Res} (h : ∀ w I ni, Good L (G w I ni)) : Good L (fun k => loadNK n x E M I ni fun w I ni => G w I ni k) := good_opd fun _ _ _ => good_ptr (good_in (good_grow fun _ _ => h _ _ _))
theorem rvs_good {E : Fr} {M : Nat} : ∀ (l : List RV) {I ni : Nat} {G : List Nat → Nat → Nat → κ → Res}, (∀ ws I ni, Good L (G ws I ni)) → Good L (fun k => rvsK l E M I ni fun ws I ni => G ws I ni k)
  | [], _, _, _, h => h _ _ _
  | .slot off :: l, _, _, _, h => rvs_good l fun _ _ _ => h _ _ _
  | .cell off :: l, _, _, G, h => load1_good (x := .s off) (G := fun w I ni k => rvsK l E M I ni fun ws I ni => G (w :: ws) I ni k) fun _ _ _ => rvs_good l fun _ _ _ => h _ _ _
  | .cells off n :: l, _, _, G, h => loadN_good (x := .s off) (G := fun w I ni k => rvsK l E M I ni fun ws I ni => G (w :: ws) I ni k) fun _ _ _ => rvs_good l fun _ _ _ => h _ _ _
theorem ret_lin (r : RR) {E : Fr} {M nm I ni : Nat} : Lin (retK r E M nm I ni) := by
  cases r with
  | one off => exact good_leaf ⟨_, _, _, _, _, fun _ => rfl⟩
  | many n offs =>
    show Good _ (fun kf : KF => growK I ni n (rowOf (slotsOf E offs)) fun I' ni' => kf (Nat.add 19 (Nat.mul 32 (Nat.add ni (Nat.mul 16777216 n)))) M nm I' ni')
    exact good_grow fun _ _ => good_leaf ⟨_, _, _, _, _, fun _ => rfl⟩
  | gen n l =>
    refine rvs_good l (G := fun ws I ni (kf : KF) => @List.rec Nat (fun _ => Res) (.bad 60 1) (fun w ws' _ => @List.rec Nat (fun _ => Res) (kf w M nm I ni)
      (fun _ _ _ => growK I ni n (rowOf ws) fun I' ni' => kf (Nat.add 19 (Nat.mul 32 (Nat.add ni (Nat.mul 16777216 n)))) M nm I' ni') ws') ws) fun ws I ni => ?_
    cases ws with
    | nil => exact good_bad
    | cons w ws =>
      cases ws with
      | nil => exact good_leaf ⟨_, _, _, _, _, fun _ => rfl⟩
      | cons w' ws => exact good_grow fun _ _ => good_leaf ⟨_, _, _, _, _, fun _ => rfl⟩
  | bad => exact good_bad
theorem lin2_kn {E : Fr} {M nm I ni : Nat} : Good (κ := KN × KX) (fun G => (∃ E M nm I ni, ∀ k, G k = k.1 E M nm I ni) ∨ ∃ x E M nm I ni, ∀ k, G k = k.2 x E M nm I ni) (fun k => k.1 E M nm I ni) := .inl (.inl ⟨_, _, _, _, _, fun _ => rfl⟩)
theorem lin2_kx {x : Nat} {E : Fr} {M nm I ni : Nat} : Good (κ := KN × KX) (fun G => (∃ E M nm I ni, ∀ k, G k = k.1 E M nm I ni) ∨ ∃ x E M nm I ni, ∀ k, G k = k.2 x E M nm I ni) (fun k => k.2 x E M nm I ni) := .inl (.inr ⟨_, _, _, _, _, _, fun _ => rfl⟩)
theorem back_good {bw : Nat} {E : Fr} {f : Opd} {ps : List Nat} {ia ib : CodeT} (hia : ∀ E M nm I ni, Lin2 (ia E M nm I ni)) (hib : ∀ E M nm I ni, Lin2 (ib E M nm I ni)) {M nm I ni : Nat} {H : Fr → Nat → Nat → Nat → Nat → κ → Res} (hH : ∀ w M nm I ni, Good L (H w M nm I ni)) :
    Good L (fun k => backK bw f ps E M nm I ni ia ib fun w M nm I ni => H w M nm I ni k) := by
  unfold backK
  refine good_opd fun w I ni => good_iff (good_iff (good_ptr (good_in (good_iff ?_ good_bad))) good_bad) good_bad
  generalize cellAt M (Nat.add (pB (cellAt I (Nat.mod (Nat.div w 33554432) 16777216))) (pOff (cellAt I (Nat.mod (Nat.div w 33554432) 16777216)))) = s
  generalize cellAt I (Nat.mod (Nat.div w 33554432) 16777216) = q
  generalize sLen s = m
  induction m generalizing M nm I ni with
  | zero => exact hH _ _ _ _ _
  | succ m ih =>
    refine good_in (good_iff (good_in ?_) good_bad)
    cases ps with
    | nil => exact good_bad
    | cons p ps =>
      cases ps with
      | nil => exact good_bad
      | cons p' ps => exact Lin2.bind (hia _ _ _ _ _) (fun _ _ _ _ _ => Lin2.bind (hib _ _ _ _ _) (fun _ _ _ _ _ => ih _ _) fun _ _ _ _ _ _ => good_bad) fun _ _ _ _ _ _ => good_bad
theorem codeK_lin {bw nt : Nat} {call : CallT} (hc : CallLin call) (c : Code) : ∀ E M nm I ni, Lin2 (codeK P bw call nt c E M nm I ni) := by
  induction c with
  | skip => exact fun E M nm I ni => lin2_kn
  | region id ops d =>
    intro E M nm I ni
    cases d with
    | false =>
      show Good _ (fun k : KN × KX => regG P call (groupL (lowReg P nt ops)) E M nm I ni k.1)
      simp only [regG_eq]
      exact reg_good hc _ (H := fun w M nm I ni (k : KN × KX) => k.1 w M nm I ni) fun _ _ _ _ _ => lin2_kn
    | true =>
      show Good _ (fun k : KN × KX => iff (drawOk P ops) (regG P call (groupD (lowDI P nt ops [] (eager P ops))) E M nm I ni k.1) (.bad 76 0))
      simp only [regGD_eq]
      exact good_iff (regD_good hc _ (H := fun w M nm I ni (k : KN × KX) => k.1 w M nm I ni) fun _ _ _ _ _ => lin2_kn) good_bad
  | seq a b iha ihb => exact fun E M nm I ni => Lin2.bind (iha _ _ _ _ _) (H := fun w M nm I ni (k : KN × KX) => codeK P bw call nt b w M nm I ni k.1 k.2) (H' := fun x w M nm I ni (k : KN × KX) => k.2 x w M nm I ni) (fun _ _ _ _ _ => ihb _ _ _ _ _) fun _ _ _ _ _ _ => lin2_kx
  | cond c a b iha ihb => exact fun E M nm I ni => good_opd (x := lowOpd c) (E := E) (G := fun w _ _ (k : KN × KX) => iff (Nat.beq w 33) (codeK P bw call nt a E M nm I ni k.1 k.2) (iff (Nat.beq w 1) (codeK P bw call nt b E M nm I ni k.1 k.2) (.bad 63 w))) fun _ _ _ => good_iff (iha _ _ _ _ _) (good_iff (ihb _ _ _ _ _) good_bad)
  | block id b ih => exact fun E M nm I ni => Lin2.bind (ih _ _ _ _ _) (H := fun w M nm I ni (k : KN × KX) => k.1 w M nm I ni) (H' := fun x E M nm I ni (k : KN × KX) => iff (Nat.beq x (Nat.succ id)) (k.1 E M nm I ni) (k.2 x E M nm I ni)) (fun _ _ _ _ _ => lin2_kn) fun _ _ _ _ _ _ => good_iff lin2_kn lin2_kx
  | loop b ih =>
    have go : ∀ (m : Nat) (E : Fr) (M nm I ni : Nat), Good (κ := KN × KX) (fun G => (∃ E M nm I ni, ∀ k, G k = k.1 E M nm I ni) ∨ ∃ x E M nm I ni, ∀ k, G k = k.2 x E M nm I ni) (fun k => loopK (codeK P bw call nt b) k.2 m E M nm I ni) := by
      intro m
      induction m with
      | zero => exact fun _ _ _ _ _ => good_bad
      | succ m im => exact fun E M nm I ni => Lin2.bind (ih _ _ _ _ _) (H := fun w M nm I ni (k : KN × KX) => loopK (codeK P bw call nt b) k.2 m w M nm I ni) (H' := fun x w M nm I ni (k : KN × KX) => k.2 x w M nm I ni) (fun _ _ _ _ _ => im _ _ _ _ _) fun _ _ _ _ _ _ => lin2_kx
    exact fun E M nm I ni => go LF E M nm I ni
  | rangeFunc f ps a b iha ihb => exact fun E M nm I ni => good_iff (back_good (H := fun w M nm I ni (k : KN × KX) => k.1 w M nm I ni) iha ihb fun _ _ _ _ _ => lin2_kn) good_bad
  | exit id => exact fun E M nm I ni => lin2_kx
  | scope b ih => exact ih
  | ret => exact fun E M nm I ni => lin2_kx
  | label l => exact fun E M nm I ni => lin2_kn
  | goto l => exact fun E M nm I ni => good_bad
  | _ => exact fun E M nm I ni => good_bad
theorem callW_lin {bw : Nat} {call : CallT} (hc : CallLin call) : CallLin (callW P bw call) := by
  intro f ws M nm I ni
  show Good _ (fun kf : KF => callW P bw call f ws M nm I ni kf)
  unfold callW
  cases funInfo P f with
  | none => exact good_bad
  | some c nt r =>
    refine good_iff ?_ good_bad
    exact Lin2.bind (codeK_lin hc c _ _ _ _ _) (fun _ _ _ _ _ => Lin.bind (ret_lin r) fun _ _ _ _ _ => good_leaf ⟨_, _, _, _, _, fun _ => rfl⟩) fun _ _ _ _ _ _ => good_iff (Lin.bind (ret_lin r) fun _ _ _ _ _ => good_leaf ⟨_, _, _, _, _, fun _ => rfl⟩) good_bad
theorem evF_lin {bw : Nat} : ∀ fuel, CallLin (evF P bw fuel)
  | 0 => fun _ _ _ _ _ _ => good_bad
  | fuel + 1 => callW_lin (evF_lin fuel)
end
end Go.Proofs.YtpjhkpmmbeoghaaGreatDoor.Ev
namespace Go.Proofs.YtpjhkpmmbeoghaaGreatDoor.Ev
open Go
theorem WR.cutI {g f : Nat → Option FB} {I ni I' ni' w : Nat} {u v : Value} (h1 : WR g I ni w u) (hI : IExt I ni I' ni') (h : WR f I' ni' w v) : WR f I ni w v := by
  induction h generalizing u with
  | undef => exact .undef
  | bool b => exact .bool b
  | int k n p hp hlt => exact .int k n p hp hlt
  | pnil => exact .pnil
  | ptr b off F hb hb2 hf ho => exact .ptr b off F hb hb2 hf ho
  | snil => exact .snil
  | slice b off len sz cap ex F A c hb hb2 hff ho hlen hsz hc hcap h3 h4 hA => exact .slice b off len sz cap ex F A c hb hb2 hff ho hlen hsz hc hcap h3 h4 hA
  | str q n s hn hn2 hq hv hi =>
    obtain ⟨q', n', s', -, -, hn2', hq', -, hi', hw⟩ := h1.inv_str (by omega)
    obtain rfl : q = q' := by omega
    obtain rfl : n = n' := by omega
    exact .str q n s hn hn2 hq ((hI.str hi').symm.trans hv) hi'
  | mnil => exact .mnil
  | map b F hb hb2 hf => exact .map b F hb hb2 hf
  | func fn b n cs hn hn2 hfn hb hi hv ih =>
    obtain ⟨fn', b', n', cs', -, hn', hn2', hfn', hb', hi', hv', hw⟩ := h1.inv_func (by omega)
    obtain rfl : fn = fn' := by omega
    obtain rfl : b = b' := by omega
    obtain rfl : n = n' := by omega
    exact .func fn b n cs hn hn2 hfn hb hi' fun i h => by
      have := ih i h (hI.cell (show b + i < ni by omega) ▸ hv' i (by omega))
      rwa [hI.cell (show b + i < ni by omega)] at this
  | nilFunc => exact .nilFunc
  | iface t b v ht hb hi hv ih =>
    obtain ⟨t', b', v', -, ht', hb', hi', hv', hw⟩ := h1.inv_iface (by omega)
    obtain rfl : t = t' := by omega
    obtain rfl : b = b' := by omega
    refine .iface t b v ht hb hi' ?_
    have := ih (hI.cell hi' ▸ hv')
    rwa [hI.cell hi'] at this
  | nilIface => exact .nilIface
  | agg b n cs hn hone hn2 hb hi hv ih =>
    obtain ⟨b', n', cs', -, hn', -, hn2', hb', hi', hv', hw⟩ := h1.inv_agg (by omega)
    obtain rfl : b = b' := by omega
    obtain rfl : n = n' := by omega
    exact .agg b n cs hn hone hn2 hb hi' fun i h => by
      have := ih i h (hI.cell (show b + i < ni by omega) ▸ hv' i (by omega))
      rwa [hI.cell (show b + i < ni by omega)] at this
  | tuple b n cs hn hn2 hb hi hv ih =>
    obtain ⟨b', n', cs', -, hn', hn2', hb', hi', hv', hw⟩ := h1.inv_tuple (by omega)
    obtain rfl : b = b' := by omega
    obtain rfl : n = n' := by omega
    exact .tuple b n cs hn hn2 hb hi' fun i h => by
      have := ih i h (hI.cell (show b + i < ni by omega) ▸ hv' i (by omega))
      rwa [hI.cell (show b + i < ni by omega)] at this
def BlkOk (f : Nat → Option FB) (I ni : Nat) (W W' : World) (hdw n r : Nat) : Prop :=
  ((∃ vs elem, hdw = 1 + 1024 * n ∧ W'.heap[W.heap.size]? = some (.cells vs elem (0, 0)) ∧ vs.size = n ∧ RowR f I ni r vs) ∨ ∃ clock, hdw = 1027 ∧ n = 1 ∧ r = 18 ∧ W'.heap[W.heap.size]? = some (.map #[] clock)) ∧
  W.heap.size ≤ W'.heap.size ∧ (∀ k, k < W.heap.size → W'.heap[k]? = W.heap[k]?) ∧ W'.tape = W.tape ∧ W'.os = W.os ∧ W'.output = W.output
def MakeOk (P : Program) (f : Nat → Option FB) (I ni hdw n r I' ni' : Nat) (wd : Nat → Nat) (s : Sem Next) : Prop :=
  IOk I ni I' ni' ∧ ∀ W : World, ∃ v W', s.run P W = .ok (.value v) W' ∧ BlkOk f I' ni' W W' hdw n r ∧ ∀ b f', 0 < b → b < 4194304 → f' b = some ⟨W.heap.size, 0, n, 0⟩ → WR f' I' ni' (wd b) v
def MakeGo (P : Program) (f : Nat → Option FB) (M nm I ni : Nat) (kf : KF) (s : Sem Next) : Prop :=
  ∃ hdw n r I' ni' wd, nm + (1 + n) < 4194304 ∧ kf (wd (nm + 1)) (addRow M nm (addRow hdw 1 r)) (nm + (1 + n)) I' ni' = .ok ∧ MakeOk P f I ni hdw n r I' ni' wd s
section
variable {f : Nat → Option FB} {I ni : Nat} {E : Fr} {M nm : Nat} {a : Act} {P : Program} {kf : KF}
theorem blk_cells {W : World} {vs : Array Value} {elem : TypeId} {r n : Nat} (hr : RowR f I ni r vs) (hn : vs.size = n) : BlkOk f I ni W (W.alloc (.cells vs elem)) (1 + 1024 * n) n r :=
  ⟨.inl ⟨vs, elem, rfl, heap_alloc_new _ _, hn, hr⟩, by simp, fun k hk => heap_alloc_oldE _ _ k hk, rfl, rfl, rfl⟩
theorem alloc_go {t : TypeId} {n r : Nat} (hI : IB I ni) (hz : zeroRow P t = some (n, r)) (h : newK n r M nm I ni kf = .ok) : MakeGo P f M nm I ni kf (do let v ← Instr.alloc t true (.tuple #[]); pure (.value v)) := by
  obtain ⟨i, z, hi, hz', hs, hrow⟩ := zeroRow_ok hz
  obtain ⟨h1, h⟩ := allocK_ok h
  refine ⟨1 + 1024 * n, n, r, I, ni, fun b => ptrW b 0, h1, h, .refl hI, fun W => ⟨.pointer (some ⟨W.heap.size, 0, none⟩), W.alloc (.cells z.cells t), ?_, blk_cells hrow hs, fun b f' hb hb2 hf => ?_⟩⟩
  · simp [Instr.alloc, zeroValue, typeInfo, hi, hz', newVar, Go.newRow]
  · exact .ptr b 0 ⟨W.heap.size, 0, n, 0⟩ hb (by omega) hf (by omega)
theorem box_go {t : TypeId} {n : Nat} {x : Operand} (h : boxK n (lowOpd x) E M nm I ni kf = .ok) (hx : OpR f I ni E a x) (hI : IB I ni) : MakeGo P f M nm I ni kf (do let v ← Instr.box t (a.eval x); pure (.value v)) := by
  obtain ⟨w, I', n', h1, h2, h3⟩ := opdK_ok h hx hI
  obtain ⟨r, h1, hs, hrow⟩ := partK_ok h1 h3
  obtain ⟨h4, h1⟩ := allocK_ok h1
  refine ⟨1 + 1024 * n, n, r, I', n', fun b => ptrW b 0, h4, h1, h2, fun W => ⟨.pointer (some ⟨W.heap.size, 0, none⟩), W.alloc (.cells (a.eval x).cells t), ?_, blk_cells hrow hs, fun b f' hb hb2 hf => ?_⟩⟩
  · simp [Instr.box, newVar, Go.newRow]
  · exact .ptr b 0 ⟨W.heap.size, 0, n, 0⟩ hb (by omega) hf (by omega)
theorem sl_wr {b n len sz cap g : Nat} {f' : Nat → Option FB} (hb : 0 < b) (hb2 : b < 4194304) (hf : f' b = some ⟨g, 0, n, 0⟩) (hl : len < 524288) (hs : sz < 256) (hc : len ≤ cap) (hcap : cap < 524288) : WR f' I ni (slW 0 b len sz 1 cap) (.slice (some ⟨g, 0, none⟩) len cap) := by
  rw [slW_eq]
  exact .slice b 0 len sz cap true ⟨g, 0, n, 0⟩ ⟨g, 0, none⟩ cap hb hb2 hf (by omega) hl hs hc hcap (fun _ => rfl) (fun h => by cases h) fun _ => rfl
theorem mkSl_go {t e : TypeId} {ie : TypeInfo} {s r : Nat} {l cc : Operand} (ht : P.underlying t = some (.slice e)) (he : P.info? e = some ie) (hz : zeroRow P e = some (s, r)) (hs : 0 < s) (hs2 : s < 256) (hsz : ie.size = s) (hby : ie.bytes < 1048576)
    (h : mkSlK s r (lowOpd l) (lowOpd cc) E M nm I ni kf = .ok) (hl : OpR f I ni E a l) (hc : OpR f I ni E a cc) (hI : IB I ni) : MakeGo P f M nm I ni kf (do let v ← Instr.makeSlice t (a.eval l) (a.eval cc); pure (.value v)) := by
  obtain ⟨wl, wc, I', n', h1, h2, h3, h4⟩ := op2_ok h hl hc hI
  obtain ⟨kl, m, e1, h1⟩ := natK_ok h1 h3
  obtain ⟨kd, n, e2, h1⟩ := natK_ok h1 h4
  obtain ⟨h5, h1⟩ := iff_bad h1
  obtain ⟨h6, h1⟩ := iff_bad h1
  have h5 : m ≤ n := Nat.le_of_ble_eq_true h5
  have h6 := blt_iff.1 h6
  obtain ⟨h7, h1⟩ := allocK_ok h1
  obtain ⟨i, z, hi, hz', hzs, hrow⟩ := zeroRow_ok hz
  rw [he] at hi; cases hi
  have hmade := rep_ok (f := f) (I := I') (ni := n') hs hzs hrow n
  have hb1 : ie.bytes * n < 1048576 * 524288 := Nat.mul_lt_mul'' hby h6
  refine ⟨1 + 1024 * (n * s), n * s, _, I', n', fun b => slW 0 b m s 1 n, h7, h1, h2, fun W => ⟨.slice (some ⟨W.heap.size, 0, none⟩) m n, W.alloc (.cells (madeCells z.cells (n * s)) e), ?_, blk_cells hmade (size_madeCells _ _), fun b f' hb hb2 hf => sl_wr hb hb2 hf (by omega) hs2 h5 h6⟩⟩
  have hrun := run_make (P := P) W t e ie z ht he hz' kl kd (m : Nat) (n : Nat) (by omega) (by omega) (by rw [← Int.natCast_mul]; omega) (by omega)
  simp only [Int.toNat_natCast, hsz] at hrun
  rw [e1, e2]
  simp only [Sem.run_bind, hrun, Result.andThen_ok, Sem.run_pure]
theorem bldS_go {t e : TypeId} {ie : TypeInfo} {s r len : Nat} {l : List (Nat × Operand)} {ps : List (Nat × Nat × Opd)} (ht : P.underlying t = some (.slice e)) (he : P.info? e = some ie) (hz : zeroRow P e = some (s, r)) (hs : 0 < s) (hs2 : s < 256) (hsz : ie.size = s) (hlen : len < 65536)
    (hl : lowParts (fun i => some (i * s, s)) l = some ps) (h : bldSK len s r ps E M nm I ni kf = .ok) (hx : ∀ p ∈ l, OpR f I ni E a p.2) (hI : IB I ni) :
    MakeGo P f M nm I ni kf (do let v ← Instr.buildSlice t len (l.map fun p => (p.1, a.eval p.2)).toArray; pure (.value v)) := by
  obtain ⟨i, z, hi, hz', hzs, hrow⟩ := zeroRow_ok hz
  rw [he] at hi; cases hi
  have hmade := rep_ok (f := f) (I := I) (ni := ni) hs hzs hrow len
  obtain ⟨r', I', n', cs', h1, h2, h3, h4, h5⟩ := fillK_ok hl h hx hI hmade (size_madeCells _ _)
  obtain ⟨h7, h1⟩ := allocK_ok h1
  have hls : len * s < 65536 * 256 := Nat.mul_lt_mul'' hlen hs2
  refine ⟨1 + 1024 * (len * s), len * s, _, I', n', fun b => slW 0 b len s 1 len, h7, h1, h2, fun W => ⟨.slice (some ⟨W.heap.size, 0, none⟩) len len, W.alloc (.cells cs' e), ?_, blk_cells h3 h4, fun b f' hb hb2 hf => sl_wr hb hb2 hf (by omega) hs2 (Nat.le_refl _) (by omega)⟩⟩
  have hrun : (Instr.buildSlice t len (l.map fun p => (p.1, a.eval p.2)).toArray).run P W = .ok (.slice (some ⟨W.heap.size, 0, none⟩) len len) (W.alloc (.cells cs' e)) := by
    have hf : Instr.fill (fun i => some (i * ie.size, ie.size)) ((Array.range (len * ie.size)).map (z.cells[· % z.cells.size]!)) (l.map fun p => (p.1, a.eval p.2)) = some cs' := by rw [hsz]; exact h5
    by_cases h0 : len * ie.size = 0
    · rw [h0] at hf
      have hf' : Instr.fill (fun i => some (i * ie.size, ie.size)) #[] (l.map fun p => (p.1, a.eval p.2)) = some cs' := by simpa [Array.range_zero'] using hf
      simp [Instr.buildSlice, run_underlying ht, Go.sizeOf, typeInfo, he, h0, hf', Go.newRow, Array.range_zero']
    · exact run_buildSlice (P := P) W t e len _ cs' ie z ht he hz' (by rw [hsz]; omega) h0 hf
  simp only [Sem.run_bind, hrun, Result.andThen_ok, Sem.run_pure]
theorem mkMap_go' {s : Sem Next} {I' n' : Nat} (h2 : IOk I ni I' n') (h : mkMapK M nm I' n' kf = .ok) (hs : ∀ W : World, s.run P W = .ok (.value (.map (some W.heap.size))) (W.alloc (.map #[] 0))) : MakeGo P f M nm I ni kf s := by
  obtain ⟨h1, h⟩ := iff_bad h
  have h1 : nm + 2 < 4194304 := blt_iff.1 h1
  refine ⟨1027, 1, 18, I', n', fun b => 13 + 32 * b, h1, h, h2, fun W => ⟨.map (some W.heap.size), W.alloc (.map #[] 0), hs W, ⟨.inr ⟨0, rfl, rfl, rfl, heap_alloc_new _ _⟩, by simp, fun k hk => heap_alloc_oldE _ _ k hk, rfl, rfl, rfl⟩, fun b f' hb hb2 hf => ?_⟩⟩
  exact .map b ⟨W.heap.size, 0, 1, 0⟩ hb (by omega) hf
theorem mkMap_go {t : TypeId} (hI : IB I ni) (h : mkMapK M nm I ni kf = .ok) : MakeGo P f M nm I ni kf (do let v ← Instr.makeMap t none; pure (.value v)) :=
  mkMap_go' (.refl hI) h fun W => by simp [Instr.makeMap]
theorem mkMapH_go {t k e : TypeId} {x : Operand} (ht : P.underlying t = some (.map k e)) (h : mkMapHK (lowOpd x) E M nm I ni kf = .ok) (hx : OpR f I ni E a x) (hI : IB I ni) :
    MakeGo P f M nm I ni kf (do let v ← Instr.makeMap t (some (a.eval x)); pure (.value v)) := by
  obtain ⟨w, I', n', h1, h2, h3⟩ := opdK_ok h hx hI
  obtain ⟨h4, h1⟩ := iff_bad h1
  obtain ⟨h5, h1⟩ := iff_bad h1
  have h4 : 2 ≤ w % 32 := Nat.le_of_ble_eq_true h4
  have h5 : w % 32 ≤ 9 := Nat.le_of_ble_eq_true h5
  have hint : ∃ kd z, a.eval x = .int kd z := by
    generalize a.eval x = v at h3
    cases h3 with
    | int kd z p _ _ => exact ⟨kd, z, rfl⟩
    | _ => omega
  obtain ⟨kd, z, e⟩ := hint
  exact mkMap_go' h2 h1 fun W => by rw [e]; simp [Instr.makeMap, run_underlying ht, asInt, asIntOf]
end
end Go.Proofs.YtpjhkpmmbeoghaaGreatDoor.Ev
namespace Go.Proofs.YtpjhkpmmbeoghaaGreatDoor.Ev
open Go
def OpRes (P : Program) (c : Cf) (a : Act) (o : Oper) (kf : KF) : Nat → Prop
  | 0 => PureOk P c.f c.I c.ni (fun w I ni => kf w c.M c.nm I ni) (execOp a.eval o)
  | 1 => ReadOk P c (fun w I ni => kf w c.M c.nm I ni) (execOp a.eval o)
  | 2 => MakeGo P c.f c.M c.nm c.I c.ni kf (execOp a.eval o)
  | _ => True
section
variable {P : Program} {call : CallT}
theorem lowBin_cls {op : BinOp} {t yt : TypeId} {x y : Operand} : clsI (lowBin P op t x y yt) = 0 ∨ ∃ n, lowBin P op t x y yt = .bad n := by
  unfold lowBin
  repeat' first | exact .inl rfl | exact .inr ⟨_, rfl⟩ | split
theorem builtin_cls {o : Oper} {cl : Call} {b : Builtin} {c : Cf} {E : Fr} {a : Act} {kf : KF} (ho : o.op = .call cl) (hcl : cl.callee = .builtin b) (h0 : clsI (lowCall P o cl) = 0) (h : stepK P call (lowCall P o cl) E c.M c.nm c.I c.ni kf = .ok) (hx : ∀ x ∈ cl.args.toList, OpR c.f c.I c.ni E a x) (hI : IB c.I c.ni) :
    PureOk P c.f c.I c.ni (fun w I ni => kf w c.M c.nm I ni) (execOp a.eval o) := by
  obtain ⟨callee, args, ats⟩ := cl
  simp only at hcl hx
  subst hcl
  obtain ⟨args⟩ := args
  obtain ⟨ats⟩ := ats
  have hm : Array.map a.eval (Array.mk args) = Array.mk (args.map a.eval) := List.map_toArray ..
  obtain ⟨cn, hex⟩ : ∃ cn, execOp a.eval o = builtin b ⟨ats⟩ o.type cn ⟨args.map a.eval⟩ := by
    rw [← hm]
    simp only [execOp, ho, resolve, invoke]
    exact ⟨_, rfl⟩
  rw [hex]
  generalize hlw : lowCall P o _ = i at h h0
  unfold lowCall at hlw
  simp only at hlw hx
  split at hlw
  · rename_i x t
    have hx0 := hx x (by simp)
    split at hlw
    · rename_i e ht; (subst hlw; exact lenSK_ok (P := P) ht h hx0 hI)
    · rename_i ht; (subst hlw; exact lenTK_ok (P := P) ht h hx0 hI)
    · (subst hlw; simp [clsI] at h0)
    · (subst hlw; exact (bad_step h).elim)
  · rename_i x y t u
    have hx0 := hx x (by simp)
    have hy0 := hx y (by simp)
    split at hlw
    · rename_i htu
      subst htu
      split at hlw
      · rename_i e ht
        split at hlw
        · rename_i ie s r hie hz
          split at hlw
          · rename_i hcond
            obtain ⟨k1, k2, k3, k4⟩ := hcond
            (subst hlw; simp [clsI] at h0)
          · (subst hlw; exact (bad_step h).elim)
        · (subst hlw; exact (bad_step h).elim)
      · (subst hlw; exact (bad_step h).elim)
    · split at hlw
      · rename_i e ht hu
        split at hlw
        · rename_i ie hie
          split at hlw
          · rename_i hz
            split at hlw
            · rename_i hcond
              (subst hlw; simp [clsI] at h0)
            · (subst hlw; exact (bad_step h).elim)
          · (subst hlw; exact (bad_step h).elim)
        · (subst hlw; exact (bad_step h).elim)
      · (subst hlw; exact (bad_step h).elim)
  · rename_i x y t u
    have hx0 := hx x (by simp)
    have hy0 := hx y (by simp)
    split at hlw
    · rename_i e e' ht hu
      split at hlw
      · rename_i n hs
        obtain ⟨ie, hie, rfl⟩ := szOf_ok hs
        split at hlw
        · (subst hlw; exact (bad_step h).elim)
        · (subst hlw; simp [clsI] at h0)
      · (subst hlw; exact (bad_step h).elim)
    · (subst hlw; exact (bad_step h).elim)
  · rename_i x t
    have hx0 := hx x (by simp)
    split at hlw
    · rename_i e ht
      split at hlw
      · rename_i s r hz
        split at hlw
        · (subst hlw; exact (bad_step h).elim)
        · (subst hlw; simp [clsI] at h0)
      · (subst hlw; exact (bad_step h).elim)
    · (subst hlw; exact (bad_step h).elim)
  · rename_i ts x y
    have hx0 := hx x (by simp)
    have hy0 := hx y (by simp)
    split at hlw
    · rename_i k ht
      (subst hlw; exact minK_ok (P := P) (mx := false) (ts := ⟨ats⟩) (t := o.type) h hx0 hy0 hI)
    · (subst hlw; exact (bad_step h).elim)
  · rename_i ts x y
    have hx0 := hx x (by simp)
    have hy0 := hx y (by simp)
    split at hlw
    · rename_i k ht
      (subst hlw; exact minK_ok (P := P) (mx := true) (ts := ⟨ats⟩) (t := o.type) h hx0 hy0 hI)
    · (subst hlw; exact (bad_step h).elim)
  · (subst hlw; exact (bad_step h).elim)
theorem lowCall_cls {o : Oper} {cl : Call} : clsI (lowCall P o cl) = 3 ∨ (clsI (lowCall P o cl) = 0 ∧ ∃ b, cl.callee = .builtin b) := by
  cases hcl : cl.callee with
  | builtin b =>
    unfold lowCall
    simp only [hcl]
    repeat' first | exact .inl rfl | exact .inr ⟨rfl, _, rfl⟩ | split
  | invoke x name => unfold lowCall; simp only [hcl]; exact .inl rfl
  | value x =>
    unfold lowCall
    simp only [hcl]
    repeat' first | contradiction | exact .inl rfl | split
theorem op_cls {o : Oper} {a : Act} {c : Cf} {E : Fr} {kf : KF} (h : stepK P call (lowOp P o) E c.M c.nm c.I c.ni kf = .ok) (hx : ∀ x ∈ o.op.operands, OpR c.f c.I c.ni E a x) (hr : clsI (lowOp P o) = 1 → HR c) (hI : IB c.I c.ni) : OpRes P c a o kf (clsI (lowOp P o)) := by
  obtain ⟨dst, op, ty, pos, after, guard⟩ := o
  generalize hlw : lowOp P _ = i at h hr ⊢
  unfold lowOp at hlw
  cases op
  case move x => (subst hlw; exact movK_ok (P := P) h (opr1 hx) hI)
  case assign x => (subst hlw; exact movK_ok (P := P) h (opr1 hx) hI)
  case pick x y z => (subst hlw; exact pickK_ok (P := P) h (opr3 hx).1 (opr3 hx).2.1 (opr3 hx).2.2 hI)
  case alloc t =>
    simp only at hlw
    split at hlw
    · rename_i n r hz; (subst hlw; exact alloc_go hI hz h)
    · (subst hlw; exact (bad_step h).elim)
  case box t x =>
    simp only at hlw
    split at hlw
    · (subst hlw; exact box_go h (opr1 hx) hI)
    · (subst hlw; exact (bad_step h).elim)
  case build t ps =>
    simp only at hlw
    split at hlw
    · rename_i n r pl hz hp
      split at hlw
      · rename_i l hl
        subst hlw
        have := (buildK_ok (P := P) (a := a) (f := c.f) (E := E) (I := c.I) (ni := c.ni) (kv := fun w I ni => kf w c.M c.nm I ni) hz hp hl h (fun p hp => hx p.2 (by simp [Op.operands]; exact ⟨p.1, by simpa using hp⟩)) hI)
        rw [← parts_map] at this
        exact this
      · (subst hlw; exact (bad_step h).elim)
    · (subst hlw; exact (bad_step h).elim)
  case buildSlice t len ps =>
    simp only at hlw
    split at hlw
    · rename_i e ht
      split at hlw
      · rename_i ie s r hie hz
        split at hlw
        · rename_i hcond
          obtain ⟨k1, k2, k3, k4⟩ := hcond
          split at hlw
          · rename_i l hl
            subst hlw
            have := bldS_go (P := P) (a := a) (f := c.f) ht hie hz k1 k2 k3 k4 hl h (fun p hp => hx p.2 (by simp [Op.operands]; exact ⟨p.1, by simpa using hp⟩)) hI
            rw [← parts_map] at this
            exact this
          · (subst hlw; exact (bad_step h).elim)
        · (subst hlw; exact (bad_step h).elim)
      · (subst hlw; exact (bad_step h).elim)
    · (subst hlw; exact (bad_step h).elim)
  case load t x =>
    simp only at hlw
    split at hlw
    · rename_i d hd
      split at hlw
      · rename_i hagg
        split at hlw
        · rename_i n hs
          obtain ⟨ie, hie, rfl⟩ := szOf_ok hs
          (subst hlw; exact loadNK_ok (P := P) (hr rfl) hd hagg hie h (opr1 hx) hI)
        · (subst hlw; exact (bad_step h).elim)
      · rename_i hagg
        (subst hlw; exact load1K_ok (P := P) (hr rfl) hd (by simpa using hagg) h (opr1 hx) hI)
    · (subst hlw; exact (bad_step h).elim)
  case store t x v =>
    simp only at hlw
    split at hlw
    · rename_i n hs
      obtain ⟨ie, hie, rfl⟩ := szOf_ok hs
      (subst hlw; trivial)
    · (subst hlw; exact (bad_step h).elim)
  case nilCheck x => (subst hlw; exact nilcK_ok (P := P) h (opr1 hx) hI _ rfl)
  case binOp op t x y yt =>
    simp only at hlw
    have hb := lowBin_cls (P := P) (op := op) (t := t) (yt := yt) (x := x) (y := y)
    rw [hlw] at hb
    rcases hb with hb | ⟨n, hb⟩
    · rw [hb]
      subst hlw
      exact lowBin_pure h (opr2 hx).1 (opr2 hx).2 hI
    · subst hb
      exact (bad_step h).elim
  case unOp op t x =>
    simp only at hlw
    split at hlw
    · (subst hlw; exact notK_ok (P := P) h (opr1 hx) hI)
    · split at hlw
      · (subst hlw; exact negK_ok (P := P) h (opr1 hx) hI)
      · (subst hlw; exact (bad_step h).elim)
    · (subst hlw; exact (bad_step h).elim)
  case convert s d x =>
    simp only at hlw
    split at hlw
    · rename_i ks k hs hd
      (subst hlw; exact convK_ok (P := P) hs hd h (opr1 hx) hI)
    · rename_i e hs hd
      split at hlw
      · rename_i he
        (subst hlw; exact strOfK_ok (P := P) (hr rfl) hs he hd h (opr1 hx) hI)
      · (subst hlw; exact (bad_step h).elim)
    · rename_i e hs hd
      split at hlw
      · rename_i he
        (subst hlw; trivial)
      · (subst hlw; exact (bad_step h).elim)
    · (subst hlw; exact (bad_step h).elim)
  case makeInterface t x =>
    simp only at hlw
    split at hlw
    · (subst hlw; exact (bad_step h).elim)
    · rename_i d hne hd
      (subst hlw; exact mkiK_ok (P := P) hd (fun ms e => hne ms e) h (opr1 hx) hI)
    · (subst hlw; exact (bad_step h).elim)
  case makeFunc fn first captured =>
    cases fn
    case func f =>
      simp only at hlw
      split at hlw
      · rename_i hf
        subst hlw
        have hf' : first = #[] := by
          obtain ⟨first⟩ := first
          cases first with
          | nil => rfl
          | cons x l => simp at hf
        subst hf'
        have := (mkfK_ok (P := P) (a := a) (f := c.f) (E := E) (I := c.I) (ni := c.ni) (kv := fun w I ni => kf w c.M c.nm I ni) h (fun y hy => hx y (by simp [Op.operands]; exact Array.mem_toList_iff.1 hy)) hI)
        have e : (captured.toList.map a.eval).toArray = captured.map a.eval := by apply Array.ext'; simp
        rw [e] at this
        have e0 : Array.map a.eval (#[] : Array Operand) = #[] := by simp
        show PureOk P c.f c.I c.ni (fun w I ni => kf w c.M c.nm I ni) (do let v ← Instr.makeFunc (.func f) (Array.map a.eval #[]) (captured.map a.eval); pure (.value v))
        rw [e0]
        exact this
      · (subst hlw; exact (bad_step h).elim)
    all_goals (subst hlw; exact (bad_step h).elim)
  case makeSlice t l cc =>
    simp only at hlw
    split at hlw
    · rename_i e ht
      split at hlw
      · rename_i ie s r hie hz
        split at hlw
        · rename_i hcond
          obtain ⟨k1, k2, k3, k4⟩ := hcond
          (subst hlw; exact mkSl_go ht hie hz k1 k2 k3 k4 h (opr2 hx).1 (opr2 hx).2 hI)
        · (subst hlw; exact (bad_step h).elim)
      · (subst hlw; exact (bad_step h).elim)
    · (subst hlw; exact (bad_step h).elim)
  case slice t x lo hi mx =>
    have hx0 : OpR c.f c.I c.ni E a x := hx x (by simp [Op.operands])
    have hlo : ∀ y, lo = some y → OpR c.f c.I c.ni E a y := fun y hy => hx y (by subst hy; simp [Op.operands])
    have hhi : ∀ y, hi = some y → OpR c.f c.I c.ni E a y := fun y hy => hx y (by subst hy; simp [Op.operands])
    have hmx : ∀ y, mx = some y → OpR c.f c.I c.ni E a y := fun y hy => hx y (by subst hy; simp [Op.operands])
    simp only at hlw
    split at hlw
    · rename_i e ht
      split at hlw
      · rename_i ie hie
        split at hlw
        · (subst hlw; exact (bad_step h).elim)
        · rename_i hno
          (subst hlw; exact slcK_ok (P := P) ht hie (by intro h1; cases hi <;> simp_all) h hx0 hlo hhi hmx hI)
      · (subst hlw; exact (bad_step h).elim)
    · rename_i n e ht
      split at hlw
      · rename_i sz hs
        obtain ⟨ie, hie, rfl⟩ := szOf_ok hs
        split at hlw
        · (subst hlw; exact (bad_step h).elim)
        · rename_i hno
          split at hlw
          · rename_i hlt
            have hmn : mx = none := by cases mx <;> simp_all
            subst hmn
            (subst hlw; exact slpK_ok (P := P) ht hie hlt h hx0 hlo hhi hI)
          · (subst hlw; exact (bad_step h).elim)
      · (subst hlw; exact (bad_step h).elim)
    · rename_i ht
      split at hlw
      · (subst hlw; exact (bad_step h).elim)
      · rename_i hno
        have hmn : mx = none := by cases mx <;> simp_all
        subst hmn
        (subst hlw; exact slcTK_ok (P := P) ht h hx0 hlo hhi hI)
    · (subst hlw; exact (bad_step h).elim)
  case fieldAddr s x j =>
    simp only at hlw
    split at hlw
    · rename_i fields ht
      split at hlw
      · rename_i fi hj
        split at hlw
        · rename_i n hs
          obtain ⟨ie, hie, rfl⟩ := szOf_ok hs
          split at hlw
          · (subst hlw; exact (bad_step h).elim)
          · rename_i hz
            (subst hlw; exact fadrK_ok (P := P) ht hj hie hz h (opr1 hx) hI)
        · (subst hlw; exact (bad_step h).elim)
      · (subst hlw; exact (bad_step h).elim)
    · (subst hlw; exact (bad_step h).elim)
  case field s x j =>
    simp only at hlw
    split at hlw
    · rename_i fields ht
      split at hlw
      · rename_i fi hj
        split at hlw
        · rename_i d hd
          split at hlw
          · rename_i hagg
            split at hlw
            · rename_i n hs
              obtain ⟨ie, hie, rfl⟩ := szOf_ok hs
              (subst hlw; exact fldNK_ok (P := P) ht hj hd hagg hie h (opr1 hx) hI)
            · (subst hlw; exact (bad_step h).elim)
          · rename_i hagg
            (subst hlw; exact fld1K_ok (P := P) ht hj hd (by simpa using hagg) h (opr1 hx) hI)
        · (subst hlw; exact (bad_step h).elim)
      · (subst hlw; exact (bad_step h).elim)
    · (subst hlw; exact (bad_step h).elim)
  case indexAddr t x i =>
    simp only at hlw
    split at hlw
    · rename_i e ht
      split at hlw
      · rename_i n hs
        obtain ⟨ie, hie, rfl⟩ := szOf_ok hs
        (subst hlw; exact iadrSK_ok (P := P) ht hie h (opr2 hx).1 (opr2 hx).2 hI)
      · (subst hlw; exact (bad_step h).elim)
    · rename_i len e ht
      split at hlw
      · rename_i n hs
        obtain ⟨ie, hie, rfl⟩ := szOf_ok hs
        (subst hlw; exact iadrAK_ok (P := P) ht hie h (opr2 hx).1 (opr2 hx).2 hI)
      · (subst hlw; exact (bad_step h).elim)
    · (subst hlw; exact (bad_step h).elim)
  case index t x i =>
    simp only at hlw
    split at hlw
    · rename_i len e ht
      split at hlw
      · rename_i d hs hd
        obtain ⟨ie, hie, hsz⟩ := szOf_ok hs
        split at hlw
        · (subst hlw; exact (bad_step h).elim)
        · rename_i hagg
          (subst hlw; exact idx1K_ok (P := P) ht hie hsz hd (by simpa using hagg) h (opr2 hx).1 (opr2 hx).2 hI)
      · (subst hlw; exact (bad_step h).elim)
    · rename_i ht
      (subst hlw; exact idxTK_ok (P := P) ht h (opr2 hx).1 (opr2 hx).2 hI)
    · (subst hlw; exact (bad_step h).elim)
  case makeMap t r =>
    simp only at hlw
    split at hlw
    · (subst hlw; exact mkMap_go hI h)
    · rename_i x k e ht
      (subst hlw; exact mkMapH_go ht h (hx x (by simp [Op.operands])) hI)
    · (subst hlw; exact (bad_step h).elim)
  case lookup t x i com =>
    simp only at hlw
    split at hlw
    · rename_i k e ht
      split at hlw
      · rename_i q agg n r hq hz
        (subst hlw; exact lookK_ok (P := P) (hr rfl) ht (keyKind_ok hq) hz h (opr2 hx).1 (opr2 hx).2 hI)
      · (subst hlw; exact (bad_step h).elim)
    · (subst hlw; exact (bad_step h).elim)
  case mapUpdate t m k x =>
    simp only at hlw
    split at hlw
    · rename_i kt e ht
      split at hlw
      · rename_i q hq
        (subst hlw; trivial)
      · (subst hlw; exact (bad_step h).elim)
    · (subst hlw; exact (bad_step h).elim)
  case insert t m k x =>
    simp only at hlw
    split at hlw
    · rename_i kt e ht
      split at hlw
      · rename_i q hq
        (subst hlw; trivial)
      · (subst hlw; exact (bad_step h).elim)
    · (subst hlw; exact (bad_step h).elim)
  case extract x j => (subst hlw; exact extK_ok (P := P) h (opr1 hx) hI)
  case call cl =>
    have hb := lowCall_cls (P := P) (o := ⟨dst, .call cl, ty, pos, after, guard⟩) (cl := cl)
    simp only at hlw
    rw [hlw] at hb
    rcases hb with hb | ⟨hb, b, hcl⟩
    · rw [hb]; trivial
    · rw [hb]
      subst hlw
      have hargs : ∀ x ∈ cl.args.toList, OpR c.f c.I c.ni E a x := fun x hm => hx x (by simp [Op.operands, Call.operands]; exact .inr (by simpa using hm))
      exact builtin_cls (o := ⟨dst, .call cl, ty, pos, after, guard⟩) rfl hcl hb h hargs hI
  all_goals (subst hlw; exact (bad_step h).elim)
end
end Go.Proofs.YtpjhkpmmbeoghaaGreatDoor.Ev
namespace Go.Proofs.YtpjhkpmmbeoghaaGreatDoor.Ev
open Go Go.MapKept
def RdRow (M' M b off n : Nat) : Prop := hd M' b % 4 = 1 ∧ off + n ≤ hd M' b / 1024 ∧ rowAt M' (b + off) n = rowAt M (b + off) n
def PlaceOk (i : In) (E : Fr) (M M' : Nat) : Prop :=
  match i with
  | .load1 (.s o) => tg (slot E o) 10 = true ∧ 10 < slot E o ∧ RdRow M' M (pB (slot E o)) (pOff (slot E o)) 1
  | .loadN n (.s o) => tg (slot E o) 10 = true ∧ 10 < slot E o ∧ RdRow M' M (pB (slot E o)) (pOff (slot E o)) n
  | .strOf (.s o) => sLen (slot E o) = 0 ∨ (tg (slot E o) 11 = true ∧ RdRow M' M (sB (slot E o)) (sOff (slot E o)) (sLen (slot E o)))
  | .look _ _ _ _ _ (.s o) _ => slot E o = 13 ∨ (tg (slot E o) 13 = true ∧ hd M (slot E o / 32) = 1027 ∧ hd M' (slot E o / 32) = 1027 ∧ cellAt M' (slot E o / 32) = cellAt M (slot E o / 32))
  | _ => True
section
variable {E : Fr} {a : Act} {P : Program}
theorem opd_plain {x : Operand} (hx : ∀ t, x ≠ .tmp t) {f : Nat → Option FB} {I ni : Nat} {k : KV} (h : opdK (lowOpd x) E I ni k = .ok) : (∀ A, a.eval x ≠ .pointer (some A)) ∧ (∀ A n c, a.eval x ≠ .slice (some A) n c) ∧ ∀ r, a.eval x ≠ .map (some r) := by
  cases x with
  | tmp t => exact absurd rfl (hx t)
  | global g => cases h
  | func g => exact ⟨fun A e => (by cases e), fun A n c e => (by cases e), fun r e => (by cases e)⟩
  | const v =>
    refine ⟨fun A e => ?_, fun A n c e => ?_, fun r e => ?_⟩ <;>
      (have e' : v = _ := e
       subst e'
       cases h)
def LateOk (P : Program) (c : Cf) (I ni : Nat) (kv : KV) (s : Sem Next) : Prop :=
  ∃ w I' ni' v, kv w I' ni' = .ok ∧ IOk I ni I' ni' ∧ (IExt I' ni' c.I c.ni → WR c.f c.I c.ni w v) ∧ s.run P c.w = .ok (.value v) c.w
theorem load1_late {c : Cf} {M I ni : Nat} {kv : KV} {x : Operand} {t : TypeId} {d : TypeDesc} (hr : HR c) (ht : P.underlying t = some d) (hd' : aggD d = false) (h : load1K (lowOpd x) E M I ni kv = .ok) (hx : OpR c.f I ni E a x) (hI : IB I ni) (hp : PlaceOk (.load1 (lowOpd x)) E M c.M) :
    LateOk P c I ni kv (do let v ← Instr.loadAt t (a.eval x); pure (.value v)) := by
  by_cases hxt : ∃ u, x = .tmp u
  · obtain ⟨u, rfl⟩ := hxt
    obtain ⟨-, -, p1, p2, p3⟩ : _ ∧ _ ∧ RdRow c.M M (pB (slot E (96 * u))) (pOff (slot E (96 * u))) 1 := hp
    obtain ⟨b, off, F, hb, hb2, hf, ho, e1, e2, e3, h1⟩ := ptrIn_ok (f := c.f) (I := I) (ni := ni) h hx
    rw [e1, e2] at h1
    rw [e1] at p1
    rw [e1, e2] at p2 p3
    obtain ⟨h4, h5, h1⟩ := inK_ok h1
    obtain ⟨v, h6, h7, h8⟩ := hr.load hf p1 (off := off) (by omega)
    have e4 : cellAt M (b + off) = cellAt c.M (b + off) := p3.symm
    have h1 : kv (cellAt M (b + off)) I ni = .ok := h1
    rw [e4] at h1
    refine ⟨_, I, ni, v, h1, .refl hI, fun _ => h7, ?_⟩
    show (do let v ← Instr.loadAt t (a.tmps.getD u undef); pure (Next.value v) : Sem Next).run P c.w = _
    rw [e3]
    simp [Instr.loadAt, Instr.sureAddr, loadVar, run_isAgg_no ht hd', h6]
  · obtain ⟨w, I', n', h1, h2, h3⟩ := opdK_ok h hx hI
    obtain ⟨b, off, F, hb, hb2, hf, ho, e1, e2, e3, h1⟩ := ptrIn_ok h1 h3
    exact absurd e3 ((opd_plain (a := a) (f := c.f) (fun u e => hxt ⟨u, e⟩) h).1 _)
theorem agg_at {f : Nat → Option FB} {I ni I' ni' n r : Nat} {cs : Array Value} (hI : I < 2 ^ (96 * ni)) (hext : IExt (addRow I ni r) (ni + n) I' ni') (hn : cs.size = n) (hb : ni + n < 16777216) (hrow : RowR f I' ni' r cs) : WR f I' ni' (18 + 32 * (ni + 16777216 * n)) (.agg cs) :=
  .agg ni n cs hn (fun i h => hrow.one i h) (by omega) (by omega) hext.1 fun i hi => by
    rw [hext.cell (by omega), cell_add hI, if_neg (by omega), Nat.add_sub_cancel_left]
    exact hrow.wr i hi
theorem loadN_late {c : Cf} {M I ni : Nat} {kv : KV} {x : Operand} {t : TypeId} {d : TypeDesc} {ie : TypeInfo} (hr : HR c) (ht : P.underlying t = some d) (hd' : aggD d = true) (hi : P.info? t = some ie) (h : loadNK ie.size (lowOpd x) E M I ni kv = .ok) (hx : OpR c.f I ni E a x) (hI : IB I ni)
    (hp : PlaceOk (.loadN ie.size (lowOpd x)) E M c.M) : LateOk P c I ni kv (do let v ← Instr.loadAt t (a.eval x); pure (.value v)) := by
  by_cases hxt : ∃ u, x = .tmp u
  · obtain ⟨u, rfl⟩ := hxt
    obtain ⟨-, -, p1, p2, p3⟩ : _ ∧ _ ∧ RdRow c.M M (pB (slot E (96 * u))) (pOff (slot E (96 * u))) ie.size := hp
    obtain ⟨b, off, F, hb, hb2, hf, ho, e1, e2, e3, h1⟩ := ptrIn_ok (f := c.f) (I := I) (ni := ni) h hx
    rw [e1, e2] at h1
    rw [e1] at p1
    rw [e1, e2] at p2 p3
    obtain ⟨h4, h5, h1⟩ := inK_ok h1
    obtain ⟨cs, hs, hrow, hth, hcell⟩ := hr.row hf p1 p2
    obtain ⟨h6, h1⟩ := growK_ok (k := fun I'' ni'' => kv _ I'' ni'') h1
    rw [p3] at hrow
    have hlt : rowAt M (b + off) ie.size < 2 ^ (96 * ie.size) := row_lt _ _ _
    refine ⟨_, _, _, .agg cs, h1, .grow hI hlt h6, fun hext => agg_at hI.1 hext hs h6 hrow, ?_⟩
    show (do let v ← Instr.loadAt t (a.tmps.getD u undef); pure (Next.value v) : Sem Next).run P c.w = _
    rw [e3]
    have hrun := run_loadVar_mid (P := P) c.w F.blk (F.base + off) t cs.toList d (fun j v hv => by
      obtain ⟨hj, rfl⟩ := List.getElem?_eq_some_iff.1 hv
      rw [Array.getElem_toList]
      exact hcell j (by simpa using hj)) ht (by cases d <;> simp_all [aggD, TypeDesc.isRow]) (by simp [hi, hs])
    simp only [Instr.loadAt, Instr.sureAddr, Sem.run_bind, Sem.run_pure, Result.andThen_ok, hrun]
  · obtain ⟨w, I', n', h1, h2, h3⟩ := opdK_ok h hx hI
    obtain ⟨b, off, F, hb, hb2, hf, ho, e1, e2, e3, h1⟩ := ptrIn_ok h1 h3
    exact absurd e3 ((opd_plain (a := a) (f := c.f) (fun u e => hxt ⟨u, e⟩) h).1 _)
theorem str_at {f : Nat → Option FB} {I ni I' ni' n y : Nat} {s : ByteArray} (hI : I < 2 ^ (96 * ni)) (hext : IExt (addRow I ni y) (ni + (n + 11) / 12) I' ni') (hn : s.data.toList.length = n) (hy : y = beVal s.data.toList) (hn2 : n < 1048576) (hb : ni < 16777216) : WR f I' ni' (strW (Nat.mul 12 ni) n) (.string s) := by
  have hlt : y < 2 ^ (8 * n) := by rw [hy, ← hn]; exact beVal_lt _
  refine WR.str (12 * ni) n s hn hn2 (by omega) ?_ (.inr ?_)
  · rw [hext.str (.inr (by omega)), strAt_add hI hlt, hy]
  · have := hext.1; omega
theorem strOf_late {c : Cf} {M I ni : Nat} {kv : KV} {x : Operand} {src dst e : TypeId} (hr : HR c) (hs : P.underlying src = some (.slice e)) (he : P.underlying e = some (.int .u8)) (hd : P.underlying dst = some .string) (h : strOfK (lowOpd x) E M I ni kv = .ok)
    (hx : OpR c.f I ni E a x) (hI : IB I ni) (hp : PlaceOk (.strOf (lowOpd x)) E M c.M) : LateOk P c I ni kv (do let v ← convert src dst (a.eval x); pure (.value v)) := by
  obtain ⟨w, I', n', h1, h2, h3⟩ := opdK_ok h hx hI
  obtain ⟨t1, h1⟩ := iff_bad h1
  have vx := slice_view h3 t1
  have nil : sLen w = 0 → (do let v ← convert src dst (a.eval x); pure (Next.value v) : Sem Next).run P c.w = .ok (.value (.string .empty)) c.w := fun t3 => by
    rcases vx with ⟨-, e1, e0⟩ | ⟨ex, F, A, cc, -, -, -, -, -, -, -, -, -, -, -, -, -, e1⟩
    · rw [e1, Sem.run_bind, run_convert_bytes_string c.w src dst e none 0 0 hs he hd]; rfl
    · rw [e1, t3, Sem.run_bind, run_convert_bytes_string c.w src dst e (some A) 0 cc hs he hd]
      have := run_bytesToString (P := P) c.w A 0 cc [] (by simp [loadCells, loadCellsFrom])
      rw [this]; rfl
  rcases iff_ok h1 with ⟨t3, h1⟩ | ⟨t3, h1⟩
  · have t3 : sLen w = 0 := Nat.eq_of_beq_eq_true t3
    exact ⟨12, I', n', .string .empty, h1, h2, fun _ => immW_ok rfl, nil t3⟩
  have t3 : sLen w ≠ 0 := fun h0 => by rw [h0] at t3; cases t3
  have hxt : ∃ u, x = .tmp u := Classical.byContradiction fun hno => by
    rcases vx with ⟨-, -, e0⟩ | ⟨ex, F, A, cc, -, -, -, -, -, -, -, -, -, -, -, -, -, e1⟩
    · exact t3 e0
    · exact (opd_plain (a := a) (f := c.f) (fun u e => hno ⟨u, e⟩) h).2.1 _ _ _ e1
  obtain ⟨u, rfl⟩ := hxt
  clear h1 vx nil t1 t3 h3 h2
  have hx : WR c.f I ni (fcell E u) (a.tmps.getD u undef) := hx
  have h : iff (tg (fcell E u) 11) (iff (Nat.beq (sLen (fcell E u)) 0) (kv 12 I ni)
    (inK M (sB (fcell E u)) (sOff (fcell E u)) (sLen (fcell E u)) (bytesK M (sLen (fcell E u)) (Nat.add (sB (fcell E u)) (sOff (fcell E u))) 0 fun y => growK I ni (Nat.div (Nat.add (sLen (fcell E u)) 11) 12) y fun I' ni' => kv (strW (Nat.mul 12 ni) (sLen (fcell E u))) I' ni'))) (.bad 86 1) = .ok := h
  have hp : sLen (fcell E u) = 0 ∨ (tg (fcell E u) 11 = true ∧ RdRow c.M M (sB (fcell E u)) (sOff (fcell E u)) (sLen (fcell E u))) := hp
  generalize fcell E u = w at hx h hp
  show LateOk P c I ni kv (do let v ← convert src dst (a.tmps.getD u undef); pure (.value v))
  generalize a.tmps.getD u undef = v at hx ⊢
  obtain ⟨t1, h1⟩ := iff_bad h
  have vx := slice_view hx t1
  rcases iff_ok h1 with ⟨t3, h1⟩ | ⟨t3, h1⟩
  · have t3 : sLen w = 0 := Nat.eq_of_beq_eq_true t3
    refine ⟨12, I, ni, .string .empty, h1, .refl hI, fun _ => immW_ok rfl, ?_⟩
    rcases vx with ⟨-, e1, e0⟩ | ⟨ex, F, A, cc, -, -, -, -, -, -, -, -, -, -, -, -, -, e1⟩
    · rw [e1, Sem.run_bind, run_convert_bytes_string c.w src dst e none 0 0 hs he hd]; rfl
    · rw [e1, t3, Sem.run_bind, run_convert_bytes_string c.w src dst e (some A) 0 cc hs he hd]
      have := run_bytesToString (P := P) c.w A 0 cc [] (by simp [loadCells, loadCellsFrom])
      rw [this]; rfl
  have t3 : sLen w ≠ 0 := fun h0 => by rw [h0] at t3; cases t3
  obtain ⟨-, p1, p2, p3⟩ := hp.resolve_left t3
  obtain ⟨-, -, h1⟩ := inK_ok h1
  rcases vx with ⟨-, -, e0⟩ | ⟨ex, F, A, cc, hw, hb0, hb1, hf, ho, hl, hsw, hc, hcap, q1, q2, q3, q4, e1⟩
  · omega
  have hcc0 : cc ≠ 0 := by
    cases ex
    · have := (q2 rfl).1; omega
    · have := q1 rfl; omega
  obtain rfl := q3 hcc0
  obtain ⟨h1, htag⟩ := bytesK_ok h1
  obtain ⟨cs, hsz, hrow, -, hcell⟩ := hr.row hf p1 p2
  rw [p3] at hrow
  have hnews := cells_of (c := c) hsz hcell
  have hint : ∀ j (hj : j < cs.size), ∃ z : Int, cs[j] = .int .u8 z ∧ UInt8.ofNat z.toNat = UInt8.ofNat (cellAt M (sB w + sOff w + j) / 32) := fun j hj => by
    have h4 := hrow.wr j hj
    rw [cell_row (by omega)] at h4
    obtain ⟨z, p, e2, e3, e4, -⟩ := h4.inv_int .u8 (htag j (by omega))
    have e4 : (p : Int) = z + 0 := e4
    have e3 : cellAt M (sB w + sOff w + j) = 6 + 32 * p := e3
    refine ⟨z, e2, ?_⟩
    rw [e3]
    congr 1
    omega
  obtain ⟨ns, hns, hbs⟩ : ∃ ns : List Int, cs.toList = ns.map (Value.int .u8) ∧ ns.map (fun n => UInt8.ofNat n.toNat) = bytesL M (sLen w) (sB w + sOff w) := by
    refine ⟨cs.toList.map fun | .int _ z => z | _ => 0, ?_, ?_⟩
    · apply List.ext_getElem (by simp)
      intro i q1 q2
      obtain ⟨z, e2, -⟩ := hint i (by simpa using q1)
      simp only [List.getElem_map, Array.getElem_toList, e2]
    · apply List.ext_getElem
      · simp [bytesL_len, hsz]
      · intro i q1 q2
        obtain ⟨z, e2, e3⟩ := hint i (by simpa using q1)
        rw [bytesL_get]
        simp only [List.getElem_map, Array.getElem_toList, e2]
        exact e3
  have hload : (loadCells ⟨F.blk, F.base + sOff w, none⟩ (sLen w)).run P c.w = .ok (ns.map (Value.int .u8)).toArray c.w := by
    have := run_loadCells_list (P := P) c.w ⟨F.blk, F.base + sOff w, none⟩ cs.toList hnews
    rw [← hns]
    have hl' : cs.toList.length = sLen w := by simpa using hsz
    rw [hl'] at this
    exact this
  have hrun := run_bytesToString (P := P) c.w ⟨F.blk, F.base + sOff w, none⟩ (sLen w) cc ns hload
  generalize hS : ns.foldl (fun r n => r.push (UInt8.ofNat n.toNat)) ByteArray.empty = S at hrun
  have hSl : S.data.toList = bytesL M (sLen w) (sB w + sOff w) := by
    rw [← hS, push_toList, ← hbs]
    rfl
  obtain ⟨h5, h1⟩ := growK_ok (k := fun I' ni' => kv _ I' ni') h1
  have hlt : ((bytesL M (sLen w) (Nat.add (sB w) (sOff w))).foldl (fun a b => a * 256 + b.toNat) 0) < 2 ^ (8 * sLen w) := by
    have := beVal_lt (bytesL M (sLen w) (sB w + sOff w))
    rw [bytesL_len] at this
    exact this
  have h5 : ni + (sLen w + 11) / 12 < 16777216 := h5
  refine ⟨_, _, _, .string S, h1, .grow hI (Nat.lt_of_lt_of_le hlt (Nat.pow_le_pow_right (by decide) ?_)) h5, fun hext => str_at hI.1 hext (by rw [hSl, bytesL_len]) (by rw [hSl]; rfl) (by omega) hI.2, ?_⟩
  · show 8 * sLen w ≤ 96 * ((sLen w + 11) / 12); omega
  · rw [e1, Sem.run_bind, run_convert_bytes_string c.w src dst e _ _ cc hs he hd, hrun]
    rfl
end
end Go.Proofs.YtpjhkpmmbeoghaaGreatDoor.Ev
namespace Go.Proofs.YtpjhkpmmbeoghaaGreatDoor.Ev
open Go Go.MapKept
section
variable {E : Fr} {a : Act} {P : Program}
theorem map_late {c cj : Cf} (hr : HR c) (hj : HR cj) (hext : IExt cj.I cj.ni c.I c.ni) {I ni : Nat} (hI : IExt cj.I cj.ni I ni) {w : Nat} {v u : Value} {k : Nat → Nat → Res} (hv : WR c.f I ni w v) (hu : WR cj.f I ni w u) (ht : tg w 13 = true) (hw : w ≠ 13)
    (hp : hd c.M (w / 32) = 1027 ∧ cellAt c.M (w / 32) = cellAt cj.M (w / 32)) (h : mapIn cj.M w k = .ok) :
    ∃ (F : FB) (es : Array MapEntry) (clock b' : Nat), v = .map (some F.blk) ∧ c.w.heap[F.blk]? = some (.map es clock) ∧ k b' es.size = .ok ∧
      ∀ i (h : i < es.size), WR c.f I ni (cellAt I (b' + 2 * i)) es[i].key ∧ WR c.f I ni (cellAt I (b' + 2 * i + 1)) es[i].val := by
  obtain ⟨h1, h⟩ := iff_bad h
  have h1 := Nat.eq_of_beq_eq_true h1
  rcases hv.inv_map (tg_ok ht) with ⟨e, -⟩ | ⟨b, F, hb, hb2, hf, e, e1⟩
  · exact absurd e hw
  rcases hu.inv_map (tg_ok ht) with ⟨e', -⟩ | ⟨bj, Fj, hbj, hbj2, hfj, ej, -⟩
  · exact absurd e' hw
  obtain rfl : b = bj := by omega
  have hb0 : w / 32 = b := by omega
  have hb1 : Nat.div w 32 = b := hb0
  rw [hb0] at hp
  rw [hb1] at h1 h
  have hkj : hd cj.M b % 4 = 3 := by
    have : hd cj.M b = 1027 := h1
    omega
  obtain ⟨-, es, clock, b', n, h2, h3, h4, h5, h6, h7⟩ := hr.maps b F hf (by omega)
  obtain ⟨-, es', clock', b2, n2, h2', h3', h4', h5', h6', h7'⟩ := hj.maps b Fj hfj hkj
  rw [hp.2, h4'] at h4
  obtain rfl : b' = b2 := by omega
  obtain rfl : n = n2 := by omega
  have g1 : gB (cellAt cj.M b) = b' := by rw [h4']; show (_ / 32) % 16777216 = _; omega
  have g2 : gN (cellAt cj.M b) = 2 * n := by rw [h4']; show _ / 536870912 = _; omega
  rw [g1, g2] at h
  have g3 : Nat.div (2 * n) 2 = n := by show (2 * n) / 2 = _; omega
  rw [g3] at h
  refine ⟨F, es, clock, b', e1, h2, by rw [h3]; exact h, fun i hi => ?_⟩
  obtain ⟨q1, q2⟩ := h7 i hi
  obtain ⟨q3, q4⟩ := h7' i (by omega)
  rw [hext.cell (by omega)] at q1 q2
  rw [hI.cell (by omega), hI.cell (by omega)]
  exact ⟨(WR.cutI q3 hext q1).mono (.refl _) hI, (WR.cutI q4 hext q2).mono (.refl _) hI⟩
theorem look_late {c cj : Cf} {aj : Act} {kv : KV} {q : KK} {com agg : Bool} {n r : Nat} {x y : Operand} {t kt et : TypeId} (hr : HR c) (hj : HR cj) (hext : IExt cj.I cj.ni c.I c.ni) (ht : P.underlying t = some (.map kt et)) (hq : KType P kt q) (hz : zeroW P et = some (agg, n, r))
    (h : lookK q com agg n r (lowOpd x) (lowOpd y) E cj.M cj.I cj.ni kv = .ok) (hx : OpR c.f cj.I cj.ni E a x) (hy : OpR c.f cj.I cj.ni E a y) (hxj : OpR cj.f cj.I cj.ni E aj x) (hI : IB cj.I cj.ni)
    (hp : PlaceOk (.look q com agg n r (lowOpd x) (lowOpd y)) E cj.M c.M) : LateOk P c cj.I cj.ni kv (do let v ← Instr.lookup t (a.eval x) (a.eval y) com; pure (.value v)) := by
  by_cases hxt : ∃ u, x = .tmp u
  · obtain ⟨u, rfl⟩ := hxt
    have hp : fcell E u = 13 ∨ (tg (fcell E u) 13 = true ∧ hd cj.M (fcell E u / 32) = 1027 ∧ hd c.M (fcell E u / 32) = 1027 ∧ cellAt c.M (fcell E u / 32) = cellAt cj.M (fcell E u / 32)) := hp
    have hx : WR c.f cj.I cj.ni (fcell E u) (a.tmps.getD u undef) := hx
    have hxj : WR cj.f cj.I cj.ni (fcell E u) (aj.tmps.getD u undef) := hxj
    obtain ⟨wk, I', n', h1, h2, h4⟩ := opdK_ok (k := fun wk I ni => iff (tg (fcell E u) 13) (keyTag q I wk
      (iff (Nat.beq (fcell E u) 13) (zerK agg n r I ni fun z I ni => okK com z 1 I ni kv)
        (mapIn cj.M (fcell E u) fun b k => findK q I wk k b (fun b => okK com (cellAt I (Nat.add b 1)) 33 I ni kv) (zerK agg n r I ni fun z I ni => okK com z 1 I ni kv)))) (.bad 82 0)) h hy hI
    have h3 := hx.mono (.refl _) h2.ext
    have h3j := hxj.mono (.refl _) h2.ext
    show LateOk P c cj.I cj.ni kv (do let v ← Instr.lookup t (a.tmps.getD u undef) (a.eval y) com; pure (.value v))
    generalize fcell E u = w at h1 h3 h3j hp
    generalize a.tmps.getD u undef = vx at h3 ⊢
    obtain ⟨h5, h1⟩ := iff_bad h1
    obtain ⟨h1, hk⟩ := keyTag_ok hq h4 h1
    rcases iff_ok h1 with ⟨h6, h1⟩ | ⟨h6, h1⟩
    · have hw : w = 13 := Nat.eq_of_beq_eq_true h6
      have e1 : vx = .map none := by
        rcases h3.inv_map (tg_ok h5) with ⟨-, e1⟩ | ⟨b, F, hb, hb2, hf, e, e1⟩
        · exact e1
        · omega
      obtain ⟨wz, I2, n2, z, h7, h8, h9, h10⟩ := zerK_ok (f := c.f) hz h1 h2.lt
      obtain ⟨w', I3, n3, h11, h12, h13⟩ := okK_ok (b := false) h7 h9 h8.lt
      refine ⟨w', I3, n3, _, h11, (h2.trans h8).trans h12, fun hx => h13.mono (.refl _) hx, ?_⟩
      rw [Sem.run_bind, e1, run_look_nil ht hq hk h10]
      rfl
    · have hw : w ≠ 13 := fun e => by rw [e, Nat.beq_refl] at h6; cases h6
      obtain ⟨F, es, clock, b', e1, hheap, h1, hwr⟩ := map_late hr hj hext h2.ext h3 h3j h5 hw (hp.resolve_left hw).2.2 h1
      rcases findK_ok hq h4 hk es.toList b' h1 (fun i hi => by simpa using (hwr i (by simpa using hi)).1) with ⟨j, hj, h7, h8, h9, h10⟩ | ⟨h7, h8⟩
      · have hj' : j < es.size := by simpa using hj
        have hval := (hwr j hj').2
        obtain ⟨w', I3, n3, h11, h12, h13⟩ := okK_ok (f := c.f) (b := true) (v := es[j].val) h7 hval h2.lt
        refine ⟨w', I3, n3, _, h11, h2.trans h12, fun hx => h13.mono (.refl _) hx, ?_⟩
        have hfind := run_find_yes hq hk hj h9 h10 c.w
        rw [Sem.run_bind, e1, run_look_at ht hq hk hheap (.inr ⟨_, hfind, rfl⟩)]
        rfl
      · obtain ⟨wz, I2, n2, z, h9, h10, h11, h12⟩ := zerK_ok (f := c.f) hz h7 h2.lt
        obtain ⟨w', I3, n3, h13, h14, h15⟩ := okK_ok (b := false) h9 h11 h10.lt
        refine ⟨w', I3, n3, _, h13, (h2.trans h10).trans h14, fun hx => h15.mono (.refl _) hx, ?_⟩
        rw [Sem.run_bind, e1, run_look_at ht hq hk hheap (.inl ⟨run_find_no hq hk h8 c.w, rfl, h12 _⟩)]
        rfl
  · obtain ⟨w, wk, I', n', h1, h2, h3, h4⟩ := op2_ok h hx hy hI
    obtain ⟨h5, h1⟩ := iff_bad h1
    obtain ⟨h1, hk⟩ := keyTag_ok hq h4 h1
    have e1 : a.eval x = .map none := by
      rcases h3.inv_map (tg_ok h5) with ⟨-, e1⟩ | ⟨b, F, hb, hb2, hf, e, e1⟩
      · exact e1
      · exact absurd e1 ((opd_plain (a := a) (f := c.f) (fun u e => hxt ⟨u, e⟩) h).2.2 _)
    have hw : w = 13 := by
      rcases h3.inv_map (tg_ok h5) with ⟨hw, -⟩ | ⟨b, F, hb, hb2, hf, e, e2⟩
      · exact hw
      · rw [e1] at e2; cases e2
    rcases iff_ok h1 with ⟨h6, h1⟩ | ⟨h6, h1⟩
    · obtain ⟨wz, I2, n2, z, h7, h8, h9, h10⟩ := zerK_ok (f := c.f) hz h1 h2.lt
      obtain ⟨w', I3, n3, h11, h12, h13⟩ := okK_ok (b := false) h7 h9 h8.lt
      refine ⟨w', I3, n3, _, h11, (h2.trans h8).trans h12, fun hx => h13.mono (.refl _) hx, ?_⟩
      rw [Sem.run_bind, e1, run_look_nil ht hq hk h10]
      rfl
    · rw [hw, Nat.beq_refl] at h6; cases h6
end
end Go.Proofs.YtpjhkpmmbeoghaaGreatDoor.Ev
namespace Go.Proofs.YtpjhkpmmbeoghaaGreatDoor.Ev
open Go
section
theorem HR.layNew {c : Cf} (h : HR c) {hdw n r : Nat} (hh : hdw < 2 ^ 96) (hn : hdw / 1024 = n) (hr : r < 2 ^ (96 * n)) :
    HR { c with lay := setN c.lay (c.nm + 1) n, M := addRow c.M c.nm (addRow hdw 1 r), nm := c.nm + (1 + n) } := by
  have hh1 : hdw < 2 ^ (96 * 1) := by simpa using hh
  have hrow : addRow hdw 1 r < 2 ^ (96 * (1 + n)) := add_lt hh1 hr
  have cellM : ∀ i, i < c.nm → cellAt (addRow c.M c.nm (addRow hdw 1 r)) i = cellAt c.M i := fun i hi => by rw [cell_add h.mlt, if_pos hi]
  have hdM : ∀ b n', c.lay b = some n' → hd (addRow c.M c.nm (addRow hdw 1 r)) b = hd c.M b := fun b n' hl => by
    have := h.lay0 b n' hl
    by_cases hb : b - 1 < c.nm
    · exact cellM _ hb
    · omega
  have hlf : ∀ b F, c.f b = some F → ∃ n', c.lay b = some n' := h.dom
  refine ⟨add_lt h.mlt hrow, h.ilt, fun b n' hl => ?_, fun b n1 b' n2 h1 h2 hlt => ?_, fun b F hf => ?_, fun b n' hl => ?_, fun b F hf hk => ?_, fun b F hf hk => ?_, h.lt, fun b b' F F' e1 e2 e3 e4 e5 => ?_⟩
  · by_cases hb : b = c.nm + 1
    · subst hb
      have : n = n' := by simpa [setN] using hl
      subst this
      show 0 < c.nm + 1 ∧ c.nm + 1 + n ≤ c.nm + (1 + n); omega
    · have hl' : c.lay b = some n' := by simpa [setN, hb] using hl
      have := h.lay0 b n' hl'
      show 0 < b ∧ b + n' ≤ c.nm + (1 + n); omega
  · by_cases hb : b = c.nm + 1
    · by_cases hb' : b' = c.nm + 1
      · omega
      · have hl' : c.lay b' = some n2 := by simpa [setN, hb'] using h2
        have := h.lay0 b' n2 hl'
        omega
    · have hl : c.lay b = some n1 := by simpa [setN, hb] using h1
      by_cases hb' : b' = c.nm + 1
      · have := h.lay0 b n1 hl
        omega
      · have hl' : c.lay b' = some n2 := by simpa [setN, hb'] using h2
        exact h.apart b n1 b' n2 hl hl' hlt
  · obtain ⟨n', hl⟩ := h.dom b F hf
    have := h.lay0 b n' hl
    exact ⟨n', by show setN c.lay (c.nm + 1) n b = _; rw [setN_ne _ _ (by omega)]; exact hl⟩
  · by_cases hb : b = c.nm + 1
    · subst hb
      have : n = n' := by simpa [setN] using hl
      subst this
      right
      show cellAt (addRow c.M c.nm (addRow hdw 1 r)) (c.nm + 1 - 1) / 1024 = n
      rw [show c.nm + 1 - 1 = c.nm by omega, cell_add h.mlt, if_neg (by omega), Nat.sub_self, cell_add hh1, if_pos (by omega), cell_self hh]
      exact hn
    · have hl' : c.lay b = some n' := by simpa [setN, hb] using hl
      show hd (addRow c.M c.nm (addRow hdw 1 r)) b = 0 ∨ hd (addRow c.M c.nm (addRow hdw 1 r)) b / 1024 = n'
      rw [hdM b n' hl']
      exact h.hdr b n' hl'
  · obtain ⟨n', hl⟩ := h.dom b F hf
    have e0 : hd (addRow c.M c.nm (addRow hdw 1 r)) b = hd c.M b := hdM b n' hl
    have hk' : hd c.M b % 4 = 1 := by rw [← e0]; exact hk
    obtain ⟨cs, elem, fr, h1, h2, h3, h4, h5, h6⟩ := h.cells b F hf hk'
    have hn' := (h.hdr b n' hl).resolve_left (by omega)
    have h0 := h.lay0 b n' hl
    refine ⟨cs, elem, fr, h1, h2, h3, by show _ + hd (addRow c.M c.nm (addRow hdw 1 r)) b / 1024 ≤ _; rw [e0]; exact h4, by show (hd (addRow c.M c.nm (addRow hdw 1 r)) b / 4) % 256 = _; rw [e0]; exact h5, fun i hi hx => ?_⟩
    have hi' : i < hd c.M b / 1024 := by rw [← e0]; exact hi
    show WR c.f c.I c.ni (cellAt (addRow c.M c.nm (addRow hdw 1 r)) (b + i)) _ ∧ _
    rw [cellM _ (by omega)]
    exact h6 i hi' hx
  · obtain ⟨n', hl⟩ := h.dom b F hf
    have e0 : hd (addRow c.M c.nm (addRow hdw 1 r)) b = hd c.M b := hdM b n' hl
    have hk' : hd c.M b % 4 = 3 := by rw [← e0]; exact hk
    obtain ⟨hz0, es, clock, b', k, h1, h2, h3, h4, h5, h6⟩ := h.maps b F hf hk'
    have hn' := (h.hdr b n' hl).resolve_left (by omega)
    have h0 := h.lay0 b n' hl
    refine ⟨e0.trans hz0, es, clock, b', k, h1, h2, ?_, h4, h5, h6⟩
    show cellAt (addRow c.M c.nm (addRow hdw 1 r)) b = _
    rw [cellM _ (by omega)]; exact h3
  · obtain ⟨n1, hl1⟩ := h.dom b F e1
    obtain ⟨n2, hl2⟩ := h.dom b' F' e2
    refine h.inj b b' F F' e1 e2 ?_ ?_ e5
    · rw [← hdM b n1 hl1]; exact e3
    · rw [← hdM b' n2 hl2]; exact e4
theorem HR.mapLate {c : Cf} (h : HR c) {b n hdw r : Nat} {W' : World} (hl : c.lay b = some n) (hf : c.f b = none) (hhd : hd c.M b = hdw) (hcell : ∀ k, k < n → cellAt c.M (b + k) = cellAt r k) (hb : BlkOk c.f c.I c.ni c.w W' hdw n r) :
    HR { c with f := setN c.f b ⟨c.w.heap.size, 0, n, 0⟩, w := W' } := by
  obtain ⟨hor, hsz, hkeep, -⟩ := hb
  have hfx : FExt c.f (setN c.f b ⟨c.w.heap.size, 0, n, 0⟩) := by
    intro b' F' e
    rw [setN_ne]
    · exact e
    · intro e2; subst e2; rw [hf] at e; cases e
  have hnew : c.w.heap.size < W'.heap.size := by
    rcases hor with ⟨vs, elem, -, h2, -⟩ | ⟨clock, -, -, -, h2⟩ <;> exact (Array.getElem?_eq_some_iff.1 h2).1
  refine ⟨h.mlt, h.ilt, h.lay0, h.apart, fun b' F' e => ?_, h.hdr, fun b' F' e hk => ?_, fun b' F' e hk => ?_, fun b' F' e => ?_, fun b1 b2 F1 F2 e1 e2 e3 e4 e5 => ?_⟩
  · by_cases hbb : b' = b
    · subst hbb; exact ⟨n, hl⟩
    · exact h.dom b' F' (by simpa [setN, hbb] using e)
  · by_cases hbb : b' = b
    · subst hbb
      have : F' = ⟨c.w.heap.size, 0, n, 0⟩ := by simpa [setN] using e.symm
      subst this
      have hk : hd c.M b' % 4 = 1 := hk
      rcases hor with ⟨vs, elem, h1, h2, h3, h4⟩ | ⟨clock, h1, -, -, -⟩
      · refine ⟨vs, elem, (0, 0), h2, fun i _ => by simp, h3, ?_, ?_, fun i hi hx => ?_⟩
        · show 0 + hd c.M b' / 1024 ≤ vs.size; rw [hhd, h1]; omega
        · show (hd c.M b' / 4) % 256 = 0; rw [hhd, h1]; omega
        · have hi' : i < n := by have hi : i < hd c.M b' / 1024 := hi; rw [hhd, h1] at hi; omega
          have e0 : vs[0 + i]'hx = vs[i] := by simp only [Nat.zero_add]
          show WR (setN c.f b' _) c.I c.ni (cellAt c.M (b' + i)) (vs[0 + i]'hx) ∧ (vs[0 + i]'hx).oneCell' = true
          rw [e0, hcell i hi']
          exact ⟨(h4.wr i (by omega)).mono hfx (.refl _ _), h4.one i (by omega)⟩
      · rw [hhd, h1] at hk; omega
    · have e' : c.f b' = some F' := by simpa [setN, hbb] using e
      obtain ⟨cs, elem, fr, h1, h2, h3, h4, h5, h6⟩ := h.cells b' F' e' hk
      exact ⟨cs, elem, fr, (hkeep _ (h.lt b' F' e')).trans h1, h2, h3, h4, h5, fun i hi hx => ⟨(h6 i hi hx).1.mono hfx (.refl _ _), (h6 i hi hx).2⟩⟩
  · by_cases hbb : b' = b
    · subst hbb
      have : F' = ⟨c.w.heap.size, 0, n, 0⟩ := by simpa [setN] using e.symm
      subst this
      have hk : hd c.M b' % 4 = 3 := hk
      rcases hor with ⟨vs, elem, h1, -⟩ | ⟨clock, h1, h2, h3, h4⟩
      · rw [hhd, h1] at hk; omega
      · subst h2 h3
        refine ⟨by show hd c.M b' = 1027; rw [hhd, h1], #[], clock, 0, 0, h4, rfl, ?_, by omega, by omega, fun i hi => absurd hi (by simp)⟩
        have := hcell 0 (by omega)
        rw [Nat.add_zero] at this
        show cellAt c.M b' = _
        rw [this, cell_self (by omega)]
    · have e' : c.f b' = some F' := by simpa [setN, hbb] using e
      obtain ⟨hz0, es, clock, b2, k, h1, h2, h3, h4, h5, h6⟩ := h.maps b' F' e' hk
      exact ⟨hz0, es, clock, b2, k, (hkeep _ (h.lt b' F' e')).trans h1, h2, h3, h4, h5, fun i hi => ⟨(h6 i hi).1.mono hfx (.refl _ _), (h6 i hi).2.mono hfx (.refl _ _)⟩⟩
  · by_cases hbb : b' = b
    · subst hbb
      have : F' = ⟨c.w.heap.size, 0, n, 0⟩ := by simpa [setN] using e.symm
      subst this
      exact hnew
    · have e' : c.f b' = some F' := by simpa [setN, hbb] using e
      have := h.lt b' F' e'
      show F'.blk < W'.heap.size; omega
  · by_cases hb1 : b1 = b
    · by_cases hb2 : b2 = b
      · rw [hb1, hb2]
      · have e2' : c.f b2 = some F2 := by simpa [setN, hb2] using e2
        have : F1 = ⟨c.w.heap.size, 0, n, 0⟩ := by subst hb1; simpa [setN] using e1.symm
        subst this
        have := h.lt b2 F2 e2'
        have e5 : c.w.heap.size = F2.blk := e5
        omega
    · have e1' : c.f b1 = some F1 := by simpa [setN, hb1] using e1
      by_cases hb2 : b2 = b
      · have : F2 = ⟨c.w.heap.size, 0, n, 0⟩ := by subst hb2; simpa [setN] using e2.symm
        subst this
        have := h.lt b1 F1 e1'
        have e5 : F1.blk = c.w.heap.size := e5
        omega
      · have e2' : c.f b2 = some F2 := by simpa [setN, hb2] using e2
        exact h.inj b1 b2 F1 F2 e1' e2' e3 e4 e5
end
end Go.Proofs.YtpjhkpmmbeoghaaGreatDoor.Ev
namespace Go.Proofs.YtpjhkpmmbeoghaaGreatDoor.Ev
open Go
section
variable {P : Program} {call : CallT}
theorem read_late {o : Oper} {c cj : Cf} {a aj : Act} {E : Fr} {kf : KF} (hc : clsI (lowOp P o) = 1) (h : stepK P call (lowOp P o) E cj.M cj.nm cj.I cj.ni kf = .ok) (hx : ∀ x ∈ o.op.operands, OpR c.f cj.I cj.ni E a x) (hxj : ∀ x ∈ o.op.operands, OpR cj.f cj.I cj.ni E aj x)
    (hr : HR c) (hj : HR cj) (hext : IExt cj.I cj.ni c.I c.ni) (hI : IB cj.I cj.ni) (hp : PlaceOk (lowOp P o) E cj.M c.M) : LateOk P c cj.I cj.ni (fun w I ni => kf w cj.M cj.nm I ni) (execOp a.eval o) := by
  obtain ⟨dst, op, ty, pos, after, guard⟩ := o
  generalize hlw : lowOp P _ = i at h hc hp
  unfold lowOp at hlw
  cases op
  case load t x =>
    simp only at hlw
    split at hlw
    · rename_i d hd
      split at hlw
      · rename_i hagg
        split at hlw
        · rename_i n hs
          obtain ⟨ie, hie, rfl⟩ := szOf_ok hs
          subst hlw
          exact loadN_late (P := P) hr hd hagg hie h (opr1 hx) hI hp
        · (subst hlw; simp [clsI] at hc)
      · rename_i hagg
        subst hlw
        exact load1_late (P := P) hr hd (by simpa using hagg) h (opr1 hx) hI hp
    · (subst hlw; simp [clsI] at hc)
  case convert s d x =>
    simp only at hlw
    split at hlw
    · (subst hlw; simp [clsI] at hc)
    · rename_i e hs hd
      split at hlw
      · rename_i he
        subst hlw
        exact strOf_late (P := P) hr hs he hd h (opr1 hx) hI hp
      · (subst hlw; simp [clsI] at hc)
    · split at hlw <;> (subst hlw; simp [clsI] at hc)
    · (subst hlw; simp [clsI] at hc)
  case lookup t x i com =>
    simp only at hlw
    split at hlw
    · rename_i k e ht
      split at hlw
      · rename_i q agg n r hq hz
        subst hlw
        exact look_late (P := P) hr hj hext ht (keyKind_ok hq) hz h (opr2 hx).1 (opr2 hx).2 (opr2 hxj).1 hI hp
      · (subst hlw; simp [clsI] at hc)
    · (subst hlw; simp [clsI] at hc)
  case binOp op t x y yt =>
    have hb := lowBin_cls (P := P) (op := op) (t := t) (yt := yt) (x := x) (y := y)
    simp only at hlw
    rw [hlw] at hb
    rcases hb with hb | ⟨n, hb⟩
    · omega
    · subst hb; simp [clsI] at hc
  case call cl =>
    have hb := lowCall_cls (P := P) (o := ⟨dst, .call cl, ty, pos, after, guard⟩) (cl := cl)
    simp only at hlw
    rw [hlw] at hb
    rcases hb with hb | ⟨hb, -⟩ <;> omega
  case makeFunc fn first captured =>
    cases fn <;> simp only at hlw <;> repeat' first | (subst hlw; simp [clsI] at hc; done) | split at hlw
  all_goals
    simp only at hlw
    repeat' first | (subst hlw; simp [clsI] at hc; done) | split at hlw
theorem place_self {i : In} {E : Fr} {M nm I ni : Nat} {kf : KF} (h : stepK P call i E M nm I ni kf = .ok) : PlaceOk i E M M := by
  cases i
  case load1 x =>
    cases x
    case s o =>
      obtain ⟨t1, h⟩ := iff_bad (show ptrIn (slot E o) (inK M (pB (slot E o)) (pOff (slot E o)) 1 _) = .ok from h)
      obtain ⟨t2, h⟩ := iff_bad h
      obtain ⟨h1, h2, -⟩ := inK_ok h
      exact ⟨t1, blt_iff.1 t2, h1, h2, rfl⟩
    all_goals trivial
  case loadN n x =>
    cases x
    case s o =>
      obtain ⟨t1, h⟩ := iff_bad (show ptrIn (slot E o) (inK M (pB (slot E o)) (pOff (slot E o)) n _) = .ok from h)
      obtain ⟨t2, h⟩ := iff_bad h
      obtain ⟨h1, h2, -⟩ := inK_ok h
      exact ⟨t1, blt_iff.1 t2, h1, h2, rfl⟩
    all_goals trivial
  case strOf x =>
    cases x
    case s o =>
      obtain ⟨t1, h⟩ := iff_bad (show iff (tg (slot E o) 11) (iff (Nat.beq (sLen (slot E o)) 0) _ (inK M (sB (slot E o)) (sOff (slot E o)) (sLen (slot E o)) _)) (.bad 86 1) = .ok from h)
      rcases iff_ok h with ⟨h1, -⟩ | ⟨-, h⟩
      · exact .inl (Nat.eq_of_beq_eq_true h1)
      · obtain ⟨h1, h2, -⟩ := inK_ok h
        exact .inr ⟨t1, h1, h2, rfl⟩
    all_goals trivial
  case look q com agg n r x key =>
    cases x
    case s o =>
      by_cases hw : slot E o = 13
      · exact .inl hw
      · right
        have hb : Good (fun _ : Unit → Res => tg (slot E o) 13 = true ∧ hd M (slot E o / 32) = 1027) (fun _ : Unit => stepK P call (.look q com agg n r (.s o) key) E M nm I ni kf) := by
          show Good _ (fun _ : Unit => op2 (.s o) key E I ni fun w wk I ni => iff (tg w 13) (keyTag q I wk
            (iff (Nat.beq w 13) (zerK agg n r I ni fun z I ni => okK com z 1 I ni fun w I ni => kf w M nm I ni)
              (mapIn M w fun b k => findK q I wk k b (fun b => okK com (cellAt I (Nat.add b 1)) 33 I ni fun w I ni => kf w M nm I ni) (zerK agg n r I ni fun z I ni => okK com z 1 I ni fun w I ni => kf w M nm I ni)))) (.bad 82 0))
          refine good_opd (x := key) fun w' I ni => ?_
          show Good _ (fun _ : Unit => iff (tg (slot E o) 13) (keyTag q I w' _) (.bad 82 0))
          cases htg : tg (slot E o) 13 with
          | false =>
            refine .inr fun _ h => ?_
            cases h
          | true =>
          refine good_keyTag ?_
          have hne : Nat.beq (slot E o) 13 = false := by rw [nbeq]; simpa using hw
          show Good _ (fun _ : Unit => iff (Nat.beq (slot E o) 13) _ _)
          rw [hne]
          cases hm : Nat.beq (hdW M (Nat.div (slot E o) 32)) 1027 with
          | true => exact .inl ⟨rfl, Nat.eq_of_beq_eq_true hm⟩
          | false =>
            refine .inr fun _ h => ?_
            rcases iff_ok h with ⟨hh, -⟩ | ⟨-, h⟩
            · cases hh
            · unfold mapIn at h; rw [hm] at h; cases h
        rcases hb with hb | hb
        · exact ⟨hb.1, hb.2, hb.2, rfl⟩
        · exact absurd h (hb ())
    all_goals trivial
  all_goals trivial
end
end Go.Proofs.YtpjhkpmmbeoghaaGreatDoor.Ev
namespace Go.Proofs.YtpjhkpmmbeoghaaGreatDoor.Ev
open Go
section
def stepB (acc : Array Nat) (o : Oper) : Array Nat := acc.push (o.after.foldl (fun s e => if Region.binds .any e then s ||| 2 ^ e.on ||| acc.getD e.on 0 else s) 0)
theorem before_eq (ops : Array Oper) : Region.before ops = ops.toList.foldl stepB #[] := by
  unfold Region.before
  rw [← Array.foldl_toList]
  rfl
theorem stepB_keep : ∀ (l : List Oper) (acc : Array Nat) (j : Nat), j < acc.size → (l.foldl stepB acc).getD j 0 = acc.getD j 0
  | [], _, _, _ => rfl
  | o :: l, acc, j, h => by
    rw [List.foldl_cons, stepB_keep l _ j (by simp [stepB]; omega)]
    have h1 : j < (stepB acc o).size := by simp [stepB]; omega
    simp only [Array.getD, h, h1, dif_pos]
    simp only [stepB]
    exact Array.getElem_push_lt h
theorem fold_bit (acc : Array Nat) (i : Nat) : ∀ (es : List Edge) (s : Nat), (es.foldl (fun s e => if Region.binds .any e then s ||| 2 ^ e.on ||| acc.getD e.on 0 else s) s).testBit i = true → s.testBit i = true ∨ ∃ e ∈ es, Region.binds .any e = true ∧ (e.on = i ∨ (acc.getD e.on 0).testBit i = true)
  | [], s, h => .inl h
  | e :: es, s, h => by
    rw [List.foldl_cons] at h
    rcases fold_bit acc i es _ h with h1 | ⟨e', he, h1⟩
    · by_cases hb : Region.binds .any e = true
      · rw [if_pos hb] at h1
        simp only [Nat.testBit_or, Bool.or_eq_true, Nat.testBit_two_pow, decide_eq_true_eq] at h1
        rcases h1 with (h1 | h1) | h1
        · exact .inl h1
        · exact .inr ⟨e, by simp, hb, .inl h1⟩
        · exact .inr ⟨e, by simp, hb, .inr h1⟩
      · rw [if_neg hb] at h1
        exact .inl h1
    · exact .inr ⟨e', by simp [he], h1⟩
theorem before_go : ∀ (l : List Oper) (acc : Array Nat) (j i : Nat), acc.size ≤ j → ((l.foldl stepB acc).getD j 0).testBit i = true → ∃ o, l[j - acc.size]? = some o ∧ ∃ e ∈ o.after.toList, Region.binds .any e = true ∧ (e.on = i ∨ ((l.foldl stepB acc).getD e.on 0).testBit i = true)
  | [], acc, j, i, hj, h => by
    have : ¬ j < acc.size := by omega
    simp [Array.getD, this] at h
  | o :: l, acc, j, i, hj, h => by
    by_cases hj0 : j = acc.size
    · subst hj0
      refine ⟨o, by simp, ?_⟩
      rw [List.foldl_cons, stepB_keep l _ _ (by simp [stepB])] at h
      have h1 : ((o.after.foldl (fun s e => if Region.binds .any e then s ||| 2 ^ e.on ||| acc.getD e.on 0 else s) 0)).testBit i = true := by
        have h2 : acc.size < (stepB acc o).size := by simp [stepB]
        simpa [Array.getD, stepB] using h
      rw [← Array.foldl_toList] at h1
      rcases fold_bit acc i _ _ h1 with h2 | ⟨e, he, hb, h2⟩
      · simp at h2
      · refine ⟨e, he, hb, h2.imp id fun h3 => ?_⟩
        have hlt : e.on < acc.size := by
          refine Classical.byContradiction fun hn => ?_
          simp [Array.getD, hn] at h3
        rw [List.foldl_cons, stepB_keep l _ _ (by simp [stepB]; omega)]
        have : (stepB acc o).getD e.on 0 = acc.getD e.on 0 := stepB_keep [o] acc e.on hlt
        rw [this]; exact h3
    · have hs : (stepB acc o).size = acc.size + 1 := by simp [stepB]
      obtain ⟨o', h1, h2⟩ := before_go l (stepB acc o) j i (by omega) h
      refine ⟨o', ?_, h2⟩
      rw [hs] at h1
      rw [show j - acc.size = (j - (acc.size + 1)) + 1 by omega]
      simpa using h1
theorem before_bit {ops : Array Oper} {j i : Nat} (h : ((Region.before ops).getD j 0).testBit i = true) : ∃ o, ops[j]? = some o ∧ ∃ e ∈ o.after.toList, Region.binds .any e = true ∧ (e.on = i ∨ ((Region.before ops).getD e.on 0).testBit i = true) := by
  rw [before_eq] at h ⊢
  obtain ⟨o, h1, h2⟩ := before_go ops.toList #[] j i (by simp) h
  refine ⟨o, ?_, h2⟩
  simpa using h1
def bef (ops : Array Oper) (j i : Nat) : Prop := ((Region.before ops).getD j 0).testBit i = true
def Down (ops : Array Oper) (listed : Array Bool) : Prop := ∀ j i, listed.getD j false = true → bef ops j i → listed.getD i false = true
theorem ready_spec {ops : Array Oper} {listed : Array Bool} (hd : Down ops listed) {j : Nat} (h : j ∈ Region.ready .any ops listed) : j < ops.size ∧ listed.getD j true = false ∧ ∀ i, bef ops j i → listed.getD i false = true := by
  unfold Region.ready at h
  simp only [List.mem_filter, List.mem_range, Bool.and_eq_true, Bool.not_eq_true'] at h
  obtain ⟨h1, h2, h3⟩ := h
  refine ⟨h1, h2, fun i hb => ?_⟩
  obtain ⟨o, ho, e, he, hbd, h4⟩ := before_bit hb
  rw [ho] at h3
  simp only [Option.map_some, Option.getD_some] at h3
  have h5 := Array.all_eq_true'.1 h3 e (Array.mem_toList_iff.1 he)
  simp only [hbd, Bool.not_true, Bool.false_or] at h5
  rcases h4 with h4 | h4
  · subst h4; exact h5
  · exact hd _ _ h5 h4
theorem getD_set {l : Array Bool} {i j : Nat} {d : Bool} (hi : i < l.size) : (l.setIfInBounds i true).getD j d = if j = i then true else l.getD j d := by
  by_cases h : j = i
  · subst h
    simp [Array.getD, hi]
  · rw [if_neg h]
    simp only [Array.getD_eq_getD_getElem?, Array.getElem?_setIfInBounds_ne (Ne.symm h)]
theorem Down.set {ops : Array Oper} {listed : Array Bool} (hd : Down ops listed) {j : Nat} (hj : j < listed.size) (h : ∀ i, bef ops j i → listed.getD i false = true) : Down ops (listed.setIfInBounds j true) := by
  intro k i hk hb
  rw [getD_set hj] at hk ⊢
  by_cases hkj : k = j
  · subst hkj
    split
    · rfl
    · exact h i hb
  · rw [if_neg hkj] at hk
    split
    · rfl
    · exact hd k i hk hb
structure Drawn (P : Program) (ops : Array Oper) (l : List Nat) : Prop where
  small : ∀ j i, bef ops j i → j < ops.size → i < ops.size ∧ i ≠ j
  reads : ∀ (i j : Nat) (oi oj : Oper) (t : Tmp), ops[i]? = some oi → ops[j]? = some oj → rOf P ops j = true → t ∈ oj.looksAt ops → oi.dst = some t → bef ops j i
  perm : ∀ i, i < ops.size → i ∈ l
  nodup : l.Nodup
  lt : ∀ i ∈ l, i < ops.size
  dst : ∀ (i j : Nat) (oi oj : Oper) (d : Tmp), ops[i]? = some oi → ops[j]? = some oj → oi.dst = some d → oj.dst = some d → i = j
  looks : ∀ (i j : Nat) (oi oj : Oper) (t : Tmp), ops[i]? = some oi → ops[j]? = some oj → t ∈ oj.looksAt ops → oi.dst = some t → i ≠ j → bef ops j i ∨ bef ops i j
  order : l.Pairwise fun i j => (wOf P ops i = true → bef ops j i) ∧ ¬ bef ops i j
theorem pairwise_of {l : List Nat} {R : Nat → Nat → Prop} (h : ∀ (q p i j : Nat), p < q → l[p]? = some i → l[q]? = some j → R i j) : l.Pairwise R := by
  rw [List.pairwise_iff_getElem]
  intro i j hi hj hij
  exact h j i _ _ hij (by simp [hi]) (by simp [hj])
theorem filterMap_dst {ops : Array Oper} (h : (ops.toList.filterMap (·.dst)).Nodup) : ∀ (i j : Nat) (oi oj : Oper) (d : Tmp), ops[i]? = some oi → ops[j]? = some oj → oi.dst = some d → oj.dst = some d → i = j := by
  have key : ∀ (l : List Oper), (l.filterMap (·.dst)).Nodup → ∀ (i j : Nat) (oi oj : Oper) d, l[i]? = some oi → l[j]? = some oj → oi.dst = some d → oj.dst = some d → i = j := by
    intro l
    induction l with
    | nil => intro _ i j oi oj d h1; simp at h1
    | cons o l ih =>
      intro hn i j oi oj d h1 h2 h3 h4
      have hn' : (l.filterMap (·.dst)).Nodup := by
        cases hd : o.dst with
        | none => simpa [List.filterMap_cons, hd] using hn
        | some x => rw [List.filterMap_cons, hd] at hn; exact (List.nodup_cons.1 hn).2
      have hmem : ∀ (k : Nat) (ok : Oper), l[k]? = some ok → ok.dst = some d → o.dst = some d → False := fun k ok hk hd ho => by
        rw [List.filterMap_cons, ho] at hn
        exact (List.nodup_cons.1 hn).1 (List.mem_filterMap.2 ⟨ok, List.mem_of_getElem? hk, hd⟩)
      cases i with
      | zero =>
        cases j with
        | zero => rfl
        | succ j =>
          have : o = oi := by simpa using h1
          subst this
          exact (hmem j oj (by simpa using h2) h4 h3).elim
      | succ i =>
        cases j with
        | zero =>
          have : o = oj := by simpa using h2
          subst this
          exact (hmem i oi (by simpa using h1) h3 h4).elim
        | succ j => rw [ih hn' i j oi oj d (by simpa using h1) (by simpa using h2) h3 h4]
  intro i j oi oj d h1 h2
  exact key ops.toList h i j oi oj d (by simpa using h1) (by simpa using h2)
theorem drawn_of {P : Program} {ops : Array Oper} (h : drawOk P ops = true) : Drawn P ops (eager P ops) := by
  unfold drawOk at h
  simp only [Bool.and_eq_true, decide_eq_true_eq, List.all_eq_true, List.mem_range] at h
  obtain ⟨⟨⟨⟨⟨⟨h1, h0⟩, h2⟩, h3⟩, h4⟩, h5⟩, h6⟩ := h
  refine ⟨fun j i hb hj => ?_, fun i j oi oj t hi hj hr ht hd => ?_, fun i hi => ?_, h2, h3, filterMap_dst h4, fun i j oi oj t hi hj ht hd hne => ?_, pairwise_of fun q p i j hpq hp hq => ?_⟩
  · have h7 := h1 j hj
    unfold bef at hb
    refine ⟨Classical.byContradiction fun hn => ?_, fun e => ?_⟩
    · have := Nat.testBit_lt_two_pow (Nat.lt_of_lt_of_le h7.1.2 (Nat.pow_le_pow_right (by decide) (show ops.size ≤ i by omega)))
      rw [this] at hb; cases hb
    · subst e
      have := h7.2
      rw [hb] at this; simp at this
  · have hj' : j < ops.size := (Array.getElem?_eq_some_iff.1 hj).1
    have hi' : i < ops.size := (Array.getElem?_eq_some_iff.1 hi).1
    have h7 := h0 j hj'
    rw [hr, hj] at h7
    simp only [Bool.not_true, Bool.false_or, List.all_eq_true, List.mem_range] at h7
    have h8 := h7 t ht i hi'
    rw [hi] at h8
    simp only [hd, bne_self_eq_false, Bool.false_or] at h8
    exact h8
  · simpa using (h1 i hi).1.1
  · have hj' : j < ops.size := (Array.getElem?_eq_some_iff.1 hj).1
    have hi' : i < ops.size := (Array.getElem?_eq_some_iff.1 hi).1
    have h7 := h5 j hj'
    rw [hj] at h7
    simp only [List.all_eq_true, List.mem_range] at h7
    have h8 := h7 t ht i hi'
    rw [hi] at h8
    simp only [hd, bne_self_eq_false, Bool.false_or, Bool.or_eq_true, beq_iff_eq] at h8
    rcases h8 with (h8 | h8) | h8
    · exact absurd h8 hne
    · exact .inl h8
    · exact .inr h8
  · have hlt : q < (eager P ops).length := (List.getElem?_eq_some_iff.1 hq).1
    have h7 := h6 q hlt p hpq
    rw [hp, hq] at h7
    simp only [Bool.and_eq_true, Bool.or_eq_true, Bool.not_eq_true'] at h7
    refine ⟨fun hw => ?_, fun hb => ?_⟩
    · rcases h7.1 with h8 | h8
      · rw [hw] at h8; cases h8
      · exact h8
    · have h8 := h7.2
      unfold bef at hb
      rw [hb] at h8; cases h8
end
end Go.Proofs.YtpjhkpmmbeoghaaGreatDoor.Ev
namespace Go.Proofs.YtpjhkpmmbeoghaaGreatDoor.Ev
open Go
section
variable {P : Program} {call : CallT}
noncomputable def putD (d : Option Tmp) (E : Fr) (w : Nat) : Fr := match d with | none => E | some d => putS E (96 * d) w
def wantW (ops : Array Oper) (o : Oper) (E : Fr) : Bool :=
  match o.guard with
  | none => true
  | some (g, want) => match (ops[g]?).bind (·.dst) with
    | some t => Nat.beq (fcell E t) (if want then 33 else 1)
    | none => false
theorem ri_cases {nt : Nat} {ops : Array Oper} {o : Oper} {E : Fr} {M nm I ni : Nat} {kn : KN} (h : riK P call (lowRI P nt ops o) E M nm I ni kn = .ok) :
    (∀ d, o.dst = some d → d < nt) ∧ (∀ g want, o.guard = some (g, want) → ∃ t, (ops[g]?).bind (·.dst) = some t) ∧
    ((wantW ops o E = true ∧ stepK P call (lowOp P o) E M nm I ni (fun w M nm I ni => kn (putD o.dst E w) M nm I ni) = .ok) ∨ (wantW ops o E = false ∧ kn (putD o.dst E 0) M nm I ni = .ok)) := by
  unfold lowRI at h
  cases hg : o.guard with
  | none =>
    simp only [hg] at h
    have hw : wantW ops o E = true := by simp [wantW, hg]
    cases hd : o.dst with
    | none =>
      simp only [hd] at h
      exact ⟨fun d e => by (cases e), fun g w e => by (cases e), .inl ⟨hw, h⟩⟩
    | some d =>
      simp only [hd] at h
      split at h
      case isFalse => cases h
      rename_i hlt
      exact ⟨fun d' e => by (cases e; exact hlt), fun g w e => by (cases e), .inl ⟨hw, h⟩⟩
  | some gw =>
    obtain ⟨g, want⟩ := gw
    simp only [hg] at h
    have h2 : ¬ (if want = true then 33 else 1) = 2 := by cases want <;> decide
    cases ht : (ops[g]?).bind (·.dst) with
    | none =>
      simp only [ht] at h
      cases hd : o.dst <;> simp only [hd] at h <;> cases h
    | some t =>
      simp only [ht] at h
      have hw : wantW ops o E = Nat.beq (slot E (96 * t)) (if want then 33 else 1) := by simp [wantW, hg, ht, slot_eq]
      have hgt : ∀ g' w', some (g, want) = some (g', w') → ∃ t, (ops[g']?).bind (·.dst) = some t := fun g' w' e => by
        cases e; exact ⟨t, ht⟩
      cases hd : o.dst with
      | none =>
        simp only [hd, if_neg h2] at h
        refine ⟨fun d e => by (cases e), hgt, ?_⟩
        rw [hw]
        exact iff_ok h
      | some d =>
        simp only [hd, if_neg h2] at h
        split at h
        case isFalse => cases h
        rename_i hlt
        refine ⟨fun d' e => by (cases e; exact hlt), hgt, ?_⟩
        rw [hw]
        exact iff_ok h
theorem cell_putS {E : Fr} {w : Nat} (d t : Nat) (_hw : w < 79228162514264337593543950336) : fcell (putS E (96 * d) w) t = if d = t then w else fcell E t := by
  rw [fcell_put]
  by_cases h : d = t
  · rw [if_pos h, if_pos h.symm]
  · rw [if_neg h, if_neg (Ne.symm h)]
theorem cell_putD {d : Option Tmp} {E : Fr} {w : Nat} {t : Tmp} (hw : w < 79228162514264337593543950336) : fcell (putD d E w) t = if d = some t then w else fcell E t := by
  cases d with
  | none => simp [putD]
  | some d =>
    refine (cell_putS d t hw).trans ?_
    by_cases h : d = t
    · rw [if_pos h, if_pos (by rw [h])]
    · rw [if_neg h, if_neg (fun e => h (Option.some.inj e))]
theorem put_at {a : Act} {d : Option Tmp} {v : Value} {nt : Nat} (hs : a.tmps.size = nt) (hd : ∀ x, d = some x → x < nt) (t : Tmp) : (a.put d v).tmps.getD t undef = if d = some t then v else a.tmps.getD t undef := by
  cases d with
  | none => simp [Act.put]
  | some d =>
    have hlt := hd d rfl
    by_cases h : d = t
    · subst h
      rw [if_pos rfl]
      simp [Act.put, hs, hlt]
    · rw [if_neg (fun e => h (Option.some.inj e))]
      simp [Act.put, Array.getElem?_setIfInBounds_ne h]
theorem put_size {a : Act} {d : Option Tmp} {v : Value} : (a.put d v).tmps.size = a.tmps.size := by
  cases d <;> simp [Act.put]
theorem put_defers' {a : Act} {d : Option Tmp} {v : Value} : (a.put d v).defers = a.defers := by
  cases d <;> rfl
theorem want_eq {f : Nat → Option FB} {I ni : Nat} {E : Fr} {a : Act} {ops : Array Oper} {o : Oper} (hg : ∀ g want, o.guard = some (g, want) → ∃ t, (ops[g]?).bind (·.dst) = some t) (hr : ∀ t ∈ o.looksAt ops, WR f I ni (fcell E t) (a.tmps.getD t undef)) :
    Region.wanted o (yielded ops a.tmps) = wantW ops o E := by
  cases h : o.guard with
  | none => simp [Region.wanted, wantW, h]
  | some gw =>
    obtain ⟨g, want⟩ := gw
    obtain ⟨t, ht⟩ := hg g want h
    have hmem : t ∈ o.looksAt ops := by simp [Oper.looksAt, h, ht]
    have hwr := hr t hmem
    simp only [Region.wanted, wantW, h, ht]
    rw [nbeq, Bool.eq_iff_iff, decide_eq_true_eq, hwr.isBool want]
    simp only [yielded, ht, Option.bind_some, beq_iff_eq]
    cases hg' : a.tmps[t]? with
    | none =>
      have : a.tmps.getD t undef = undef := by simp [hg']
      rw [this]
      simp [undef]
    | some v =>
      have : a.tmps.getD t undef = v := by simp [hg']
      rw [this]
      cases v <;> simp
theorem opr_of {f : Nat → Option FB} {I ni : Nat} {E : Fr} {a : Act} {ops : Array Oper} {o : Oper} (hr : ∀ t ∈ o.looksAt ops, WR f I ni (fcell E t) (a.tmps.getD t undef)) : ∀ x ∈ o.op.operands, OpR f I ni E a x := by
  intro x hx
  cases x with
  | tmp t => exact hr t (List.mem_append_left _ (List.mem_filterMap.2 ⟨.tmp t, by simpa using hx, rfl⟩))
  | _ => trivial
def chk (w M nm I ni : Nat) : KF := fun w' M' nm' I' ni' => if w' = w ∧ M' = M ∧ nm' = nm ∧ I' = I ∧ ni' = ni then .ok else .bad 99 0
theorem chk_ok {w M nm I ni w' M' nm' I' ni' : Nat} (h : chk w M nm I ni w' M' nm' I' ni' = .ok) : w' = w ∧ M' = M ∧ nm' = nm ∧ I' = I ∧ ni' = ni := by
  unfold chk at h
  split at h
  · assumption
  · cases h
theorem chk_self (w M nm I ni : Nat) : chk w M nm I ni w M nm I ni = .ok := by simp [chk]
theorem Ext.layNew {c : Cf} (h : HR c) {hdw n r : Nat} : Ext c { c with lay := setN c.lay (c.nm + 1) n, M := addRow c.M c.nm (addRow hdw 1 r), nm := c.nm + (1 + n) } := by
  refine ⟨fun b n' hl => ?_, fun b n' hl => ?_, .refl _, fun _ _ h => .inl h, .refl _ _, by show c.nm ≤ c.nm + (1 + n); omega, fun b n' hl hf i h1 h2 => ?_, ⟨rfl, rfl, rfl⟩, Nat.le_refl _, fun _ _ _ => rfl, fun b F e1 e2 e3 => ⟨b, F, e1, ?_, rfl⟩⟩
  · have := h.lay0 b n' hl
    show setN c.lay (c.nm + 1) n b = _
    rw [setN_ne _ _ (by omega)]; exact hl
  · by_cases hb : b = c.nm + 1
    · exact .inr (by omega)
    · exact .inl (by simpa [setN, hb] using hl)
  · have := h.lay0 b n' hl
    show cellAt (addRow c.M c.nm _) i = _
    rw [cell_add h.mlt, if_pos (by omega)]
  · obtain ⟨n', hl⟩ := h.dom b F e1
    have := h.lay0 b n' hl
    have e2 : cellAt (addRow c.M c.nm (addRow hdw 1 r)) (b - 1) ≠ 0 := e2
    by_cases hb : b - 1 < c.nm
    · rw [cell_add h.mlt, if_pos hb] at e2; exact e2
    · omega
theorem Ext.mapLate {c0 c : Cf} (h : Ext c0 c) {b n hdw r : Nat} {W' : World} (hf : c.f b = none) (hb : c0.nm < b) (hk : BlkOk c.f c.I c.ni c.w W' hdw n r) : Ext c0 { c with f := setN c.f b ⟨c.w.heap.size, 0, n, 0⟩, w := W' } := by
  obtain ⟨-, hsz, hkeep, htape⟩ := hk
  refine ⟨h.lay, h.layN, fun x F e => ?_, fun x F e => ?_, h.I, h.nm, h.keep, ⟨htape.1.trans h.tape.1, htape.2.1.trans h.tape.2.1, htape.2.2.trans h.tape.2.2⟩, Nat.le_trans h.size hsz, fun k hk hno => ?_, fun x F e1 e2 e3 => ?_⟩
  · have := h.f x F e
    show setN c.f b _ x = _
    rw [setN_ne]
    · exact this
    · intro e2; subst e2; rw [hf] at this; cases this
  · by_cases hx : x = b
    · subst hx; exact .inr hb
    · exact h.fN x F (by simpa [setN, hx] using e)
  · exact (hkeep k (Nat.lt_of_lt_of_le hk h.size)).trans (h.frame k hk hno)
  · by_cases hx : x = b
    · subst hx
      have : F = ⟨c.w.heap.size, 0, n, 0⟩ := by simpa [setN] using e1.symm
      subst this
      have := h.size
      have e3 : c.w.heap.size < c0.w.heap.size := e3
      omega
    · exact h.img x F (by simpa [setN, hx] using e1) e2 e3
theorem MarksOk.mapLate {c : Cf} {n0 : Nat} {ds : List Deferred} (hm : MarksOk c n0 ds) {b n hdw r : Nat} {W' : World} (hk : BlkOk c.f c.I c.ni c.w W' hdw n r) : MarksOk { c with f := setN c.f b ⟨c.w.heap.size, 0, n, 0⟩, w := W' } n0 ds := by
  refine ⟨hm.1, fun d hd' => ?_⟩
  obtain ⟨D, h1, h0, h2, h3⟩ := hm.2 d hd'
  have hlt : D < c.w.heap.size := (Array.getElem?_eq_some_iff.1 h2).1
  refine ⟨D, h1, h0, (hk.2.2.1 D hlt).trans h2, fun x F e1 e2 e3 => ?_⟩
  by_cases hx : x = b
  · subst hx
    have : F = ⟨c.w.heap.size, 0, n, 0⟩ := by simpa [setN] using e1.symm
    subst this
    have e3 : c.w.heap.size = D := e3
    omega
  · exact h3 x F (by simpa [setN, hx] using e1) e2 e3
theorem wpIn_exists {F : Fence} {n : Nat} {o : Oper} {a : Act} {w : World} {K : Act → World → Prop} (hF : FOK F) (h : o.wpIn F n P a w K (fun _ _ _ => False)) : ∃ a' w', K a' w' := by
  have h2 := h.2
  revert h2
  generalize (o.semAt F.round a.eval).run P w = r
  intro h2
  cases r with
  | ok x w2 =>
    cases x <;> simp only [Oper.uponIn] at h2 <;> first
      | exact ⟨_, _, h2⟩
      | exact h2.elim
      | skip
    case enter f args =>
      obtain ⟨-, -, k5⟩ := h2
      obtain ⟨e, w3, fr, k6, -⟩ := k5 [] (hF.room _)
      cases e with
      | returned v => exact ⟨_, _, k6⟩
      | panicked c => exact k6.elim
      | outgrown => obtain ⟨a0, w0, k8⟩ := k6; exact k8.elim
    case round l f tmps assign body =>
      obtain ⟨-, -, k5⟩ := h2
      obtain ⟨e, w3, k6, -⟩ := k5 default [] (hF.room _)
      cases e with
      | returned v => exact ⟨_, _, k6⟩
      | panicked c => exact k6.elim
      | outgrown => obtain ⟨a0, w0, k8⟩ := k6; exact k8.elim
    case row row args =>
      obtain ⟨-, k5⟩ := h2
      obtain ⟨v, w3, k6, -⟩ := k5 default [] (hF.room _)
      exact ⟨_, _, k6⟩
  | halt x w2 => cases x <;> simp only [Oper.uponIn] at h2
end
end Go.Proofs.YtpjhkpmmbeoghaaGreatDoor.Ev
namespace Go.Proofs.YtpjhkpmmbeoghaaGreatDoor.Ev
open Go
def rdSlot : In → Option Nat
  | .load1 (.s o) | .loadN _ (.s o) | .strOf (.s o) | .look _ _ _ _ _ (.s o) _ => some o
  | _ => none
section
variable {P : Program} {call : CallT}
theorem lowOpd_slot {x : Operand} {s : Nat} (h : lowOpd x = .s s) : ∃ t : Tmp, x = .tmp t ∧ s = 96 * t := by
  cases x with
  | tmp t => cases h; exact ⟨t, rfl, rfl⟩
  | const v =>
    simp only [lowOpd] at h
    repeat' first | (cases h; done) | split at h
  | global g => cases h
  | func f =>
    simp only [lowOpd] at h
    split at h <;> cases h
theorem rdSlot_al {ops : Array Oper} {o : Oper} {s : Nat} (h : rdSlot (lowOp P o) = some s) : ∃ t ∈ o.looksAt ops, s = 96 * t := by
  have key : ∀ x ∈ o.op.operands.toList, lowOpd x = .s s → ∃ t ∈ o.looksAt ops, s = 96 * t := fun x hx hl => by
    obtain ⟨t, rfl, rfl⟩ := lowOpd_slot hl
    exact ⟨t, List.mem_append_left _ (List.mem_filterMap.2 ⟨.tmp t, hx, rfl⟩), rfl⟩
  have k1 : ∀ x, x ∈ o.op.operands.toList → rdSlot (.load1 (lowOpd x)) = some s → ∃ t ∈ o.looksAt ops, s = 96 * t := fun x hx hr => key x hx (by
    generalize lowOpd x = y at hr
    cases y <;> simp [rdSlot] at hr
    rw [hr])
  have r1 : ∀ n y, rdSlot (.loadN n y) = rdSlot (.load1 y) := fun n y => by cases y <;> rfl
  have r2 : ∀ y, rdSlot (.strOf y) = rdSlot (.load1 y) := fun y => by cases y <;> rfl
  have r3 : ∀ q b b' n r y k, rdSlot (.look q b b' n r y k) = rdSlot (.load1 y) := fun q b b' n r y k => by cases y <;> rfl
  generalize hlw : lowOp P o = i at h
  obtain ⟨dst, op, ty, pos, after, guard⟩ := o
  unfold lowOp at hlw
  cases op
  case load t x =>
    have hx : x ∈ (Op.load t x).operands.toList := by simp [Op.operands]
    simp only at hlw
    repeat' first | (subst hlw; exact k1 x hx h) | (subst hlw; rw [r1] at h; exact k1 x hx h) | (subst hlw; rw [r2] at h; exact k1 x hx h) | (subst hlw; rw [r3] at h; exact k1 x hx h) | (subst hlw; simp [rdSlot] at h; done) | split at hlw
  case convert a b x =>
    have hx : x ∈ (Op.convert a b x).operands.toList := by simp [Op.operands]
    simp only at hlw
    repeat' first | (subst hlw; exact k1 x hx h) | (subst hlw; rw [r1] at h; exact k1 x hx h) | (subst hlw; rw [r2] at h; exact k1 x hx h) | (subst hlw; rw [r3] at h; exact k1 x hx h) | (subst hlw; simp [rdSlot] at h; done) | split at hlw
  case lookup t x y com =>
    have hx : x ∈ (Op.lookup t x y com).operands.toList := by simp [Op.operands]
    simp only at hlw
    repeat' first | (subst hlw; exact k1 x hx h) | (subst hlw; rw [r1] at h; exact k1 x hx h) | (subst hlw; rw [r2] at h; exact k1 x hx h) | (subst hlw; rw [r3] at h; exact k1 x hx h) | (subst hlw; simp [rdSlot] at h; done) | split at hlw
  case binOp op t x y yt =>
    have hb := lowBin_cls (P := P) (op := op) (t := t) (yt := yt) (x := x) (y := y)
    simp only at hlw
    rw [hlw] at hb
    rcases hb with hb | ⟨n, hb⟩
    · cases i <;> simp [rdSlot, clsI] at h hb
    · subst hb; simp [rdSlot] at h
  case call cl =>
    have hb := lowCall_cls (P := P) (o := ⟨dst, .call cl, ty, pos, after, guard⟩) (cl := cl)
    simp only at hlw
    rw [hlw] at hb
    rcases hb with hb | ⟨hb, -⟩ <;> cases i <;> simp [rdSlot, clsI] at h hb
  case makeFunc fn first captured =>
    cases fn <;> simp only at hlw <;> repeat' first | (subst hlw; simp [rdSlot] at h; done) | split at hlw
  all_goals
    simp only at hlw
    repeat' first | (subst hlw; simp [rdSlot] at h; done) | split at hlw
theorem RdRow.keep {M M' M'' b off n nm nb : Nat} (h : RdRow M' M b off n) (hb : 0 < b) (hnb : b + nb ≤ nm) (hh : hd M' b / 1024 = nb) (hk : ∀ k, k < nm → cellAt M'' k = cellAt M' k) : RdRow M'' M b off n := by
  obtain ⟨h1, h2, h3⟩ := h
  have e : hd M'' b = hd M' b := hk (b - 1) (by omega)
  refine ⟨by rw [e]; exact h1, by rw [e]; exact h2, ?_⟩
  rw [← h3]
  refine row_ext (row_lt _ _ _) (row_lt _ _ _) fun i hi => ?_
  rw [cell_row hi, cell_row hi]
  exact hk _ (by omega)
theorem place_keep {i : In} {E : Fr} {M M'' : Nat} {cc : Cf} {fj : Nat → Option FB} {I ni : Nat} (hp : PlaceOk i E M cc.M) (hcc : HR cc) (hfx : FExt fj cc.f) (hw : ∀ s, rdSlot i = some s → ∃ v, WR fj I ni (slot E s) v) (hk : ∀ k, k < cc.nm → cellAt M'' k = cellAt cc.M k) : PlaceOk i E M M'' := by
  have laid : ∀ b F, fj b = some F → ∃ nb, 0 < b ∧ b + nb ≤ cc.nm ∧ (hd cc.M b = 0 ∨ hd cc.M b / 1024 = nb) := fun b F hf => by
    obtain ⟨nb, hl⟩ := hcc.dom b F (hfx b F hf)
    exact ⟨nb, (hcc.lay0 b nb hl).1, (hcc.lay0 b nb hl).2, hcc.hdr b nb hl⟩
  have ptr : ∀ s n, rdSlot i = some s → tg (slot E s) 10 = true ∧ 10 < slot E s ∧ RdRow cc.M M (pB (slot E s)) (pOff (slot E s)) n → tg (slot E s) 10 = true ∧ 10 < slot E s ∧ RdRow M'' M (pB (slot E s)) (pOff (slot E s)) n := fun s n hs ⟨t1, t2, h⟩ => by
    obtain ⟨v, hv⟩ := hw s hs
    rcases hv.inv_ptr (tg_ok t1) with ⟨hw', -⟩ | ⟨b, off, F, hb, hb2, hf, ho, hw', e1⟩
    · omega
    have p1 : pB (slot E s) = b := by show slot E s / 536870912 = _; omega
    obtain ⟨nb, q1, q2, q3⟩ := laid b F hf
    have h1 := h.1
    rw [p1] at h1
    exact ⟨t1, t2, h.keep (nb := nb) (nm := cc.nm) (by rw [p1]; exact q1) (by rw [p1]; exact q2) (by rw [p1]; exact q3.resolve_left (by omega)) hk⟩
  cases i
  case load1 x => cases x <;> first | trivial | exact ptr _ 1 rfl hp
  case loadN n x => cases x <;> first | trivial | exact ptr _ n rfl hp
  case strOf x =>
    cases x <;> first | trivial | skip
    rename_i s
    rcases hp with h0 | ⟨t1, h⟩
    · exact .inl h0
    obtain ⟨v, hv⟩ := hw s rfl
    have h1 := h.1
    rcases slice_view hv t1 with ⟨-, -, h0⟩ | ⟨ex, F, A, c, -, hb0, -, hf, -⟩
    · exact .inl h0
    · obtain ⟨nb, q1, q2, q3⟩ := laid _ F hf
      exact .inr ⟨t1, h.keep (nb := nb) (nm := cc.nm) q1 q2 (q3.resolve_left (by omega)) hk⟩
  case look q com agg n r x key =>
    cases x <;> first | trivial | skip
    rename_i s
    by_cases hw13 : slot E s = 13
    · exact .inl hw13
    obtain ⟨t1, h1, h2, h3⟩ := hp.resolve_left hw13
    obtain ⟨v, hv⟩ := hw s rfl
    rcases hv.inv_map (tg_ok t1) with ⟨e, -⟩ | ⟨b, F, hb, hb2, hf, e, e1⟩
    · exact absurd e hw13
    have p1 : slot E s / 32 = b := by omega
    obtain ⟨nb, q1, q2, q3⟩ := laid b F hf
    rw [p1] at h1 h2 h3
    have q4 := q3.resolve_left (by omega)
    right
    refine ⟨t1, by rw [p1]; exact h1, ?_, ?_⟩
    · rw [p1]; exact (hk (b - 1) (by omega)).trans h2
    · rw [p1, hk b (by omega)]; exact h3
  all_goals trivial
end
end Go.Proofs.YtpjhkpmmbeoghaaGreatDoor.Ev
namespace Go.Proofs.YtpjhkpmmbeoghaaGreatDoor.Ev
open Go
structure Item where
  i : Nat
  o : Oper
  E : Fr
  cj : Cf
  aj : Act
  w : Nat
  M1 : Nat
  nm1 : Nat
  I1 : Nat
  ni1 : Nat
structure ItemOk (P : Program) (call : CallT) (ops : Array Oper) (lo0 : Nat) (c : Cf) (fc : Nat → Option FB) (it : Item) : Prop where
  op : ops[it.i]? = some it.o
  gd : ∀ g want, it.o.guard = some (g, want) → ∃ t, (ops[g]?).bind (·.dst) = some t
  nw : wOf P ops it.i = false
  hj : HR it.cj
  ib : IB it.cj.I it.cj.ni
  wr : ∀ t, WR it.cj.f it.cj.I it.cj.ni (fcell it.E t) (it.aj.tmps.getD t undef)
  ext : IExt it.cj.I it.cj.ni c.I c.ni
  fx : FExt it.cj.f fc
  lo : lo0 ≤ it.cj.nm
  mid : it.cj.nm ≤ it.nm1
  hi : it.nm1 ≤ c.nm
  lt : it.w < 79228162514264337593543950336
  off : wantW ops it.o it.E = false → it.w = 0
  run : wantW ops it.o it.E = true → stepK P call (lowOp P it.o) it.E it.cj.M it.cj.nm it.cj.I it.cj.ni (chk it.w it.M1 it.nm1 it.I1 it.ni1) = .ok ∧ IExt it.I1 it.ni1 c.I c.ni
  rd : wantW ops it.o it.E = true → clsI (lowOp P it.o) = 1 → PlaceOk (lowOp P it.o) it.E it.cj.M c.M
  mkr : wantW ops it.o it.E = true → clsI (lowOp P it.o) = 2 → it.cj.nm < it.nm1 ∧ c.lay (it.cj.nm + 1) = some (it.nm1 - it.cj.nm - 1) ∧ c.f (it.cj.nm + 1) = none ∧ ∀ k, it.cj.nm ≤ k → k < it.nm1 → cellAt c.M k = cellAt it.M1 k
structure Slots (P : Program) (ops : Array Oper) (listed : Array Bool) (Pd : List Item) (E : Fr) (c : Cf) (a : Act) : Prop where
  s1 : ∀ t : Tmp, (∀ it ∈ Pd, it.o.dst ≠ some t) → WR c.f c.I c.ni (fcell E t) (a.tmps.getD t undef)
  s2 : ∀ it ∈ Pd, ∀ d : Tmp, it.o.dst = some d → fcell E d = it.w
  s3 : ∀ it ∈ Pd, ∀ t ∈ it.o.looksAt ops, (∃ it' ∈ Pd, it'.o.dst = some t ∧ bef ops it.i it'.i ∧ it'.w = fcell it.E t) ∨
    (WR c.f c.I c.ni (fcell it.E t) (a.tmps.getD t undef) ∧ ∀ (k : Nat) (ok : Oper), ops[k]? = some ok → ok.dst = some t → k ≠ it.i → listed.getD k false = false → bef ops k it.i)
  s4 : ∀ it ∈ Pd, rOf P ops it.i = true → ∀ t ∈ it.o.looksAt ops, fcell E t = fcell it.E t
structure Inv (P : Program) (call : CallT) (ops : Array Oper) (nt n0 : Nat) (c0 : Cf) (kn : KN) (ahead R : List Nat) (listed : Array Bool) (Pd : List Item) (E : Fr) (c cc : Cf) (aa a : Act) : Prop where
  dr : Drawn P ops (ahead ++ R)
  down : Down ops listed
  lsz : listed.size = ops.size
  ls : ∀ i, i < ops.size → (listed.getD i false = false ↔ (i ∈ R ∨ ∃ it ∈ Pd, it.i = i))
  pah : ∀ it ∈ Pd, it.i ∈ ahead
  pnd : Pd.Pairwise fun x y => x.i ≠ y.i ∧ x.nm1 ≤ y.cj.nm
  h : regDK P call (lowDI P nt ops ahead R) E c.M c.nm c.I c.ni kn = .ok
  hr0 : HR c0
  hr : HR c
  ib : IB c.I c.ni
  ext : Ext c0 c
  can : HR cc
  cM : cc.M = c.M
  cnm : cc.nm = c.nm
  cI : cc.I = c.I
  cni : cc.ni = c.ni
  cw : ∀ t : Tmp, WR cc.f cc.I cc.ni (fcell E t) (aa.tmps.getD t undef)
  asz : aa.tmps.size = nt
  sz : a.tmps.size = nt
  marks : MarksOk c n0 a.defers
  items : ∀ it ∈ Pd, ItemOk P call ops c0.nm c cc.f it
  slots : Slots P ops listed Pd E c a
  dn : ∀ it ∈ Pd, ∀ d, it.o.dst = some d → d < nt
section
variable {P : Program} {call : CallT} {ops : Array Oper} {nt n0 : Nat} {c0 : Cf} {kn : KN}
theorem Drawn.ord {l r : List Nat} (h : Drawn P ops (l ++ r)) {i j : Nat} (hi : i ∈ l) (hj : j ∈ r) : (wOf P ops i = true → bef ops j i) ∧ ¬ bef ops i j := (List.pairwise_append.1 h.order).2.2 i hi j hj
theorem Drawn.head {l r : List Nat} {i j : Nat} (h : Drawn P ops (l ++ i :: r)) (hj : j ∈ r) : (wOf P ops i = true → bef ops j i) ∧ ¬ bef ops i j :=
  (List.pairwise_cons.1 (List.pairwise_append.1 h.order).2.1).1 j hj
theorem Drawn.ne {l r : List Nat} (h : Drawn P ops (l ++ r)) {i j : Nat} (hi : i ∈ l) (hj : j ∈ r) : i ≠ j := fun e => (List.nodup_append.1 h.nodup).2.2 i hi j hj e
theorem ItemOk.keep {lo0 : Nat} {c c' cc cc' : Cf} {it : Item} (h : ItemOk P call ops lo0 c cc.f it) (hcc : HR cc) (cM : cc.M = c.M) (cnm : cc.nm = c.nm) (hI : IExt c.I c.ni c'.I c'.ni) (hfx : FExt cc.f cc'.f) (hnm : c.nm ≤ c'.nm) (hlay : ∀ b n, c.lay b = some n → c'.lay b = some n)
    (hf : c'.f = c.f) (hk : ∀ k, k < c.nm → cellAt c'.M k = cellAt c.M k) : ItemOk P call ops lo0 c' cc'.f it where
  op := h.op
  gd := h.gd
  nw := h.nw
  hj := h.hj
  ib := h.ib
  wr := h.wr
  ext := h.ext.trans hI
  fx := h.fx.trans hfx
  lo := h.lo
  mid := h.mid
  hi := Nat.le_trans h.hi hnm
  lt := h.lt
  off := h.off
  run hw := ⟨(h.run hw).1, (h.run hw).2.trans hI⟩
  rd hw hc := place_keep (cc := cc) (by rw [cM]; exact h.rd hw hc) hcc h.fx (fun s hs => by
    obtain ⟨t, -, rfl⟩ := rdSlot_al (ops := ops) hs
    exact ⟨_, h.wr t⟩) (by rw [cnm, cM]; exact hk)
  mkr hw hc := by
    obtain ⟨h1, h2, h3, h4⟩ := h.mkr hw hc
    refine ⟨h1, hlay _ _ h2, by rw [hf]; exact h3, fun k q1 q2 => ?_⟩
    rw [hk k (Nat.lt_of_lt_of_le q2 h.hi)]
    exact h4 k q1 q2
theorem absorb_fin {ahead R : List Nat} {i : Nat} {listed : Array Bool} {Pd : List Item} {E : Fr} {c cc c' cc' : Cf} {aa a : Act} {o : Oper} {w M1 nm1 I1 ni1 : Nat} {v : Value} (hv : Inv P call ops nt n0 c0 kn ahead (i :: R) listed Pd E c cc aa a) (ho : ops[i]? = some o) (hd : ∀ d, o.dst = some d → d < nt)
    (h : regDK P call (lowDI P nt ops (ahead ++ [i]) R) (putD o.dst E w) c'.M c'.nm c'.I c'.ni kn = .ok) (hr : HR c') (ib : IB c'.I c'.ni) (hx : Ext c c') (hf : c'.f = c.f) (hk : ∀ k, k < c.nm → cellAt c'.M k = cellAt c.M k)
    (can : HR cc') (cM : cc'.M = c'.M) (cnm : cc'.nm = c'.nm) (cI : cc'.I = c'.I) (cni : cc'.ni = c'.ni) (hfx : FExt cc.f cc'.f) (hwv : WR cc'.f cc'.I cc'.ni w v)
    (hit : ItemOk P call ops c0.nm c' cc'.f ⟨i, o, E, cc, aa, w, M1, nm1, I1, ni1⟩) :
    Inv P call ops nt n0 c0 kn (ahead ++ [i]) R listed (Pd ++ [⟨i, o, E, cc, aa, w, M1, nm1, I1, ni1⟩]) (putD o.dst E w) c' cc' (aa.put o.dst v) a := by
  have hwl := hwv.lt96
  have hi : i < ops.size := hv.dr.lt i (by simp)
  have hiu : listed.getD i false = false := (hv.ls i hi).2 (.inl (by simp))
  have hne : ∀ it ∈ Pd, it.i ≠ i := fun it hm => hv.dr.ne (hv.pah it hm) (by simp)
  have hdst : ∀ it ∈ Pd, ∀ d : Tmp, it.o.dst = some d → o.dst ≠ some d := fun it hm d h1 h2 => hne it hm (hv.dr.dst _ _ _ _ d (hv.items it hm).op ho h1 h2)
  have hIc : IExt cc.I cc.ni cc'.I cc'.ni := by rw [cI, cni, hv.cI, hv.cni]; exact hx.I
  refine ⟨by simpa using hv.dr, hv.down, hv.lsz, fun j hj => ?_, fun it hm => ?_, ?_, h, hv.hr0, hr, ib, Ext.trans hv.hr0 hv.ext hx, can, cM, cnm, cI, cni, fun t => ?_, by rw [put_size]; exact hv.asz, hv.sz, hv.marks.ext hx, fun it hm => ?_, ⟨fun t hn => ?_, fun it hm d hd' => ?_, fun it hm t ht => ?_, fun it hm hro t ht => ?_⟩, fun it hm d hd' => ?_⟩
  · rw [hv.ls j hj]
    simp only [List.mem_cons, List.mem_append, List.not_mem_nil, or_false]
    constructor
    · rintro ((rfl | h1) | ⟨it, h1, h2⟩)
      · exact .inr ⟨_, .inr rfl, rfl⟩
      · exact .inl h1
      · exact .inr ⟨it, .inl h1, h2⟩
    · rintro (h1 | ⟨it, (h1 | rfl), h2⟩)
      · exact .inl (.inr h1)
      · exact .inr ⟨it, h1, h2⟩
      · exact .inl (.inl h2.symm)
  · rcases List.mem_append.1 hm with h1 | h1
    · exact List.mem_append_left _ (hv.pah it h1)
    · have := List.mem_singleton.1 h1
      subst this
      exact List.mem_append_right _ (by simp)
  · refine List.pairwise_append.2 ⟨hv.pnd, by simp, fun x hx' y hy => ?_⟩
    have := List.mem_singleton.1 hy
    subst this
    exact ⟨hne x hx', by have := (hv.items x hx').hi; show x.nm1 ≤ cc.nm; rw [hv.cnm]; exact this⟩
  · rw [cell_putD hwl, put_at hv.asz hd]
    split
    · exact hwv
    · exact (hv.cw t).mono hfx hIc
  · rcases List.mem_append.1 hm with h1 | h1
    · exact (hv.items it h1).keep hv.can hv.cM hv.cnm hx.I hfx hx.nm hx.lay hf hk
    · have := List.mem_singleton.1 h1
      subst this
      exact hit
  · have h1 : o.dst ≠ some t := hn _ (List.mem_append_right _ (List.mem_singleton.2 rfl))
    rw [cell_putD hwl, if_neg h1]
    exact (hv.slots.s1 t fun it hm => hn it (List.mem_append_left _ hm)).mono hx.f hx.I
  · rcases List.mem_append.1 hm with h1 | h1
    · rw [cell_putD hwl, if_neg (hdst it h1 d hd')]
      exact hv.slots.s2 it h1 d hd'
    · have := List.mem_singleton.1 h1
      subst this
      rw [cell_putD hwl, if_pos hd']
  · rcases List.mem_append.1 hm with h1 | h1
    · rcases hv.slots.s3 it h1 t ht with ⟨it', h2, h3⟩ | ⟨h2, h3⟩
      · exact .inl ⟨it', List.mem_append_left _ h2, h3⟩
      · exact .inr ⟨h2.mono hx.f hx.I, h3⟩
    · have := List.mem_singleton.1 h1
      subst this
      have ht : t ∈ o.looksAt ops := ht
      by_cases hex : ∃ it' ∈ Pd, it'.o.dst = some t
      · obtain ⟨it', h2, h3⟩ := hex
        left
        refine ⟨it', List.mem_append_left _ h2, h3, ?_, (hv.slots.s2 it' h2 t h3).symm⟩
        exact (hv.dr.looks _ _ _ _ t (hv.items it' h2).op ho ht h3 (hne it' h2)).resolve_right (hv.dr.ord (hv.pah it' h2) (by simp)).2
      · right
        refine ⟨(hv.slots.s1 t fun it hm e => hex ⟨it, hm, e⟩).mono hx.f hx.I, fun k ok hk1 hk2 hk3 hk4 => ?_⟩
        have hkl : k < ops.size := (Array.getElem?_eq_some_iff.1 hk1).1
        rcases (hv.ls k hkl).1 hk4 with h2 | ⟨it', h2, h3⟩
        · rcases List.mem_cons.1 h2 with h2 | h2
          · exact absurd h2 hk3
          · exact (hv.dr.looks _ _ _ _ t hk1 ho ht hk2 hk3).resolve_left (hv.dr.head h2).2
        · have h4 := (hv.items it' h2).op
          rw [h3, hk1] at h4
          cases h4
          exact absurd ⟨it', h2, hk2⟩ hex
  · rcases List.mem_append.1 hm with h1 | h1
    · have h2 : o.dst ≠ some t := fun e => (hv.dr.ord (hv.pah it h1) (by simp)).2 (hv.dr.reads _ _ _ _ t ho (hv.items it h1).op hro ht e)
      rw [cell_putD hwl, if_neg h2]
      exact hv.slots.s4 it h1 hro t ht
    · have := List.mem_singleton.1 h1
      subst this
      have h2 : o.dst ≠ some t := fun e => (hv.dr.small _ _ (hv.dr.reads _ _ _ _ t ho ho hro ht e) hi).2 rfl
      rw [cell_putD hwl, if_neg h2]
  · rcases List.mem_append.1 hm with h1 | h1
    · exact hv.dn it h1 d hd'
    · have := List.mem_singleton.1 h1
      subst this
      exact hd d hd'
end
end Go.Proofs.YtpjhkpmmbeoghaaGreatDoor.Ev
namespace Go.Proofs.YtpjhkpmmbeoghaaGreatDoor.Ev
open Go
section
variable {P : Program} {call : CallT} {ops : Array Oper} {nt n0 : Nat} {c0 : Cf} {kn : KN}
theorem cls_le (i : In) : clsI i = 0 ∨ clsI i = 1 ∨ clsI i = 2 ∨ clsI i = 3 := by cases i <;> simp [clsI]
theorem blk_facts {f : Nat → Option FB} {I ni hdw n r : Nat} {W W' : World} (h : BlkOk f I ni W W' hdw n r) (hn : n < 4194304) : hdw < 2 ^ 96 ∧ hdw / 1024 = n ∧ r < 2 ^ (96 * n) := by
  rcases h.1 with ⟨vs, elem, h1, -, h3, h4⟩ | ⟨clock, rfl, rfl, rfl, -⟩
  · have := h4.lt
    rw [h3] at this
    exact ⟨by omega, by omega, this⟩
  · exact ⟨by omega, by omega, by omega⟩
theorem HR.fresh {c : Cf} (h : HR c) : c.f (c.nm + 1) = none := by
  cases hf : c.f (c.nm + 1) with
  | none => rfl
  | some F =>
    obtain ⟨n, hl⟩ := h.dom _ _ hf
    have := h.lay0 _ _ hl
    omega
theorem FExt.setN {f : Nat → Option FB} {b : Nat} {F : FB} (h : f b = none) : FExt f (Ev.setN f b F) := by
  intro x G e
  rw [setN_ne]
  · exact e
  · intro e2; subst e2; rw [h] at e; cases e
theorem wOf_cls {i : Nat} {o : Oper} (ho : ops[i]? = some o) : wOf P ops i = (clsI (lowOp P o) == 3) := by simp [wOf, ho]
theorem absorb (hcl : CallLin call) {ahead R : List Nat} {i : Nat} {listed : Array Bool} {Pd : List Item} {E : Fr} {c cc : Cf} {aa a : Act} (hv : Inv P call ops nt n0 c0 kn ahead (i :: R) listed Pd E c cc aa a) (hw : wOf P ops i = false) :
    ∃ Pd' E' c' cc' aa', c'.w = c.w ∧ Pd'.length = Pd.length + 1 ∧ Inv P call ops nt n0 c0 kn (ahead ++ [i]) R listed Pd' E' c' cc' aa' a := by
  have hi : i < ops.size := hv.dr.lt i (by simp)
  obtain ⟨o, ho⟩ : ∃ o, ops[i]? = some o := ⟨ops[i], by simp [hi]⟩
  have h := hv.h
  unfold lowDI at h
  simp only [ho, hw] at h
  have h : riK P call (lowRI P nt ops o) E c.M c.nm c.I c.ni (fun E M nm I ni => regDK P call (lowDI P nt ops (ahead ++ [i]) R) E M nm I ni kn) = .ok := h
  obtain ⟨hd, hg, hcase⟩ := ri_cases h
  have hc3 : clsI (lowOp P o) ≠ 3 := by
    rw [wOf_cls (P := P) ho] at hw
    simpa using hw
  have hlo : c0.nm ≤ cc.nm := by rw [hv.cnm]; exact hv.ext.nm
  have hibc : IB cc.I cc.ni := by rw [hv.cI, hv.cni]; exact hv.ib
  rcases hcase with ⟨hwt, hstep⟩ | ⟨hwt, hk⟩
  · rcases step_lin (P := P) (E := E) (M := c.M) (nm := c.nm) (I := c.I) (ni := c.ni) hcl (lowOp P o) with ⟨w, M1, nm1, I1, ni1, hl⟩ | hno
    · have hgo := hl (fun w M nm I ni => regDK P call (lowDI P nt ops (ahead ++ [i]) R) (putD o.dst E w) M nm I ni kn)
      rw [hstep] at hgo
      have hchk : stepK P call (lowOp P o) E cc.M cc.nm cc.I cc.ni (chk w M1 nm1 I1 ni1) = .ok := by
        rw [hv.cM, hv.cnm, hv.cI, hv.cni, hl]; exact chk_self _ _ _ _ _
      have res := op_cls (P := P) (a := aa) (c := cc) hchk (opr_of (ops := ops) fun t _ => hv.cw t) (fun _ => hv.can) hibc
      rcases cls_le (lowOp P o) with hc | hc | hc | hc
      · rw [hc] at res
        obtain ⟨w', I', n', v, h1, h2, h3, -⟩ := res
        obtain ⟨rfl, rfl, rfl, rfl, rfl⟩ := chk_ok h1
        have hIe : IExt c.I c.ni I' n' := by rw [← hv.cI, ← hv.cni]; exact h2.ext
        rw [hv.cM, hv.cnm] at hgo
        refine ⟨_, _, { c with I := I', ni := n' }, { cc with I := I', ni := n' }, _, rfl, List.length_append, absorb_fin (M1 := cc.M) (nm1 := cc.nm) (I1 := I') (ni1 := n') hv ho hd hgo.symm (hv.hr.growI hIe h2.lt.1) h2.lt (.growI hIe) rfl (fun _ _ => rfl) (hv.can.growI h2.ext h2.lt.1) hv.cM hv.cnm rfl rfl (.refl _) h3 ?_⟩
        exact ⟨ho, hg, hw, hv.can, hibc, hv.cw, h2.ext, .refl _, hlo, Nat.le_refl _, by show cc.nm ≤ c.nm; rw [hv.cnm]; exact Nat.le_refl _, h3.lt96, fun e => (by rw [hwt] at e; cases e), fun _ => ⟨hchk, .refl _ _⟩, fun _ e => absurd (hc.symm.trans e) (by decide), fun _ e => absurd (hc.symm.trans e) (by decide)⟩
      · rw [hc] at res
        obtain ⟨w', I', n', v, h1, h2, h3, -⟩ := res
        obtain ⟨rfl, rfl, rfl, rfl, rfl⟩ := chk_ok h1
        have hIe : IExt c.I c.ni I' n' := by rw [← hv.cI, ← hv.cni]; exact h2.ext
        rw [hv.cM, hv.cnm] at hgo
        refine ⟨_, _, { c with I := I', ni := n' }, { cc with I := I', ni := n' }, _, rfl, List.length_append, absorb_fin (M1 := cc.M) (nm1 := cc.nm) (I1 := I') (ni1 := n') hv ho hd hgo.symm (hv.hr.growI hIe h2.lt.1) h2.lt (.growI hIe) rfl (fun _ _ => rfl) (hv.can.growI h2.ext h2.lt.1) hv.cM hv.cnm rfl rfl (.refl _) h3 ?_⟩
        exact ⟨ho, hg, hw, hv.can, hibc, hv.cw, h2.ext, .refl _, hlo, Nat.le_refl _, by show cc.nm ≤ c.nm; rw [hv.cnm]; exact Nat.le_refl _, h3.lt96, fun e => (by rw [hwt] at e; cases e), fun _ => ⟨hchk, .refl _ _⟩, fun _ _ => by show PlaceOk _ _ cc.M c.M; rw [← hv.cM]; exact place_self hchk, fun _ e => absurd (hc.symm.trans e) (by decide)⟩
      · rw [hc] at res
        obtain ⟨hdw, n, r, I', n', wd, hb, h1, h2, hall⟩ := res
        obtain ⟨hwd, rfl, rfl, rfl, rfl⟩ := chk_ok h1
        obtain ⟨v, W', hrun, hblk, hwr⟩ := hall cc.w
        obtain ⟨f1, f2, f3⟩ := blk_facts hblk (by omega)
        have hIe : IExt c.I c.ni I' n' := by rw [← hv.cI, ← hv.cni]; exact h2.ext
        have hr1 := hv.hr.growI hIe h2.lt.1
        have hr2 := hr1.layNew f1 f2 f3
        have hx2 : Ext c _ := Ext.trans hv.hr (.growI hIe) (Ext.layNew hr1 (hdw := hdw) (n := n) (r := r))
        have hc1 := hv.can.growI h2.ext h2.lt.1
        have hc2 := hc1.layNew f1 f2 f3
        have f1' : hdw < 2 ^ (96 * 1) := by simpa using f1
        have hfn : cc.f (cc.nm + 1) = none := hv.can.fresh
        have hc3' := hc2.mapLate (b := cc.nm + 1) (n := n) (hdw := hdw) (r := r) (W' := W') (setN_same _ _ _) hfn (by
          show cellAt (addRow cc.M cc.nm (addRow hdw 1 r)) (cc.nm + 1 - 1) = hdw
          rw [show cc.nm + 1 - 1 = cc.nm by omega, cell_add hv.can.mlt, if_neg (by omega), Nat.sub_self, cell_add f1', if_pos (by omega), cell_self f1]) (fun k hk => by
          show cellAt (addRow cc.M cc.nm (addRow hdw 1 r)) (cc.nm + 1 + k) = cellAt r k
          rw [cell_add hv.can.mlt, if_neg (by omega), cell_add f1', if_neg (by omega)]
          congr 1; omega) hblk
        have hwv := hwr (cc.nm + 1) (setN cc.f (cc.nm + 1) ⟨cc.w.heap.size, 0, n, 0⟩) (by omega) (by omega) (setN_same _ _ _)
        rw [hwd] at hwv
        have hM : addRow cc.M cc.nm (addRow hdw 1 r) = addRow c.M c.nm (addRow hdw 1 r) := by rw [hv.cM, hv.cnm]
        have hnm : cc.nm + (1 + n) = c.nm + (1 + n) := by rw [hv.cnm]
        have hgo' := hgo.symm
        rw [hM, hnm] at hgo'
        refine ⟨_, _, { c with lay := setN c.lay (c.nm + 1) n, M := addRow c.M c.nm (addRow hdw 1 r), nm := c.nm + (1 + n), I := I', ni := n' }, { cc with lay := setN cc.lay (cc.nm + 1) n, f := setN cc.f (cc.nm + 1) ⟨cc.w.heap.size, 0, n, 0⟩, M := addRow cc.M cc.nm (addRow hdw 1 r), nm := cc.nm + (1 + n), I := I', ni := n', w := W' }, _, rfl, List.length_append, absorb_fin (M1 := addRow cc.M cc.nm (addRow hdw 1 r)) (nm1 := cc.nm + (1 + n)) (I1 := I') (ni1 := n') hv ho hd hgo' hr2 h2.lt hx2 rfl (fun k hk => ?_) hc3' hM hnm rfl rfl (.setN hfn) hwv ?_⟩
        · show cellAt (addRow c.M c.nm (addRow hdw 1 r)) k = _
          rw [cell_add hv.hr.mlt, if_pos hk]
        · refine ⟨ho, hg, hw, hv.can, hibc, hv.cw, h2.ext, .setN hfn, hlo, by show cc.nm ≤ cc.nm + (1 + n); omega, by show cc.nm + (1 + n) ≤ c.nm + (1 + n); rw [hv.cnm]; exact Nat.le_refl _, hwv.lt96, fun e => (by rw [hwt] at e; cases e), fun _ => ⟨hchk, .refl _ _⟩, fun _ e => absurd (hc.symm.trans e) (by decide), fun _ _ => ⟨by show cc.nm < cc.nm + (1 + n); omega, ?_, ?_, fun k _ _ => by show cellAt (addRow c.M c.nm (addRow hdw 1 r)) k = _; rw [← hM]⟩⟩
          · show setN c.lay (c.nm + 1) n (cc.nm + 1) = some (cc.nm + (1 + n) - cc.nm - 1)
            rw [hv.cnm, setN_same]; congr 1; omega
          · show c.f (cc.nm + 1) = none
            rw [hv.cnm]; exact hv.hr.fresh
      · exact absurd hc hc3
    · exact absurd hstep (hno _)
  · refine ⟨_, _, c, cc, _, rfl, List.length_append, absorb_fin (w := 0) (v := undef) (M1 := 0) (nm1 := cc.nm) (I1 := 0) (ni1 := 0) hv ho hd hk hv.hr hv.ib (.refl _) rfl (fun _ _ => rfl) hv.can hv.cM hv.cnm hv.cI hv.cni (.refl _) .undef ?_⟩
    exact ⟨ho, hg, hw, hv.can, hibc, hv.cw, by rw [hv.cI, hv.cni]; exact .refl _ _, .refl _, hlo, Nat.le_refl _, by show cc.nm ≤ c.nm; rw [hv.cnm]; exact Nat.le_refl _, (by show (0 : Nat) < 79228162514264337593543950336; decide), fun _ => rfl, fun e => (by rw [hwt] at e; cases e), fun e => (by rw [hwt] at e; cases e), fun e => (by rw [hwt] at e; cases e)⟩
end
end Go.Proofs.YtpjhkpmmbeoghaaGreatDoor.Ev
namespace Go.Proofs.YtpjhkpmmbeoghaaGreatDoor.Ev
open Go
section
variable {P : Program} {call : CallT} {ops : Array Oper} {nt n0 : Nat} {c0 : Cf} {kn : KN}
theorem item_eq {Pd : List Item} (h : Pd.Pairwise fun x y => x.i ≠ y.i ∧ x.nm1 ≤ y.cj.nm) : ∀ x ∈ Pd, ∀ y ∈ Pd, x.i = y.i → x = y := by
  induction Pd with
  | nil => intro x hx; cases hx
  | cons z l ih =>
    obtain ⟨h1, h2⟩ := List.pairwise_cons.1 h
    intro x hx y hy e
    rcases List.mem_cons.1 hx with rfl | hx'
    · rcases List.mem_cons.1 hy with rfl | hy'
      · rfl
      · exact absurd e (h1 y hy').1
    · rcases List.mem_cons.1 hy with rfl | hy'
      · exact absurd e.symm (h1 x hx').1
      · exact ih h2 x hx' y hy' e
theorem item_apart {Pd : List Item} (h : Pd.Pairwise fun x y => x.i ≠ y.i ∧ x.nm1 ≤ y.cj.nm) {x y : Item} (hx : x ∈ Pd) (hy : y ∈ Pd) (hne : x.i ≠ y.i) (h1 : x.cj.nm < x.nm1) (h2 : y.cj.nm < y.nm1) : x.cj.nm ≠ y.cj.nm := by
  induction Pd with
  | nil => cases hx
  | cons z l ih =>
    obtain ⟨h3, h4⟩ := List.pairwise_cons.1 h
    rcases List.mem_cons.1 hx with rfl | hx'
    · rcases List.mem_cons.1 hy with rfl | hy'
      · exact absurd rfl hne
      · have := (h3 y hy').2; omega
    · rcases List.mem_cons.1 hy with rfl | hy'
      · have := (h3 x hx').2; omega
      · exact ih h4 hx' hy'
theorem late_fin {ahead R : List Nat} {listed : Array Bool} {Pd : List Item} {E : Fr} {c cc : Cf} {aa a : Act} (hv : Inv P call ops nt n0 c0 kn ahead R listed Pd E c cc aa a) {it : Item} (hm : it ∈ Pd) (hready : ∀ k, bef ops it.i k → listed.getD k false = true)
    (hdn : ∀ d, it.o.dst = some d → d < nt) {f' : Nat → Option FB} {W' : World} {v : Value} (hr : HR { c with f := f', w := W' }) (hx : Ext c0 { c with f := f', w := W' }) (hfx : FExt c.f f') (hwv : WR f' c.I c.ni it.w v) (hmk : MarksOk { c with f := f', w := W' } n0 a.defers)
    (hoth : ∀ it2 ∈ Pd, it2.i ≠ it.i → wantW ops it2.o it2.E = true → clsI (lowOp P it2.o) = 2 → f' (it2.cj.nm + 1) = none) :
    Inv P call ops nt n0 c0 kn ahead R (listed.setIfInBounds it.i true) (Pd.filter fun x => x.i != it.i) E { c with f := f', w := W' } cc aa (a.put it.o.dst v) := by
  have hI := hv.items it hm
  have hil : it.i < ops.size := (Array.getElem?_eq_some_iff.1 hI.op).1
  have hils : it.i < listed.size := by rw [hv.lsz]; exact hil
  have hun : ∀ it2 ∈ Pd, listed.getD it2.i false = false := fun it2 h2 => (hv.ls it2.i (Array.getElem?_eq_some_iff.1 (hv.items it2 h2).op).1).2 (.inr ⟨it2, h2, rfl⟩)
  have hmf : ∀ it2, it2 ∈ Pd.filter (fun x => x.i != it.i) ↔ it2 ∈ Pd ∧ it2.i ≠ it.i := fun it2 => by simp [List.mem_filter]
  have hcell : ∀ t : Tmp, (a.put it.o.dst v).tmps.getD t undef = if it.o.dst = some t then v else a.tmps.getD t undef := put_at hv.sz hdn
  refine ⟨hv.dr, hv.down.set hils hready, by simp [hv.lsz], fun j hj => ?_, fun it2 h2 => hv.pah it2 ((hmf it2).1 h2).1, hv.pnd.filter _, hv.h, hv.hr0, hr, hv.ib, hx, hv.can, hv.cM, hv.cnm, hv.cI, hv.cni, hv.cw, hv.asz, by rw [put_size]; exact hv.sz, by rw [put_defers']; exact hmk, fun it2 h2 => ?_, ⟨fun t hn => ?_, fun it2 h2 d hd => hv.slots.s2 it2 ((hmf it2).1 h2).1 d hd, fun it2 h2 t ht => ?_, fun it2 h2 hro t ht => hv.slots.s4 it2 ((hmf it2).1 h2).1 hro t ht⟩, fun it2 h2 => hv.dn it2 ((hmf it2).1 h2).1⟩
  · rw [getD_set hils]
    by_cases e : j = it.i
    · subst e
      rw [if_pos rfl]
      refine ⟨fun h => by (cases h), fun h => ?_⟩
      rcases h with h | ⟨it2, h2, h3⟩
      · exact absurd rfl (hv.dr.ne (hv.pah it hm) h)
      · exact absurd h3 ((hmf it2).1 h2).2
    · rw [if_neg e, hv.ls j hj]
      constructor
      · rintro (h | ⟨it2, h2, h3⟩)
        · exact .inl h
        · exact .inr ⟨it2, (hmf it2).2 ⟨h2, by rw [h3]; exact e⟩, h3⟩
      · rintro (h | ⟨it2, h2, h3⟩)
        · exact .inl h
        · exact .inr ⟨it2, ((hmf it2).1 h2).1, h3⟩
  · obtain ⟨h3, h4⟩ := (hmf it2).1 h2
    have h := hv.items it2 h3
    exact ⟨h.op, h.gd, h.nw, h.hj, h.ib, h.wr, h.ext, h.fx, h.lo, h.mid, h.hi, h.lt, h.off, h.run, h.rd, fun q1 q2 => ⟨(h.mkr q1 q2).1, (h.mkr q1 q2).2.1, hoth it2 h3 h4 q1 q2, (h.mkr q1 q2).2.2.2⟩⟩
  · rw [hcell]
    by_cases hd : it.o.dst = some t
    · rw [if_pos hd, hv.slots.s2 it hm t hd]
      exact hwv
    · rw [if_neg hd]
      refine (hv.slots.s1 t fun it2 h2 e => ?_).mono hfx (.refl _ _)
      by_cases e2 : it2.i = it.i
      · rw [item_eq hv.pnd it2 h2 it hm e2] at e; exact hd e
      · exact hn it2 ((hmf it2).2 ⟨h2, e2⟩) e
  · obtain ⟨h3, h4⟩ := (hmf it2).1 h2
    rcases hv.slots.s3 it2 h3 t ht with ⟨it', h5, h6, h7, h8⟩ | ⟨h5, h6⟩
    · by_cases e2 : it'.i = it.i
      · have := item_eq hv.pnd it' h5 it hm e2
        subst this
        right
        refine ⟨by rw [hcell, if_pos h6, ← h8]; exact hwv, fun k ok k1 k2 k3 k4 => ?_⟩
        have := hv.dr.dst _ _ _ _ t k1 hI.op k2 h6
        subst this
        rw [getD_set hils, if_pos rfl] at k4
        cases k4
      · exact .inl ⟨it', (hmf it').2 ⟨h5, e2⟩, h6, h7, h8⟩
    · right
      have hd : it.o.dst ≠ some t := fun e => by
        have h7 := h6 it.i it.o hI.op e (Ne.symm h4) (hun it hm)
        have h8 := hready _ h7
        rw [hun it2 h3] at h8; cases h8
      refine ⟨by rw [hcell, if_neg hd]; exact h5.mono hfx (.refl _ _), fun k ok k1 k2 k3 k4 => h6 k ok k1 k2 k3 ?_⟩
      rw [getD_set hils] at k4
      split at k4
      · cases k4
      · exact k4
theorem late_step {F : Fence} {n : Nat} (hF : FOK F) {Q : Exit → Act → World → Prop} {ahead R : List Nat} {listed : Array Bool} {Pd : List Item} {E : Fr} {c cc : Cf} {aa a : Act} (hv : Inv P call ops nt n0 c0 kn ahead R listed Pd E c cc aa a) {it : Item} (hm : it ∈ Pd) (hready : ∀ k, bef ops it.i k → listed.getD k false = true)
    (hdn : ∀ d, it.o.dst = some d → d < nt) {K : Act → World → Prop} (hK : ∀ c' a', Inv P call ops nt n0 c0 kn ahead R (listed.setIfInBounds it.i true) (Pd.filter fun x => x.i != it.i) E c' cc aa a' → K a' c'.w) : wpOpIn F n P ops Q it.i K a c.w := by
  have hI := hv.items it hm
  have hun : ∀ it2 ∈ Pd, listed.getD it2.i false = false := fun it2 h2 => (hv.ls it2.i (Array.getElem?_eq_some_iff.1 (hv.items it2 h2).op).1).2 (.inr ⟨it2, h2, rfl⟩)
  have hwd : ∀ t ∈ it.o.looksAt ops, WR c.f c.I c.ni (fcell it.E t) (a.tmps.getD t undef) := fun t ht => by
    rcases hv.slots.s3 it hm t ht with ⟨it', h5, h6, h7, h8⟩ | ⟨h5, -⟩
    · have := hready _ h7
      rw [hun it' h5] at this; cases this
    · exact h5
  have hothers : ∀ it2 ∈ Pd, it2.i ≠ it.i → wantW ops it2.o it2.E = true → clsI (lowOp P it2.o) = 2 → c.f (it2.cj.nm + 1) = none := fun it2 h2 _ h4 h5 => ((hv.items it2 h2).mkr h4 h5).2.2.1
  unfold wpOpIn
  simp only [hI.op]
  rw [want_eq hI.gd hwd]
  split
  · rename_i hwt
    obtain ⟨hrun, hIe⟩ := hI.run hwt
    have hcut : ∀ t ∈ it.o.looksAt ops, WR c.f it.cj.I it.cj.ni (fcell it.E t) (a.tmps.getD t undef) := fun t ht => WR.cutI (hI.wr t) hI.ext (hwd t ht)
    have hopr := opr_of (ops := ops) hcut
    have hnd : ∀ cl, it.o.op ≠ .defer cl := fun cl e => by
      have : lowOp P it.o = .bad 99 := by unfold lowOp; rw [e]
      rw [this] at hrun
      exact bad_step hrun
    have hgo : ∀ {v : Value} {W' : World}, (execOp a.eval it.o).run P c.w = .ok (.value v) W' → K (a.put it.o.dst v) W' → it.o.wpIn F n P a c.w K Q := fun h1 h2 => by
      refine ⟨fun f _ => hF.1 f, ?_⟩
      rw [Oper.semAt_eq _ _ _ hnd, h1]
      exact h2
    have hc3 : clsI (lowOp P it.o) ≠ 3 := by
      have := hI.nw
      rw [wOf_cls (P := P) hI.op] at this
      simpa using this
    rcases cls_le (lowOp P it.o) with hc | hc | hc | hc
    · have res := op_cls (P := P) (a := a) (c := { c with M := it.cj.M, nm := it.cj.nm, I := it.cj.I, ni := it.cj.ni }) hrun hopr (fun e => absurd (hc.symm.trans e) (by decide)) hI.ib
      rw [hc] at res
      obtain ⟨w', I', n', v, h1, h2, h3, h4⟩ := res
      obtain ⟨rfl, -, -, rfl, rfl⟩ := chk_ok h1
      exact hgo (h4 _) (hK c _ (late_fin hv hm hready hdn (f' := c.f) (W' := c.w) hv.hr hv.ext (.refl _) (h3.mono (.refl _) hIe) hv.marks hothers))
    · obtain ⟨w', I', n', v, h1, h2, h3, h4⟩ := read_late (P := P) (a := a) (aj := it.aj) hc hrun hopr (opr_of (ops := ops) fun t _ => hI.wr t) hv.hr hI.hj hI.ext hI.ib (hI.rd hwt hc)
      obtain ⟨rfl, -, -, rfl, rfl⟩ := chk_ok h1
      exact hgo h4 (hK c _ (late_fin hv hm hready hdn (f' := c.f) (W' := c.w) hv.hr hv.ext (.refl _) (h3 hIe) hv.marks hothers))
    · have res := op_cls (P := P) (a := a) (c := { c with M := it.cj.M, nm := it.cj.nm, I := it.cj.I, ni := it.cj.ni }) hrun hopr (fun e => absurd (hc.symm.trans e) (by decide)) hI.ib
      rw [hc] at res
      obtain ⟨hdw, k, r, I', n', wd, hb, h1, h2, hall⟩ := res
      obtain ⟨hwd', hM1, hnm1, rfl, rfl⟩ := chk_ok h1
      obtain ⟨m1, m2, m3, m4⟩ := hI.mkr hwt hc
      obtain ⟨v, W', hrun', hblk, hwr⟩ := hall c.w
      have hM1 : addRow it.cj.M it.cj.nm (addRow hdw 1 r) = it.M1 := hM1
      have hnm1 : it.cj.nm + (1 + k) = it.nm1 := hnm1
      obtain ⟨f1, f2, f3⟩ := blk_facts hblk (by
        have : it.cj.nm + (1 + k) < 4194304 := hb
        omega)
      have f1' : hdw < 2 ^ (96 * 1) := by simpa using f1
      have hblk' : BlkOk c.f c.I c.ni c.w W' hdw k r := ⟨hblk.1.imp (fun ⟨vs, elem, q1, q2, q3, q4⟩ => ⟨vs, elem, q1, q2, q3, q4.mono (.refl _) hIe⟩) id, hblk.2⟩
      have hlay : c.lay (it.cj.nm + 1) = some k := by rw [m2]; congr 1; omega
      have hcl : ∀ j, it.cj.nm ≤ j → j < it.cj.nm + (1 + k) → cellAt c.M j = cellAt (addRow hdw 1 r) (j - it.cj.nm) := fun j q1 q2 => by
        rw [m4 j q1 (by omega), ← hM1, cell_add hI.hj.mlt, if_neg (by omega)]
      have hr' := hv.hr.mapLate (b := it.cj.nm + 1) hlay m3 (by
        show cellAt c.M (it.cj.nm + 1 - 1) = hdw
        rw [show it.cj.nm + 1 - 1 = it.cj.nm by omega, hcl _ (Nat.le_refl _) (by omega), Nat.sub_self, cell_add f1', if_pos (by omega), cell_self f1]) (fun j hj => by
        rw [hcl _ (by omega) (by omega), cell_add f1', if_neg (by omega)]
        congr 1; omega) hblk'
      have hx' := hv.ext.mapLate (b := it.cj.nm + 1) m3 (by have := hI.lo; omega) hblk'
      have hwv := hwr (it.cj.nm + 1) (setN c.f (it.cj.nm + 1) ⟨c.w.heap.size, 0, k, 0⟩) (by omega) (by
        have : it.cj.nm + (1 + k) < 4194304 := hb
        omega) (setN_same _ _ _)
      rw [hwd'] at hwv
      refine hgo hrun' (hK _ _ (late_fin hv hm hready hdn (f' := setN c.f (it.cj.nm + 1) ⟨c.w.heap.size, 0, k, 0⟩) (W' := W') hr' hx' (.setN m3) (hwv.mono (.refl _) hIe) (hv.marks.mapLate (b := it.cj.nm + 1) hblk') fun it2 h2 h3 h4 h5 => ?_))
      rw [setN_ne]
      · exact hothers it2 h2 h3 h4 h5
      · have := item_apart hv.pnd h2 hm h3 ((hv.items it2 h2).mkr h4 h5).1 m1
        omega
    · exact absurd hc hc3
  · rename_i hwt
    have hwt : wantW ops it.o it.E = false := by simpa using hwt
    refine ⟨fun f _ => hF.1 f, hK c _ (late_fin hv hm hready hdn (f' := c.f) (W' := c.w) (v := undef) hv.hr hv.ext (.refl _) ?_ hv.marks hothers)⟩
    rw [hI.off hwt]
    exact .undef
end
end Go.Proofs.YtpjhkpmmbeoghaaGreatDoor.Ev
namespace Go.Proofs.YtpjhkpmmbeoghaaGreatDoor.Ev
open Go
section
variable {P : Program} {call : CallT} {ops : Array Oper} {nt n0 : Nat} {c0 : Cf} {kn : KN}
def FlsOk (E : Fr) (M M' : Nat) : FlS → Prop
  | .load off n => RdRow M' M (pB (slot E off)) (pOff (slot E off)) n
  | .str off => sLen (slot E off) = 0 ∨ RdRow M' M (sB (slot E off)) (sOff (slot E off)) (sLen (slot E off))
  | .map off => slot E off = 13 ∨ (hd M' (slot E off / 32) = 1027 ∧ cellAt M' (slot E off / 32) = cellAt M (slot E off / 32))
  | .bad => False
theorem flt_ok {g : Option (Nat × Nat)} {s : FlS} {E : Fr} {M M' : Nat} {k : Res} (h : fltK (g, s) E M M' k = .ok) : k = .ok ∧ ((∀ x y, g = some (x, y) → slot E x = y) → FlsOk E M M' s) := by
  have go : fltK (none, s) E M M' k = .ok → k = .ok ∧ FlsOk E M M' s := fun h => by
    cases s with
    | load off n =>
      obtain ⟨-, h⟩ := iff_bad (show ptrIn (slot E off) (inK M' (pB (slot E off)) (pOff (slot E off)) n _) = .ok from h)
      obtain ⟨-, h⟩ := iff_bad h
      obtain ⟨h1, h2, h⟩ := inK_ok h
      obtain ⟨h3, h⟩ := iff_bad h
      exact ⟨h, h1, h2, Nat.eq_of_beq_eq_true h3⟩
    | str off =>
      obtain ⟨-, h⟩ := iff_bad (show iff (tg (slot E off) 11) (iff (Nat.beq (sLen (slot E off)) 0) k (inK M' (sB (slot E off)) (sOff (slot E off)) (sLen (slot E off)) _)) (.bad 75 2) = .ok from h)
      rcases iff_ok h with ⟨h1, h⟩ | ⟨-, h⟩
      · exact ⟨h, .inl (Nat.eq_of_beq_eq_true h1)⟩
      · obtain ⟨h1, h2, h⟩ := inK_ok h
        obtain ⟨h3, h⟩ := iff_bad h
        exact ⟨h, .inr ⟨h1, h2, Nat.eq_of_beq_eq_true h3⟩⟩
    | map off =>
      rcases iff_ok (show iff (Nat.beq (slot E off) 13) k (iff (tg (slot E off) 13) (iff (Nat.beq (hdW M' (Nat.div (slot E off) 32)) 1027) (iff (Nat.beq (cellAt M' (Nat.div (slot E off) 32)) (cellAt M (Nat.div (slot E off) 32))) k (.bad 75 4)) (.bad 75 5)) (.bad 75 6)) = .ok from h) with ⟨h1, h⟩ | ⟨-, h⟩
      · exact ⟨h, .inl (Nat.eq_of_beq_eq_true h1)⟩
      · obtain ⟨-, h⟩ := iff_bad h
        obtain ⟨h2, h⟩ := iff_bad h
        obtain ⟨h3, h⟩ := iff_bad h
        exact ⟨h, .inr ⟨Nat.eq_of_beq_eq_true h2, Nat.eq_of_beq_eq_true h3⟩⟩
    | bad => cases h
  cases g with
  | none => exact ⟨(go h).1, fun _ => (go h).2⟩
  | some xy =>
    obtain ⟨x, y⟩ := xy
    rcases iff_ok (show iff (Nat.beq (slot E x) y) (fltK (none, s) E M M' k) k = .ok from h) with ⟨h1, h⟩ | ⟨h1, h⟩
    · exact ⟨(go h).1, fun _ => (go h).2⟩
    · refine ⟨h, fun hg => ?_⟩
      have := hg x y rfl
      rw [this, Nat.beq_refl] at h1
      cases h1
theorem flts_ok {E : Fr} {M M' : Nat} {k : Res} : ∀ (l : List (Option (Nat × Nat) × FlS)), fltsK l E M M' k = .ok → k = .ok ∧ ∀ x ∈ l, (∀ u y, x.1 = some (u, y) → slot E u = y) → FlsOk E M M' x.2
  | [], h => ⟨h, fun x hx => by cases hx⟩
  | (g, s) :: l, h => by
    obtain ⟨h1, h2⟩ := flt_ok (show fltK (g, s) E M M' (fltsK l E M M' k) = .ok from h)
    obtain ⟨h3, h4⟩ := flts_ok l h1
    refine ⟨h3, fun x hx hg => ?_⟩
    rcases List.mem_cons.1 hx with rfl | hx'
    · exact h2 hg
    · exact h4 x hx' hg
theorem RdRow.trans {M M' M'' b off n : Nat} (h : RdRow M' M b off n) (h' : RdRow M'' M' b off n) : RdRow M'' M b off n := ⟨h'.1, h'.2.1, h'.2.2.trans h.2.2⟩
theorem place_flt {o : Oper} {Ej E : Fr} {Mj M M' : Nat} (hp : PlaceOk (lowOp P o) Ej Mj M) (hc : clsI (lowOp P o) = 1) (hE : ∀ t ∈ o.looksAt ops, fcell E t = fcell Ej t) (h : FlsOk E M M' (lowFS P o)) : PlaceOk (lowOp P o) Ej Mj M' := by
  have hs : ∀ s, rdSlot (lowOp P o) = some s → slot E s = slot Ej s := fun s hs => by
    obtain ⟨t, ht, rfl⟩ := rdSlot_al (ops := ops) hs
    exact hE t ht
  unfold lowFS at h
  generalize lowOp P o = i at hp hc hs h ⊢
  cases i
  case load1 x =>
    cases x <;> first | trivial | skip
    rename_i s
    obtain ⟨t1, t2, h1⟩ := hp
    have e := hs s rfl
    have h : RdRow M' M (pB (slot E s)) (pOff (slot E s)) 1 := h
    rw [e] at h
    exact ⟨t1, t2, h1.trans h⟩
  case loadN n x =>
    cases x <;> first | trivial | skip
    rename_i s
    obtain ⟨t1, t2, h1⟩ := hp
    have e := hs s rfl
    have h : RdRow M' M (pB (slot E s)) (pOff (slot E s)) n := h
    rw [e] at h
    exact ⟨t1, t2, h1.trans h⟩
  case strOf x =>
    cases x <;> first | trivial | skip
    rename_i s
    have e := hs s rfl
    have h : sLen (slot E s) = 0 ∨ RdRow M' M (sB (slot E s)) (sOff (slot E s)) (sLen (slot E s)) := h
    rw [e] at h
    rcases hp with h0 | ⟨t1, h1⟩
    · exact .inl h0
    · rcases h with h | h
      · exact .inl h
      · exact .inr ⟨t1, h1.trans h⟩
  case look q com agg n r x key =>
    cases x <;> first | trivial | skip
    rename_i s
    have e := hs s rfl
    have h : slot E s = 13 ∨ (hd M' (slot E s / 32) = 1027 ∧ cellAt M' (slot E s / 32) = cellAt M (slot E s / 32)) := h
    rw [e] at h
    rcases hp with h0 | ⟨t1, t2, t3, t4⟩
    · exact .inl h0
    · rcases h with h | ⟨h5, h6⟩
      · exact .inl h
      · exact .inr ⟨t1, t2, h5, h6.trans t4⟩
  all_goals simp [clsI] at hc
theorem w_fin {ahead R : List Nat} {i : Nat} {listed : Array Bool} {Pd : List Item} {E : Fr} {c cc c' cc' : Cf} {aa a : Act} {o : Oper} {w : Nat} {v v' : Value} (hv : Inv P call ops nt n0 c0 kn ahead (i :: R) listed Pd E c cc aa a) (ho : ops[i]? = some o) (hw : wOf P ops i = true) (hd : ∀ d, o.dst = some d → d < nt)
    (hready : ∀ k, bef ops i k → listed.getD k false = true) (h : regDK P call (lowDI P nt ops (ahead ++ [i]) R) (putD o.dst E w) c'.M c'.nm c'.I c'.ni kn = .ok) (hr : HR c') (ib : IB c'.I c'.ni) (hx : Ext c c') (can : HR cc') (hxc : Ext cc cc') (cM : cc'.M = c'.M) (cnm : cc'.nm = c'.nm) (cI : cc'.I = c'.I) (cni : cc'.ni = c'.ni)
    (hwv : WR c'.f c'.I c'.ni w v) (hwc : WR cc'.f cc'.I cc'.ni w v') (hpl : ∀ it ∈ Pd, wantW ops it.o it.E = true → clsI (lowOp P it.o) = 1 → PlaceOk (lowOp P it.o) it.E it.cj.M c'.M) :
    Inv P call ops nt n0 c0 kn (ahead ++ [i]) R (listed.setIfInBounds i true) Pd (putD o.dst E w) c' cc' (aa.put o.dst v') (a.put o.dst v) := by
  have hwl := hwv.lt96
  have hi : i < ops.size := hv.dr.lt i (by simp)
  have hils : i < listed.size := by rw [hv.lsz]; exact hi
  have hun : ∀ it2 ∈ Pd, listed.getD it2.i false = false := fun it2 h2 => (hv.ls it2.i (Array.getElem?_eq_some_iff.1 (hv.items it2 h2).op).1).2 (.inr ⟨it2, h2, rfl⟩)
  have hne : ∀ it ∈ Pd, it.i ≠ i := fun it hm => hv.dr.ne (hv.pah it hm) (by simp)
  have hdst : ∀ it ∈ Pd, ∀ d : Tmp, it.o.dst = some d → o.dst ≠ some d := fun it hm d h1 h2 => hne it hm (hv.dr.dst _ _ _ _ d (hv.items it hm).op ho h1 h2)
  have hnb : ∀ it ∈ Pd, ¬ bef ops i it.i := fun it hm hb => by have := hready _ hb; rw [hun it hm] at this; cases this
  refine ⟨by simpa using hv.dr, hv.down.set hils hready, by simp [hv.lsz], fun j hj => ?_, fun it hm => List.mem_append_left _ (hv.pah it hm), hv.pnd, h, hv.hr0, hr, ib, Ext.trans hv.hr0 hv.ext hx, can, cM, cnm, cI, cni, fun t => ?_, by rw [put_size]; exact hv.asz, by rw [put_size]; exact hv.sz, by rw [put_defers']; exact hv.marks.ext hx, fun it hm => ?_, ⟨fun t hn => ?_, fun it hm d hd' => ?_, fun it hm t ht => ?_, fun it hm hro t ht => ?_⟩, hv.dn⟩
  · rw [getD_set hils]
    by_cases e : j = i
    · subst e
      rw [if_pos rfl]
      refine ⟨fun h => by (cases h), fun h => ?_⟩
      rcases h with h | ⟨it2, h2, h3⟩
      · have hnd := (List.nodup_append.1 hv.dr.nodup).2.1
        exact absurd h (List.nodup_cons.1 hnd).1
      · exact absurd h3 (hne it2 h2)
    · rw [if_neg e, hv.ls j hj]
      simp [e]
  · rw [cell_putD hwl, put_at hv.asz hd]
    split
    · exact hwc
    · exact (hv.cw t).mono hxc.f hxc.I
  · have hI := hv.items it hm
    refine ⟨hI.op, hI.gd, hI.nw, hI.hj, hI.ib, hI.wr, hI.ext.trans hx.I, hI.fx.trans hxc.f, hI.lo, hI.mid, Nat.le_trans hI.hi hx.nm, hI.lt, hI.off, fun q => ⟨(hI.run q).1, (hI.run q).2.trans hx.I⟩, hpl it hm, fun q1 q2 => ?_⟩
    obtain ⟨m1, m2, m3, m4⟩ := hI.mkr q1 q2
    refine ⟨m1, hx.lay _ _ m2, ?_, fun k k1 k2 => ?_⟩
    · cases e : c'.f (it.cj.nm + 1) with
      | none => rfl
      | some F =>
        rcases hx.fN _ _ e with h1 | h1
        · rw [m3] at h1; cases h1
        · have := hI.hi; omega
    · rw [hx.keep _ _ m2 m3 k (by omega) (by omega)]
      exact m4 k k1 k2
  · rw [cell_putD hwl, put_at hv.sz hd]
    split
    · exact hwv
    · exact (hv.slots.s1 t hn).mono hx.f hx.I
  · rw [cell_putD hwl, if_neg (hdst it hm d hd')]
    exact hv.slots.s2 it hm d hd'
  · rcases hv.slots.s3 it hm t ht with h1 | ⟨h1, h2⟩
    · exact .inl h1
    · right
      have h3 : o.dst ≠ some t := fun e => hnb it hm (h2 i o ho e (Ne.symm (hne it hm)) ((hv.ls i hi).2 (.inl (by simp))))
      refine ⟨by rw [put_at hv.sz hd, if_neg h3]; exact h1.mono hx.f hx.I, fun k ok k1 k2 k3 k4 => h2 k ok k1 k2 k3 ?_⟩
      rw [getD_set hils] at k4
      split at k4
      · cases k4
      · exact k4
  · have h2 : o.dst ≠ some t := fun e => (hv.dr.ord (hv.pah it hm) (by simp)).2 (hv.dr.reads _ _ _ _ t ho (hv.items it hm).op hro ht e)
    rw [cell_putD hwl, if_neg h2]
    exact hv.slots.s4 it hm hro t ht
end
end Go.Proofs.YtpjhkpmmbeoghaaGreatDoor.Ev
namespace Go.Proofs.YtpjhkpmmbeoghaaGreatDoor.Ev
open Go
section
variable {P : Program} {call : CallT} {ops : Array Oper} {nt n0 : Nat} {c0 : Cf} {kn : KN}
theorem w_step (hop : OpSnd P call) (hcl : CallLin call) {F : Fence} {n : Nat} (hF : FOK F) {Q : Exit → Act → World → Prop} {ahead R : List Nat} {i : Nat} {listed : Array Bool} {Pd : List Item} {E : Fr} {c cc : Cf} {aa a : Act} (hv : Inv P call ops nt n0 c0 kn ahead (i :: R) listed Pd E c cc aa a) (hw : wOf P ops i = true)
    (hready : ∀ k, bef ops i k → listed.getD k false = true) {K : Act → World → Prop} (hK : ∀ E' c' cc' aa' a', Inv P call ops nt n0 c0 kn (ahead ++ [i]) R (listed.setIfInBounds i true) Pd E' c' cc' aa' a' → K a' c'.w) : wpOpIn F n P ops Q i K a c.w := by
  have hi : i < ops.size := hv.dr.lt i (by simp)
  obtain ⟨o, ho⟩ : ∃ o, ops[i]? = some o := ⟨ops[i], by simp [hi]⟩
  have h := hv.h
  unfold lowDI at h
  simp only [ho, hw, if_true] at h
  have h : riK P call (lowRI P nt ops o) E c.M c.nm c.I c.ni (fun E' M' nm' I' ni' => fltsK (floats P ops ahead i) E c.M M' (regDK P call (lowDI P nt ops (ahead ++ [i]) R) E' M' nm' I' ni' kn)) = .ok := h
  obtain ⟨hd, hg, hcase⟩ := ri_cases h
  have hun : ∀ it2 ∈ Pd, listed.getD it2.i false = false := fun it2 h2 => (hv.ls it2.i (Array.getElem?_eq_some_iff.1 (hv.items it2 h2).op).1).2 (.inr ⟨it2, h2, rfl⟩)
  have hne : ∀ it ∈ Pd, it.i ≠ i := fun it hm => hv.dr.ne (hv.pah it hm) (by simp)
  have hnb : ∀ it ∈ Pd, ¬ bef ops i it.i := fun it hm hb => by have := hready _ hb; rw [hun it hm] at this; cases this
  have hwd : ∀ t ∈ o.looksAt ops, WR c.f c.I c.ni (fcell E t) (a.tmps.getD t undef) := fun t ht => hv.slots.s1 t fun it hm e => by
    rcases hv.dr.looks _ _ _ _ t (hv.items it hm).op ho ht e (hne it hm) with h1 | h1
    · exact hnb it hm h1
    · exact (hv.dr.ord (hv.pah it hm) (by simp)).2 h1
  have hibc : IB cc.I cc.ni := by rw [hv.cI, hv.cni]; exact hv.ib
  have hplace : ∀ {M' : Nat} {k : Res}, fltsK (floats P ops ahead i) E c.M M' k = .ok → k = .ok ∧ ∀ it ∈ Pd, wantW ops it.o it.E = true → clsI (lowOp P it.o) = 1 → PlaceOk (lowOp P it.o) it.E it.cj.M M' := fun {M' k} hf => by
    obtain ⟨h1, h2⟩ := flts_ok _ hf
    refine ⟨h1, fun it hm q1 q2 => ?_⟩
    have hI := hv.items it hm
    have hro : rOf P ops it.i = true := by simp [rOf, hI.op, q2]
    have hE := hv.slots.s4 it hm hro
    refine place_flt (ops := ops) (hI.rd q1 q2) q2 hE ?_
    have hbf : ((Region.before ops).getD i 0).testBit it.i = false := by
      cases hb : ((Region.before ops).getD i 0).testBit it.i with
      | false => rfl
      | true => exact absurd hb (hnb it hm)
    have hmem : (guardOf ops it.o, lowFS P it.o) ∈ floats P ops ahead i := by
      unfold floats
      refine List.mem_filterMap.2 ⟨it.i, List.mem_filter.2 ⟨hv.pah it hm, by rw [hro, hbf]; rfl⟩, ?_⟩
      simp only [hI.op]
    refine h2 _ hmem fun u y hgy => ?_
    have hgy : guardOf ops it.o = some (u, y) := hgy
    unfold guardOf at hgy
    cases hgd : it.o.guard with
    | none => rw [hgd] at hgy; cases hgy
    | some gw =>
      obtain ⟨g, want⟩ := gw
      obtain ⟨t, ht⟩ := hI.gd g want hgd
      simp only [hgd, ht] at hgy
      cases hgy
      simp only [wantW, hgd, ht] at q1
      have hmemt : t ∈ it.o.looksAt ops := by simp [Oper.looksAt, hgd, ht]
      show fcell E t = _
      rw [hE t hmemt]
      exact Nat.eq_of_beq_eq_true q1
  unfold wpOpIn
  simp only [ho]
  rw [want_eq hg hwd]
  rcases hcase with ⟨hwt, hstep⟩ | ⟨hwt, hk⟩
  · rw [if_pos hwt]
    rcases step_lin (P := P) (E := E) (M := c.M) (nm := c.nm) (I := c.I) (ni := c.ni) hcl (lowOp P o) with ⟨w, M1, nm1, I1, ni1, hl⟩ | hno
    · have hgo := hl (fun w M nm I ni => fltsK (floats P ops ahead i) E c.M M (regDK P call (lowDI P nt ops (ahead ++ [i]) R) (putD o.dst E w) M nm I ni kn))
      rw [hstep] at hgo
      have hchk : stepK P call (lowOp P o) E c.M c.nm c.I c.ni (chk w M1 nm1 I1 ni1) = .ok := by rw [hl]; exact chk_self _ _ _ _ _
      have hchk' : stepK P call (lowOp P o) E cc.M cc.nm cc.I cc.ni (chk w M1 nm1 I1 ni1) = .ok := by rw [hv.cM, hv.cnm, hv.cI, hv.cni]; exact hchk
      obtain ⟨hgo, hpl⟩ := hplace hgo.symm
      obtain ⟨aa', w'', word', v', cc', -, -, e1, e2, e3, e4, e5⟩ := wpIn_exists hF (hop o aa cc E _ hchk' (opr_of (ops := ops) fun t _ => hv.cw t) hv.can hibc F n hF)
      obtain ⟨rfl, g1, g2, g3, g4⟩ := chk_ok e1
      refine wpIn_post (fun a' w' hp => ?_) (fun _ _ _ h => h.elim) (hop o a c E _ hchk (opr_of (ops := ops) hwd) hv.hr hv.ib F n hF)
      obtain ⟨word, v, c', rfl, rfl, b1, b2, b3, b4, b5⟩ := hp
      obtain ⟨rfl, k1, k2, k3, k4⟩ := chk_ok b1
      rw [← k1] at hgo hpl
      rw [← k2, ← k3, ← k4] at hgo
      exact hK _ _ _ _ _ (w_fin hv ho hw hd hready hgo b2 b3 b4 e2 e4 (g1.trans k1.symm) (g2.trans k2.symm) (g3.trans k3.symm) (g4.trans k4.symm) b5 e5 hpl)
    · exact absurd hstep (hno _)
  · rw [if_neg (by rw [hwt]; simp)]
    obtain ⟨hk, hpl⟩ := hplace hk
    exact ⟨fun f _ => hF.1 f, hK _ _ _ _ _ (w_fin (v := undef) (v' := undef) hv ho hw hd hready hk hv.hr hv.ib (.refl _) hv.can (.refl _) hv.cM hv.cnm hv.cI hv.cni .undef .undef hpl)⟩
theorem before_mem {l : List Oper} {acc : Array Nat} {j : Nat} {o : Oper} {e : Edge} (hj : acc.size ≤ j) (ho : l[j - acc.size]? = some o) (he : e ∈ o.after.toList) (hb : Region.binds .any e = true) : ((l.foldl stepB acc).getD j 0).testBit e.on = true := by
  induction l generalizing acc with
  | nil => simp at ho
  | cons x l ih =>
    by_cases hj0 : j = acc.size
    · subst hj0
      have : x = o := by simpa using ho
      subst this
      rw [List.foldl_cons, stepB_keep l _ _ (by simp [stepB])]
      have h2 : acc.size < (stepB acc x).size := by simp [stepB]
      have key : ∀ (es : List Edge) (s : Nat), (s.testBit e.on = true ∨ e ∈ es) → (es.foldl (fun s e => if Region.binds .any e then s ||| 2 ^ e.on ||| acc.getD e.on 0 else s) s).testBit e.on = true := by
        intro es
        induction es with
        | nil => intro s h; exact h.resolve_right (by simp)
        | cons y es ih =>
          intro s h
          rw [List.foldl_cons]
          apply ih
          rcases h with h | h
          · left; split
            · simp [Nat.testBit_or, h]
            · exact h
          · rcases List.mem_cons.1 h with rfl | h
            · left; rw [if_pos hb]; simp [Nat.testBit_or, Nat.testBit_two_pow]
            · exact .inr h
      have := key x.after.toList 0 (.inr he)
      rw [Array.foldl_toList] at this
      simpa [Array.getD, stepB] using this
    · have hs : (stepB acc x).size = acc.size + 1 := by simp [stepB]
      rw [List.foldl_cons]
      refine ih (by omega) ?_
      rw [hs]
      rw [show j - acc.size = (j - (acc.size + 1)) + 1 by omega] at ho
      simpa using ho
theorem ready_of {listed : Array Bool} {j : Nat} (hj : j < ops.size) (hu : listed.getD j false = false) (hsz : listed.size = ops.size) (hb : ∀ i, bef ops j i → listed.getD i false = true) : j ∈ Region.ready .any ops listed := by
  unfold Region.ready
  simp only [List.mem_filter, List.mem_range, Bool.and_eq_true, Bool.not_eq_true']
  have hjl : j < listed.size := by omega
  refine ⟨hj, ?_, ?_⟩
  · simpa [Array.getD, hjl] using hu
  · have ho : ops[j]? = some ops[j] := by simp [hj]
    rw [ho]
    simp only [Option.map_some, Option.getD_some]
    refine Array.all_eq_true'.2 fun e he => ?_
    cases hbd : Region.binds .any e with
    | false => rfl
    | true =>
      have : bef ops j e.on := by
        unfold bef
        rw [before_eq]
        exact before_mem (acc := #[]) (by simp) (o := ops[j]) (by simp [hj]) (Array.mem_toList_iff.2 he) hbd
      simp [hb _ this]
end
end Go.Proofs.YtpjhkpmmbeoghaaGreatDoor.Ev
namespace Go.Proofs.YtpjhkpmmbeoghaaGreatDoor.Ev
open Go
section
variable {P : Program} {call : CallT} {ops : Array Oper} {nt n0 : Nat} {c0 : Cf} {kn : KN} {kx : KX}
theorem Inv.none_ready {ahead R : List Nat} {listed : Array Bool} {Pd : List Item} {E : Fr} {c cc : Cf} {aa a : Act} (hv : Inv P call ops nt n0 c0 kn ahead R listed Pd E c cc aa a) (h : Region.ready .any ops listed = []) : ∀ j, j < ops.size → listed.getD j false = true := by
  intro j hj
  cases hu : listed.getD j false with
  | true => rfl
  | false =>
    exfalso
    cases hf : (ahead ++ R).find? (fun j => !listed.getD j false) with
    | none =>
      have := List.find?_eq_none.1 hf j (hv.dr.perm j hj)
      rw [hu] at this; simp at this
    | some k =>
      obtain ⟨h1, as, bs, h2, h3⟩ := List.find?_eq_some_iff_append.1 hf
      have hk : k ∈ ahead ++ R := by rw [h2]; simp
      have hkl := hv.dr.lt k hk
      have hku : listed.getD k false = false := by simpa using h1
      have hdr : Drawn P ops (as ++ k :: bs) := by rw [← h2]; exact hv.dr
      have hr : k ∈ Region.ready .any ops listed := ready_of hkl hku hv.lsz fun i hb => by
        obtain ⟨hi, hne⟩ := hv.dr.small k i hb hkl
        have hil := hdr.perm i hi
        rcases List.mem_append.1 hil with q | q
        · simpa using h3 i q
        · rcases List.mem_cons.1 q with q | q
          · exact absurd q hne
          · exact absurd hb (hdr.head q).2
      rw [h] at hr; cases hr
theorem Inv.over {ahead R : List Nat} {listed : Array Bool} {Pd : List Item} {E : Fr} {c cc : Cf} {aa a : Act} (hv : Inv P call ops nt n0 c0 kn ahead R listed Pd E c cc aa a) (h0 : n0 ≤ c0.w.heap.size) (h : ∀ j, j < ops.size → listed.getD j false = true) : CPost c0 nt n0 kn kx .normal a c.w := by
  have hR : R = [] := List.eq_nil_iff_forall_not_mem.2 fun j hj => by
    have hl := hv.dr.lt j (by simp [hj])
    have := (hv.ls j hl).2 (.inl hj)
    rw [h j hl] at this; cases this
  have hP : Pd = [] := List.eq_nil_iff_forall_not_mem.2 fun it hm => by
    have hl : it.i < ops.size := (Array.getElem?_eq_some_iff.1 (hv.items it hm).op).1
    have := (hv.ls it.i hl).2 (.inr ⟨it, hm, rfl⟩)
    rw [h it.i hl] at this; cases this
  subst hR hP
  exact ⟨E, c, hv.hr, hv.ib, hv.ext, ⟨hv.sz, fun t => hv.slots.s1 t (fun it hm => (by cases hm)), hv.marks, Nat.le_trans h0 hv.ext.size⟩, rfl, .inl ⟨rfl, hv.h⟩⟩
theorem ready_none {listed : Array Bool} (hd : Down ops listed) (h : ∀ j, j < ops.size → listed.getD j false = true) : Region.ready .any ops listed = [] := List.eq_nil_iff_forall_not_mem.2 fun j hj => by
  obtain ⟨h1, h2, -⟩ := ready_spec hd hj
  have h2 : listed.getD j true = false := by
    unfold Region.ready at hj
    simp only [List.mem_filter, List.mem_range, Bool.and_eq_true, Bool.not_eq_true'] at hj
    exact hj.2.1
  have h3 := h j h1
  by_cases hl : j < listed.size
  · simp [Array.getD, hl] at h2 h3
    rw [h2] at h3; cases h3
  · simp [Array.getD, hl] at h3
theorem any_go (hop : OpSnd P call) (hcl : CallLin call) {F : Fence} {n : Nat} (hF : FOK F) (h0 : n0 ≤ c0.w.heap.size) : ∀ (fuel : Nat) (R ahead : List Nat) (listed : Array Bool) (Pd : List Item) (E : Fr) (c cc : Cf) (aa a : Act), Inv P call ops nt n0 c0 kn ahead R listed Pd E c cc aa a → Pd.length + R.length ≤ fuel →
    wpAnyIn F n P .any ops (CPost c0 nt n0 kn kx) fuel listed a c.w := by
  intro fuel
  induction fuel with
  | zero =>
    intro R ahead listed Pd E c cc aa a hv hl
    have hall : ∀ j, j < ops.size → listed.getD j false = true := fun j hj => by
      cases hu : listed.getD j false with
      | true => rfl
      | false =>
        exfalso
        have hR : R = [] := List.eq_nil_of_length_eq_zero (by omega)
        have hP : Pd = [] := List.eq_nil_of_length_eq_zero (by omega)
        subst hR hP
        rcases (hv.ls j hj).1 hu with h | ⟨it, h, -⟩ <;> cases h
    exact ⟨ready_none hv.down hall, hv.over h0 hall⟩
  | succ fuel IH =>
    intro R
    induction R with
    | nil =>
      intro ahead listed Pd E c cc aa a hv hl
      refine ⟨fun h => hv.over h0 (hv.none_ready h), fun i hi => ?_⟩
      obtain ⟨h1, h2, h3⟩ := ready_spec hv.down hi
      rcases (hv.ls i h1).1 (by
        have hl : i < listed.size := by rw [hv.lsz]; exact h1
        simpa [Array.getD, hl] using h2) with h | ⟨it, hm, rfl⟩
      · cases h
      · refine late_step hF hv hm h3 (hv.dn it hm) fun c' a' hv' => IH _ _ _ _ _ _ _ _ _ hv' ?_
        have : (Pd.filter fun x => x.i != it.i).length < Pd.length := List.length_filter_lt_length_iff_exists.2 ⟨it, hm, by simp⟩
        omega
    | cons j R ihR =>
      intro ahead listed Pd E c cc aa a hv hl
      cases hw : wOf P ops j with
      | false =>
        obtain ⟨Pd', E', c', cc', aa', e1, e2, hv'⟩ := absorb hcl hv hw
        rw [← e1]
        exact ihR _ _ _ _ _ _ _ _ hv' (by simp only [List.length_cons] at hl; omega)
      | true =>
        refine ⟨fun h => hv.over h0 (hv.none_ready h), fun i hi => ?_⟩
        obtain ⟨h1, h2, h3⟩ := ready_spec hv.down hi
        have hju : listed.getD j false = false := (hv.ls j (hv.dr.lt j (by simp))).2 (.inl (by simp))
        rcases (hv.ls i h1).1 (by
          have hl : i < listed.size := by rw [hv.lsz]; exact h1
          simpa [Array.getD, hl] using h2) with h | ⟨it, hm, rfl⟩
        · rcases List.mem_cons.1 h with rfl | h
          · exact w_step hop hcl hF hv hw h3 fun E' c' cc' aa' a' hv' => IH _ _ _ _ _ _ _ _ _ hv' (by simp only [List.length_cons] at hl; omega)
          · have := h3 j ((hv.dr.head h).1 hw)
            rw [hju] at this; cases this
        · refine late_step hF hv hm h3 (hv.dn it hm) fun c' a' hv' => IH _ _ _ _ _ _ _ _ _ hv' ?_
          have : (Pd.filter fun x => x.i != it.i).length < Pd.length := List.length_filter_lt_length_iff_exists.2 ⟨it, hm, by simp⟩
          omega
end
theorem eager_len (b : Array Nat) (w : Nat → Bool) (n : Nat) : ∀ k taken, (eagerGo b w n k taken).length ≤ k
  | 0, _ => Nat.le_refl _
  | k + 1, taken => by
    unfold eagerGo
    split
    · simp only [List.length_cons]; have := eager_len b w n k; exact Nat.succ_le_succ (this _)
    · split
      · simp only [List.length_cons]; have := eager_len b w n k; exact Nat.succ_le_succ (this _)
      · simp
theorem regD_ok (P : Program) : RegDSnd P := by
  intro call ops nt n0 E c a kn kx hop hcl hdr h hr hI hf F n hF
  have hd := drawn_of hdr
  have hfalse : ∀ i, (Array.replicate ops.size false).getD i false = false := fun i => by
    by_cases h : i < ops.size <;> simp [Array.getD, h]
  refine any_go (P := P) (call := call) (c0 := c) hop hcl hF hf.low ops.size (eager P ops) [] (Array.replicate ops.size false) [] E c c a a ⟨(by simpa using hd), fun j i hj => (by rw [hfalse] at hj; cases hj), (by simp), fun i hi => ?_, fun it hm => (by cases hm), .nil, h, hr, hr, hI, .refl _, hr, rfl, rfl, rfl, rfl, hf.wr, hf.size, hf.size, hf.marks, fun it hm => (by cases hm),
    ⟨fun t _ => hf.wr t, fun it hm => (by cases hm), fun it hm => (by cases hm), fun it hm => (by cases hm)⟩, fun it hm => (by cases hm)⟩ ?_
  · simp only [hfalse, true_iff]
    exact .inl (hd.perm i hi)
  · simp only [List.length_nil, Nat.zero_add]
    exact eager_len _ _ _ _ _
end Go.Proofs.YtpjhkpmmbeoghaaGreatDoor.Ev
namespace Go.Proofs.YtpjhkpmmbeoghaaGreatDoor.Ev
open Go
theorem evF_sound {P : Program} {bw : Nat} (hng : NoNG P) (hb : BackSnd P bw) (hm : P.follows .mixedOrders = true) (fuel : Nat) : CallSnd P (evF P bw fuel) :=
  evF_ok (fun _ hc => op_ok hng hc) (fun fuel => evF_lin fuel) (regD_ok P) hb hm fuel
end Go.Proofs.YtpjhkpmmbeoghaaGreatDoor.Ev
namespace Go.Proofs.YtpjhkpmmbeoghaaGreatDoor.Ev
open Go Go.RowKit
def BackIt (P : Program) (bw : Nat) : Prop :=
  ∀ (F : Fence) (n : Nat), FOK F → F.round = none → ∀ (l : Nat) (A : Addr) (len : Nat) (J : Nat → World → Prop), A.spot = none → len < 524288 →
    (∀ k W, k < len → J (k + 1) W → ∃ b off cap v, W.cell? A = some (.slice (some ⟨b, off, none⟩) len cap) ∧ W.cell? ⟨b, off + k, none⟩ = some v ∧
      YieldAt F (n - 1) P l #[.int .i64 (k : Nat), v] W fun e W' => e = .returned (.bool true) ∧ J k W') →
    ∀ W, J len W → (∃ a cap, W.cell? A = some (.slice a len cap)) → CallsIn F n P bw #[.func (.yield l) #[] #[], .pointer (some A)] W fun e W' => (∃ v, e = .returned v) ∧ J 0 W'
section
variable {P : Program}
theorem HR.world {c : Cf} (h : HR c) {w' : World} (hs : c.w.heap.size ≤ w'.heap.size) (hk : ∀ b F, c.f b = some F → hd c.M b ≠ 0 → w'.heap[F.blk]? = c.w.heap[F.blk]?) : HR { c with w := w' } where
  mlt := h.mlt
  ilt := h.ilt
  lay0 := h.lay0
  apart := h.apart
  dom := h.dom
  hdr := h.hdr
  cells b F hf hk' := by
    have hk2 : hd c.M b % 4 = 1 := hk'
    obtain ⟨cs, elem, fr, h1, h2⟩ := h.cells b F hf hk2
    exact ⟨cs, elem, fr, (hk b F hf (by omega)).trans h1, h2⟩
  maps b F hf hk' := by
    have hk2 : hd c.M b % 4 = 3 := hk'
    obtain ⟨h0, es, clock, b', k', h1, h2⟩ := h.maps b F hf hk2
    exact ⟨h0, es, clock, b', k', (hk b F hf (by omega)).trans h1, h2⟩
  lt b F hf := Nat.lt_of_lt_of_le (h.lt b F hf) hs
  inj := h.inj
theorem Ext.world {c0 c : Cf} (he : Ext c0 c) {w' : World} (hs : c.w.heap.size ≤ w'.heap.size) (hk : ∀ k, k < c0.w.heap.size → w'.heap[k]? = c.w.heap[k]?) (ht : w'.tape = c.w.tape ∧ w'.os = c.w.os ∧ w'.output = c.w.output) : Ext c0 { c with w := w' } :=
  ⟨he.lay, he.layN, he.f, he.fN, he.I, he.nm, he.keep, ⟨ht.1.trans he.tape.1, ht.2.1.trans he.tape.2.1, ht.2.2.trans he.tape.2.2⟩, Nat.le_trans he.size hs, fun k q1 q2 => (hk k q1).trans (he.frame k q1 q2), he.img⟩
def Free (c : Cf) (k : Nat) : Prop := ∀ b F, c.f b = some F → hd c.M b ≠ 0 → F.blk ≠ k
theorem Free.ext {c c' : Cf} {k : Nat} (h : Free c k) (he : Ext c c') (hk : k < c.w.heap.size) : Free c' k := fun b F e1 e2 e3 => by
  obtain ⟨b0, F0, q1, q2, q3⟩ := he.img b F e1 e2 (e3 ▸ hk)
  exact h b0 F0 q1 q2 (q3.trans e3)
theorem MarksOk.put {c : Cf} {n0 k : Nat} {ds : List Deferred} {r : Loop} (hm : MarksOk c n0 ds) (hl : c.w.heap[k]? = some (.loop r)) (o : Obj) : MarksOk { c with w := c.w.putObj k o } n0 ds := by
  refine ⟨hm.1, fun d hd => ?_⟩
  obtain ⟨D, h1, h0, h2, h3⟩ := hm.2 d hd
  refine ⟨D, h1, h0, ?_, h3⟩
  have : D ≠ k := fun e => by subst e; rw [hl] at h2; cases h2
  exact (World.putObj_heap_other this).trans h2
theorem FR.putObj {c : Cf} {E : Fr} {nt n0 k : Nat} {a : Act} {r : Loop} (hf : FR c E a nt n0) (hl : c.w.heap[k]? = some (.loop r)) (o : Obj) : FR { c with w := c.w.putObj k o } E a nt n0 :=
  ⟨hf.size, hf.wr, hf.marks.put hl o, by show n0 ≤ (c.w.putObj k o).heap.size; rw [World.putObj_size]; exact hf.low⟩
theorem HR.putObj {c : Cf} (h : HR c) {k : Nat} (hk : Free c k) (o : Obj) : HR { c with w := c.w.putObj k o } := h.turn rfl hk
theorem Ext.putObj {c0 c : Cf} (he : Ext c0 c) {k : Nat} (hk : c0.w.heap.size ≤ k) (o : Obj) : Ext c0 { c with w := c.w.putObj k o } := he.turn rfl ⟨rfl, rfl, rfl⟩ hk
theorem backSnd {bw : Nat} (hbf : ∀ args w, (callFunc bw args).run P w = .ok (.enter bw args) w) (hit : BackIt P bw) : BackSnd P bw := by
  intro f ps assign body ia ib nt n0 E c a kn kx hia hib hps hna hnb h hr hI hf F n hF hro
  obtain ⟨p, p', hpp, hp, hp'⟩ : ∃ p p', ps = #[p, p'] ∧ p < nt ∧ p' < nt := by
    obtain ⟨h1, h2⟩ := Bool.and_eq_true_iff.1 hps
    obtain ⟨l, rfl⟩ : ∃ l, ps = l.toArray := ⟨ps.toList, by simp⟩
    have h1 : l.length = 2 := Nat.eq_of_beq_eq_true h1
    obtain ⟨p, p', rfl⟩ : ∃ p p', l = [p, p'] := by
      match l, h1 with
      | [p, p'], _ => exact ⟨p, p', rfl⟩
    have h2 : (and (Nat.blt p nt) (and (Nat.blt p' nt) true)) = true := h2
    simp only [Bool.and_true] at h2
    obtain ⟨h3, h4⟩ := Bool.and_eq_true_iff.1 h2
    exact ⟨p, p', rfl, blt_iff.1 h3, blt_iff.1 h4⟩
  subst hpp
  unfold backK at h
  obtain ⟨w, I1, n1, ha, hi1, hw⟩ := opdK_ok h (hf.opR f) hI
  clear h
  obtain ⟨h1, hb0⟩ := iff_bad ha
  clear ha
  obtain ⟨h2, h⟩ := iff_bad hb0
  clear hb0
  obtain ⟨h2, h3⟩ := Bool.and_eq_true_iff.1 h2
  have h2 : w / 32 % 1048576 = bw := Nat.eq_of_beq_eq_true h2
  have h3 : w / 562949953421312 = 1 := Nat.eq_of_beq_eq_true h3
  obtain ⟨fn, b, m, cs, hev, hcs, hm, hfn, hb, hbi, hwc, rfl⟩ := hw.inv_func (tg_ok h1)
  obtain rfl : fn = bw := by omega
  obtain rfl : m = 1 := by omega
  have eb : Nat.mod (Nat.div (14 + 32 * (fn + 1048576 * (b + 16777216 * 1))) 33554432) 16777216 = b := by
    show (14 + 32 * (fn + 1048576 * (b + 16777216 * 1))) / 33554432 % 16777216 = b
    omega
  simp only [eb] at h
  have hq := hwc 0 (by omega)
  rw [Nat.add_zero] at hq
  generalize cellAt I1 b = q at h hq
  obtain ⟨bq, oq, Fq, hbq, hbq2, hfq, hoq, epB, epO, hcv, h⟩ := ptrIn_ok h hq
  rw [epB, epO] at h
  obtain ⟨hk1, ho1, h⟩ := inK_ok h
  obtain ⟨hs0, h⟩ := iff_bad h
  have hr1 : HR { c with I := I1, ni := n1 } := hr.growI hi1.ext hi1.lt.1
  obtain ⟨sv, hsc, hsw, -⟩ := hr1.load (b := bq) (F := Fq) hfq hk1 (off := oq) (by show oq < hd c.M bq / 1024; omega)
  have hsw : WR c.f I1 n1 (cellAt c.M (bq + oq)) sv := hsw
  have hadd : Nat.add bq oq = bq + oq := rfl
  rw [hadd] at h hs0
  obtain ⟨s, hs⟩ : ∃ s, s = cellAt c.M (bq + oq) := ⟨_, rfl⟩
  rw [← hs] at h hs0 hsw
  obtain ⟨a0, cap0, hsv, hlt⟩ : ∃ a0 cap0, sv = .slice a0 (sLen s) cap0 ∧ sLen s < 524288 := by
    rcases hsw.inv_slice (tg_ok hs0) with ⟨rfl, e⟩ | ⟨b', off, len, sz, cap, ex, F', A, c', g1, g2, g3, g4, g5, g6, g7, g8, g9, g10, g11, rfl, e⟩
    · exact ⟨none, 0, e, by decide⟩
    · have : sLen (11 + 32 * (off + 4194304 * (b' + 4194304 * (len + 524288 * (sz + 256 * (ex.toNat + 2 * cap)))))) = len := by
        have : ex.toNat ≤ 1 := by { cases ex <;> decide }
        show (11 + 32 * (off + 4194304 * (b' + 4194304 * (len + 524288 * (sz + 256 * (ex.toNat + 2 * cap)))))) / 562949953421312 % 524288 = len
        omega
      exact ⟨some A, c', by rw [this]; exact e, by omega⟩
  obtain ⟨rc, hrc⟩ : ∃ rc : Nat → Nat → Nat → Nat → Nat → Res, rc = @Nat.rec (fun _ => Nat → Nat → Nat → Nat → Res) (fun M nm I ni => kn E M nm I ni)
        (fun m ih M nm I ni => inK M bq oq 1 (iff (Nat.beq (cellAt M (bq + oq)) s) (inK M (sB s) (Nat.add (sOff s) m) 1
          (ia (putS (putS E (Nat.mul 96 p) (Nat.add 295147905179352825861 (Nat.mul 32 m))) (Nat.mul 96 p') (cellAt M (Nat.add (sB s) (Nat.add (sOff s) m)))) M nm I ni (fun E M nm I ni => ib E M nm I ni (fun _ M nm I ni => ih M nm I ni) (fun x _ _ _ _ _ => .bad 74 x)) (fun x _ _ _ _ _ => .bad 74 x))) (.bad 74 2))) := ⟨_, rfl⟩
  have h : rc (sLen s) c.M c.nm I1 n1 = .ok := by rw [hrc]; exact h
  refine wpIn_rangeFunc fun fn0 hfn0 => ?_
  rw [hro]
  obtain ⟨rec, hrec⟩ : ∃ rec : LoopState → Option Code → Loop, rec = fun st pe => { state := st, pending := pe, fn := fn0, tmps := a.tmps, params := #[p, p'], assign, body, defers := c.w.heap.size } := ⟨_, rfl⟩
  obtain ⟨W1, hW1⟩ : ∃ W1, (c.w.alloc (.deferred (some []))).alloc (.loop (rec .ready none)) = W1 := ⟨_, rfl⟩
  have hL1 : W1.heap[c.w.heap.size + 1]? = some (.loop (rec .ready none)) := by
    rw [← hW1]; have := World.alloc_heap_new (c.w.alloc (.deferred (some []))) (.loop (rec .ready none)); rwa [World.size_alloc] at this
  have hsz1 : W1.heap.size = c.w.heap.size + 2 := by rw [← hW1]; simp
  have hold : ∀ k, k < c.w.heap.size → W1.heap[k]? = c.w.heap[k]? := fun k hk => by
    rw [← hW1]; exact (Below.heap_alloc _ _ _ (by simp; omega)).trans (Below.heap_alloc _ _ _ hk)
  have hK1 : W1.heap[c.w.heap.size]? = some (.deferred (some [])) := by
    rw [← hW1]; exact (Below.heap_alloc _ _ _ (by simp)).trans (World.alloc_heap_new c.w _)
  obtain ⟨ht1, ht2, ht3⟩ : W1.tape = c.w.tape ∧ W1.os = c.w.os ∧ W1.output = c.w.output := by rw [← hW1]; exact ⟨rfl, rfl, rfl⟩
  obtain ⟨K, hKe⟩ : ∃ K, K = c.w.heap.size := ⟨_, rfl⟩
  have ev : a.eval f = .func (.func fn) #[] #[.pointer (some ⟨Fq.blk, Fq.base + oq, none⟩)] := by
    rw [hev]
    congr 1
    obtain ⟨l, rfl⟩ : ∃ l, cs = l.toArray := ⟨cs.toList, by simp⟩
    match l, hcs, hcv with
    | [x], _, hcv => simp at hcv; rw [hcv]
  obtain ⟨J, hJ⟩ : ∃ J : Nat → World → Prop, J = fun k W => ∃ c' : Cf, c'.w = W ∧ HR c' ∧ IB c'.I c'.ni ∧ Ext { c with I := I1, ni := n1 } c' ∧ rc k c'.M c'.nm c'.I c'.ni = .ok ∧
      W.heap[K + 1]? = some (.loop (rec .ready none)) ∧ W.heap[K]? = some (.deferred (some [])) ∧ Free c' (K + 1) ∧ Free c' K := ⟨_, rfl⟩
  have hJ1 : J (sLen s) W1 := by
    rw [hJ]
    refine ⟨{ c with I := I1, ni := n1, w := W1 }, rfl, hr1.world (by show c.w.heap.size ≤ W1.heap.size; omega) (fun b F e _ => hold _ (hr.lt b F e)), hi1.lt, (Ext.refl { c with I := I1, ni := n1 }).world (by show c.w.heap.size ≤ W1.heap.size; omega) hold ⟨ht1, ht2, ht3⟩, h, by rw [hKe]; exact hL1, by rw [hKe]; exact hK1, ?_, ?_⟩
    · intro b F e _ e3; have := hr.lt b F e; omega
    · intro b F e _ e3; have := hr.lt b F e; omega
  refine ⟨c.w.heap.size + 1, [{ target := .collected c.w.heap.size, args := #[] }], W1, { target := .fn (.func fn) #[.pointer (some ⟨Fq.blk, Fq.base + oq, none⟩)], args := #[.func (.yield (c.w.heap.size + 1)) #[] #[]] }, W1, fn,
    #[.func (.yield (c.w.heap.size + 1)) #[] #[]] ++ #[.pointer (some ⟨Fq.blk, Fq.base + oq, none⟩)], W1, ?_, ?_, ?_, ?_, fun hd => absurd hd (by rw [hF.2.1]; simp), ?_⟩
  · rw [← hW1, hrec]; exact run_enterLoop_outer _ _ _ _ _
  · simp only [resolve, ev]
    simp [go_sem]
  · intro f' hf'; exact hF.1 _
  · simp [invoke, go_sem, hbf]
  · refine (hit F (n - 1) hF hro (c.w.heap.size + 1) ⟨Fq.blk, Fq.base + oq, none⟩ (sLen s) J rfl hlt ?_ W1 hJ1 ⟨a0, cap0, ?_⟩).mono ?_
    · intro k W hkl hk
      rw [hJ] at hk
      obtain ⟨c', rfl, hr', hI', he', hg, hl, hkD, hfl, hfk⟩ := hk
      rw [hrc] at hg
      obtain ⟨q1, q2, hg1⟩ := inK_ok hg
      clear hg
      obtain ⟨q3, hg2⟩ := iff_bad hg1
      clear hg1
      have q3 : cellAt c'.M (bq + oq) = s := Nat.eq_of_beq_eq_true q3
      obtain ⟨q4, q5, hg⟩ := inK_ok hg2
      clear hg2
      have hfq' : c'.f bq = some Fq := he'.f bq Fq hfq
      obtain ⟨sv', hsc', hsw', -⟩ := hr'.load (b := bq) (F := Fq) hfq' q1 (off := oq) (by omega)
      rw [q3] at hsw'
      rcases hsw'.inv_slice (tg_ok hs0) with ⟨e0, e⟩ | ⟨b', off, len, sz, cap, ex, F', A, c2, g1, g2, g3, g4, g5, g6, g7, g8, g9, g10, g11, e0, e⟩
      · exfalso; rw [e0] at hkl; exact Nat.not_lt_zero k hkl
      · have hx1 : ex.toNat ≤ 1 := by { cases ex <;> decide }
        have eB : sB s = b' := by rw [e0]; show (11 + 32 * (off + 4194304 * (b' + 4194304 * (len + 524288 * (sz + 256 * (ex.toNat + 2 * cap)))))) / 134217728 % 4194304 = b'; omega
        have eO : sOff s = off := by rw [e0]; show (11 + 32 * (off + 4194304 * (b' + 4194304 * (len + 524288 * (sz + 256 * (ex.toNat + 2 * cap)))))) / 32 % 4194304 = off; omega
        have eL : sLen s = len := by rw [e0]; show (11 + 32 * (off + 4194304 * (b' + 4194304 * (len + 524288 * (sz + 256 * (ex.toNat + 2 * cap)))))) / 562949953421312 % 524288 = len; omega
        have hc2 : c2 ≠ 0 := by
          cases ex with
          | true => have := g9 rfl; omega
          | false => have := (g10 rfl).1; omega
        have hA := g11 hc2
        rw [eB] at q4; rw [eB, eO] at q5 hg
        have hadd2 : Nat.add off k = off + k := rfl
        rw [hadd2] at q5 hg
        obtain ⟨v, hvc, hvw, -⟩ := hr'.load (b := b') (F := F') g3 q4 (off := off + k) (by omega)
        refine ⟨F'.blk, F'.base + off, c2, v, ?_, ?_, ?_⟩
        · rw [hsc', e, hA, eL]
        · rw [Nat.add_assoc]; exact hvc
        have hlt : K + 1 < c'.w.heap.size := (Array.getElem?_eq_some_iff.1 hl).1
        have hy := run_yield (P := P) (args := #[.int .i64 (k : Nat), v]) hl (by rw [hrec]; rfl)
        rw [hrec] at hy
        rw [hKe] at hy
        refine ⟨fn0, _, assign, body, hy, roundIn_of_wpIn hfn0 ?_⟩
        clear hy
        have hg : ia (putS (putS E (96 * p) (295147905179352825861 + 32 * k)) (96 * p') (cellAt c'.M (b' + (off + k)))) c'.M c'.nm c'.I c'.ni (fun E M nm I ni => ib E M nm I ni (fun _ M nm I ni => rc k M nm I ni) (fun x _ _ _ _ _ => .bad 74 x)) (fun x _ _ _ _ _ => .bad 74 x) = .ok := by rw [hrc]; rw [eB, eO]; exact hg
        have hiw : WR c'.f c'.I c'.ni (295147905179352825861 + 32 * k) (.int .i64 (k : Nat)) := by
          have := WR.int (f := c'.f) (I := c'.I) (ni := c'.ni) .i64 (k : Int) (9223372036854775808 + k) (by simp [bias]; omega) (by omega)
          have e9 : tagI .i64 + 32 * (9223372036854775808 + k) = 295147905179352825861 + 32 * k := by simp only [tagI]; omega
          rwa [e9] at this
        have hfa : FR c' E { tmps := a.tmps, defers := [] } nt 0 := ⟨hf.size, fun t => (hf.wr t).mono (he'.f) (hi1.ext.trans he'.I), ⟨.nil, fun d hd => by cases hd⟩, Nat.zero_le _⟩
        have hfb := (hfa.put hp hiw).put hp' hvw
        have ea : Array.foldl (fun t (x : Tmp × Value) => t.setIfInBounds x.1 x.2) a.tmps ((#[p, p'] : Array Tmp).zip #[.int .i64 (k : Nat), v]) = (a.tmps.setIfInBounds p (.int .i64 (k : Nat))).setIfInBounds p' v := by simp
        show Code.wpIn _ _ _ _ _ { tmps := Array.foldl (fun t (x : Tmp × Value) => t.setIfInBounds x.1 x.2) a.tmps ((#[p, p'] : Array Tmp).zip #[.int .i64 (k : Nat), v]), defers := [] } _
        rw [ea]
        refine wpIn_mono (hia 0 _ c' _ _ _ hg hr' hI' hfb (F.inRound _) (n - 1 - 1) hF (.inr hna)) ?_
        rintro e1 a1 w1 ⟨E1, c1, x1, x2, x3, x4, rfl, x6⟩
        rcases x6 with ⟨rfl, x7⟩ | ⟨rfl, x7⟩ | ⟨id, rfl, x7⟩
        case inr.inl => cases x7
        case inr.inr => cases x7
        have hl1 : c1.w.heap[K + 1]? = some (.loop (rec .ready none)) := (x3.frame (K + 1) hlt hfl).trans hl
        have hkD1 : c1.w.heap[K]? = some (.deferred (some [])) := (x3.frame K (by omega) hfk).trans hkD
        have hfl1 : Free c1 (K + 1) := hfl.ext x3 hlt
        have hfk1 : Free c1 K := hfk.ext x3 (by omega)
        have hlt1 : K + 1 < c1.w.heap.size := (Array.getElem?_eq_some_iff.1 hl1).1
        refine ⟨_, by rw [← hKe]; exact run_beginRound hl1 (by rw [hrec]), ?_⟩
        have y1 := x1.putObj hfl1 (.loop { rec .ready none with state := .busy })
        have y3 := (he'.trans (hr1) x3).putObj (k := K + 1) (by show c.w.heap.size ≤ K + 1; omega) (.loop { rec .ready none with state := .busy })
        have y4 := x4.putObj hl1 (.loop { rec .ready none with state := .busy })
        refine wpIn_mono (hib 0 _ { c1 with w := c1.w.putObj (K + 1) (.loop { rec .ready none with state := .busy }) } _ _ _ x7 y1 x2 y4 (F.inRound _) (n - 1 - 1) hF (.inr hnb)) ?_
        rintro e2 a2 w2 ⟨E2, c2', z1, z2, z3, z4, rfl, z6⟩
        rcases z6 with ⟨rfl, z7⟩ | ⟨rfl, z7⟩ | ⟨id, rfl, z7⟩
        case inr.inl => cases z7
        case inr.inr => cases z7
        have hlb : (c1.w.putObj (K + 1) (.loop { rec .ready none with state := .busy })).heap[K + 1]? = some (.loop { rec .ready none with state := .busy }) := World.putObj_heap_same hlt1
        have hkb : (c1.w.putObj (K + 1) (.loop { rec .ready none with state := .busy })).heap[K]? = some (.deferred (some [])) := (World.putObj_heap_other (by omega)).trans hkD1
        have hszb : K + 1 < (c1.w.putObj (K + 1) (.loop { rec .ready none with state := .busy })).heap.size := by rw [World.putObj_size]; exact hlt1
        have hl2 : c2'.w.heap[K + 1]? = some (.loop { rec .ready none with state := .busy }) := (z3.frame (K + 1) hszb hfl1).trans hlb
        have hkD2 : c2'.w.heap[K]? = some (.deferred (some [])) := (z3.frame K (by show K < (c1.w.putObj _ _).heap.size; omega) hfk1).trans hkb
        have hfl2 : Free c2' (K + 1) := Free.ext (c := { c1 with w := c1.w.putObj (K + 1) (.loop { rec .ready none with state := .busy }) }) hfl1 z3 hszb
        have hfk2 : Free c2' K := Free.ext (c := { c1 with w := c1.w.putObj (K + 1) (.loop { rec .ready none with state := .busy }) }) hfk1 z3 (by show K < (c1.w.putObj _ _).heap.size; omega)
        have hend := run_endRound (P := P) none hl2
        have er : ({ ({ rec .ready none with state := .busy } : Loop) with state := if (none : Option Code).isNone then .ready else .done, pending := none } : Loop) = rec .ready none := by rw [hrec]; rfl
        rw [er] at hend
        refine ⟨_, _, by rw [← hKe]; exact hend, rfl, ?_⟩
        rw [hJ]
        have z3' := (y3.trans hr1 z3).putObj (k := K + 1) (by show c.w.heap.size ≤ K + 1; omega) (.loop (rec .ready none))
        exact ⟨{ c2' with w := c2'.w.putObj (K + 1) (.loop (rec .ready none)) }, rfl, z1.putObj hfl2 _, z2, z3', z7, World.putObj_heap_same (Array.getElem?_eq_some_iff.1 hl2).1, (World.putObj_heap_other (by omega)).trans hkD2, hfl2, hfk2⟩
    · rw [← hsv]
      have := hsc
      unfold World.cell? at this ⊢
      simp only at this ⊢
      rw [hold _ (hr.lt bq Fq hfq)]
      exact this
    · rintro e W2 ⟨⟨v, rfl⟩, hj⟩
      rw [hJ] at hj
      obtain ⟨c', rfl, hr', hI', he', hg, hl, hkD, hfl, hfk⟩ := hj
      rw [hrc] at hg
      have hend := run_endLoop (P := P) hl (by rw [hrec]; simp)
      refine ⟨none, _, by rw [← hKe]; rw [hend]; rw [hrec], ?_⟩
      have hec : Ext c { c' with w := c'.w.putObj (K + 1) (.loop { rec .ready none with state := .exhausted }) } := ((Ext.growI hi1.ext).trans hr he').putObj (k := K + 1) (by omega) _
      refine ⟨E, { c' with w := c'.w.putObj (K + 1) (.loop { rec .ready none with state := .exhausted }) }, hr'.putObj hfl _, hI', hec, ⟨hf.size, fun t => (hf.wr t).mono hec.f hec.I, ?_, Nat.le_trans hf.low hec.size⟩, ?_, .inl ⟨rfl, hg⟩⟩
      · have hm := hf.marks.ext hec
        refine ⟨?_, ?_⟩
        · simp only [List.cons_append, List.nil_append]
          refine List.pairwise_cons.2 ⟨fun d hd => ?_, hm.1⟩
          obtain ⟨D, h1, h0, h2, h3⟩ := hf.marks.2 d hd
          have : D < c.w.heap.size := (Array.getElem?_eq_some_iff.1 h2).1
          rw [h1]
          intro e
          simp only [Target.collected.injEq] at e
          omega
        · intro d hd
          simp only [List.cons_append, List.nil_append, List.mem_cons] at hd
          rcases hd with rfl | hd
          · refine ⟨K, by rw [hKe], by rw [hKe]; exact hf.low, (World.putObj_heap_other (by omega)).trans hkD, hfk⟩
          · exact hm.2 d hd
      · rw [hrec]
end
end Go.Proofs.YtpjhkpmmbeoghaaGreatDoor.Ev
namespace Go.Proofs.YtpjhkpmmbeoghaaGreatDoor.Ev
open Go
section
variable {β : Type}
def zf : Fr := fun _ => 0
def tk (_ t : Nat) : Nat := t
def jn (Y : β) (X : β → Res) : Res := X Y
end
noncomputable section
variable {β : Type}
def lp (B : Nat → β → β) (z : β) : β := @Nat.rec (fun _ => β) z (fun n ih => B n ih) LF
def cnd (w : Nat) (a b : Res) : Res := iff (Nat.beq w 33) a (iff (Nat.beq w 1) b (.bad 63 w))
def gd (w want : Nat) (a b : Res) : Res := iff (Nat.beq w want) a b
def ad (x y : Nat) (k : Nat → Res) : Res := iff (tg x 5) (iff (tg y 5) (k (addW x y)) (.bad 5 2)) (.bad 5 3)
def adt (n x y : Nat) (k : Nat → Res) : Res := iff (tg x 5) (iff (tg y 5) (k (tk n (addW x y))) (.bad 5 2)) (.bad 5 3)
def sb (x y : Nat) (k : Nat → Res) : Res := iff (tg x 5) (iff (tg y 5) (k (subW x y)) (.bad 6 2)) (.bad 6 3)
def sbt (n x y : Nat) (k : Nat → Res) : Res := iff (tg x 5) (iff (tg y 5) (k (tk n (subW x y))) (.bad 6 2)) (.bad 6 3)
def eq (t x y : Nat) (k : Nat → Res) : Res := iff (tg x t) (iff (tg y t) (k (bw01 (Nat.beq x y))) (.bad 8 0)) (.bad 8 1)
def ne (t x y : Nat) (k : Nat → Res) : Res := iff (tg x t) (iff (tg y t) (k (bw01 (not (Nat.beq x y)))) (.bad 8 0)) (.bad 8 1)
def lt (t x y : Nat) (k : Nat → Res) : Res := iff (tg x t) (iff (tg y t) (k (bw01 (Nat.blt x y))) (.bad 8 2)) (.bad 8 3)
def ge (t x y : Nat) (k : Nat → Res) : Res := iff (tg x t) (iff (tg y t) (k (bw01 (not (Nat.blt x y)))) (.bad 8 2)) (.bad 8 3)
def ln (x : Nat) (k : Nat → Res) : Res := iff (tg x 11) (k (Nat.add 295147905179352825861 (Nat.mul 32 (Nat.mod (Nat.div x 562949953421312) 524288)))) (.bad 10 0)
def ia (sz x i : Nat) (k : Nat → Res) : Res := iff (tg x 11) (natK i fun n => iff (Nat.blt n (sLen x)) (iff (Nat.blt (Nat.add (sOff x) (Nat.mul n sz)) 16777216) (k (ptrW (sB x) (Nat.add (sOff x) (Nat.mul n sz)))) (.bad 11 2)) (.bad 12 n)) (.bad 12 0)
def fa (off x : Nat) (k : Nat → Res) : Res := iff (tg x 10) (iff (Nat.blt 10 x) (iff (Nat.blt (Nat.add (pOff x) off) 16777216) (k (ptrW (pB x) (Nat.add (pOff x) off))) (.bad 11 2)) (.bad 13 0)) (.bad 13 1)
def f1 (t off x I : Nat) (k : Nat → Res) : Res := iff (tg x t) (iff (Nat.blt off (gN x)) (k (cellAt I (Nat.add (gB x) off))) (.bad 14 0)) (.bad 14 1)
def ld (x M : Nat) (k : Nat → Res) : Res := ptrIn x (inK M (pB x) (pOff x) 1 (k (cellAt M (Nat.add (pB x) (pOff x)))))
def pk (c a b : Nat) (k : Nat → Res) : Res := iff (tg c 1) (k (selB (Nat.beq c 33) a b)) (.bad 4 c)
def rtn (n : Nat) (ws : List Nat) (M nm I ni : Nat) (kf : KF) : Res := growK I ni n (rowOf ws) fun I' ni' => kf (Nat.add 19 (Nat.mul 32 (Nat.add ni (Nat.mul 16777216 n)))) M nm I' ni'
def flL (w n M M' : Nat) (k : Res) : Res := ptrIn w (inK M' (pB w) (pOff w) n (iff (Nat.beq (rowAt M' (Nat.add (pB w) (pOff w)) n) (rowAt M (Nat.add (pB w) (pOff w)) n)) k (.bad 75 0)))
def flM (w M M' : Nat) (k : Res) : Res := iff (Nat.beq w 13) k (iff (tg w 13) (iff (Nat.beq (hdW M' (Nat.div w 32)) 1027) (iff (Nat.beq (cellAt M' (Nat.div w 32)) (cellAt M (Nat.div w 32))) k (.bad 75 4)) (.bad 75 5)) (.bad 75 6))
def flG (g want : Nat) (f : Res → Res) (k : Res) : Res := iff (Nat.beq g want) (f k) k
def backG (bw w M nm I ni : Nat) (body : Nat → Nat → Nat → Nat → Nat → Nat → (Nat → Nat → Nat → Nat → Res) → Res) (k : Nat → Nat → Nat → Nat → Res) : Res :=
  iff (tg w 14) (iff (and (Nat.beq (Nat.mod (Nat.div w 32) 1048576) bw) (Nat.beq (Nat.div w 562949953421312) 1))
    (let q := cellAt I (Nat.mod (Nat.div w 33554432) 16777216)
     ptrIn q (inK M (pB q) (pOff q) 1
      (let s := cellAt M (Nat.add (pB q) (pOff q))
       iff (tg s 11) (@Nat.rec (fun _ => Nat → Nat → Nat → Nat → Res) (fun M nm I ni => k M nm I ni)
        (fun m ih M nm I ni => inK M (pB q) (pOff q) 1 (iff (Nat.beq (cellAt M (Nat.add (pB q) (pOff q))) s) (inK M (sB s) (Nat.add (sOff s) m) 1
          (let v := cellAt M (Nat.add (sB s) (Nat.add (sOff s) m))
           body (Nat.add 295147905179352825861 (Nat.mul 32 m)) v M nm I ni (fun M nm I ni => ih M nm I ni))) (.bad 74 2))) (sLen s) M nm I ni) (.bad 74 3)))) (.bad 74 4)) (.bad 74 5)
def un0 (g : Nat → Nat → Nat → Nat → KF → Res) (ws : List Nat) : Nat → Nat → Nat → Nat → KF → Res := @List.rec Nat (fun _ => Nat → Nat → Nat → Nat → KF → Res) g (fun _ _ _ _ _ _ _ _ => .bad 65 0) ws
def unS (g : Nat → List Nat → Nat → Nat → Nat → Nat → KF → Res) (ws : List Nat) : Nat → Nat → Nat → Nat → KF → Res := @List.rec Nat (fun _ => Nat → Nat → Nat → Nat → KF → Res) (fun _ _ _ _ _ => .bad 65 1) (fun w r _ => g w r) ws
end
section
variable {β : Type} {P : Program} {bw nt : Nat} {call : CallT} {E : Fr} {M nm I ni : Nat} {kn : KN} {kx : KX} {kf : KF}
theorem sq_ok (emb : β → KN) {x y : Code} {Y : β} {X : β → Res} (hy : ∀ E M nm I ni, codeK P bw call nt y E M nm I ni kn kx = emb Y E M nm I ni) (hx : ∀ j, codeK P bw call nt x E M nm I ni (emb j) kx = X j) : codeK P bw call nt (.seq x y) E M nm I ni kn kx = jn Y X := by
  have e : (fun E M nm I ni => codeK P bw call nt y E M nm I ni kn kx) = emb Y := by funext E M nm I ni; exact hy E M nm I ni
  show codeK P bw call nt x E M nm I ni (fun E M nm I ni => codeK P bw call nt y E M nm I ni kn kx) kx = X Y
  rw [e]; exact hx Y
theorem cn_ok {c : Operand} {x y : Code} {w : Nat} {A B : Res} (hw : lowOpd c = .s w) (hx : codeK P bw call nt x E M nm I ni kn kx = A) (hy : codeK P bw call nt y E M nm I ni kn kx = B) : codeK P bw call nt (.cond c x y) E M nm I ni kn kx = cnd (E w) A B := by
  show condK (lowOpd c) E M nm I ni (codeK P bw call nt x) (codeK P bw call nt y) kn kx = _
  rw [hw, ← hx, ← hy]; rfl
theorem bl_ok {id : Nat} {b : Code} {T : Res} (h : codeK P bw call nt b E M nm I ni kn (fun x E M nm I ni => iff (Nat.beq x (Nat.succ id)) (kn E M nm I ni) (kx x E M nm I ni)) = T) : codeK P bw call nt (.block id b) E M nm I ni kn kx = T := h
theorem sc_ok {b : Code} {T : Res} (h : codeK P bw call nt b E M nm I ni kn kx = T) : codeK P bw call nt (.scope b) E M nm I ni kn kx = T := h
theorem lo_ok (emb : β → KN) {b : Code} {B : Nat → β → β} {z : β} (hz : ∀ E M nm I ni, emb z E M nm I ni = .bad 73 0) (hb : ∀ n j E M nm I ni, codeK P bw call nt b E M nm I ni (emb j) kx = emb (B n j) E M nm I ni) : codeK P bw call nt (.loop b) E M nm I ni kn kx = emb (lp B z) E M nm I ni := by
  show loopK (codeK P bw call nt b) kx LF E M nm I ni = emb (@Nat.rec (fun _ => β) z (fun n ih => B n ih) LF) E M nm I ni
  generalize LF = m
  have : loopK (codeK P bw call nt b) kx m = emb (@Nat.rec (fun _ => β) z (fun n ih => B n ih) m) := by
    induction m with
    | zero => funext E M nm I ni; exact (hz E M nm I ni).symm
    | succ m ih =>
      funext E M nm I ni
      show codeK P bw call nt b E M nm I ni (loopK (codeK P bw call nt b) kx m) kx = emb (B m _) E M nm I ni
      rw [ih]; exact hb _ _ _ _ _ _ _
  rw [this]
theorem rf_ok (p p' : Nat) {f : Operand} {ps : Array Tmp} {a b : Code} {w : Nat} {body : Nat → Nat → Nat → Nat → Nat → Nat → (Nat → Nat → Nat → Nat → Res) → Res} {K : Nat → Nat → Nat → Nat → Res}
    (hc : and (psOk nt ps.toList) (and (noRF a) (noRF b)) = true) (hf : lowOpd f = .s w) (hp : ps.toList = [p, p'])
    (hb : ∀ iw v M nm I ni (k : Nat → Nat → Nat → Nat → Res), codeK P bw call nt a (putS (putS E (Nat.mul 96 p) iw) (Nat.mul 96 p') v) M nm I ni (fun E M nm I ni => codeK P bw call nt b E M nm I ni (fun _ M nm I ni => k M nm I ni) (fun x _ _ _ _ _ => .bad 74 x)) (fun x _ _ _ _ _ => .bad 74 x) = body iw v M nm I ni k)
    (hk : ∀ M nm I ni, kn E M nm I ni = K M nm I ni) : codeK P bw call nt (.rangeFunc f ps a b) E M nm I ni kn kx = backG bw (E w) M nm I ni body K := by
  show iff (and (psOk nt ps.toList) (and (noRF a) (noRF b))) (backK bw (lowOpd f) ps.toList E M nm I ni (codeK P bw call nt a) (codeK P bw call nt b) kn) (.bad 77 0) = _
  rw [hc, hf, hp]
  have e : (fun M nm I ni => kn E M nm I ni) = K := by funext M nm I ni; exact hk M nm I ni
  have e2 : (fun iw v M nm I ni (k : Nat → Nat → Nat → Nat → Res) => codeK P bw call nt a (putS (putS E (Nat.mul 96 p) iw) (Nat.mul 96 p') v) M nm I ni (fun E M nm I ni => codeK P bw call nt b E M nm I ni (fun _ M nm I ni => k M nm I ni) (fun x _ _ _ _ _ => .bad 74 x)) (fun x _ _ _ _ _ => .bad 74 x)) = body := by
    funext iw v M nm I ni k; exact hb iw v M nm I ni k
  rw [← e2, ← e]
  rfl
def bodyOf (f : Func) : Code := match f.body with | some c => c | none => .skip
theorem top_ok {f : Nat} {fn : Func} {ws : List Nat} {T : Res} (hf : P.funcs[f]? = some fn) (hb : fn.body = some (bodyOf fn)) (hn : Nat.ble (List.length ws) fn.ntmps = true)
    (h : codeK P bw call fn.ntmps (bodyOf fn) (frOf ws) M nm I ni (fun E M nm I ni => retK (lowRes P fn.results) E M nm I ni kf) (fun x E M nm I ni => iff (Nat.beq x 0) (retK (lowRes P fn.results) E M nm I ni kf) (.bad 62 f)) = T) :
    callW P bw call f ws M nm I ni kf = T := by
  unfold callW funInfo
  simp only [hf]
  rw [hb]
  show iff (Nat.ble (List.length ws) fn.ntmps) _ _ = T
  rw [hn]; exact h
def FOkS (P : Program) (bw f : Nat) (g : CallT → List Nat → Nat → Nat → Nat → Nat → KF → Res) : Prop :=
  ∀ call ws M nm I ni, (∀ kf, g call ws M nm I ni kf = callW P bw call f ws M nm I ni kf) ∨ ∀ kf, g call ws M nm I ni kf ≠ .ok
end
end Go.Proofs.YtpjhkpmmbeoghaaGreatDoor.Ev
