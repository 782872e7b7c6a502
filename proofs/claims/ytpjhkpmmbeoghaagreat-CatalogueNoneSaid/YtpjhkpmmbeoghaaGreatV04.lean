/- Part 4 of a verified evaluator and the run that it reckons. -/
import Derived.Test.YtpjhkpmmbeoghaaGreatV03
import Derived.Test.YtpjhkpmmbeoghaaGreatChecked
set_option linter.unusedVariables false
set_option linter.unusedSimpArgs false
set_option maxRecDepth 100000
set_option linter.unusedVariables false
namespace Go.Proofs.YtpjhkpmmbeoghaaGreat.Ev
open Go
noncomputable section
/- fretwork/bough.Canon -/
def S72_1 (call : CallT) (kf : KF) (t1 t2 t4 t6 M nm I ni : Nat) : Res :=
 jn (fun (t1 t2 t4 t6 M nm I ni : Nat) =>
 fa 1 t2 fun v3 =>
 ld v3 M fun v4 =>
 call 75 [t1, t6, v4] M nm I ni fun v5 M nm I ni =>
 buildK 2 871509787656907713528983453707 [(0, 1, (.k v5)), (1, 1, (.k t6))] zf I ni fun v7 I ni =>
 storeK 2 (.k t4) (.k v7) zf M nm I ni fun _ M nm I ni =>
 loadNK 2 (.k t4) zf M I ni fun v9 I ni => rtn 2 [v9, 295147905179352825861] M nm I ni kf) fun j10 =>
 fa 0 t2 fun v11 =>
 ld v11 M fun v12 =>
 lt 5 295147905179352825893 v12 fun v13 =>
 cnd v13 (loadNK 2 (.k t2) zf M I ni fun v14 I ni =>
 call 124 [v14, t1] M nm I ni fun v16 M nm I ni =>
 f1 19 0 v16 I fun v18 =>
 f1 19 1 v16 I fun v19 =>
 ne 5 v19 295147905179352825861 fun v23 =>
 cnd v23 (buildK 2 871509787656907713528983453707 [] zf I ni fun v24 I ni =>
 storeK 2 (.k t4) (.k v24) zf M nm I ni fun _ M nm I ni =>
 loadNK 2 (.k t4) zf M I ni fun v27 I ni => rtn 2 [v27, v19] M nm I ni kf)
 (j10 t1 t2 t4 v18 M nm I ni))
 (j10 t1 t2 t4 t6 M nm I ni)
def S72_2 (call : CallT) (kf : KF) (t1 t2 t4 M nm I ni : Nat) : Res :=
 jn (S72_1 call kf) fun j30 =>
 bldSK 1 1 295147905179352825861 [(0, 1, (.k 295147905179352825861))] zf M nm I ni fun v31 M nm I ni =>
 j30 t1 t2 t4 v31 M nm I ni
def S72_3 (call : CallT) (kf : KF) (t1 t2 t4 M nm I ni : Nat) : Res :=
 jn (S72_2 call kf) fun j33 =>
 loadNK 2 (.k t2) zf M I ni fun v34 I ni =>
 call 123 [v34, t1] M nm I ni fun v36 M nm I ni =>
 notK (.k v36) zf I ni fun v37 I ni =>
 cnd v37 (buildK 2 871509787656907713528983453707 [] zf I ni fun v38 I ni =>
 storeK 2 (.k t4) (.k v38) zf M nm I ni fun _ M nm I ni =>
 loadNK 2 (.k t4) zf M I ni fun v40 I ni => rtn 2 [v40, 295147905179352832261] M nm I ni kf)
 (j33 t1 t2 t4 M nm I ni)
def F72 (call : CallT) (t0 t1 M nm I ni : Nat) (kf : KF) : Res :=
 jn (S72_3 call kf) fun j41 =>
 boxK 2 (.k t0) zf M nm I ni fun v42 M nm I ni =>
 newK 2 871509787656907713528983453707 M nm I ni fun v43 M nm I ni =>
 j41 t1 v42 v43 M nm I ni
def g72 (call : CallT) : List Nat → Nat → Nat → Nat → Nat → KF → Res := unS fun t0 => unS fun t1 => un0 (F72 call t0 t1)
/- fretwork/strand.Pack -/
def F63 (call : CallT) (t0 M nm I ni : Nat) (kf : KF) : Res :=
 boxK 2 (.k t0) zf M nm I ni fun v1 M nm I ni =>
 loadNK 2 (.k v1) zf M I ni fun v4 I ni =>
 call 105 [v4] M nm I ni fun v5 M nm I ni =>
 notK (.k v5) zf I ni fun v6 I ni =>
 cnd v6 (rtn 2 [11, 295147905179352826213] M nm I ni kf)
 (fa 1 v1 fun v9 =>
 ld v9 M fun v10 =>
 iopK .quo .i64 (.k v10) (.k 295147905179352826117) zf I ni fun v11 I ni =>
 ad v11 295147905179352825893 fun v12 =>
 mkSlK 1 6 (.k v12) (.k v12) zf M nm I ni fun v13 M nm I ni =>
 fa 0 v1 fun v16 =>
 ld v16 M fun v17 =>
 copyW 1 v13 v17 M nm I ni fun v18 M nm I ni =>
 fa 1 v1 fun v20 =>
 ld v20 M fun v21 =>
 iopK .quo .i64 (.k v21) (.k 295147905179352826117) zf I ni fun v22 I ni =>
 ia 1 v13 v22 fun v23 =>
 ld v23 M fun v24 =>
 fa 1 v1 fun v25 =>
 ld v25 M fun v26 =>
 iopK .rem .i64 (.k v26) (.k 295147905179352826117) zf I ni fun v27 I ni =>
 sb 295147905179352826085 v27 fun v28 =>
 shfK .shl .u8 .i64 (.k 38) (.k v28) zf I ni fun v29 I ni =>
 iopK .or .u8 (.k v24) (.k v29) zf I ni fun v30 I ni =>
 ia 1 v13 v22 fun v31 =>
 storeK 1 (.k v31) (.k v30) zf M nm I ni fun _ M nm I ni =>
 rtn 2 [v13, 295147905179352825861] M nm I ni kf)
def g63 (call : CallT) : List Nat → Nat → Nat → Nat → Nat → KF → Res := unS fun t0 => un0 (F63 call t0)
/- fretwork/strand.Unpack -/
def S68_1 (kf : KF) (t2 t4 t5 M nm I ni : Nat) : Res :=
 jn (fun (t2 t5 M nm I ni : Nat) =>
 loadNK 2 (.k t5) zf M I ni fun v1 I ni =>
 storeK 2 (.k t2) (.k v1) zf M nm I ni fun _ M nm I ni =>
 loadNK 2 (.k t2) zf M I ni fun v3 I ni => rtn 2 [v3, 295147905179352825861] M nm I ni kf) fun j4 =>
 iopK .rem .i64 (.k t4) (.k 295147905179352826117) zf I ni fun v6 I ni =>
 ne 5 v6 295147905179352825861 fun v9 =>
 cnd v9 (fa 0 t5 fun v10 =>
 ld v10 M fun v11 =>
 fa 0 t5 fun v12 =>
 ld v12 M fun v13 =>
 ln v13 fun v14 =>
 sb v14 295147905179352825893 fun v15 =>
 ia 1 v11 v15 fun v16 =>
 ld v16 M fun v17 =>
 sb 295147905179352826117 v6 fun v19 =>
 shfK .shl .u8 .i64 (.k 8166) (.k v19) zf I ni fun v20 I ni =>
 iopK .and .u8 (.k v17) (.k v20) zf I ni fun v21 I ni =>
 ia 1 v11 v15 fun v22 =>
 storeK 1 (.k v22) (.k v21) zf M nm I ni fun _ M nm I ni =>
 j4 t2 t5 M nm I ni)
 (j4 t2 t5 M nm I ni)
def S68_2 (kf : KF) (t0 t2 t4 t5 M nm I ni : Nat) : Res :=
 jn (S68_1 kf) fun j23 =>
 fa 0 t5 fun v24 =>
 ld v24 M fun v25 =>
 copyW 1 v25 t0 M nm I ni fun v27 M nm I ni =>
 j23 t2 t4 t5 M nm I ni
def S68_3 (call : CallT) (kf : KF) (t0 t2 t4 M nm I ni : Nat) : Res :=
 jn (S68_2 kf) fun j28 =>
 call 120 [t4] M nm I ni fun v30 M nm I ni =>
 mkSlK 1 6 (.k v30) (.k v30) zf M nm I ni fun v31 M nm I ni =>
 buildK 2 23384026197294446691655098136031850002462640439307 [(0, 1, (.k v31)), (1, 1, (.k t4))] zf I ni fun v33 I ni =>
 newK 2 23384026197294446691655098136031850002462640439307 M nm I ni fun v34 M nm I ni =>
 storeK 2 (.k v34) (.k v33) zf M nm I ni fun _ M nm I ni =>
 j28 t0 t2 t4 v34 M nm I ni
def S68_4 (call : CallT) (kf : KF) (t0 t2 t4 M nm I ni : Nat) : Res :=
 jn (S68_3 call kf) fun j35 =>
 lt 5 295147905179487043589 t4 fun v37 =>
 cnd v37 (buildK 2 23384026197294446691655098136031850002462640439307 [] zf I ni fun v38 I ni =>
 storeK 2 (.k t2) (.k v38) zf M nm I ni fun _ M nm I ni =>
 loadNK 2 (.k t2) zf M I ni fun v40 I ni => rtn 2 [v40, 295147905179352826277] M nm I ni kf)
 (j35 t0 t2 t4 M nm I ni)
def S68_5 (call : CallT) (kf : KF) (t0 t2 M nm I ni : Nat) : Res :=
 jn (S68_4 call kf) fun j41 =>
 ln t0 fun v43 =>
 iopK .mul .i64 (.k 295147905179352826117) (.k v43) zf I ni fun v44 I ni =>
 sb v44 295147905179352825893 fun v45 =>
 ln t0 fun v48 =>
 sb v48 295147905179352825893 fun v49 =>
 ia 1 t0 v49 fun v50 =>
 ld v50 M fun v51 =>
 call 119 [v51] M nm I ni fun v52 M nm I ni =>
 sb v45 v52 fun v53 =>
 j41 t0 t2 v53 M nm I ni
def S68_6 (call : CallT) (kf : KF) (t0 t2 M nm I ni : Nat) : Res :=
 jn (S68_5 call kf) fun j55 =>
 ln t0 fun v57 =>
 eq 5 v57 295147905179352825861 fun v58 =>
 jn (fun (v68 : Nat) =>
 pk v58 33 v68 fun v69 =>
 cnd v69 (buildK 2 23384026197294446691655098136031850002462640439307 [] zf I ni fun v70 I ni =>
 storeK 2 (.k t2) (.k v70) zf M nm I ni fun _ M nm I ni =>
 loadNK 2 (.k t2) zf M I ni fun v72 I ni => rtn 2 [v72, 295147905179352826277] M nm I ni kf)
 (j55 t0 t2 M nm I ni))
 (fun j60 => gd v58 1 (ln t0 fun v63 =>
 sb v63 295147905179352825893 fun v64 =>
 ia 1 t0 v64 fun v65 =>
 ld v65 M fun v66 =>
 eq 6 v66 6 fun v67 =>
 j60 v67) (j60 0))
def S68_7 (call : CallT) (kf : KF) (t0 t2 M nm I ni : Nat) : Res :=
 jn (S68_6 call kf) fun j73 =>
 ln t0 fun v75 =>
 lt 5 295147905179369603109 v75 fun v76 =>
 cnd v76 (buildK 2 23384026197294446691655098136031850002462640439307 [] zf I ni fun v77 I ni =>
 storeK 2 (.k t2) (.k v77) zf M nm I ni fun _ M nm I ni =>
 loadNK 2 (.k t2) zf M I ni fun v79 I ni => rtn 2 [v79, 295147905179352825957] M nm I ni kf)
 (j73 t0 t2 M nm I ni)
def F68 (call : CallT) (t0 M nm I ni : Nat) (kf : KF) : Res :=
 jn (S68_7 call kf) fun j80 =>
 newK 2 23384026197294446691655098136031850002462640439307 M nm I ni fun v81 M nm I ni =>
 j80 t0 v81 M nm I ni
def g68 (call : CallT) : List Nat → Nat → Nat → Nat → Nat → KF → Res := unS fun t0 => un0 (F68 call t0)
/- (*fretwork/bough.cut).visit -/
def S396_1 (call : CallT) (kf : KF) (n2 : Nat) (j1 : Nat → Nat → Nat → Nat → Nat → Nat → Nat → Nat → Res) (t1 t17 t18 t19 M nm I ni : Nat) : Res :=
 lt 5 t19 t18 fun v3 =>
 cnd v3 (ia 1 t17 t19 fun v4 =>
 ld v4 M fun v5 =>
 nilcK (.k t1) zf I ni fun v8 I ni =>
 fa 0 v8 fun v9 =>
 ld v9 M fun v10 =>
 ia 1 v10 v5 fun v12 =>
 ld v12 M fun v13 =>
 invS Go.Proofs.Tryz.prog call "fretwork/bough.visit" (.k v13) [(.k t1)] zf M nm I ni fun v15 M nm I ni =>
 adt n2 t19 295147905179352825893 fun v16 =>
 j1 t1 t17 t18 v16 M nm I ni)
 (rtn 0 [] M nm I ni kf)
def S396_2 (call : CallT) (kf : KF) (t1 t17 t18 t19 M nm I ni : Nat) : Res :=
 lp (S396_1 call kf) (fun _ _ _ _ _ _ _ _ => .bad 73 0) t1 t17 t18 t19 M nm I ni
def S396_3 (call : CallT) (kf : KF) (t0 t1 M nm I ni : Nat) : Res :=
 jn (S396_2 call kf) fun j18 =>
 nilcK (.k t0) zf I ni fun v21 I ni =>
 fa 0 v21 fun v22 =>
 ld v22 M fun v23 =>
 call 398 [t1, v23] M nm I ni fun v24 M nm I ni =>
 ln v24 fun v25 =>
 j18 t1 v24 v25 295147905179352825861 M nm I ni
def F396 (call : CallT) (t0 t1 M nm I ni : Nat) (kf : KF) : Res :=
 jn (S396_3 call kf) fun j27 =>
 nilcK (.k t0) zf I ni fun v30 I ni =>
 fa 1 v30 fun v31 =>
 ld v31 M fun v32 =>
 call 226 [t1, v32] M nm I ni fun v33 M nm I ni =>
 j27 t0 t1 M nm I ni
def g396 (call : CallT) : List Nat → Nat → Nat → Nat → Nat → KF → Res := unS fun t0 => unS fun t1 => un0 (F396 call t0 t1)
/- fretwork/bough.Right -/
def F123 (call : CallT) (t0 t1 M nm I ni : Nat) (kf : KF) : Res :=
 boxK 2 (.k t0) zf M nm I ni fun v1 M nm I ni =>
 loadNK 2 (.k v1) zf M I ni fun v3 I ni =>
 call 22 [v3] M nm I ni fun v4 M nm I ni =>
 jn (fun (v10 : Nat) =>
 pk v4 v10 1 fun v11 =>
 jn (fun (v18 M nm I ni : Nat) =>
 pk v11 v18 1 fun v19 =>
 jn (fun (v26 M nm I ni : Nat) =>
 pk v19 v26 1 fun v27 =>
 kf v27 M nm I ni)
 (fun j21 => gd v19 33 (loadNK 2 (.k v1) zf M I ni fun v22 I ni =>
 call 30 [v22] M nm I ni fun v23 M nm I ni =>
 ln v23 fun v24 =>
 eq 5 v24 295147905179352825893 fun v25 =>
 j21 v25 M nm I ni) (j21 0 M nm I ni)))
 (fun j13 => gd v11 33 (fa 0 v1 fun v15 =>
 ld v15 M fun v16 =>
 call 122 [t1, v16] M nm I ni fun v17 M nm I ni =>
 j13 v17 M nm I ni) (j13 0 M nm I ni)))
 (fun j6 => gd v4 33 (fa 0 v1 fun v7 =>
 ld v7 M fun v8 =>
 lt 5 295147905179352825861 v8 fun v9 =>
 j6 v9) (j6 0))
def g123 (call : CallT) : List Nat → Nat → Nat → Nat → Nat → KF → Res := unS fun t0 => unS fun t1 => un0 (F123 call t0 t1)
/- (*fretwork/bough.tree).below$1 -/
def F399 (call : CallT) (t0 t1 t2 M nm I ni : Nat) (kf : KF) : Res :=
 ld t2 M fun v2 =>
 nilcK (.k v2) zf I ni fun v3 I ni =>
 fa 5 v3 fun v4 =>
 ld v4 M fun v5 =>
 ia 1 v5 t0 fun v7 =>
 ld v7 M fun v8 =>
 ld t2 M fun v9 =>
 nilcK (.k v9) zf I ni fun v10 I ni =>
 fa 5 v10 fun v11 =>
 ld v11 M fun v12 =>
 ia 1 v12 t1 fun v14 =>
 ld v14 M fun v15 =>
 call 67 [v8, v15] M nm I ni fun v18 M nm I ni =>
 call 67 [t0, t1] M nm I ni fun v19 M nm I ni =>
 bldSK 2 1 295147905179352825861 [(0, 1, (.k v18)), (1, 1, (.k v19))] zf M nm I ni fun v20 M nm I ni =>
 call 66 [v20] M nm I ni fun v21 M nm I ni =>
 kf v21 M nm I ni
def g399 (call : CallT) : List Nat → Nat → Nat → Nat → Nat → KF → Res := unS fun t0 => unS fun t1 => unS fun t2 => un0 (F399 call t0 t1 t2)
/- slices.Max[[]int,int] -/
def S171_1 (kf : KF) (t0 M nm I ni : Nat) : Res :=
 jn (fun (t0 t3 M nm I ni : Nat) =>
 jn (fun (t3 M nm I ni : Nat) =>
 kf t3 M nm I ni) fun j3 =>
 jn (fun (t0 t3 t4 M nm I ni : Nat) =>
 lp (fun (n5 : Nat) (j4 : Nat → Nat → Nat → Nat → Nat → Nat → Nat → Res) (t0 t3 t4 M nm I ni : Nat) =>
 ln t0 fun v8 =>
 lt 5 t4 v8 fun v9 =>
 cnd v9 (ia 1 t0 t4 fun v13 =>
 ld v13 M fun v14 =>
 minK true 5 (.k t3) (.k v14) zf I ni fun v15 I ni =>
 adt n5 t4 295147905179352825893 fun v18 =>
 j4 t0 v15 v18 M nm I ni)
 (j3 t3 M nm I ni)) (fun _ _ _ _ _ _ _ => .bad 73 0) t0 t3 t4 M nm I ni) fun j20 =>
 j20 t0 t3 295147905179352825893 M nm I ni) fun j22 =>
 ia 1 t0 295147905179352825861 fun v24 =>
 ld v24 M fun v25 =>
 j22 t0 v25 M nm I ni
def S171_2 (kf : KF) (t0 M nm I ni : Nat) : Res :=
 jn (S171_1 kf) fun j27 =>
 ln t0 fun v29 =>
 lt 5 v29 295147905179352825893 fun v30 =>
 cnd v30 (mkiK 9 (.str 22 43185052040495765482339491077514288776946913586541428) zf I ni fun v31 I ni =>
 Res.bad 51 99)
 (j27 t0 M nm I ni)
def F171 (call : CallT) (t0 M nm I ni : Nat) (kf : KF) : Res :=
 jn (S171_2 kf) fun j32 =>
 j32 t0 M nm I ni
def g171 (call : CallT) : List Nat → Nat → Nat → Nat → Nat → KF → Res := unS fun t0 => un0 (F171 call t0)
/- slices.CompactFunc[[][]byte,[]byte] -/
def S175_1 (call : CallT) (j17 : Nat → Nat → Nat → Nat → Nat → Nat → Res) (n19 : Nat) (j18 : Nat → Nat → Nat → Nat → Nat → Nat → Nat → Nat → Nat → Res) (t0 t1 t5 t6 t7 M nm I ni : Nat) : Res :=
 ln t6 fun v22 =>
 lt 5 t7 v22 fun v23 =>
 cnd v23 (ia 1 t6 t7 fun v27 =>
 ld v27 M fun v28 =>
 sbt n19 t7 295147905179352825893 fun v31 =>
 ia 1 t6 v31 fun v32 =>
 ld v32 M fun v33 =>
 callvS call (.k t1) [(.k v28), (.k v33)] zf M nm I ni fun v34 M nm I ni =>
 notK (.k v34) zf I ni fun v35 I ni =>
 cnd v35 (ia 1 t6 t7 fun v40 =>
 ld v40 M fun v41 =>
 ia 1 t0 t5 fun v42 =>
 storeK 1 (.k v42) (.k v41) zf M nm I ni fun _ M nm I ni =>
 adt n19 t5 295147905179352825893 fun v44 =>
 adt n19 t7 295147905179352825893 fun v47 =>
 j18 t0 t1 v44 t6 v47 M nm I ni)
 (adt n19 t7 295147905179352825893 fun v50 =>
 j18 t0 t1 t5 t6 v50 M nm I ni))
 (j17 t0 t5 M nm I ni)
def S175_2 (call : CallT) (j17 : Nat → Nat → Nat → Nat → Nat → Nat → Res) (t0 t1 t5 t6 t7 M nm I ni : Nat) : Res :=
 lp (S175_1 call j17) (fun _ _ _ _ _ _ _ _ _ => .bad 73 0) t0 t1 t5 t6 t7 M nm I ni
def S175_3 (call : CallT) (kf : KF) (t0 t1 t5 t6 M nm I ni : Nat) : Res :=
 jn (fun (t0 t5 M nm I ni : Nat) =>
 slcK 1 (.k t0) (some (.k t5)) none none zf I ni fun v12 I ni =>
 clearW 1 11 v12 M nm I ni fun _ M nm I ni =>
 slcK 1 (.k t0) none (some (.k t5)) none zf I ni fun v15 I ni =>
 kf v15 M nm I ni) fun j17 =>
 jn (S175_2 call j17) fun j52 =>
 j52 t0 t1 t5 t6 295147905179352825893 M nm I ni
def S175_4 (call : CallT) (kf : KF) (j9 : Nat → Nat → Nat → Nat → Nat → Nat → Nat → Res) (t0 t1 t5 t28 M nm I ni : Nat) : Res :=
 cnd t28 (jn (S175_3 call kf) fun j54 =>
 slcK 1 (.k t0) (some (.k t5)) none none zf I ni fun v57 I ni =>
 j54 t0 t1 t5 v57 M nm I ni)
 (j9 t0 t1 t5 M nm I ni)
def S175_5 (call : CallT) (kf : KF) (n5 : Nat) (j4 : Nat → Nat → Nat → Nat → Nat → Nat → Nat → Res) (t0 t1 t5 M nm I ni : Nat) : Res :=
 jn (fun (t0 t1 t5 M nm I ni : Nat) =>
 adt n5 t5 295147905179352825893 fun v7 =>
 j4 t0 t1 v7 M nm I ni) fun j9 =>
 jn (S175_4 call kf j9) fun j59 =>
 ia 1 t0 t5 fun v63 =>
 ld v63 M fun v64 =>
 sbt n5 t5 295147905179352825893 fun v67 =>
 ia 1 t0 v67 fun v68 =>
 ld v68 M fun v69 =>
 callvS call (.k t1) [(.k v64), (.k v69)] zf M nm I ni fun v70 M nm I ni =>
 j59 t0 t1 t5 v70 M nm I ni
def S175_6 (call : CallT) (kf : KF) (j3 : Nat → Nat → Nat → Nat → Nat → Res) (n5 : Nat) (j4 : Nat → Nat → Nat → Nat → Nat → Nat → Nat → Res) (t0 t1 t5 M nm I ni : Nat) : Res :=
 jn (S175_5 call kf n5 j4) fun j71 =>
 ln t0 fun v74 =>
 lt 5 t5 v74 fun v75 =>
 cnd v75 (j71 t0 t1 t5 M nm I ni)
 (j3 t0 M nm I ni)
def S175_7 (call : CallT) (kf : KF) (j3 : Nat → Nat → Nat → Nat → Nat → Res) (t0 t1 t5 M nm I ni : Nat) : Res :=
 lp (S175_6 call kf j3) (fun _ _ _ _ _ _ _ => .bad 73 0) t0 t1 t5 M nm I ni
def S175_8 (call : CallT) (kf : KF) (t0 t1 M nm I ni : Nat) : Res :=
 jn (fun (t0 M nm I ni : Nat) =>
 kf t0 M nm I ni) fun j3 =>
 jn (S175_7 call kf j3) fun j76 =>
 j76 t0 t1 295147905179352825893 M nm I ni
def S175_9 (call : CallT) (kf : KF) (t0 t1 M nm I ni : Nat) : Res :=
 jn (S175_8 call kf) fun j78 =>
 ln t0 fun v80 =>
 lt 5 v80 295147905179352825925 fun v81 =>
 cnd v81 (kf t0 M nm I ni)
 (j78 t0 t1 M nm I ni)
def F175 (call : CallT) (t0 t1 M nm I ni : Nat) (kf : KF) : Res :=
 jn (S175_9 call kf) fun j84 =>
 j84 t0 t1 M nm I ni
def g175 (call : CallT) : List Nat → Nat → Nat → Nat → Nat → KF → Res := unS fun t0 => unS fun t1 => un0 (F175 call t0 t1)
/- (*fretwork/bough.tree).weigh$1 -/
def F172 (call : CallT) (t0 t1 M nm I ni : Nat) (kf : KF) : Res :=
 call 61 [t0, t1] M nm I ni fun v4 M nm I ni =>
 kf v4 M nm I ni
def g172 (call : CallT) : List Nat → Nat → Nat → Nat → Nat → KF → Res := unS fun t0 => unS fun t1 => un0 (F172 call t0 t1)
/- fretwork/bough.arranged -/
def F124 (call : CallT) (t0 t1 M nm I ni : Nat) (kf : KF) : Res :=
 boxK 2 (.k t0) zf M nm I ni fun v1 M nm I ni =>
 loadNK 2 (.k v1) zf M I ni fun v4 I ni =>
 call 146 [v4] M nm I ni fun v5 M nm I ni =>
 f1 19 0 v5 I fun v7 =>
 f1 19 1 v5 I fun v8 =>
 newK 3 69048119089253488402193683656155840364782817602633363095563 M nm I ni fun v9 M nm I ni =>
 storeK 3 (.k v9) (.k v7) zf M nm I ni fun _ M nm I ni =>
 ne 5 v8 295147905179352825861 fun v12 =>
 cnd v12 (rtn 2 [11, 295147905179352832261] M nm I ni kf)
 (loadNK 3 (.k v9) zf M I ni fun v15 I ni =>
 call 147 [v15, t1] M nm I ni fun v17 M nm I ni =>
 call 148 [v17] M nm I ni fun v20 M nm I ni =>
 ne 5 v20 295147905179352825861 fun v23 =>
 cnd v23 (rtn 2 [11, v20] M nm I ni kf)
 (nilcK (.k v17) zf I ni fun v28 I ni =>
 fa 0 v28 fun v29 =>
 ld v29 M fun v30 =>
 nilcK (.k v17) zf I ni fun v32 I ni =>
 fa 2 v32 fun v33 =>
 ld v33 M fun v34 =>
 ia 1 v30 v34 fun v35 =>
 ld v35 M fun v36 =>
 invS Go.Proofs.Tryz.prog call "fretwork/bough.visit" (.k v36) [(.k v17)] zf M nm I ni fun v38 M nm I ni =>
 nilcK (.k v17) zf I ni fun v40 I ni =>
 fa 10 v40 fun v41 =>
 ld v41 M fun v42 =>
 rtn 2 [v42, 295147905179352825861] M nm I ni kf))
def g124 (call : CallT) : List Nat → Nat → Nat → Nat → Nat → KF → Res := unS fun t0 => unS fun t1 => un0 (F124 call t0 t1)
/- (*fretwork/catalogue.Cat).add -/
def F26 (call : CallT) (t0 t1 t2 M nm I ni : Nat) (kf : KF) : Res :=
 nilcK (.k t0) zf I ni fun v4 I ni =>
 fa 2 v4 fun v5 =>
 ld v5 M fun v6 =>
 bldSK 1 1 12 [(0, 1, (.k t1))] zf M nm I ni fun v8 M nm I ni =>
 appW 1 v6 v8 M nm I ni fun v9 M nm I ni =>
 nilcK (.k t0) zf I ni fun v10 I ni =>
 fa 2 v10 fun v11 =>
 storeK 1 (.k v11) (.k v9) zf M nm I ni fun _ M nm I ni =>
 nilcK (.k t0) zf I ni fun v14 I ni =>
 fa 3 v14 fun v15 =>
 ld v15 M fun v16 =>
 bldSK 1 1 295147905179352825861 [(0, 1, (.k t2))] zf M nm I ni fun v18 M nm I ni =>
 appW 1 v16 v18 M nm I ni fun v19 M nm I ni =>
 nilcK (.k t0) zf I ni fun v20 I ni =>
 fa 3 v20 fun v21 =>
 storeK 1 (.k v21) (.k v19) zf M nm I ni fun _ M nm I ni =>
 nilcK (.k t0) zf I ni fun v23 I ni =>
 fa 4 v23 fun v24 =>
 ld v24 M fun v25 =>
 nilcK (.k t0) zf I ni fun v28 I ni =>
 fa 2 v28 fun v29 =>
 ld v29 M fun v30 =>
 ln v30 fun v31 =>
 updK .str (.k v25) (.k t1) (.k v31) zf M nm I ni fun _ M nm I ni =>
 nilcK (.k t0) zf I ni fun v33 I ni =>
 fa 2 v33 fun v34 =>
 ld v34 M fun v35 =>
 ln v35 fun v36 =>
 kf v36 M nm I ni
def g26 (call : CallT) : List Nat → Nat → Nat → Nat → Nat → KF → Res := unS fun t0 => unS fun t1 => unS fun t2 => un0 (F26 call t0 t1 t2)
/- slices.Equal[[]byte,byte] -/
def S40_1 (kf : KF) (j2 : Nat → Nat → Nat → Nat → Res) (n4 : Nat) (j3 : Nat → Nat → Nat → Nat → Nat → Nat → Nat → Nat → Res) (t0 t1 t12 t13 M nm I ni : Nat) : Res :=
 lt 5 t13 t12 fun v5 =>
 cnd v5 (ia 1 t0 t13 fun v10 =>
 ld v10 M fun v11 =>
 ia 1 t1 t13 fun v14 =>
 ld v14 M fun v15 =>
 ne 6 v11 v15 fun v16 =>
 cnd v16 (kf 1 M nm I ni)
 (adt n4 t13 295147905179352825893 fun v18 =>
 j3 t0 t1 t12 v18 M nm I ni))
 (j2 M nm I ni)
def S40_2 (kf : KF) (j2 : Nat → Nat → Nat → Nat → Res) (t0 t1 t12 t13 M nm I ni : Nat) : Res :=
 lp (S40_1 kf j2) (fun _ _ _ _ _ _ _ _ => .bad 73 0) t0 t1 t12 t13 M nm I ni
def S40_3 (kf : KF) (t0 t1 M nm I ni : Nat) : Res :=
 jn (fun (M nm I ni : Nat) =>
 kf 33 M nm I ni) fun j2 =>
 jn (S40_2 kf j2) fun j20 =>
 ln t0 fun v22 =>
 j20 t0 t1 v22 295147905179352825861 M nm I ni
def S40_4 (kf : KF) (t0 t1 M nm I ni : Nat) : Res :=
 jn (S40_3 kf) fun j24 =>
 ln t0 fun v26 =>
 ln t1 fun v28 =>
 ne 5 v26 v28 fun v29 =>
 cnd v29 (kf 1 M nm I ni)
 (j24 t0 t1 M nm I ni)
def F40 (call : CallT) (t0 t1 M nm I ni : Nat) (kf : KF) : Res :=
 jn (S40_4 kf) fun j31 =>
 j31 t0 t1 M nm I ni
def g40 (call : CallT) : List Nat → Nat → Nat → Nat → Nat → KF → Res := unS fun t0 => unS fun t1 => un0 (F40 call t0 t1)
/- slices.insertionSortCmpFunc[[]byte] -/
def S193_1 (call : CallT) (j6 : Nat → Nat → Nat → Nat → Nat → Nat → Nat → Nat → Nat → Res) (n8 : Nat) (j7 : Nat → Nat → Nat → Nat → Nat → Nat → Nat → Nat → Nat → Nat → Res) (t0 t1 t2 t3 t8 t9 M nm I ni : Nat) : Res :=
 lt 5 t1 t9 fun v11 =>
 jn (fun (v26 M nm I ni : Nat) =>
 pk v11 v26 1 fun v27 =>
 cnd v27 (sbt n8 t9 295147905179352825893 fun v32 =>
 sbt n8 t9 295147905179352825893 fun v35 =>
 ia 1 t0 v35 fun v36 =>
 ld v36 M fun v37 =>
 ia 1 t0 t9 fun v40 =>
 ld v40 M fun v41 =>
 ia 1 t0 t9 fun v42 =>
 storeK 1 (.k v42) (.k v37) zf M nm I ni fun _ M nm I ni =>
 ia 1 t0 v32 fun v43 =>
 storeK 1 (.k v43) (.k v41) zf M nm I ni fun _ M nm I ni =>
 sbt n8 t9 295147905179352825893 fun v45 =>
 j7 t0 t1 t2 t3 t8 v45 M nm I ni)
 (j6 t0 t1 t2 t3 t8 M nm I ni))
 (fun j13 => gd v11 33 (ia 1 t0 t9 fun v17 =>
 ld v17 M fun v18 =>
 sbt n8 t9 295147905179352825893 fun v21 =>
 ia 1 t0 v21 fun v22 =>
 ld v22 M fun v23 =>
 callvS call (.k t3) [(.k v18), (.k v23)] zf M nm I ni fun v24 M nm I ni =>
 lt 5 v24 295147905179352825861 fun v25 =>
 j13 v25 M nm I ni) (j13 0 M nm I ni))
def S193_2 (call : CallT) (j6 : Nat → Nat → Nat → Nat → Nat → Nat → Nat → Nat → Nat → Res) (t0 t1 t2 t3 t8 t9 M nm I ni : Nat) : Res :=
 lp (S193_1 call j6) (fun _ _ _ _ _ _ _ _ _ _ => .bad 73 0) t0 t1 t2 t3 t8 t9 M nm I ni
def S193_3 (call : CallT) (n2 : Nat) (j1 : Nat → Nat → Nat → Nat → Nat → Nat → Nat → Nat → Nat → Res) (t0 t1 t2 t3 t8 M nm I ni : Nat) : Res :=
 jn (fun (t0 t1 t2 t3 t8 M nm I ni : Nat) =>
 adt n2 t8 295147905179352825893 fun v4 =>
 j1 t0 t1 t2 t3 v4 M nm I ni) fun j6 =>
 jn (S193_2 call j6) fun j47 =>
 j47 t0 t1 t2 t3 t8 t8 M nm I ni
def S193_4 (call : CallT) (kf : KF) (n2 : Nat) (j1 : Nat → Nat → Nat → Nat → Nat → Nat → Nat → Nat → Nat → Res) (t0 t1 t2 t3 t8 M nm I ni : Nat) : Res :=
 jn (S193_3 call n2 j1) fun j50 =>
 lt 5 t8 t2 fun v53 =>
 cnd v53 (j50 t0 t1 t2 t3 t8 M nm I ni)
 (rtn 0 [] M nm I ni kf)
def S193_5 (call : CallT) (kf : KF) (t0 t1 t2 t3 t8 M nm I ni : Nat) : Res :=
 lp (S193_4 call kf) (fun _ _ _ _ _ _ _ _ _ => .bad 73 0) t0 t1 t2 t3 t8 M nm I ni
def F193 (call : CallT) (t0 t1 t2 t3 M nm I ni : Nat) (kf : KF) : Res :=
 jn (S193_5 call kf) fun j54 =>
 ad t1 295147905179352825893 fun v56 =>
 j54 t0 t1 t2 t3 v56 M nm I ni
def g193 (call : CallT) : List Nat → Nat → Nat → Nat → Nat → KF → Res := unS fun t0 => unS fun t1 => unS fun t2 => unS fun t3 => un0 (F193 call t0 t1 t2 t3)
/- fretwork/low.Blocks$1 -/
def F184 (call : CallT) (t0 t1 M nm I ni : Nat) (kf : KF) : Res :=
 boxK 2 (.k t0) zf M nm I ni fun v1 M nm I ni =>
 ld t1 M fun v3 =>
 iadrAK 2 1 (.k v1) (.k 295147905179352825861) zf I ni fun v4 I ni =>
 ld v4 M fun v5 =>
 ia 3 v3 v5 fun v6 =>
 fa 0 v6 fun v7 =>
 ld v7 M fun v8 =>
 ld t1 M fun v9 =>
 iadrAK 2 1 (.k v1) (.k 295147905179352825893) zf I ni fun v10 I ni =>
 ld v10 M fun v11 =>
 ia 3 v9 v11 fun v12 =>
 fa 0 v12 fun v13 =>
 ld v13 M fun v14 =>
 lt 5 v14 v8 fun v15 =>
 cnd v15 (iadrAK 2 1 (.k v1) (.k 295147905179352825861) zf I ni fun v16 I ni =>
 ld v16 M fun v17 =>
 kf v17 M nm I ni)
 (iadrAK 2 1 (.k v1) (.k 295147905179352825893) zf I ni fun v19 I ni =>
 ld v19 M fun v20 =>
 kf v20 M nm I ni)
def g184 (call : CallT) : List Nat → Nat → Nat → Nat → Nat → KF → Res := unS fun t0 => unS fun t1 => un0 (F184 call t0 t1)
/- fretwork/fretworklaw25.awake -/
def S13_1 (call : CallT) (kf : KF) (t26 M nm I ni : Nat) : Res :=
 ln t26 fun v3 =>
 sb v3 295147905179352825893 fun v4 =>
 slcK 1 (.k t26) none (some (.k v4)) none zf I ni fun v5 I ni =>
 call 28 [295147905179352825925, v5] M nm I ni fun v6 M nm I ni =>
 f1 19 0 v6 I fun v8 =>
 f1 19 1 v6 I fun v9 =>
 call 28 [295147905179352825925, t26] M nm I ni fun v13 M nm I ni =>
 f1 19 0 v13 I fun v15 =>
 f1 19 1 v13 I fun v16 =>
 eq 5 v9 295147905179352833861 fun v20 =>
 jn (fun (v25 : Nat) =>
 pk v20 v25 1 fun v26 =>
 jn (fun (v32 v33 v34 M nm I ni : Nat) =>
 jn (fun (v38 M37 nm I ni : Nat) =>
 flG v26 33 (flS v33 M M37) <| 
 jn (fun (v42 M nm I ni : Nat) =>
 pk v26 v42 1 fun v43 =>
 kf v43 M nm I ni)
 (fun j39 => gd v26 33 (strOfW v38 M37 I ni fun v40 I ni =>
 seqK false (.k v40) (.k v34) zf I ni fun v41 I ni =>
 j39 v41 M37 nm I ni) (j39 0 M37 nm I ni)))
 (fun j35 => gd v26 33 (call 12 [v32] M nm I ni fun v36 M nm I ni => j35 v36 M nm I ni) (j35 0 M nm I ni)))
 (fun j28 => gd v26 33 (strOfW t26 M I ni fun v31 I ni =>
 j28 v15 t26 v31 M nm I ni) (j28 0 0 0 M nm I ni)))
 (fun j22 => gd v20 33 (eq 5 v16 295147905179352825861 fun v24 =>
 j22 v24) (j22 0))
def S13_2 (call : CallT) (kf : KF) (t1 t16 t17 t19 t20 t21 t22 t25 t26 t28 M nm I ni : Nat) : Res :=
 jn (S13_1 call kf) fun j45 =>
 jn (fun (t26 t196 M nm I ni : Nat) =>
 cnd t196 (kf 1 M nm I ni)
 (j45 t26 M nm I ni)) fun j47 =>
 ne 5 t16 295147905179352826021 fun v49 =>
 jn (fun (v55 M nm I ni : Nat) =>
 pk v49 33 v55 fun v56 =>
 jn (fun (v61 : Nat) =>
 pk v56 33 v61 fun v62 =>
 jn (fun (v67 : Nat) =>
 pk v62 33 v67 fun v68 =>
 jn (fun (v74 : Nat) =>
 pk v68 33 v74 fun v75 =>
 jn (fun (v82 : Nat) =>
 pk v75 33 v82 fun v83 =>
 jn (fun (v88 : Nat) =>
 pk v83 33 v88 fun v89 =>
 jn (fun (v94 M nm I ni : Nat) =>
 pk v89 33 v94 fun v95 =>
 jn (fun (v99 : Nat) =>
 pk v95 33 v99 fun v100 =>
 jn (fun (v105 : Nat) =>
 pk v100 33 v105 fun v106 =>
 jn (fun (v112 : Nat) =>
 pk v106 33 v112 fun v113 =>
 jn (fun (v120 : Nat) =>
 pk v113 33 v120 fun v121 =>
 jn (fun (v128 : Nat) =>
 pk v121 33 v128 fun v129 =>
 j47 t26 v129 M nm I ni)
 (fun j123 => gd v121 1 (ia 1 t26 295147905179352826085 fun v125 =>
 ld v125 M fun v126 =>
 ne 6 v126 70 fun v127 =>
 j123 v127) (j123 0)))
 (fun j115 => gd v113 1 (ia 1 t26 295147905179352825957 fun v117 =>
 ld v117 M fun v118 =>
 ne 6 v118 70 fun v119 =>
 j115 v119) (j115 0)))
 (fun j108 => gd v106 1 (ln t26 fun v110 =>
 lt 5 v110 295147905179352826501 fun v111 =>
 j108 v111) (j108 0)))
 (fun j102 => gd v100 1 (ne 5 t28 295147905179352826021 fun v104 =>
 j102 v104) (j102 0)))
 (fun j97 => gd v95 1 (j97 t25) (j97 0)))
 (fun j91 => gd v89 1 (notK (.k t22) zf I ni fun v93 I ni =>
 j91 v93 M nm I ni) (j91 0 M nm I ni)))
 (fun j85 => gd v83 1 (ne 5 t21 295147905179352825925 fun v87 =>
 j85 v87) (j85 0)))
 (fun j77 => gd v75 1 (fa 1 t20 fun v78 =>
 ld v78 M fun v79 =>
 ln v79 fun v80 =>
 ne 5 v80 295147905179352825925 fun v81 =>
 j77 v81) (j77 0)))
 (fun j70 => gd v68 1 (fa 0 t20 fun v71 =>
 ld v71 M fun v72 =>
 ne 5 v72 295147905179352825957 fun v73 =>
 j70 v73) (j70 0)))
 (fun j64 => gd v62 1 (ne 5 t17 295147905179352825893 fun v66 =>
 j64 v66) (j64 0)))
 (fun j58 => gd v56 1 (ne 5 t19 295147905179352825861 fun v60 =>
 j58 v60) (j58 0)))
 (fun j51 => gd v49 1 (call 7 [t1] M nm I ni fun v53 M nm I ni =>
 ne 5 v53 295147905179352825925 fun v54 =>
 j51 v54 M nm I ni) (j51 0 M nm I ni))
def S13_3 (call : CallT) (kf : KF) (t1 t16 t17 t19 t20 t21 t22 t25 t26 M nm I ni : Nat) : Res :=
 jn (S13_2 call kf) fun j130 =>
 call 28 [295147905179352825893, t26] M nm I ni fun v132 M nm I ni =>
 f1 19 0 v132 I fun v134 =>
 f1 19 1 v132 I fun v135 =>
 j130 t1 t16 t17 t19 t20 t21 t22 t25 t26 v135 M nm I ni
def S13_4 (call : CallT) (kf : KF) (t1 t16 t17 t19 t20 t21 t22 t25 M nm I ni : Nat) : Res :=
 jn (S13_3 call kf) fun j138 =>
 call 12 [t1] M nm I ni fun v140 M nm I ni =>
 j138 t1 t16 t17 t19 t20 t21 t22 t25 v140 M nm I ni
def S13_5 (call : CallT) (kf : KF) (t1 t16 t17 t19 t20 t21 t22 M nm I ni : Nat) : Res :=
 jn (S13_4 call kf) fun j142 =>
 call 8 [t1, 295147905179352825957] M nm I ni fun v144 M nm I ni =>
 f1 19 0 v144 I fun v146 =>
 f1 19 1 v144 I fun v147 =>
 f1 19 2 v144 I fun v148 =>
 newK 2 871509787952055618708336279557 M nm I ni fun v149 M nm I ni =>
 storeK 2 (.k v149) (.k v146) zf M nm I ni fun _ M nm I ni =>
 j142 t1 t16 t17 t19 t20 t21 t22 v148 M nm I ni
def S13_6 (call : CallT) (kf : KF) (t1 t16 t17 t19 M nm I ni : Nat) : Res :=
 jn (S13_5 call kf) fun j152 =>
 call 8 [t1, 295147905179352825893] M nm I ni fun v154 M nm I ni =>
 f1 19 0 v154 I fun v156 =>
 f1 19 1 v154 I fun v157 =>
 f1 19 2 v154 I fun v158 =>
 newK 2 871509787952055618708336279557 M nm I ni fun v159 M nm I ni =>
 storeK 2 (.k v159) (.k v156) zf M nm I ni fun _ M nm I ni =>
 j152 t1 t16 t17 t19 v159 v157 v158 M nm I ni
def S13_7 (call : CallT) (kf : KF) (t1 t16 M nm I ni : Nat) : Res :=
 jn (S13_6 call kf) fun j162 =>
 buildK 2 23384026197294446691655098136326997907641993265157 [(0, 1, (.k 295147905179352825861)), (1, 1, (.k 295147905179352825925))] zf I ni fun v164 I ni =>
 buildK 2 23384026197294446691655098136326997907641993265157 [(0, 1, (.k 295147905179352825893)), (1, 1, (.k 295147905179352825925))] zf I ni fun v165 I ni =>
 bldSK 2 2 23384026197294446691655098136326997907641993265157 [(0, 2, (.k v164)), (2, 2, (.k v165))] zf M nm I ni fun v166 M nm I ni =>
 buildK 2 871509787952055618708336279557 [(0, 1, (.k 295147905179352825957)), (1, 1, (.k v166))] zf I ni fun v167 I ni =>
 call 11 [t1, v167] M nm I ni fun v168 M nm I ni =>
 f1 19 0 v168 I fun v170 =>
 f1 19 1 v168 I fun v171 =>
 f1 19 2 v168 I fun v172 =>
 j162 t1 t16 v170 v172 M nm I ni
def S13_8 (call : CallT) (kf : KF) (t1 M nm I ni : Nat) : Res :=
 jn (S13_7 call kf) fun j176 =>
 buildK 2 871509787952055618708336279557 [(0, 1, (.k 295147905179352825893))] zf I ni fun v178 I ni =>
 call 10 [t1, v178] M nm I ni fun v179 M nm I ni =>
 f1 19 0 v179 I fun v181 =>
 f1 19 1 v179 I fun v182 =>
 f1 19 2 v179 I fun v183 =>
 j176 t1 v183 M nm I ni
def S13_9 (call : CallT) (kf : KF) (t1 t2 t5 t6 t7 t8 t9 t10 t11 t12 t13 M nm I ni : Nat) : Res :=
 jn (S13_8 call kf) fun j187 =>
 ne 5 t2 295147905179352825861 fun v189 =>
 jn (fun (v194 : Nat) =>
 pk v189 33 v194 fun v195 =>
 jn (fun (v200 : Nat) =>
 pk v195 33 v200 fun v201 =>
 jn (fun (v206 : Nat) =>
 pk v201 33 v206 fun v207 =>
 jn (fun (v212 : Nat) =>
 pk v207 33 v212 fun v213 =>
 jn (fun (v218 : Nat) =>
 pk v213 33 v218 fun v219 =>
 jn (fun (v224 : Nat) =>
 pk v219 33 v224 fun v225 =>
 jn (fun (v230 M nm I ni : Nat) =>
 pk v225 33 v230 fun v231 =>
 jn (fun (v235 : Nat) =>
 pk v231 33 v235 fun v236 =>
 jn (fun (v241 M nm I ni : Nat) =>
 pk v236 33 v241 fun v242 =>
 cnd v242 (kf 1 M nm I ni)
 (j187 t1 M nm I ni))
 (fun j238 => gd v236 1 (notK (.k t12) zf I ni fun v240 I ni =>
 j238 v240 M nm I ni) (j238 0 M nm I ni)))
 (fun j233 => gd v231 1 (j233 t9) (j233 0)))
 (fun j227 => gd v225 1 (notK (.k t6) zf I ni fun v229 I ni =>
 j227 v229 M nm I ni) (j227 0 M nm I ni)))
 (fun j221 => gd v219 1 (ne 5 t11 295147905179352825925 fun v223 =>
 j221 v223) (j221 0)))
 (fun j215 => gd v213 1 (ne 5 t8 295147905179352825893 fun v217 =>
 j215 v217) (j215 0)))
 (fun j209 => gd v207 1 (ne 5 t5 295147905179352825893 fun v211 =>
 j209 v211) (j209 0)))
 (fun j203 => gd v201 1 (ne 5 t13 295147905179352825861 fun v205 =>
 j203 v205) (j203 0)))
 (fun j197 => gd v195 1 (ne 5 t10 295147905179352825861 fun v199 =>
 j197 v199) (j197 0)))
 (fun j191 => gd v189 1 (ne 5 t7 295147905179352825861 fun v193 =>
 j191 v193) (j191 0))
def S13_10 (call : CallT) (kf : KF) (t1 t2 t5 t6 t7 t8 t9 t10 M nm I ni : Nat) : Res :=
 jn (S13_9 call kf) fun j244 =>
 buildK 2 871509787952055618708336279557 [(0, 1, (.k 295147905179352825925))] zf I ni fun v246 I ni =>
 call 10 [t1, v246] M nm I ni fun v247 M nm I ni =>
 f1 19 0 v247 I fun v249 =>
 f1 19 1 v247 I fun v250 =>
 f1 19 2 v247 I fun v251 =>
 j244 t1 t2 t5 t6 t7 t8 t9 t10 v249 v250 v251 M nm I ni
def S13_11 (call : CallT) (kf : KF) (t1 t2 t4 t5 t6 t7 M nm I ni : Nat) : Res :=
 jn (S13_10 call kf) fun j255 =>
 loadNK 2 (.k t4) zf M I ni fun v257 I ni =>
 call 10 [t1, v257] M nm I ni fun v258 M nm I ni =>
 f1 19 0 v258 I fun v260 =>
 f1 19 1 v258 I fun v261 =>
 f1 19 2 v258 I fun v262 =>
 j255 t1 t2 t5 t6 t7 v260 v261 v262 M nm I ni
def S13_12 (call : CallT) (kf : KF) (t1 t2 t3 t4 M nm I ni : Nat) : Res :=
 jn (S13_11 call kf) fun j266 =>
 loadNK 2 (.k t3) zf M I ni fun v268 I ni =>
 call 10 [t1, v268] M nm I ni fun v269 M nm I ni =>
 f1 19 0 v269 I fun v271 =>
 f1 19 1 v269 I fun v272 =>
 f1 19 2 v269 I fun v273 =>
 j266 t1 t2 t4 v271 v272 v273 M nm I ni
def S13_13 (call : CallT) (kf : KF) (t1 t2 M nm I ni : Nat) : Res :=
 jn (S13_12 call kf) fun j277 =>
 buildK 2 23384026197294446691655098136326997907641993265157 [(0, 1, (.k 295147905179352825861)), (1, 1, (.k 295147905179352825893))] zf I ni fun v278 I ni =>
 buildK 2 23384026197294446691655098136326997907641993265157 [(0, 1, (.k 295147905179352825893)), (1, 1, (.k 295147905179352825925))] zf I ni fun v279 I ni =>
 bldSK 2 2 23384026197294446691655098136326997907641993265157 [(0, 2, (.k v278)), (2, 2, (.k v279))] zf M nm I ni fun v280 M nm I ni =>
 buildK 2 871509787952055618708336279557 [(0, 1, (.k 295147905179352825957)), (1, 1, (.k v280))] zf I ni fun v281 I ni =>
 buildK 2 23384026197294446691655098136326997907641993265157 [(0, 1, (.k 295147905179352825861)), (1, 1, (.k 295147905179352825893))] zf I ni fun v282 I ni =>
 buildK 2 23384026197294446691655098136326997907641993265157 [(0, 1, (.k 295147905179352825861)), (1, 1, (.k 295147905179352825925))] zf I ni fun v283 I ni =>
 bldSK 2 2 23384026197294446691655098136326997907641993265157 [(0, 2, (.k v282)), (2, 2, (.k v283))] zf M nm I ni fun v284 M nm I ni =>
 buildK 2 871509787952055618708336279557 [(0, 1, (.k 295147905179352825957)), (1, 1, (.k v284))] zf I ni fun v285 I ni =>
 newK 2 871509787952055618708336279557 M nm I ni fun v286 M nm I ni =>
 newK 2 871509787952055618708336279557 M nm I ni fun v287 M nm I ni =>
 storeK 2 (.k v286) (.k v281) zf M nm I ni fun _ M nm I ni =>
 storeK 2 (.k v287) (.k v285) zf M nm I ni fun _ M nm I ni =>
 j277 t1 t2 v286 v287 M nm I ni
def S13_14 (call : CallT) (kf : KF) (M nm I ni : Nat) : Res :=
 jn (S13_13 call kf) fun j288 =>
 call 18 [295147905179352825925] M nm I ni fun v289 M nm I ni =>
 f1 19 0 v289 I fun v291 =>
 f1 19 1 v289 I fun v292 =>
 j288 v291 v292 M nm I ni
def F13 (call : CallT) (M nm I ni : Nat) (kf : KF) : Res :=
 jn (S13_14 call kf) fun j295 =>
 j295 M nm I ni
def g13 (call : CallT) : List Nat → Nat → Nat → Nat → Nat → KF → Res := un0 (F13 call)
/- fretwork/figures.Code$1 -/
def F126 (call : CallT) (t0 t1 M nm I ni : Nat) (kf : KF) : Res :=
 boxK 2 (.k t0) zf M nm I ni fun v1 M nm I ni =>
 boxK 2 (.k t1) zf M nm I ni fun v2 M nm I ni =>
 iadrAK 2 1 (.k v1) (.k 295147905179352825861) zf I ni fun v4 I ni =>
 ld v4 M fun v5 =>
 iadrAK 2 1 (.k v2) (.k 295147905179352825861) zf I ni fun v6 I ni =>
 ld v6 M fun v7 =>
 iadrAK 2 1 (.k v1) (.k 295147905179352825893) zf I ni fun v8 I ni =>
 ld v8 M fun v9 =>
 iadrAK 2 1 (.k v2) (.k 295147905179352825893) zf I ni fun v10 I ni =>
 ld v10 M fun v11 =>
 call 67 [v5, v7] M nm I ni fun v13 M12 nm I ni =>
 flL v8 1 M M12 <| flL v10 1 M M12 <| 
 call 67 [v9, v11] M12 nm I ni fun v14 M nm I ni =>
 bldSK 2 1 295147905179352825861 [(0, 1, (.k v13)), (1, 1, (.k v14))] zf M nm I ni fun v15 M nm I ni =>
 call 66 [v15] M nm I ni fun v16 M nm I ni =>
 kf v16 M nm I ni
def g126 (call : CallT) : List Nat → Nat → Nat → Nat → Nat → KF → Res := unS fun t0 => unS fun t1 => un0 (F126 call t0 t1)
/- (*fretwork/catalogue.Cat).Put -/
def S10_1 (call : CallT) (kf : KF) (t0 t7 M nm I ni : Nat) : Res :=
 nilcK (.k t0) zf I ni fun v2 I ni =>
 fa 2 v2 fun v3 =>
 ld v3 M fun v4 =>
 ln v4 fun v5 =>
 nilcK (.k t0) zf I ni fun v7 I ni =>
 fa 1 v7 fun v8 =>
 ld v8 M fun v9 =>
 ge 5 v5 v9 fun v10 =>
 cnd v10 (rtn 3 [295147905179352825861, 1, 295147905179352826021] M nm I ni kf)
 (fa 0 t7 fun v15 =>
 ld v15 M fun v16 =>
 strOfW v16 M I ni fun v17 I ni =>
 call 26 [t0, v17, 295147905179352825893] M nm I ni fun v18 M nm I ni =>
 rtn 3 [v18, 33, 295147905179352825861] M nm I ni kf)
def S10_2 (call : CallT) (kf : KF) (t0 t7 M nm I ni : Nat) : Res :=
 jn (S10_1 call kf) fun j22 =>
 nilcK (.k t0) zf I ni fun v24 I ni =>
 fa 4 v24 fun v25 =>
 ld v25 M fun v26 =>
 fa 0 t7 fun v27 =>
 ld v27 M fun v28 =>
 strOfW v28 M I ni fun v29 I ni =>
 lookK .str true false 1 295147905179352825861 (.k v26) (.k v29) zf M I ni fun v30 I ni =>
 f1 19 0 v30 I fun v32 =>
 f1 19 1 v30 I fun v33 =>
 cnd v33 (nilcK (.k t0) zf I ni fun v38 I ni =>
 fa 3 v38 fun v39 =>
 ld v39 M fun v40 =>
 sb v32 295147905179352825893 fun v42 =>
 ia 1 v40 v42 fun v43 =>
 ld v43 M fun v44 =>
 lt 5 v44 295147905248072302565 fun v45 =>
 cnd v45 (nilcK (.k t0) zf I ni fun v47 I ni =>
 fa 3 v47 fun v48 =>
 ld v48 M fun v49 =>
 sb v32 295147905179352825893 fun v51 =>
 ia 1 v49 v51 fun v52 =>
 ld v52 M fun v53 =>
 ad v53 295147905179352825893 fun v54 =>
 ia 1 v49 v51 fun v55 =>
 storeK 1 (.k v55) (.k v54) zf M nm I ni fun _ M nm I ni =>
 rtn 3 [v32, 1, 295147905179352825861] M nm I ni kf)
 (rtn 3 [v32, 1, 295147905179352825861] M nm I ni kf))
 (j22 t0 t7 M nm I ni)
def S10_3 (call : CallT) (kf : KF) (t0 t7 t8 M nm I ni : Nat) : Res :=
 jn (S10_2 call kf) fun j64 =>
 ne 5 t8 295147905179352825861 fun v66 =>
 cnd v66 (rtn 3 [295147905179352825861, 1, t8] M nm I ni kf)
 (j64 t0 t7 M nm I ni)
def S10_4 (call : CallT) (kf : KF) (t0 t3 M nm I ni : Nat) : Res :=
 jn (S10_3 call kf) fun j71 =>
 loadNK 2 (.k t3) zf M I ni fun v72 I ni =>
 call 23 [v72] M nm I ni fun v73 M nm I ni =>
 f1 19 0 v73 I fun v75 =>
 f1 19 1 v73 I fun v76 =>
 newK 2 871509787656907713528983453707 M nm I ni fun v77 M nm I ni =>
 storeK 2 (.k v77) (.k v75) zf M nm I ni fun _ M nm I ni =>
 j71 t0 v77 v76 M nm I ni
def S10_5 (call : CallT) (kf : KF) (t0 t3 M nm I ni : Nat) : Res :=
 jn (S10_4 call kf) fun j79 =>
 call 20 [t0] M nm I ni fun v81 M nm I ni =>
 cnd v81 (rtn 3 [295147905179352825861, 1, 295147905179352825893] M nm I ni kf)
 (j79 t0 t3 M nm I ni)
def F10 (call : CallT) (t0 t1 M nm I ni : Nat) (kf : KF) : Res :=
 jn (S10_5 call kf) fun j85 =>
 boxK 2 (.k t1) zf M nm I ni fun v86 M nm I ni =>
 j85 t0 v86 M nm I ni
def g10 (call : CallT) : List Nat → Nat → Nat → Nat → Nat → KF → Res := unS fun t0 => unS fun t1 => un0 (F10 call t0 t1)
/- fretwork/decode.Decode -/
def F21 (call : CallT) (t0 M nm I ni : Nat) (kf : KF) : Res :=
 newK 2 871509787952055618708336279557 M nm I ni fun v1 M nm I ni =>
 call 39 [t0] M nm I ni fun v4 M nm I ni =>
 f1 19 0 v4 I fun v6 =>
 f1 19 1 v4 I fun v7 =>
 newK 2 871509787952055618708336279557 M nm I ni fun v8 M nm I ni =>
 storeK 2 (.k v8) (.k v6) zf M nm I ni fun _ M nm I ni =>
 ne 5 v7 295147905179352825861 fun v11 =>
 cnd v11 (buildK 2 871509787952055618708336279557 [] zf I ni fun v12 I ni =>
 storeK 2 (.k v1) (.k v12) zf M nm I ni fun _ M nm I ni =>
 loadNK 2 (.k v1) zf M I ni fun v14 I ni => rtn 2 [v14, 295147905179352832901] M nm I ni kf)
 (loadNK 2 (.k v8) zf M I ni fun v15 I ni =>
 call 23 [v15] M nm I ni fun v16 M nm I ni =>
 f1 19 0 v16 I fun v18 =>
 f1 19 1 v16 I fun v19 =>
 newK 2 871509787656907713528983453707 M nm I ni fun v20 M nm I ni =>
 storeK 2 (.k v20) (.k v18) zf M nm I ni fun _ M nm I ni =>
 ne 5 v19 295147905179352825861 fun v23 =>
 jn (fun (v31 M nm I ni : Nat) =>
 pk v23 33 v31 fun v32 =>
 cnd v32 (buildK 2 871509787952055618708336279557 [] zf I ni fun v33 I ni =>
 storeK 2 (.k v1) (.k v33) zf M nm I ni fun _ M nm I ni =>
 loadNK 2 (.k v1) zf M I ni fun v35 I ni => rtn 2 [v35, 295147905179352832901] M nm I ni kf)
 (loadNK 2 (.k v8) zf M I ni fun v36 I ni =>
 storeK 2 (.k v1) (.k v36) zf M nm I ni fun _ M nm I ni =>
 loadNK 2 (.k v1) zf M I ni fun v38 I ni => rtn 2 [v38, 295147905179352825861] M nm I ni kf))
 (fun j25 => gd v23 1 (fa 0 v20 fun v26 =>
 ld v26 M fun v27 =>
 call 40 [v27, t0] M nm I ni fun v29 M nm I ni =>
 notK (.k v29) zf I ni fun v30 I ni =>
 j25 v30 M nm I ni) (j25 0 M nm I ni)))
def g21 (call : CallT) : List Nat → Nat → Nat → Nat → Nat → KF → Res := unS fun t0 => un0 (F21 call t0)
/- slices.pdqsortCmpFunc[[]byte] -/
def S188_1 (call : CallT) (n2 : Nat) (j1 : Nat → Nat → Nat → Nat → Nat → Nat → Nat → Nat → Nat → Nat → Nat → Res) (t0 t1 t2 t3 t4 t10 t11 t12 t13 M nm I ni : Nat) : Res :=
 lt 5 295147905179352825861 t1 fun v4 =>
 jn (fun (v20 M nm I ni : Nat) =>
 pk v4 v20 1 fun v21 =>
 cnd v21 (call 199 [t0, t1, t2, t13, t4] M nm I ni fun v27 M nm I ni =>
 j1 t0 v27 t2 t3 t4 t10 t11 M nm I ni)
 (call 200 [t0, t1, t2, t13, t4] M nm I ni fun v36 M nm I ni =>
 f1 19 0 v36 I fun v38 =>
 f1 19 1 v36 I fun v39 =>
 sbt n2 v38 t1 fun v46 =>
 sbt n2 t2 v38 fun v49 =>
 iopK .quo .i64 (.k t12) (.k 295147905179352826117) zf I ni fun v53 I ni => tkk n2 v53 fun v54 =>
 lt 5 v46 v49 fun v58 =>
 cnd v58 (ge 5 v46 v54 fun v61 =>
 call 188 [t0, t1, v38, t3, t4] M nm I ni fun v68 M nm I ni =>
 adt n2 v38 295147905179352825893 fun v70 =>
 j1 t0 v70 t2 t3 t4 v61 v39 M nm I ni)
 (ge 5 v49 v54 fun v74 =>
 adt n2 v38 295147905179352825893 fun v78 =>
 call 188 [t0, v78, t2, t3, t4] M nm I ni fun v82 M nm I ni =>
 j1 t0 t1 v38 t3 t4 v74 v39 M nm I ni)))
 (fun j6 => gd v4 33 (sbt n2 t1 295147905179352825893 fun v10 =>
 ia 1 t0 v10 fun v11 =>
 ld v11 M fun v12 =>
 ia 1 t0 t13 fun v15 =>
 ld v15 M fun v16 =>
 callvS call (.k t4) [(.k v12), (.k v16)] zf M nm I ni fun v17 M nm I ni =>
 lt 5 v17 295147905179352825861 fun v18 =>
 notK (.k v18) zf I ni fun v19 I ni =>
 j6 v19 M nm I ni) (j6 0 M nm I ni))
def S188_2 (call : CallT) (kf : KF) (n2 : Nat) (j1 : Nat → Nat → Nat → Nat → Nat → Nat → Nat → Nat → Nat → Nat → Nat → Res) (t0 t1 t2 t3 t4 t10 t11 t12 t13 t14 M nm I ni : Nat) : Res :=
 jn (S188_1 call n2 j1) fun j85 =>
 jn (fun (v90 : Nat) =>
 pk t10 v90 1 fun v91 =>
 jn (fun (v96 : Nat) =>
 pk v91 v96 1 fun v97 =>
 cnd v97 (call 198 [t0, t1, t2, t4] M nm I ni fun v102 M nm I ni =>
 cnd v102 (rtn 0 [] M nm I ni kf)
 (j85 t0 t1 t2 t3 t4 t10 t11 t12 t13 M nm I ni))
 (j85 t0 t1 t2 t3 t4 t10 t11 t12 t13 M nm I ni))
 (fun j93 => gd v91 33 (eq 5 t14 295147905179352825893 fun v95 =>
 j93 v95) (j93 0)))
 (fun j88 => gd t10 33 (j88 t11) (j88 0))
def S188_3 (call : CallT) (kf : KF) (n2 : Nat) (j1 : Nat → Nat → Nat → Nat → Nat → Nat → Nat → Nat → Nat → Nat → Nat → Res) (t0 t1 t2 t3 t4 t10 t11 t12 t13 t14 M nm I ni : Nat) : Res :=
 jn (S188_2 call kf n2 j1) fun j103 =>
 eq 5 t14 295147905179352825925 fun v105 =>
 cnd v105 (call 197 [t0, t1, t2, t4] M nm I ni fun v110 M nm I ni =>
 sbt n2 t2 295147905179352825893 fun v112 =>
 sbt n2 t13 t1 fun v115 =>
 sbt n2 v112 v115 fun v116 =>
 j103 t0 t1 t2 t3 t4 t10 t11 t12 v116 295147905179352825893 M nm I ni)
 (j103 t0 t1 t2 t3 t4 t10 t11 t12 t13 t14 M nm I ni)
def S188_4 (call : CallT) (kf : KF) (n2 : Nat) (j1 : Nat → Nat → Nat → Nat → Nat → Nat → Nat → Nat → Nat → Nat → Nat → Res) (t0 t1 t2 t3 t4 t10 t11 t12 M nm I ni : Nat) : Res :=
 jn (S188_3 call kf n2 j1) fun j119 =>
 call 196 [t0, t1, t2, t4] M nm I ni fun v124 M nm I ni =>
 f1 19 0 v124 I fun v126 =>
 f1 19 1 v124 I fun v127 =>
 j119 t0 t1 t2 t3 t4 t10 t11 t12 v126 v127 M nm I ni
def S188_5 (call : CallT) (kf : KF) (n2 : Nat) (j1 : Nat → Nat → Nat → Nat → Nat → Nat → Nat → Nat → Nat → Nat → Nat → Res) (t0 t1 t2 t3 t4 t10 t11 t12 M nm I ni : Nat) : Res :=
 jn (S188_4 call kf n2 j1) fun j130 =>
 notK (.k t10) zf I ni fun v132 I ni =>
 cnd v132 (call 195 [t0, t1, t2, t4] M nm I ni fun v137 M nm I ni =>
 sbt n2 t3 295147905179352825893 fun v139 =>
 j130 t0 t1 t2 v139 t4 t10 t11 t12 M nm I ni)
 (j130 t0 t1 t2 t3 t4 t10 t11 t12 M nm I ni)
def S188_6 (call : CallT) (kf : KF) (n2 : Nat) (j1 : Nat → Nat → Nat → Nat → Nat → Nat → Nat → Nat → Nat → Nat → Nat → Res) (t0 t1 t2 t3 t4 t10 t11 t12 M nm I ni : Nat) : Res :=
 jn (S188_5 call kf n2 j1) fun j141 =>
 eq 5 t3 295147905179352825861 fun v143 =>
 cnd v143 (call 194 [t0, t1, t2, t4] M nm I ni fun v148 M nm I ni =>
 rtn 0 [] M nm I ni kf)
 (j141 t0 t1 t2 t3 t4 t10 t11 t12 M nm I ni)
def S188_7 (call : CallT) (kf : KF) (n2 : Nat) (j1 : Nat → Nat → Nat → Nat → Nat → Nat → Nat → Nat → Nat → Nat → Nat → Res) (t0 t1 t2 t3 t4 t10 t11 t12 M nm I ni : Nat) : Res :=
 jn (S188_6 call kf n2 j1) fun j149 =>
 ge 5 295147905179352826245 t12 fun v151 =>
 cnd v151 (call 193 [t0, t1, t2, t4] M nm I ni fun v156 M nm I ni =>
 rtn 0 [] M nm I ni kf)
 (j149 t0 t1 t2 t3 t4 t10 t11 t12 M nm I ni)
def S188_8 (call : CallT) (kf : KF) (n2 : Nat) (j1 : Nat → Nat → Nat → Nat → Nat → Nat → Nat → Nat → Nat → Nat → Nat → Res) (t0 t1 t2 t3 t4 t10 t11 M nm I ni : Nat) : Res :=
 jn (S188_7 call kf n2 j1) fun j157 =>
 sbt n2 t2 t1 fun v160 =>
 j157 t0 t1 t2 t3 t4 t10 t11 v160 M nm I ni
def S188_9 (call : CallT) (kf : KF) (t0 t1 t2 t3 t4 t10 t11 M nm I ni : Nat) : Res :=
 lp (S188_8 call kf) (fun _ _ _ _ _ _ _ _ _ _ _ => .bad 73 0) t0 t1 t2 t3 t4 t10 t11 M nm I ni
def S188_10 (call : CallT) (kf : KF) (t0 t1 t2 t3 t4 t10 M nm I ni : Nat) : Res :=
 jn (S188_9 call kf) fun j162 =>
 j162 t0 t1 t2 t3 t4 t10 33 M nm I ni
def F188 (call : CallT) (t0 t1 t2 t3 t4 M nm I ni : Nat) (kf : KF) : Res :=
 jn (S188_10 call kf) fun j164 =>
 j164 t0 t1 t2 t3 t4 33 M nm I ni
def g188 (call : CallT) : List Nat → Nat → Nat → Nat → Nat → KF → Res := unS fun t0 => unS fun t1 => unS fun t2 => unS fun t3 => unS fun t4 => un0 (F188 call t0 t1 t2 t3 t4)
/- slices.pdqsortCmpFunc[int] -/
def S323_1 (call : CallT) (n2 : Nat) (j1 : Nat → Nat → Nat → Nat → Nat → Nat → Nat → Nat → Nat → Nat → Nat → Res) (t0 t1 t2 t3 t4 t10 t11 t12 t13 M nm I ni : Nat) : Res :=
 lt 5 295147905179352825861 t1 fun v4 =>
 jn (fun (v20 M nm I ni : Nat) =>
 pk v4 v20 1 fun v21 =>
 cnd v21 (call 344 [t0, t1, t2, t13, t4] M nm I ni fun v27 M nm I ni =>
 j1 t0 v27 t2 t3 t4 t10 t11 M nm I ni)
 (call 345 [t0, t1, t2, t13, t4] M nm I ni fun v36 M nm I ni =>
 f1 19 0 v36 I fun v38 =>
 f1 19 1 v36 I fun v39 =>
 sbt n2 v38 t1 fun v46 =>
 sbt n2 t2 v38 fun v49 =>
 iopK .quo .i64 (.k t12) (.k 295147905179352826117) zf I ni fun v53 I ni => tkk n2 v53 fun v54 =>
 lt 5 v46 v49 fun v58 =>
 cnd v58 (ge 5 v46 v54 fun v61 =>
 call 323 [t0, t1, v38, t3, t4] M nm I ni fun v68 M nm I ni =>
 adt n2 v38 295147905179352825893 fun v70 =>
 j1 t0 v70 t2 t3 t4 v61 v39 M nm I ni)
 (ge 5 v49 v54 fun v74 =>
 adt n2 v38 295147905179352825893 fun v78 =>
 call 323 [t0, v78, t2, t3, t4] M nm I ni fun v82 M nm I ni =>
 j1 t0 t1 v38 t3 t4 v74 v39 M nm I ni)))
 (fun j6 => gd v4 33 (sbt n2 t1 295147905179352825893 fun v10 =>
 ia 1 t0 v10 fun v11 =>
 ld v11 M fun v12 =>
 ia 1 t0 t13 fun v15 =>
 ld v15 M fun v16 =>
 callvS call (.k t4) [(.k v12), (.k v16)] zf M nm I ni fun v17 M nm I ni =>
 lt 5 v17 295147905179352825861 fun v18 =>
 notK (.k v18) zf I ni fun v19 I ni =>
 j6 v19 M nm I ni) (j6 0 M nm I ni))
def S323_2 (call : CallT) (kf : KF) (n2 : Nat) (j1 : Nat → Nat → Nat → Nat → Nat → Nat → Nat → Nat → Nat → Nat → Nat → Res) (t0 t1 t2 t3 t4 t10 t11 t12 t13 t14 M nm I ni : Nat) : Res :=
 jn (S323_1 call n2 j1) fun j85 =>
 jn (fun (v90 : Nat) =>
 pk t10 v90 1 fun v91 =>
 jn (fun (v96 : Nat) =>
 pk v91 v96 1 fun v97 =>
 cnd v97 (call 343 [t0, t1, t2, t4] M nm I ni fun v102 M nm I ni =>
 cnd v102 (rtn 0 [] M nm I ni kf)
 (j85 t0 t1 t2 t3 t4 t10 t11 t12 t13 M nm I ni))
 (j85 t0 t1 t2 t3 t4 t10 t11 t12 t13 M nm I ni))
 (fun j93 => gd v91 33 (eq 5 t14 295147905179352825893 fun v95 =>
 j93 v95) (j93 0)))
 (fun j88 => gd t10 33 (j88 t11) (j88 0))
def S323_3 (call : CallT) (kf : KF) (n2 : Nat) (j1 : Nat → Nat → Nat → Nat → Nat → Nat → Nat → Nat → Nat → Nat → Nat → Res) (t0 t1 t2 t3 t4 t10 t11 t12 t13 t14 M nm I ni : Nat) : Res :=
 jn (S323_2 call kf n2 j1) fun j103 =>
 eq 5 t14 295147905179352825925 fun v105 =>
 cnd v105 (call 342 [t0, t1, t2, t4] M nm I ni fun v110 M nm I ni =>
 sbt n2 t2 295147905179352825893 fun v112 =>
 sbt n2 t13 t1 fun v115 =>
 sbt n2 v112 v115 fun v116 =>
 j103 t0 t1 t2 t3 t4 t10 t11 t12 v116 295147905179352825893 M nm I ni)
 (j103 t0 t1 t2 t3 t4 t10 t11 t12 t13 t14 M nm I ni)
def S323_4 (call : CallT) (kf : KF) (n2 : Nat) (j1 : Nat → Nat → Nat → Nat → Nat → Nat → Nat → Nat → Nat → Nat → Nat → Res) (t0 t1 t2 t3 t4 t10 t11 t12 M nm I ni : Nat) : Res :=
 jn (S323_3 call kf n2 j1) fun j119 =>
 call 341 [t0, t1, t2, t4] M nm I ni fun v124 M nm I ni =>
 f1 19 0 v124 I fun v126 =>
 f1 19 1 v124 I fun v127 =>
 j119 t0 t1 t2 t3 t4 t10 t11 t12 v126 v127 M nm I ni
def S323_5 (call : CallT) (kf : KF) (n2 : Nat) (j1 : Nat → Nat → Nat → Nat → Nat → Nat → Nat → Nat → Nat → Nat → Nat → Res) (t0 t1 t2 t3 t4 t10 t11 t12 M nm I ni : Nat) : Res :=
 jn (S323_4 call kf n2 j1) fun j130 =>
 notK (.k t10) zf I ni fun v132 I ni =>
 cnd v132 (call 340 [t0, t1, t2, t4] M nm I ni fun v137 M nm I ni =>
 sbt n2 t3 295147905179352825893 fun v139 =>
 j130 t0 t1 t2 v139 t4 t10 t11 t12 M nm I ni)
 (j130 t0 t1 t2 t3 t4 t10 t11 t12 M nm I ni)
def S323_6 (call : CallT) (kf : KF) (n2 : Nat) (j1 : Nat → Nat → Nat → Nat → Nat → Nat → Nat → Nat → Nat → Nat → Nat → Res) (t0 t1 t2 t3 t4 t10 t11 t12 M nm I ni : Nat) : Res :=
 jn (S323_5 call kf n2 j1) fun j141 =>
 eq 5 t3 295147905179352825861 fun v143 =>
 cnd v143 (call 339 [t0, t1, t2, t4] M nm I ni fun v148 M nm I ni =>
 rtn 0 [] M nm I ni kf)
 (j141 t0 t1 t2 t3 t4 t10 t11 t12 M nm I ni)
def S323_7 (call : CallT) (kf : KF) (n2 : Nat) (j1 : Nat → Nat → Nat → Nat → Nat → Nat → Nat → Nat → Nat → Nat → Nat → Res) (t0 t1 t2 t3 t4 t10 t11 t12 M nm I ni : Nat) : Res :=
 jn (S323_6 call kf n2 j1) fun j149 =>
 ge 5 295147905179352826245 t12 fun v151 =>
 cnd v151 (call 338 [t0, t1, t2, t4] M nm I ni fun v156 M nm I ni =>
 rtn 0 [] M nm I ni kf)
 (j149 t0 t1 t2 t3 t4 t10 t11 t12 M nm I ni)
def S323_8 (call : CallT) (kf : KF) (n2 : Nat) (j1 : Nat → Nat → Nat → Nat → Nat → Nat → Nat → Nat → Nat → Nat → Nat → Res) (t0 t1 t2 t3 t4 t10 t11 M nm I ni : Nat) : Res :=
 jn (S323_7 call kf n2 j1) fun j157 =>
 sbt n2 t2 t1 fun v160 =>
 j157 t0 t1 t2 t3 t4 t10 t11 v160 M nm I ni
def S323_9 (call : CallT) (kf : KF) (t0 t1 t2 t3 t4 t10 t11 M nm I ni : Nat) : Res :=
 lp (S323_8 call kf) (fun _ _ _ _ _ _ _ _ _ _ _ => .bad 73 0) t0 t1 t2 t3 t4 t10 t11 M nm I ni
def S323_10 (call : CallT) (kf : KF) (t0 t1 t2 t3 t4 t10 M nm I ni : Nat) : Res :=
 jn (S323_9 call kf) fun j162 =>
 j162 t0 t1 t2 t3 t4 t10 33 M nm I ni
def F323 (call : CallT) (t0 t1 t2 t3 t4 M nm I ni : Nat) (kf : KF) : Res :=
 jn (S323_10 call kf) fun j164 =>
 j164 t0 t1 t2 t3 t4 33 M nm I ni
def g323 (call : CallT) : List Nat → Nat → Nat → Nat → Nat → KF → Res := unS fun t0 => unS fun t1 => unS fun t2 => unS fun t3 => unS fun t4 => un0 (F323 call t0 t1 t2 t3 t4)
/- slices.stableCmpFunc[fretwork/api.Named] -/
def S125_1 (call : CallT) (n2 : Nat) (j1 : Nat → Nat → Nat → Nat → Nat → Nat → Nat → Nat → Res) (t0 t1 t2 t6 t7 t8 M nm I ni : Nat) : Res :=
 jn (fun (t0 t1 t2 t6 t7 M nm I ni : Nat) =>
 adt n2 t7 t6 fun v5 =>
 lt 5 v5 t1 fun v9 =>
 cnd v9 (call 150 [t0, t7, v5, t1, t2] M nm I ni fun v15 M nm I ni =>
 iopK .mul .i64 (.k t6) (.k 295147905179352825925) zf I ni fun v17 I ni => tkk n2 v17 fun v18 =>
 j1 t0 t1 t2 v18 M nm I ni)
 (iopK .mul .i64 (.k t6) (.k 295147905179352825925) zf I ni fun v21 I ni => tkk n2 v21 fun v22 =>
 j1 t0 t1 t2 v22 M nm I ni)) fun j24 =>
 lp (fun (n26 : Nat) (j25 : Nat → Nat → Nat → Nat → Nat → Nat → Nat → Nat → Nat → Nat → Res) (t0 t1 t2 t6 t7 t8 M nm I ni : Nat) =>
 ge 5 t1 t8 fun v29 =>
 cnd v29 (adt n26 t7 t6 fun v34 =>
 call 150 [t0, t7, v34, t8, t2] M nm I ni fun v37 M nm I ni =>
 iopK .mul .i64 (.k 295147905179352825925) (.k t6) zf I ni fun v42 I ni => tkk n26 v42 fun v43 =>
 adt n26 t8 v43 fun v44 =>
 j25 t0 t1 t2 t6 t8 v44 M nm I ni)
 (j24 t0 t1 t2 t6 t7 M nm I ni)) (fun _ _ _ _ _ _ _ _ _ _ => .bad 73 0) t0 t1 t2 t6 t7 t8 M nm I ni
def S125_2 (call : CallT) (n2 : Nat) (j1 : Nat → Nat → Nat → Nat → Nat → Nat → Nat → Nat → Res) (t0 t1 t2 t6 M nm I ni : Nat) : Res :=
 jn (S125_1 call n2 j1) fun j46 =>
 iopK .mul .i64 (.k 295147905179352825925) (.k t6) zf I ni fun v48 I ni => tkk n2 v48 fun v49 =>
 j46 t0 t1 t2 t6 295147905179352825861 v49 M nm I ni
def S125_3 (call : CallT) (kf : KF) (n2 : Nat) (j1 : Nat → Nat → Nat → Nat → Nat → Nat → Nat → Nat → Res) (t0 t1 t2 t6 M nm I ni : Nat) : Res :=
 jn (S125_2 call n2 j1) fun j52 =>
 lt 5 t6 t1 fun v55 =>
 cnd v55 (j52 t0 t1 t2 t6 M nm I ni)
 (rtn 0 [] M nm I ni kf)
def S125_4 (call : CallT) (kf : KF) (t0 t1 t2 t6 M nm I ni : Nat) : Res :=
 lp (S125_3 call kf) (fun _ _ _ _ _ _ _ _ => .bad 73 0) t0 t1 t2 t6 M nm I ni
def S125_5 (call : CallT) (kf : KF) (t0 t1 t2 t6 t7 M nm I ni : Nat) : Res :=
 jn (S125_4 call kf) fun j56 =>
 call 149 [t0, t7, t1, t2] M nm I ni fun v61 M nm I ni =>
 j56 t0 t1 t2 t6 M nm I ni
def S125_6 (call : CallT) (kf : KF) (t0 t1 t2 t6 t7 t8 M nm I ni : Nat) : Res :=
 jn (S125_5 call kf) fun j62 =>
 lp (fun (n64 : Nat) (j63 : Nat → Nat → Nat → Nat → Nat → Nat → Nat → Nat → Nat → Nat → Res) (t0 t1 t2 t6 t7 t8 M nm I ni : Nat) =>
 ge 5 t1 t8 fun v67 =>
 cnd v67 (call 149 [t0, t7, t8, t2] M nm I ni fun v72 M nm I ni =>
 adt n64 t8 t6 fun v77 =>
 j63 t0 t1 t2 t6 t8 v77 M nm I ni)
 (j62 t0 t1 t2 t6 t7 M nm I ni)) (fun _ _ _ _ _ _ _ _ _ _ => .bad 73 0) t0 t1 t2 t6 t7 t8 M nm I ni
def S125_7 (call : CallT) (kf : KF) (t0 t1 t2 t6 M nm I ni : Nat) : Res :=
 jn (S125_6 call kf) fun j79 =>
 j79 t0 t1 t2 t6 295147905179352825861 t6 M nm I ni
def F125 (call : CallT) (t0 t1 t2 M nm I ni : Nat) (kf : KF) : Res :=
 jn (S125_7 call kf) fun j83 =>
 j83 t0 t1 t2 295147905179352826501 M nm I ni
def g125 (call : CallT) : List Nat → Nat → Nat → Nat → Nat → KF → Res := unS fun t0 => unS fun t1 => unS fun t2 => un0 (F125 call t0 t1 t2)
/- slices.Clone[[]int,int] -/
def F77 (call : CallT) (t0 M nm I ni : Nat) (kf : KF) : Res :=
 nilqK false 11 11 (.k t0) zf I ni fun v3 I ni =>
 cnd v3 (kf 11 M nm I ni)
 (bldSK 0 1 295147905179352825861 [] zf M nm I ni fun v5 M nm I ni =>
 appW 1 v5 t0 M nm I ni fun v7 M nm I ni =>
 kf v7 M nm I ni)
def g77 (call : CallT) : List Nat → Nat → Nat → Nat → Nat → KF → Res := unS fun t0 => un0 (F77 call t0)
/- (*fretwork/catalogue.Cat).Export -/
def S12_1 (call : CallT) (j3 : Nat → Nat → Nat → Nat → Nat → Res) (n5 : Nat) (j4 : Nat → Nat → Nat → Nat → Nat → Nat → Nat → Nat → Nat → Res) (t0 t3 t18 t19 t20 M nm I ni : Nat) : Res :=
 lt 5 t20 t19 fun v6 =>
 cnd v6 (ia 1 t18 t20 fun v8 =>
 ld v8 M fun v9 =>
 nilcK (.k t0) zf I ni fun v14 I ni =>
 fa 3 v14 fun v15 =>
 ld v15 M fun v16 =>
 ia 1 v16 t20 fun v18 =>
 ld v18 M fun v19 =>
 lenTK (.k v9) zf I ni fun v21 I ni =>
 bldSK 2 1 295147905179352825861 [(0, 1, (.k v19)), (1, 1, (.k v21))] zf M nm I ni fun v22 M nm I ni =>
 call 27 [v22] M nm I ni fun v23 M nm I ni =>
 appW 1 t3 v23 M nm I ni fun v24 M nm I ni =>
 appTW v24 v9 M nm I ni fun v28 M nm I ni =>
 adt n5 t20 295147905179352825893 fun v30 =>
 j4 t0 v28 t18 t19 v30 M nm I ni)
 (j3 t3 M nm I ni)
def S12_2 (call : CallT) (j3 : Nat → Nat → Nat → Nat → Nat → Res) (t0 t3 t18 t19 t20 M nm I ni : Nat) : Res :=
 lp (S12_1 call j3) (fun _ _ _ _ _ _ _ _ _ => .bad 73 0) t0 t3 t18 t19 t20 M nm I ni
def S12_3 (call : CallT) (kf : KF) (t0 t3 M nm I ni : Nat) : Res :=
 jn (fun (t3 M nm I ni : Nat) =>
 kf t3 M nm I ni) fun j3 =>
 jn (S12_2 call j3) fun j32 =>
 nilcK (.k t0) zf I ni fun v34 I ni =>
 fa 2 v34 fun v35 =>
 ld v35 M fun v36 =>
 ln v36 fun v37 =>
 j32 t0 t3 v36 v37 295147905179352825861 M nm I ni
def S12_4 (call : CallT) (kf : KF) (t0 M nm I ni : Nat) : Res :=
 jn (S12_3 call kf) fun j39 =>
 nilcK (.k t0) zf I ni fun v41 I ni =>
 fa 2 v41 fun v42 =>
 ld v42 M fun v43 =>
 ln v43 fun v44 =>
 bldSK 1 1 295147905179352825861 [(0, 1, (.k v44))] zf M nm I ni fun v45 M nm I ni =>
 call 27 [v45] M nm I ni fun v46 M nm I ni =>
 j39 t0 v46 M nm I ni
def S12_5 (call : CallT) (kf : KF) (t0 M nm I ni : Nat) : Res :=
 jn (S12_4 call kf) fun j48 =>
 call 20 [t0] M nm I ni fun v50 M nm I ni =>
 cnd v50 (kf 11 M nm I ni)
 (j48 t0 M nm I ni)
def F12 (call : CallT) (t0 M nm I ni : Nat) (kf : KF) : Res :=
 jn (S12_5 call kf) fun j52 =>
 j52 t0 M nm I ni
def g12 (call : CallT) : List Nat → Nat → Nat → Nat → Nat → KF → Res := unS fun t0 => un0 (F12 call t0)
/- slices.insertionSortCmpFunc[fretwork/api.Named] -/
def S149_1 (call : CallT) (j6 : Nat → Nat → Nat → Nat → Nat → Nat → Nat → Nat → Nat → Res) (n8 : Nat) (j7 : Nat → Nat → Nat → Nat → Nat → Nat → Nat → Nat → Nat → Nat → Res) (t0 t1 t2 t3 t8 t9 M nm I ni : Nat) : Res :=
 lt 5 t1 t9 fun v11 =>
 jn (fun (v26 M nm I ni : Nat) =>
 pk v11 v26 1 fun v27 =>
 cnd v27 (sbt n8 t9 295147905179352825893 fun v32 =>
 sbt n8 t9 295147905179352825893 fun v35 =>
 ia 2 t0 v35 fun v36 =>
 loadNK 2 (.k v36) zf M I ni fun v37 I ni =>
 ia 2 t0 t9 fun v40 =>
 loadNK 2 (.k v40) zf M I ni fun v41 I ni =>
 ia 2 t0 t9 fun v42 =>
 storeK 2 (.k v42) (.k v37) zf M nm I ni fun _ M nm I ni =>
 ia 2 t0 v32 fun v43 =>
 storeK 2 (.k v43) (.k v41) zf M nm I ni fun _ M nm I ni =>
 sbt n8 t9 295147905179352825893 fun v45 =>
 j7 t0 t1 t2 t3 t8 v45 M nm I ni)
 (j6 t0 t1 t2 t3 t8 M nm I ni))
 (fun j13 => gd v11 33 (ia 2 t0 t9 fun v17 =>
 loadNK 2 (.k v17) zf M I ni fun v18 I ni =>
 sbt n8 t9 295147905179352825893 fun v21 =>
 ia 2 t0 v21 fun v22 =>
 loadNK 2 (.k v22) zf M I ni fun v23 I ni =>
 callvS call (.k t3) [(.k v18), (.k v23)] zf M nm I ni fun v24 M nm I ni =>
 lt 5 v24 295147905179352825861 fun v25 =>
 j13 v25 M nm I ni) (j13 0 M nm I ni))
def S149_2 (call : CallT) (j6 : Nat → Nat → Nat → Nat → Nat → Nat → Nat → Nat → Nat → Res) (t0 t1 t2 t3 t8 t9 M nm I ni : Nat) : Res :=
 lp (S149_1 call j6) (fun _ _ _ _ _ _ _ _ _ _ => .bad 73 0) t0 t1 t2 t3 t8 t9 M nm I ni
def S149_3 (call : CallT) (n2 : Nat) (j1 : Nat → Nat → Nat → Nat → Nat → Nat → Nat → Nat → Nat → Res) (t0 t1 t2 t3 t8 M nm I ni : Nat) : Res :=
 jn (fun (t0 t1 t2 t3 t8 M nm I ni : Nat) =>
 adt n2 t8 295147905179352825893 fun v4 =>
 j1 t0 t1 t2 t3 v4 M nm I ni) fun j6 =>
 jn (S149_2 call j6) fun j47 =>
 j47 t0 t1 t2 t3 t8 t8 M nm I ni
def S149_4 (call : CallT) (kf : KF) (n2 : Nat) (j1 : Nat → Nat → Nat → Nat → Nat → Nat → Nat → Nat → Nat → Res) (t0 t1 t2 t3 t8 M nm I ni : Nat) : Res :=
 jn (S149_3 call n2 j1) fun j50 =>
 lt 5 t8 t2 fun v53 =>
 cnd v53 (j50 t0 t1 t2 t3 t8 M nm I ni)
 (rtn 0 [] M nm I ni kf)
def S149_5 (call : CallT) (kf : KF) (t0 t1 t2 t3 t8 M nm I ni : Nat) : Res :=
 lp (S149_4 call kf) (fun _ _ _ _ _ _ _ _ _ => .bad 73 0) t0 t1 t2 t3 t8 M nm I ni
def F149 (call : CallT) (t0 t1 t2 t3 M nm I ni : Nat) (kf : KF) : Res :=
 jn (S149_5 call kf) fun j54 =>
 ad t1 295147905179352825893 fun v56 =>
 j54 t0 t1 t2 t3 v56 M nm I ni
def g149 (call : CallT) : List Nat → Nat → Nat → Nat → Nat → KF → Res := unS fun t0 => unS fun t1 => unS fun t2 => unS fun t3 => un0 (F149 call t0 t1 t2 t3)
/- slices.SortFunc[[][]byte,[]byte] -/
def F174 (call : CallT) (t0 t1 M nm I ni : Nat) (kf : KF) : Res :=
 ln t0 fun v2 =>
 convK .i64 .u64 (.k v2) zf I ni fun v7 I ni =>
 call 65 [v7] M nm I ni fun v8 M nm I ni =>
 call 188 [t0, 295147905179352825861, v2, v8, t1] M nm I ni fun v10 M nm I ni =>
 rtn 0 [] M nm I ni kf
def g174 (call : CallT) : List Nat → Nat → Nat → Nat → Nat → KF → Res := unS fun t0 => unS fun t1 => un0 (F174 call t0 t1)
/- slices.SortFunc[[]int,int] -/
def F305 (call : CallT) (t0 t1 M nm I ni : Nat) (kf : KF) : Res :=
 ln t0 fun v2 =>
 convK .i64 .u64 (.k v2) zf I ni fun v7 I ni =>
 call 65 [v7] M nm I ni fun v8 M nm I ni =>
 call 323 [t0, 295147905179352825861, v2, v8, t1] M nm I ni fun v10 M nm I ni =>
 rtn 0 [] M nm I ni kf
def g305 (call : CallT) : List Nat → Nat → Nat → Nat → Nat → KF → Res := unS fun t0 => unS fun t1 => un0 (F305 call t0 t1)
/- fretwork/canon.Right -/
def F70 (call : CallT) (t0 t1 M nm I ni : Nat) (kf : KF) : Res :=
 boxK 2 (.k t0) zf M nm I ni fun v1 M nm I ni =>
 loadNK 2 (.k v1) zf M I ni fun v3 I ni =>
 call 22 [v3] M nm I ni fun v4 M nm I ni =>
 jn (fun (v11 M nm I ni : Nat) =>
 pk v4 v11 1 fun v12 =>
 kf v12 M nm I ni)
 (fun j6 => gd v4 33 (fa 0 v1 fun v8 =>
 ld v8 M fun v9 =>
 call 122 [t1, v9] M nm I ni fun v10 M nm I ni =>
 j6 v10 M nm I ni) (j6 0 M nm I ni))
def g70 (call : CallT) : List Nat → Nat → Nat → Nat → Nat → KF → Res := unS fun t0 => unS fun t1 => un0 (F70 call t0 t1)
/- (*fretwork/catalogue.Cat).none -/
def F20 (call : CallT) (t0 M nm I ni : Nat) (kf : KF) : Res :=
 nilqK false 10 10 (.k t0) zf I ni fun v3 I ni =>
 jn (fun (v12 M nm I ni : Nat) =>
 pk v3 33 v12 fun v13 =>
 kf v13 M nm I ni)
 (fun j5 => gd v3 1 (nilcK (.k t0) zf I ni fun v7 I ni =>
 fa 0 v7 fun v8 =>
 ld v8 M fun v9 =>
 peqK true (.k v9) (.k t0) zf I ni fun v11 I ni =>
 j5 v11 M nm I ni) (j5 0 M nm I ni))
def g20 (call : CallT) : List Nat → Nat → Nat → Nat → Nat → KF → Res := unS fun t0 => un0 (F20 call t0)
/- slices.IndexFunc[[]fretwork/blocks.node,fretwork/blocks.node] -/
def S186_1 (call : CallT) (kf : KF) (t0 t1 M nm I ni : Nat) : Res :=
 jn (fun (M nm I ni : Nat) =>
 kf 295147905179352825829 M nm I ni) fun j2 =>
 jn (fun (t0 t1 t7 t8 M nm I ni : Nat) =>
 lp (fun (n4 : Nat) (j3 : Nat → Nat → Nat → Nat → Nat → Nat → Nat → Nat → Res) (t0 t1 t7 t8 M nm I ni : Nat) =>
 lt 5 t8 t7 fun v5 =>
 cnd v5 (ia 2 t0 t8 fun v11 =>
 loadNK 2 (.k v11) zf M I ni fun v12 I ni =>
 callvS call (.k t1) [(.k v12)] zf M nm I ni fun v13 M nm I ni =>
 cnd v13 (kf t8 M nm I ni)
 (adt n4 t8 295147905179352825893 fun v16 =>
 j3 t0 t1 t7 v16 M nm I ni))
 (j2 M nm I ni)) (fun _ _ _ _ _ _ _ _ => .bad 73 0) t0 t1 t7 t8 M nm I ni) fun j18 =>
 ln t0 fun v20 =>
 j18 t0 t1 v20 295147905179352825861 M nm I ni
def F186 (call : CallT) (t0 t1 M nm I ni : Nat) (kf : KF) : Res :=
 jn (S186_1 call kf) fun j22 =>
 j22 t0 t1 M nm I ni
def g186 (call : CallT) : List Nat → Nat → Nat → Nat → Nat → KF → Res := unS fun t0 => unS fun t1 => un0 (F186 call t0 t1)
/- slices.Reverse[[]int,int] -/
def S230_1 (kf : KF) (n2 : Nat) (j1 : Nat → Nat → Nat → Nat → Nat → Nat → Nat → Res) (t0 t2 t3 M nm I ni : Nat) : Res :=
 lt 5 t2 t3 fun v5 =>
 cnd v5 (ia 1 t0 t3 fun v12 =>
 ld v12 M fun v13 =>
 ia 1 t0 t2 fun v16 =>
 ld v16 M fun v17 =>
 ia 1 t0 t2 fun v18 =>
 storeK 1 (.k v18) (.k v13) zf M nm I ni fun _ M nm I ni =>
 ia 1 t0 t3 fun v19 =>
 storeK 1 (.k v19) (.k v17) zf M nm I ni fun _ M nm I ni =>
 adt n2 t2 295147905179352825893 fun v21 =>
 sbt n2 t3 295147905179352825893 fun v23 =>
 j1 t0 v21 v23 M nm I ni)
 (rtn 0 [] M nm I ni kf)
def S230_2 (kf : KF) (t0 t2 t3 M nm I ni : Nat) : Res :=
 lp (S230_1 kf) (fun _ _ _ _ _ _ _ => .bad 73 0) t0 t2 t3 M nm I ni
def F230 (call : CallT) (t0 M nm I ni : Nat) (kf : KF) : Res :=
 jn (S230_2 kf) fun j26 =>
 ln t0 fun v28 =>
 sb v28 295147905179352825893 fun v29 =>
 j26 t0 295147905179352825861 v29 M nm I ni
def g230 (call : CallT) : List Nat → Nat → Nat → Nat → Nat → KF → Res := unS fun t0 => un0 (F230 call t0)
/- slices.Clone[[][]byte,[]byte] -/
def F173 (call : CallT) (t0 M nm I ni : Nat) (kf : KF) : Res :=
 nilqK false 11 11 (.k t0) zf I ni fun v3 I ni =>
 cnd v3 (kf 11 M nm I ni)
 (bldSK 0 1 11 [] zf M nm I ni fun v5 M nm I ni =>
 appW 1 v5 t0 M nm I ni fun v7 M nm I ni =>
 kf v7 M nm I ni)
def g173 (call : CallT) : List Nat → Nat → Nat → Nat → Nat → KF → Res := unS fun t0 => un0 (F173 call t0)
/- (*fretwork/catalogue.Cat).At -/
def S8_1 (call : CallT) (kf : KF) (t0 t1 t4 M nm I ni : Nat) : Res :=
 nilcK (.k t0) zf I ni fun v2 I ni =>
 fa 2 v2 fun v3 =>
 ld v3 M fun v4 =>
 sb t1 295147905179352825893 fun v6 =>
 ia 1 v4 v6 fun v7 =>
 ld v7 M fun v8 =>
 toBytesK (.k v8) zf M nm I ni fun v9 M nm I ni =>
 call 21 [v9] M nm I ni fun v10 M nm I ni =>
 f1 19 0 v10 I fun v12 =>
 f1 19 1 v10 I fun v13 =>
 newK 2 871509787952055618708336279557 M nm I ni fun v14 M nm I ni =>
 storeK 2 (.k v14) (.k v12) zf M nm I ni fun _ M nm I ni =>
 ne 5 v13 295147905179352825861 fun v17 =>
 cnd v17 (buildK 2 871509787952055618708336279557 [] zf I ni fun v18 I ni =>
 storeK 2 (.k t4) (.k v18) zf M nm I ni fun _ M nm I ni =>
 loadNK 2 (.k t4) zf M I ni fun v21 I ni => rtn 3 [v21, 295147905179352825861, 1] M nm I ni kf)
 (loadNK 2 (.k v14) zf M I ni fun v22 I ni =>
 nilcK (.k t0) zf I ni fun v24 I ni =>
 fa 3 v24 fun v25 =>
 ld v25 M fun v26 =>
 sb t1 295147905179352825893 fun v28 =>
 ia 1 v26 v28 fun v29 =>
 ld v29 M fun v30 =>
 storeK 2 (.k t4) (.k v22) zf M nm I ni fun _ M31 nm I ni =>
 flL v25 1 M M31 <| flL v29 1 M M31 <| 
 loadNK 2 (.k t4) zf M31 I ni fun v34 I ni => rtn 3 [v34, v30, 33] M31 nm I ni kf)
def S8_2 (call : CallT) (kf : KF) (t0 t1 t4 M nm I ni : Nat) : Res :=
 jn (S8_1 call kf) fun j35 =>
 call 20 [t0] M nm I ni fun v37 M nm I ni =>
 jn (fun (v42 : Nat) =>
 pk v37 33 v42 fun v43 =>
 jn (fun (v53 M nm I ni : Nat) =>
 pk v43 33 v53 fun v54 =>
 cnd v54 (buildK 2 871509787952055618708336279557 [] zf I ni fun v55 I ni =>
 storeK 2 (.k t4) (.k v55) zf M nm I ni fun _ M nm I ni =>
 loadNK 2 (.k t4) zf M I ni fun v58 I ni => rtn 3 [v58, 295147905179352825861, 1] M nm I ni kf)
 (j35 t0 t1 t4 M nm I ni))
 (fun j45 => gd v43 1 (nilcK (.k t0) zf I ni fun v48 I ni =>
 fa 2 v48 fun v49 =>
 ld v49 M fun v50 =>
 ln v50 fun v51 =>
 lt 5 v51 t1 fun v52 =>
 j45 v52 M nm I ni) (j45 0 M nm I ni)))
 (fun j39 => gd v37 1 (lt 5 t1 295147905179352825893 fun v41 =>
 j39 v41) (j39 0))
def F8 (call : CallT) (t0 t1 M nm I ni : Nat) (kf : KF) : Res :=
 jn (S8_2 call kf) fun j59 =>
 newK 2 871509787952055618708336279557 M nm I ni fun v60 M nm I ni =>
 j59 t0 t1 v60 M nm I ni
def g8 (call : CallT) : List Nat → Nat → Nat → Nat → Nat → KF → Res := unS fun t0 => unS fun t1 => un0 (F8 call t0 t1)
/- fretwork/canon.Tinted$1 -/
def F74 (call : CallT) (t0 t1 M nm I ni : Nat) (kf : KF) : Res :=
 boxK 2 (.k t0) zf M nm I ni fun v1 M nm I ni =>
 boxK 2 (.k t1) zf M nm I ni fun v2 M nm I ni =>
 fa 0 v1 fun v4 =>
 ld v4 M fun v5 =>
 fa 0 v2 fun v6 =>
 ld v6 M fun v7 =>
 fa 1 v1 fun v8 =>
 ld v8 M fun v9 =>
 ia 1 v9 295147905179352825861 fun v10 =>
 ld v10 M fun v11 =>
 fa 1 v2 fun v12 =>
 ld v12 M fun v13 =>
 ia 1 v13 295147905179352825861 fun v14 =>
 ld v14 M fun v15 =>
 call 61 [v5, v7] M nm I ni fun v17 M16 nm I ni =>
 flL v8 1 M M16 <| flL v10 1 M M16 <| flL v12 1 M M16 <| flL v14 1 M M16 <| 
 call 67 [v11, v15] M16 nm I ni fun v18 M nm I ni =>
 bldSK 2 1 295147905179352825861 [(0, 1, (.k v17)), (1, 1, (.k v18))] zf M nm I ni fun v19 M nm I ni =>
 call 66 [v19] M nm I ni fun v20 M nm I ni =>
 kf v20 M nm I ni
def g74 (call : CallT) : List Nat → Nat → Nat → Nat → Nat → KF → Res := unS fun t0 => unS fun t1 => un0 (F74 call t0 t1)
/- slices.Backward[[]int,int] -/
def F192 (call : CallT) (t0 M nm I ni : Nat) (kf : KF) : Res :=
 boxK 1 (.k t0) zf M nm I ni fun v1 M nm I ni =>
 mkfK 201 1 [(.k v1)] zf I ni fun v3 I ni =>
 kf v3 M nm I ni
def g192 (call : CallT) : List Nat → Nat → Nat → Nat → Nat → KF → Res := unS fun t0 => un0 (F192 call t0)
/- slices.SortStableFunc[[]fretwork/api.Named,fretwork/api.Named] -/
def F73 (call : CallT) (t0 t1 M nm I ni : Nat) (kf : KF) : Res :=
 ln t0 fun v3 =>
 call 125 [t0, v3, t1] M nm I ni fun v5 M nm I ni =>
 rtn 0 [] M nm I ni kf
def g73 (call : CallT) : List Nat → Nat → Nat → Nat → Nat → KF → Res := unS fun t0 => unS fun t1 => un0 (F73 call t0 t1)
/- fretwork/catalogue.made -/
def F36 (call : CallT) (t0 M nm I ni : Nat) (kf : KF) : Res :=
 mkMapK M nm I ni fun v3 M nm I ni =>
 buildK 5 512226080553128229759627521307337535066544263579760011413011891615412038202834050970577504488041815557515598024933386 [(1, 1, (.k t0)), (4, 1, (.k v3))] zf I ni fun v4 I ni =>
 boxK 5 (.k v4) zf M nm I ni fun v5 M nm I ni =>
 nilcK (.k v5) zf I ni fun v9 I ni =>
 fa 0 v9 fun v10 =>
 storeK 1 (.k v10) (.k v5) zf M nm I ni fun _ M nm I ni =>
 kf v5 M nm I ni
def g36 (call : CallT) : List Nat → Nat → Nat → Nat → Nat → KF → Res := unS fun t0 => un0 (F36 call t0)
/- (*fretwork/bough.tree).weigh$2 -/
def F176 (call : CallT) (t0 t1 t2 M nm I ni : Nat) (kf : KF) : Res :=
 ld t2 M fun v2 =>
 callvS call (.k v2) [(.k t0), (.k t1)] zf M nm I ni fun v5 M nm I ni =>
 eq 5 v5 295147905179352825861 fun v6 =>
 kf v6 M nm I ni
def g176 (call : CallT) : List Nat → Nat → Nat → Nat → Nat → KF → Res := unS fun t0 => unS fun t1 => unS fun t2 => un0 (F176 call t0 t1 t2)
/- fretwork/blocks.Centre$1 -/
def F187 (call : CallT) (t0 M nm I ni : Nat) (kf : KF) : Res :=
 boxK 2 (.k t0) zf M nm I ni fun v1 M nm I ni =>
 fa 0 v1 fun v3 =>
 ld v3 M fun v4 =>
 eq 5 v4 295147905179352825861 fun v5 =>
 kf v5 M nm I ni
def g187 (call : CallT) : List Nat → Nat → Nat → Nat → Nat → KF → Res := unS fun t0 => un0 (F187 call t0)
/- (*fretwork/catalogue.Cat).Find -/
def F11 (call : CallT) (t0 t1 M nm I ni : Nat) (kf : KF) : Res :=
 boxK 2 (.k t1) zf M nm I ni fun v1 M nm I ni =>
 call 20 [t0] M nm I ni fun v6 M nm I ni =>
 cnd v6 (rtn 3 [295147905179352825861, 11, 295147905179352825893] M nm I ni kf)
 (loadNK 2 (.k v1) zf M I ni fun v10 I ni =>
 call 23 [v10] M nm I ni fun v11 M nm I ni =>
 f1 19 0 v11 I fun v13 =>
 f1 19 1 v11 I fun v14 =>
 newK 2 871509787656907713528983453707 M nm I ni fun v15 M nm I ni =>
 storeK 2 (.k v15) (.k v13) zf M nm I ni fun _ M nm I ni =>
 ne 5 v14 295147905179352825861 fun v18 =>
 cnd v18 (rtn 3 [295147905179352825861, 11, v14] M nm I ni kf)
 (nilcK (.k t0) zf I ni fun v24 I ni =>
 fa 4 v24 fun v25 =>
 ld v25 M fun v26 =>
 fa 0 v15 fun v27 =>
 ld v27 M fun v28 =>
 strOfW v28 M I ni fun v29 I ni =>
 lookK .str true false 1 295147905179352825861 (.k v26) (.k v29) zf M I ni fun v30 I ni =>
 f1 19 0 v30 I fun v32 =>
 f1 19 1 v30 I fun v33 =>
 notK (.k v33) zf I ni fun v37 I ni =>
 cnd v37 (rtn 3 [295147905179352825861, 11, 295147905179352833221] M nm I ni kf)
 (fa 1 v15 fun v42 =>
 ld v42 M fun v43 =>
 rtn 3 [v32, v43, 295147905179352825861] M nm I ni kf)))
def g11 (call : CallT) : List Nat → Nat → Nat → Nat → Nat → KF → Res := unS fun t0 => unS fun t1 => un0 (F11 call t0 t1)
/- math/bits.TrailingZeros8 -/
def F119 (call : CallT) (t0 M nm I ni : Nat) (kf : KF) : Res :=
 idxTK (.str 256 1009908366030920802889204053914349816886264792537935137390627212809419292851612725162638587149310909513912026774176607665251976761311475980416993924351973126201396291323793036547124074403494456790243469075529836176201595847276450986124135587944462035131756337983917326774503943708474743244281377240195778607449958885965783919780443098933791762056774786255941074979280675510415474662715496681163134464590270909281321704577448350178055896824237604581397333061780453352213203541154054612778372380398461541671743972045891829713094188892289810494901740380708009884395947381450750195054038905052374670043923756848664019200) (.k t0) zf I ni fun v3 I ni =>
 convK .u8 .i64 (.k v3) zf I ni fun v4 I ni =>
 kf v4 M nm I ni
def g119 (call : CallT) : List Nat → Nat → Nat → Nat → Nat → KF → Res := unS fun t0 => un0 (F119 call t0)
/- fretwork/catalogue.New -/
def F18 (call : CallT) (t0 M nm I ni : Nat) (kf : KF) : Res :=
 lt 5 t0 295147905179352825861 fun v4 =>
 jn (fun (v9 : Nat) =>
 pk v4 33 v9 fun v10 =>
 cnd v10 (rtn 2 [10, 295147905179352825925] M nm I ni kf)
 (call 36 [t0] M nm I ni fun v14 M nm I ni =>
 rtn 2 [v14, 295147905179352825861] M nm I ni kf))
 (fun j6 => gd v4 1 (lt 5 295147905179352857861 t0 fun v8 =>
 j6 v8) (j6 0))
def g18 (call : CallT) : List Nat → Nat → Nat → Nat → Nat → KF → Res := unS fun t0 => un0 (F18 call t0)
/- (*fretwork/catalogue.Cat).Len -/
def F7 (call : CallT) (t0 M nm I ni : Nat) (kf : KF) : Res :=
 call 20 [t0] M nm I ni fun v3 M nm I ni =>
 cnd v3 (kf 295147905179352825861 M nm I ni)
 (nilcK (.k t0) zf I ni fun v6 I ni =>
 fa 2 v6 fun v7 =>
 ld v7 M fun v8 =>
 ln v8 fun v9 =>
 kf v9 M nm I ni)
def g7 (call : CallT) : List Nat → Nat → Nat → Nat → Nat → KF → Res := unS fun t0 => un0 (F7 call t0)
end
end Go.Proofs.YtpjhkpmmbeoghaaGreat.Ev

