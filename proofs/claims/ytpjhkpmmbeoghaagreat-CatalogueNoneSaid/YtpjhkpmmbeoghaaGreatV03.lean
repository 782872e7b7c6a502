/- Part 3 of a verified evaluator and the run that it reckons. -/
import Derived.Test.YtpjhkpmmbeoghaaGreatV02
import Derived.Test.YtpjhkpmmbeoghaaGreatChecked
set_option linter.unusedVariables false
set_option linter.unusedSimpArgs false
set_option maxRecDepth 100000
set_option linter.unusedVariables false
namespace Go.Proofs.YtpjhkpmmbeoghaaGreat.Ev
open Go
noncomputable section
/- slices.Compare[[]byte,byte] -/
def S61_1 (call : CallT) (kf : KF) (j8 : Nat → Nat → Nat → Nat → Nat → Nat → Res) (n10 : Nat) (j9 : Nat → Nat → Nat → Nat → Nat → Nat → Nat → Nat → Nat → Res) (t0 t1 t9 t10 t11 M nm I ni : Nat) : Res :=
 lt 5 t11 t10 fun v11 =>
 cnd v11 (ia 1 t9 t11 fun v13 =>
 ld v13 M fun v14 =>
 ln t1 fun v19 =>
 ge 5 t11 v19 fun v20 =>
 cnd v20 (kf 295147905179352825893 M nm I ni)
 (ia 1 t1 t11 fun v24 =>
 ld v24 M fun v25 =>
 call 104 [v14, v25] M nm I ni fun v29 M nm I ni =>
 ne 5 v29 295147905179352825861 fun v32 =>
 cnd v32 (kf v29 M nm I ni)
 (adt n10 t11 295147905179352825893 fun v35 =>
 j9 t0 t1 t9 t10 v35 M nm I ni)))
 (j8 t0 t1 M nm I ni)
def S61_2 (call : CallT) (kf : KF) (j8 : Nat → Nat → Nat → Nat → Nat → Nat → Res) (t0 t1 t9 t10 t11 M nm I ni : Nat) : Res :=
 lp (S61_1 call kf j8) (fun _ _ _ _ _ _ _ _ _ => .bad 73 0) t0 t1 t9 t10 t11 M nm I ni
def S61_3 (call : CallT) (kf : KF) (t0 t1 M nm I ni : Nat) : Res :=
 jn (fun (t0 t1 M nm I ni : Nat) =>
 ln t0 fun v2 =>
 ln t1 fun v4 =>
 lt 5 v2 v4 fun v5 =>
 cnd v5 (kf 295147905179352825829 M nm I ni)
 (kf 295147905179352825861 M nm I ni)) fun j8 =>
 jn (S61_2 call kf j8) fun j37 =>
 ln t0 fun v39 =>
 j37 t0 t1 t0 v39 295147905179352825861 M nm I ni
def F61 (call : CallT) (t0 t1 M nm I ni : Nat) (kf : KF) : Res :=
 jn (S61_3 call kf) fun j41 =>
 j41 t0 t1 M nm I ni
def g61 (call : CallT) : List Nat → Nat → Nat → Nat → Nat → KF → Res := unS fun t0 => unS fun t1 => un0 (F61 call t0 t1)
/- cmp.Compare[byte] -/
def F104 (call : CallT) (t0 t1 M nm I ni : Nat) (kf : KF) : Res :=
 call 138 [t0] M nm I ni fun v3 M nm I ni =>
 call 138 [t1] M nm I ni fun v6 M nm I ni =>
 cnd v3 (cnd v6 (kf 295147905179352825861 M nm I ni)
 (kf 295147905179352825829 M nm I ni))
 (cnd v6 (kf 295147905179352825893 M nm I ni)
 (lt 6 t0 t1 fun v16 =>
 cnd v16 (kf 295147905179352825829 M nm I ni)
 (lt 6 t1 t0 fun v20 =>
 cnd v20 (kf 295147905179352825893 M nm I ni)
 (kf 295147905179352825861 M nm I ni))))
def g104 (call : CallT) : List Nat → Nat → Nat → Nat → Nat → KF → Res := unS fun t0 => unS fun t1 => un0 (F104 call t0 t1)
/- fretwork/graph.Right -/
def S22_1 (call : CallT) (kf : KF) (j2 : Nat → Nat → Nat → Nat → Res) (n4 : Nat) (j3 : Nat → Nat → Nat → Nat → Nat → Nat → Nat → Nat → Res) (t1 t20 t21 t22 M nm I ni : Nat) : Res :=
 lt 5 t22 t21 fun v5 =>
 cnd v5 (ia 2 t20 t22 fun v7 =>
 loadNK 2 (.k v7) zf M I ni fun v8 I ni =>
 newK 2 23384026197294446691655098136326997907641993265157 M nm I ni fun v9 M nm I ni =>
 storeK 2 (.k v9) (.k v8) zf M nm I ni fun _ M nm I ni =>
 iadrAK 2 1 (.k v9) (.k 295147905179352825861) zf I ni fun v11 I ni =>
 ld v11 M fun v12 =>
 lt 5 v12 295147905179352825861 fun v13 =>
 jn (fun (v21 M nm I ni : Nat) =>
 pk v13 33 v21 fun v22 =>
 jn (fun (v30 M nm I ni : Nat) =>
 pk v22 33 v30 fun v31 =>
 cnd v31 (kf 1 M nm I ni)
 (lt 5 295147905179352825861 t22 fun v34 =>
 jn (fun (v46 M nm I ni : Nat) =>
 pk v34 v46 1 fun v47 =>
 cnd v47 (kf 1 M nm I ni)
 (adt n4 t22 295147905179352825893 fun v49 =>
 j3 t1 t20 t21 v49 M nm I ni))
 (fun j36 => gd v34 33 (fa 1 t1 fun v37 =>
 ld v37 M fun v38 =>
 sbt n4 t22 295147905179352825893 fun v40 =>
 ia 2 v38 v40 fun v41 =>
 loadNK 2 (.k v41) zf M I ni fun v42 I ni =>
 loadNK 2 (.k v9) zf M I ni fun v43 I ni =>
 call 38 [v42, v43] M nm I ni fun v44 M nm I ni =>
 ge 5 v44 295147905179352825861 fun v45 =>
 j36 v45 M nm I ni) (j36 0 M nm I ni))))
 (fun j24 => gd v22 1 (iadrAK 2 1 (.k v9) (.k 295147905179352825893) zf I ni fun v25 I ni =>
 ld v25 M fun v26 =>
 fa 0 t1 fun v27 =>
 ld v27 M fun v28 =>
 ge 5 v26 v28 fun v29 =>
 j24 v29 M nm I ni) (j24 0 M nm I ni)))
 (fun j15 => gd v13 1 (iadrAK 2 1 (.k v9) (.k 295147905179352825861) zf I ni fun v16 I ni =>
 ld v16 M fun v17 =>
 iadrAK 2 1 (.k v9) (.k 295147905179352825893) zf I ni fun v18 I ni =>
 ld v18 M fun v19 =>
 ge 5 v17 v19 fun v20 =>
 j15 v20 M nm I ni) (j15 0 M nm I ni)))
 (j2 M nm I ni)
def S22_2 (call : CallT) (kf : KF) (j2 : Nat → Nat → Nat → Nat → Res) (t1 t20 t21 t22 M nm I ni : Nat) : Res :=
 lp (S22_1 call kf j2) (fun _ _ _ _ _ _ _ _ => .bad 73 0) t1 t20 t21 t22 M nm I ni
def S22_3 (call : CallT) (kf : KF) (t1 M nm I ni : Nat) : Res :=
 jn (fun (M nm I ni : Nat) =>
 kf 33 M nm I ni) fun j2 =>
 jn (S22_2 call kf j2) fun j51 =>
 fa 1 t1 fun v52 =>
 ld v52 M fun v53 =>
 ln v53 fun v54 =>
 j51 t1 v53 v54 295147905179352825861 M nm I ni
def S22_4 (call : CallT) (kf : KF) (t1 M nm I ni : Nat) : Res :=
 jn (S22_3 call kf) fun j56 =>
 fa 0 t1 fun v57 =>
 ld v57 M fun v58 =>
 lt 5 v58 295147905179352825861 fun v59 =>
 jn (fun (v65 : Nat) =>
 pk v59 33 v65 fun v66 =>
 jn (fun (v73 : Nat) =>
 pk v66 33 v73 fun v74 =>
 cnd v74 (kf 1 M nm I ni)
 (j56 t1 M nm I ni))
 (fun j68 => gd v66 1 (fa 1 t1 fun v69 =>
 ld v69 M fun v70 =>
 ln v70 fun v71 =>
 lt 5 295147905179352844869 v71 fun v72 =>
 j68 v72) (j68 0)))
 (fun j61 => gd v59 1 (fa 0 t1 fun v62 =>
 ld v62 M fun v63 =>
 lt 5 295147905179352832261 v63 fun v64 =>
 j61 v64) (j61 0))
def F22 (call : CallT) (t0 M nm I ni : Nat) (kf : KF) : Res :=
 jn (S22_4 call kf) fun j76 =>
 boxK 2 (.k t0) zf M nm I ni fun v77 M nm I ni =>
 j76 v77 M nm I ni
def g22 (call : CallT) : List Nat → Nat → Nat → Nat → Nat → KF → Res := unS fun t0 => un0 (F22 call t0)
/- cmp.isNaN[byte] -/
def F138 (call : CallT) (t0 M nm I ni : Nat) (kf : KF) : Res :=
 ne 6 t0 t0 fun v4 =>
 kf v4 M nm I ni
def g138 (call : CallT) : List Nat → Nat → Nat → Nat → Nat → KF → Res := unS fun t0 => un0 (F138 call t0)
/- fretwork/walk.walk -/
def S54_1 (j6 : Nat → Nat → Nat → Nat → Nat → Nat → Nat → Nat → Nat → Nat → Res) (n16 : Nat) (j15 : Nat → Nat → Nat → Nat → Nat → Nat → Nat → Nat → Nat → Nat → Nat → Res) (t0 t6 t7 t8 t9 t10 t11 M nm I ni : Nat) : Res :=
 ia 1 t0 t11 fun v19 =>
 ld v19 M fun v20 =>
 ia 1 t8 t11 fun v23 =>
 ld v23 M fun v24 =>
 ia 1 v20 v24 fun v25 =>
 ld v25 M fun v26 =>
 ia 1 t8 t11 fun v30 =>
 ld v30 M fun v31 =>
 adt n16 v31 295147905179352825893 fun v32 =>
 ia 1 t8 t11 fun v33 =>
 storeK 1 (.k v33) (.k v32) zf M nm I ni fun _ M nm I ni =>
 ia 1 t7 v26 fun v36 =>
 ld v36 M fun v37 =>
 cnd v37 (j15 t0 t6 t7 t8 t9 t10 t11 M nm I ni)
 (ia 1 t7 v26 fun v43 =>
 storeK 1 (.k v43) (.k 33) zf M nm I ni fun _ M nm I ni =>
 ia 1 t6 v26 fun v44 =>
 storeK 1 (.k v44) (.k t11) zf M nm I ni fun _ M nm I ni =>
 bldSK 1 1 295147905179352825861 [(0, 1, (.k v26))] zf M nm I ni fun v47 M nm I ni =>
 appW 1 t9 v47 M nm I ni fun v48 M nm I ni =>
 bldSK 1 1 295147905179352825861 [(0, 1, (.k v26))] zf M nm I ni fun v51 M nm I ni =>
 appW 1 t10 v51 M nm I ni fun v52 M nm I ni =>
 j6 t0 t6 t7 t8 v48 v52 M nm I ni)
def S54_2 (j6 : Nat → Nat → Nat → Nat → Nat → Nat → Nat → Nat → Nat → Nat → Res) (j14 : Nat → Nat → Nat → Nat → Nat → Nat → Nat → Nat → Nat → Nat → Res) (n16 : Nat) (j15 : Nat → Nat → Nat → Nat → Nat → Nat → Nat → Nat → Nat → Nat → Nat → Res) (t0 t6 t7 t8 t9 t10 t11 M nm I ni : Nat) : Res :=
 jn (S54_1 j6 n16 j15) fun j55 =>
 ia 1 t8 t11 fun v58 =>
 ld v58 M fun v59 =>
 ia 1 t0 t11 fun v62 =>
 ld v62 M fun v63 =>
 ln v63 fun v64 =>
 lt 5 v59 v64 fun v65 =>
 cnd v65 (j55 t0 t6 t7 t8 t9 t10 t11 M nm I ni)
 (j14 t0 t6 t7 t8 t9 t10 M nm I ni)
def S54_3 (n7 : Nat) (j6 : Nat → Nat → Nat → Nat → Nat → Nat → Nat → Nat → Nat → Nat → Res) (t0 t6 t7 t8 t9 t10 t11 M nm I ni : Nat) : Res :=
 jn (fun (t0 t6 t7 t8 t9 t10 M nm I ni : Nat) =>
 ln t10 fun v10 =>
 sbt n7 v10 295147905179352825893 fun v11 =>
 slcK 1 (.k t10) none (some (.k v11)) none zf I ni fun v12 I ni =>
 j6 t0 t6 t7 t8 t9 v12 M nm I ni) fun j14 =>
 lp (S54_2 j6 j14) (fun _ _ _ _ _ _ _ _ _ _ _ => .bad 73 0) t0 t6 t7 t8 t9 t10 t11 M nm I ni
def S54_4 (n7 : Nat) (j6 : Nat → Nat → Nat → Nat → Nat → Nat → Nat → Nat → Nat → Nat → Res) (t0 t6 t7 t8 t9 t10 M nm I ni : Nat) : Res :=
 jn (S54_3 n7 j6) fun j66 =>
 ln t10 fun v69 =>
 sbt n7 v69 295147905179352825893 fun v70 =>
 ia 1 t10 v70 fun v71 =>
 ld v71 M fun v72 =>
 j66 t0 t6 t7 t8 t9 t10 v72 M nm I ni
def S54_5 (j5 : Nat → Nat → Nat → Nat → Nat → Nat → Res) (n7 : Nat) (j6 : Nat → Nat → Nat → Nat → Nat → Nat → Nat → Nat → Nat → Nat → Res) (t0 t6 t7 t8 t9 t10 M nm I ni : Nat) : Res :=
 jn (S54_4 n7 j6) fun j74 =>
 ln t10 fun v76 =>
 lt 5 295147905179352825861 v76 fun v77 =>
 cnd v77 (j74 t0 t6 t7 t8 t9 t10 M nm I ni)
 (j5 t6 t9 M nm I ni)
def S54_6 (kf : KF) (t0 t6 t7 t8 t9 t10 M nm I ni : Nat) : Res :=
 jn (fun (t6 t9 M nm I ni : Nat) =>
 rtn 2 [t9, t6] M nm I ni kf) fun j5 =>
 lp (S54_5 j5) (fun _ _ _ _ _ _ _ _ _ _ => .bad 73 0) t0 t6 t7 t8 t9 t10 M nm I ni
def S54_7 (kf : KF) (t0 t6 t7 t8 t9 t10 M nm I ni : Nat) : Res :=
 jn (S54_6 kf) fun j78 =>
 j78 t0 t6 t7 t8 t9 t10 M nm I ni
def S54_8 (kf : KF) (t0 t1 t6 t7 t8 t9 t10 M nm I ni : Nat) : Res :=
 jn (S54_7 kf) fun j79 =>
 ia 1 t7 t1 fun v82 =>
 storeK 1 (.k v82) (.k 33) zf M nm I ni fun _ M nm I ni =>
 j79 t0 t6 t7 t8 t9 t10 M nm I ni
def S54_9 (kf : KF) (t0 t1 t6 t7 t8 M nm I ni : Nat) : Res :=
 jn (S54_8 kf) fun j83 =>
 bldSK 1 1 295147905179352825861 [(0, 1, (.k t1))] zf M nm I ni fun v85 M nm I ni =>
 bldSK 1 1 295147905179352825861 [(0, 1, (.k t1))] zf M nm I ni fun v87 M nm I ni =>
 j83 t0 t1 t6 t7 t8 v85 v87 M nm I ni
def S54_10 (kf : KF) (t0 t1 t6 t7 M nm I ni : Nat) : Res :=
 jn (S54_9 kf) fun j90 =>
 ln t0 fun v92 =>
 mkSlK 1 295147905179352825861 (.k v92) (.k v92) zf M nm I ni fun v93 M nm I ni =>
 j90 t0 t1 t6 t7 v93 M nm I ni
def S54_11 (kf : KF) (t0 t1 t6 M nm I ni : Nat) : Res :=
 jn (S54_10 kf) fun j95 =>
 ln t0 fun v97 =>
 mkSlK 1 1 (.k v97) (.k v97) zf M nm I ni fun v98 M nm I ni =>
 j95 t0 t1 t6 v98 M nm I ni
def S54_12 (call : CallT) (kf : KF) (t0 t1 M nm I ni : Nat) : Res :=
 jn (S54_11 kf) fun j100 =>
 bldSK 1 1 295147905179352825861 [(0, 1, (.k 295147905179352825829))] zf M nm I ni fun v101 M nm I ni =>
 ln t0 fun v103 =>
 call 89 [v101, v103] M nm I ni fun v104 M nm I ni =>
 j100 t0 t1 v104 M nm I ni
def F54 (call : CallT) (t0 t1 M nm I ni : Nat) (kf : KF) : Res :=
 jn (S54_12 call kf) fun j106 =>
 j106 t0 t1 M nm I ni
def g54 (call : CallT) : List Nat → Nat → Nat → Nat → Nat → KF → Res := unS fun t0 => unS fun t1 => un0 (F54 call t0 t1)
/- fretwork/figures.Code -/
def S75_1 (j4 : Nat → Nat → Nat → Nat → Nat → Res) (n6 : Nat) (j5 : Nat → Nat → Nat → Nat → Nat → Nat → Nat → Nat → Res) (t8 t80 t81 t82 M nm I ni : Nat) : Res :=
 lt 5 t82 t81 fun v7 =>
 cnd v7 (ia 2 t80 t82 fun v8 =>
 loadNK 2 (.k v8) zf M I ni fun v9 I ni =>
 newK 2 23384026197294446691655098136326997907641993265157 M nm I ni fun v10 M nm I ni =>
 storeK 2 (.k v10) (.k v9) zf M nm I ni fun _ M nm I ni =>
 iadrAK 2 1 (.k v10) (.k 295147905179352825861) zf I ni fun v12 I ni =>
 ld v12 M fun v13 =>
 iadrAK 2 1 (.k v10) (.k 295147905179352825893) zf I ni fun v14 I ni =>
 ld v14 M fun v15 =>
 bldSK 2 1 295147905179352825861 [(0, 1, (.k v13)), (1, 1, (.k v15))] zf M nm I ni fun v16 M nm I ni =>
 appW 1 t8 v16 M nm I ni fun v17 M nm I ni =>
 adt n6 t82 295147905179352825893 fun v19 =>
 j5 v17 t80 t81 v19 M nm I ni)
 (j4 t8 M nm I ni)
def S75_2 (j4 : Nat → Nat → Nat → Nat → Nat → Res) (t8 t80 t81 t82 M nm I ni : Nat) : Res :=
 lp (S75_1 j4) (fun _ _ _ _ _ _ _ _ => .bad 73 0) t8 t80 t81 t82 M nm I ni
def S75_3 (call : CallT) (kf : KF) (t8 t11 M nm I ni : Nat) : Res :=
 jn (fun (t8 M nm I ni : Nat) =>
 call 27 [t8] M nm I ni fun v2 M nm I ni =>
 kf v2 M nm I ni) fun j4 =>
 jn (S75_2 j4) fun j21 =>
 ln t11 fun v23 =>
 j21 t8 t11 v23 295147905179352825861 M nm I ni
def S75_4 (call : CallT) (kf : KF) (t8 t11 M nm I ni : Nat) : Res :=
 jn (S75_3 call kf) fun j25 =>
 ln t11 fun v28 =>
 bldSK 1 1 295147905179352825861 [(0, 1, (.k v28))] zf M nm I ni fun v29 M nm I ni =>
 appW 1 t8 v29 M nm I ni fun v30 M nm I ni =>
 j25 v30 t11 M nm I ni
def S75_5 (call : CallT) (kf : KF) (t8 t11 M nm I ni : Nat) : Res :=
 jn (S75_4 call kf) fun j32 =>
 call 37 [t11, 4046] M nm I ni fun v34 M nm I ni =>
 j32 t8 t11 M nm I ni
def S75_6 (j35 : Nat → Nat → Nat → Nat → Nat → Nat → Res) (n37 : Nat) (j36 : Nat → Nat → Nat → Nat → Nat → Nat → Nat → Nat → Nat → Nat → Res) (t7 t8 t11 t46 t47 t48 M nm I ni : Nat) : Res :=
 lt 5 t48 t47 fun v38 =>
 cnd v38 (ia 2 t46 t48 fun v39 =>
 loadNK 2 (.k v39) zf M I ni fun v40 I ni =>
 newK 2 23384026197294446691655098136326997907641993265157 M nm I ni fun v41 M nm I ni =>
 storeK 2 (.k v41) (.k v40) zf M nm I ni fun _ M nm I ni =>
 iadrAK 2 1 (.k v41) (.k 295147905179352825861) zf I ni fun v43 I ni =>
 ld v43 M fun v44 =>
 ia 1 t7 v44 fun v45 =>
 ld v45 M fun v46 =>
 iadrAK 2 1 (.k v41) (.k 295147905179352825893) zf I ni fun v48 I ni =>
 ld v48 M fun v49 =>
 ia 1 t7 v49 fun v50 =>
 ld v50 M fun v51 =>
 minK false 5 (.k v46) (.k v51) zf I ni fun v57 I ni =>
 minK true 5 (.k v46) (.k v51) zf I ni fun v60 I ni =>
 buildK 2 23384026197294446691655098136326997907641993265157 [(0, 1, (.k v57)), (1, 1, (.k v60))] zf I ni fun v61 I ni =>
 bldSK 1 2 23384026197294446691655098136326997907641993265157 [(0, 2, (.k v61))] zf M nm I ni fun v62 M nm I ni =>
 appW 2 t11 v62 M nm I ni fun v63 M nm I ni =>
 adt n37 t48 295147905179352825893 fun v65 =>
 j36 t7 t8 v63 t46 t47 v65 M nm I ni)
 (j35 t8 t11 M nm I ni)
def S75_7 (j35 : Nat → Nat → Nat → Nat → Nat → Nat → Res) (t7 t8 t11 t46 t47 t48 M nm I ni : Nat) : Res :=
 lp (S75_6 j35) (fun _ _ _ _ _ _ _ _ _ _ => .bad 73 0) t7 t8 t11 t46 t47 t48 M nm I ni
def S75_8 (call : CallT) (kf : KF) (t2 t7 t8 t11 M nm I ni : Nat) : Res :=
 jn (S75_5 call kf) fun j35 =>
 jn (S75_7 j35) fun j67 =>
 ln t2 fun v69 =>
 j67 t7 t8 t11 t2 v69 295147905179352825861 M nm I ni
def S75_9 (call : CallT) (kf : KF) (t2 t7 t8 M nm I ni : Nat) : Res :=
 jn (S75_8 call kf) fun j71 =>
 ln t2 fun v73 =>
 mkSlK 2 23384026197294446691655098136326997907641993265157 (.k 295147905179352825861) (.k v73) zf M nm I ni fun v74 M nm I ni =>
 j71 t2 t7 t8 v74 M nm I ni
def S75_10 (j76 : Nat → Nat → Nat → Nat → Nat → Nat → Nat → Res) (n78 : Nat) (j77 : Nat → Nat → Nat → Nat → Nat → Nat → Nat → Nat → Nat → Nat → Nat → Res) (t0 t2 t7 t8 t24 t25 t26 M nm I ni : Nat) : Res :=
 lt 5 t26 t25 fun v79 =>
 cnd v79 (ia 1 t24 t26 fun v81 =>
 ld v81 M fun v82 =>
 ia 1 t7 v82 fun v88 =>
 storeK 1 (.k v88) (.k t26) zf M nm I ni fun _ M nm I ni =>
 ia 1 t0 v82 fun v92 =>
 ld v92 M fun v93 =>
 bldSK 1 1 295147905179352825861 [(0, 1, (.k v93))] zf M nm I ni fun v94 M nm I ni =>
 appW 1 t8 v94 M nm I ni fun v95 M nm I ni =>
 adt n78 t26 295147905179352825893 fun v97 =>
 j77 t0 t2 t7 v95 t24 t25 v97 M nm I ni)
 (j76 t2 t7 t8 M nm I ni)
def S75_11 (j76 : Nat → Nat → Nat → Nat → Nat → Nat → Nat → Res) (t0 t2 t7 t8 t24 t25 t26 M nm I ni : Nat) : Res :=
 lp (S75_10 j76) (fun _ _ _ _ _ _ _ _ _ _ _ => .bad 73 0) t0 t2 t7 t8 t24 t25 t26 M nm I ni
def S75_12 (call : CallT) (kf : KF) (t0 t1 t2 t7 t8 M nm I ni : Nat) : Res :=
 jn (S75_9 call kf) fun j76 =>
 jn (S75_11 j76) fun j99 =>
 ln t1 fun v101 =>
 j99 t0 t2 t7 t8 t1 v101 295147905179352825861 M nm I ni
def S75_13 (call : CallT) (kf : KF) (t0 t1 t2 t7 M nm I ni : Nat) : Res :=
 jn (S75_12 call kf) fun j103 =>
 ln t1 fun v105 =>
 bldSK 1 1 295147905179352825861 [(0, 1, (.k v105))] zf M nm I ni fun v106 M nm I ni =>
 j103 t0 t1 t2 t7 v106 M nm I ni
def S75_14 (call : CallT) (kf : KF) (t0 t1 t2 M nm I ni : Nat) : Res :=
 jn (S75_13 call kf) fun j108 =>
 ln t1 fun v110 =>
 mkSlK 1 295147905179352825861 (.k v110) (.k v110) zf M nm I ni fun v111 M nm I ni =>
 j108 t0 t1 t2 v111 M nm I ni
def F75 (call : CallT) (t0 t1 t2 M nm I ni : Nat) (kf : KF) : Res :=
 jn (S75_14 call kf) fun j113 =>
 j113 t0 t1 t2 M nm I ni
def g75 (call : CallT) : List Nat → Nat → Nat → Nat → Nat → KF → Res := unS fun t0 => unS fun t1 => unS fun t2 => un0 (F75 call t0 t1 t2)
/- cmp.Compare[int] -/
def F67 (call : CallT) (t0 t1 M nm I ni : Nat) (kf : KF) : Res :=
 call 118 [t0] M nm I ni fun v3 M nm I ni =>
 call 118 [t1] M nm I ni fun v6 M nm I ni =>
 cnd v3 (cnd v6 (kf 295147905179352825861 M nm I ni)
 (kf 295147905179352825829 M nm I ni))
 (cnd v6 (kf 295147905179352825893 M nm I ni)
 (lt 5 t0 t1 fun v16 =>
 cnd v16 (kf 295147905179352825829 M nm I ni)
 (lt 5 t1 t0 fun v20 =>
 cnd v20 (kf 295147905179352825893 M nm I ni)
 (kf 295147905179352825861 M nm I ni))))
def g67 (call : CallT) : List Nat → Nat → Nat → Nat → Nat → KF → Res := unS fun t0 => unS fun t1 => un0 (F67 call t0 t1)
/- cmp.isNaN[int] -/
def F118 (call : CallT) (t0 M nm I ni : Nat) (kf : KF) : Res :=
 ne 5 t0 t0 fun v4 =>
 kf v4 M nm I ni
def g118 (call : CallT) : List Nat → Nat → Nat → Nat → Nat → KF → Res := unS fun t0 => un0 (F118 call t0)
/- fretwork/figures.Bytes -/
def S27_1 (call : CallT) (j3 : Nat → Nat → Nat → Nat → Nat → Res) (n5 : Nat) (j4 : Nat → Nat → Nat → Nat → Nat → Nat → Nat → Nat → Res) (t3 t11 t12 t13 M nm I ni : Nat) : Res :=
 lt 5 t13 t12 fun v6 =>
 cnd v6 (ia 1 t11 t13 fun v7 =>
 ld v7 M fun v8 =>
 call 51 [v8] M nm I ni fun v11 M nm I ni =>
 newK 4 2983939418458719852932293488918587651015056989367101041182505228830656700767545723977734 M nm I ni fun v12 M nm I ni =>
 storeK 4 (.k v12) (.k v11) zf M nm I ni fun _ M nm I ni =>
 slpK 4 1 (.k v12) none none zf I ni fun v14 I ni =>
 appW 1 t3 v14 M nm I ni fun v15 M nm I ni =>
 adt n5 t13 295147905179352825893 fun v17 =>
 j4 v15 t11 t12 v17 M nm I ni)
 (j3 t3 M nm I ni)
def S27_2 (call : CallT) (j3 : Nat → Nat → Nat → Nat → Nat → Res) (t3 t11 t12 t13 M nm I ni : Nat) : Res :=
 lp (S27_1 call j3) (fun _ _ _ _ _ _ _ _ => .bad 73 0) t3 t11 t12 t13 M nm I ni
def S27_3 (call : CallT) (kf : KF) (t0 t3 M nm I ni : Nat) : Res :=
 jn (fun (t3 M nm I ni : Nat) =>
 kf t3 M nm I ni) fun j3 =>
 jn (S27_2 call j3) fun j19 =>
 ln t0 fun v21 =>
 j19 t3 t0 v21 295147905179352825861 M nm I ni
def S27_4 (call : CallT) (kf : KF) (t0 M nm I ni : Nat) : Res :=
 jn (S27_3 call kf) fun j23 =>
 ln t0 fun v25 =>
 iopK .mul .i64 (.k 295147905179352825989) (.k v25) zf I ni fun v26 I ni =>
 mkSlK 1 6 (.k 295147905179352825861) (.k v26) zf M nm I ni fun v27 M nm I ni =>
 j23 t0 v27 M nm I ni
def F27 (call : CallT) (t0 M nm I ni : Nat) (kf : KF) : Res :=
 jn (S27_4 call kf) fun j29 =>
 j29 t0 M nm I ni
def g27 (call : CallT) : List Nat → Nat → Nat → Nat → Nat → KF → Res := unS fun t0 => un0 (F27 call t0)
/- slices.BinarySearch[[]int,int] -/
def S56_1 (call : CallT) (kf : KF) (t0 t1 t6 t7 M nm I ni : Nat) : Res :=
 lt 5 t7 t6 fun v4 =>
 jn (fun (v14 : Nat) =>
 jn (fun (v22 M nm I ni : Nat) =>
 jn (fun (v26 M nm I ni : Nat) =>
 jn (fun (v29 : Nat) =>
 jn (fun (v32 : Nat) =>
 pk v4 v32 1 fun v33 =>
 rtn 2 [t7, v33] M nm I ni kf)
 (fun j30 => gd v4 33 (pk v14 33 v29 fun v31 =>
 j30 v31) (j30 0)))
 (fun j27 => gd v14 1 (pk v22 v26 1 fun v28 =>
 j27 v28) (j27 0)))
 (fun j23 => gd v22 33 (call 92 [t1] M nm I ni fun v25 M nm I ni =>
 j23 v25 M nm I ni) (j23 0 M nm I ni)))
 (fun j15 => gd v14 1 (ia 1 t0 t7 fun v18 =>
 ld v18 M fun v19 =>
 call 92 [v19] M nm I ni fun v20 M nm I ni =>
 j15 v20 M nm I ni) (j15 0 M nm I ni)))
 (fun j6 => gd v4 33 (ia 1 t0 t7 fun v9 =>
 ld v9 M fun v10 =>
 eq 5 v10 t1 fun v12 =>
 j6 v12) (j6 0))
def S56_2 (call : CallT) (j36 : Nat → Nat → Nat → Nat → Nat → Nat → Nat → Nat → Res) (n38 : Nat) (j37 : Nat → Nat → Nat → Nat → Nat → Nat → Nat → Nat → Nat → Res) (t0 t1 t6 t7 t8 M nm I ni : Nat) : Res :=
 lt 5 t7 t8 fun v41 =>
 cnd v41 (adt n38 t7 t8 fun v44 =>
 convK .i64 .u64 (.k v44) zf I ni fun v45 I ni =>
 shfK .shr .u64 .u64 (.k v45) (.k 41) zf I ni fun v46 I ni => tkk n38 v46 fun v47 =>
 convK .u64 .i64 (.k v47) zf I ni fun v48 I ni =>
 ia 1 t0 v48 fun v52 =>
 ld v52 M fun v53 =>
 call 91 [v53, t1] M nm I ni fun v55 M nm I ni =>
 cnd v55 (adt n38 v48 295147905179352825893 fun v57 =>
 j37 t0 t1 t6 v57 t8 M nm I ni)
 (j37 t0 t1 t6 t7 v48 M nm I ni))
 (j36 t0 t1 t6 t7 M nm I ni)
def S56_3 (call : CallT) (kf : KF) (t0 t1 t6 t7 t8 M nm I ni : Nat) : Res :=
 jn (S56_1 call kf) fun j36 =>
 lp (S56_2 call j36) (fun _ _ _ _ _ _ _ _ _ => .bad 73 0) t0 t1 t6 t7 t8 M nm I ni
def S56_4 (call : CallT) (kf : KF) (t0 t1 t6 M nm I ni : Nat) : Res :=
 jn (S56_3 call kf) fun j61 =>
 j61 t0 t1 t6 295147905179352825861 t6 M nm I ni
def S56_5 (call : CallT) (kf : KF) (t0 t1 M nm I ni : Nat) : Res :=
 jn (S56_4 call kf) fun j65 =>
 ln t0 fun v67 =>
 j65 t0 t1 v67 M nm I ni
def F56 (call : CallT) (t0 t1 M nm I ni : Nat) (kf : KF) : Res :=
 jn (S56_5 call kf) fun j69 =>
 j69 t0 t1 M nm I ni
def g56 (call : CallT) : List Nat → Nat → Nat → Nat → Nat → KF → Res := unS fun t0 => unS fun t1 => un0 (F56 call t0 t1)
/- slices.insertionSortOrdered[int] -/
def S129_1 (call : CallT) (j6 : Nat → Nat → Nat → Nat → Nat → Nat → Nat → Nat → Res) (n8 : Nat) (j7 : Nat → Nat → Nat → Nat → Nat → Nat → Nat → Nat → Nat → Res) (t0 t1 t2 t6 t7 M nm I ni : Nat) : Res :=
 lt 5 t1 t7 fun v11 =>
 jn (fun (v24 M nm I ni : Nat) =>
 pk v11 v24 1 fun v25 =>
 cnd v25 (sbt n8 t7 295147905179352825893 fun v30 =>
 sbt n8 t7 295147905179352825893 fun v33 =>
 ia 1 t0 v33 fun v34 =>
 ld v34 M fun v35 =>
 ia 1 t0 t7 fun v38 =>
 ld v38 M fun v39 =>
 ia 1 t0 t7 fun v40 =>
 storeK 1 (.k v40) (.k v35) zf M nm I ni fun _ M nm I ni =>
 ia 1 t0 v30 fun v41 =>
 storeK 1 (.k v41) (.k v39) zf M nm I ni fun _ M nm I ni =>
 sbt n8 t7 295147905179352825893 fun v43 =>
 j7 t0 t1 t2 t6 v43 M nm I ni)
 (j6 t0 t1 t2 t6 M nm I ni))
 (fun j13 => gd v11 33 (ia 1 t0 t7 fun v16 =>
 ld v16 M fun v17 =>
 sbt n8 t7 295147905179352825893 fun v20 =>
 ia 1 t0 v20 fun v21 =>
 ld v21 M fun v22 =>
 call 91 [v17, v22] M nm I ni fun v23 M nm I ni =>
 j13 v23 M nm I ni) (j13 0 M nm I ni))
def S129_2 (call : CallT) (j6 : Nat → Nat → Nat → Nat → Nat → Nat → Nat → Nat → Res) (t0 t1 t2 t6 t7 M nm I ni : Nat) : Res :=
 lp (S129_1 call j6) (fun _ _ _ _ _ _ _ _ _ => .bad 73 0) t0 t1 t2 t6 t7 M nm I ni
def S129_3 (call : CallT) (n2 : Nat) (j1 : Nat → Nat → Nat → Nat → Nat → Nat → Nat → Nat → Res) (t0 t1 t2 t6 M nm I ni : Nat) : Res :=
 jn (fun (t0 t1 t2 t6 M nm I ni : Nat) =>
 adt n2 t6 295147905179352825893 fun v4 =>
 j1 t0 t1 t2 v4 M nm I ni) fun j6 =>
 jn (S129_2 call j6) fun j45 =>
 j45 t0 t1 t2 t6 t6 M nm I ni
def S129_4 (call : CallT) (kf : KF) (n2 : Nat) (j1 : Nat → Nat → Nat → Nat → Nat → Nat → Nat → Nat → Res) (t0 t1 t2 t6 M nm I ni : Nat) : Res :=
 jn (S129_3 call n2 j1) fun j48 =>
 lt 5 t6 t2 fun v51 =>
 cnd v51 (j48 t0 t1 t2 t6 M nm I ni)
 (rtn 0 [] M nm I ni kf)
def S129_5 (call : CallT) (kf : KF) (t0 t1 t2 t6 M nm I ni : Nat) : Res :=
 lp (S129_4 call kf) (fun _ _ _ _ _ _ _ _ => .bad 73 0) t0 t1 t2 t6 M nm I ni
def F129 (call : CallT) (t0 t1 t2 M nm I ni : Nat) (kf : KF) : Res :=
 jn (S129_5 call kf) fun j52 =>
 ad t1 295147905179352825893 fun v54 =>
 j52 t0 t1 t2 v54 M nm I ni
def g129 (call : CallT) : List Nat → Nat → Nat → Nat → Nat → KF → Res := unS fun t0 => unS fun t1 => unS fun t2 => un0 (F129 call t0 t1 t2)
/- fretwork/figures.Four -/
def F51 (call : CallT) (t0 M nm I ni : Nat) (kf : KF) : Res :=
 newK 4 2983939418458719852932293488918587651015056989367101041182505228830656700767545723977734 M nm I ni fun v1 M nm I ni =>
 shfK .shr .i64 .u64 (.k t0) (.k 777) zf I ni fun v3 I ni =>
 convK .i64 .u8 (.k v3) zf I ni fun v4 I ni =>
 shfK .shr .i64 .u64 (.k t0) (.k 521) zf I ni fun v6 I ni =>
 convK .i64 .u8 (.k v6) zf I ni fun v7 I ni =>
 shfK .shr .i64 .u64 (.k t0) (.k 265) zf I ni fun v9 I ni =>
 convK .i64 .u8 (.k v9) zf I ni fun v10 I ni =>
 convK .i64 .u8 (.k t0) zf I ni fun v12 I ni =>
 buildK 4 2983939418458719852932293488918587651015056989367101041182505228830656700767545723977734 [(0, 1, (.k v4)), (1, 1, (.k v7)), (2, 1, (.k v10)), (3, 1, (.k v12))] zf I ni fun v13 I ni =>
 storeK 4 (.k v1) (.k v13) zf M nm I ni fun _ M nm I ni =>
 loadNK 4 (.k v1) zf M I ni fun v14 I ni => kf v14 M nm I ni
def g51 (call : CallT) : List Nat → Nat → Nat → Nat → Nat → KF → Res := unS fun t0 => un0 (F51 call t0)
/- fretwork/low.search -/
def S183_1 (j6 : Nat → Nat → Nat → Nat → Nat → Nat → Res) (t5 t6 t131 M nm I ni : Nat) : Res :=
 backG 201 t131 M nm I ni (fun (v7 v8 M nm I ni : Nat) (k9 : Nat → Nat → Nat → Nat → Res) =>
 ld t5 M fun v11 =>
 ia 3 v11 v8 fun v13 =>
 fa 1 v13 fun v14 =>
 ld v14 M fun v15 =>
 ge 5 v15 295147905179352825861 fun v18 =>
 cnd v18 (ld t5 M fun v19 =>
 ld t5 M fun v21 =>
 ia 3 v21 v15 fun v23 =>
 fa 2 v23 fun v24 =>
 ld v24 M fun v25 =>
 ld t5 M fun v26 =>
 ia 3 v26 v8 fun v28 =>
 fa 2 v28 fun v29 =>
 ld v29 M fun v30 =>
 minK false 5 (.k v25) (.k v30) zf I ni fun v31 I ni =>
 ia 3 v19 v15 fun v32 =>
 fa 2 v32 fun v33 =>
 storeK 1 (.k v33) (.k v31) zf M nm I ni fun _ M nm I ni =>
 k9 M nm I ni)
 (k9 M nm I ni)) (fun (M nm I ni : Nat) => j6 t5 t6 M nm I ni)
def S183_2 (call : CallT) (kf : KF) (t5 t6 M nm I ni : Nat) : Res :=
 jn (fun (t5 t6 M nm I ni : Nat) =>
 ld t5 M fun v1 =>
 rtn 3 [v1, t6, 295147905179352825861] M nm I ni kf) fun j6 =>
 jn (S183_1 j6) fun j34 =>
 call 192 [t6] M nm I ni fun v36 M nm I ni =>
 j34 t5 t6 v36 M nm I ni
def S183_3 (j42 : Nat → Nat → Nat → Nat → Nat → Nat → Nat → Nat → Nat → Res) (t5 t6 t15 t16 t75 t76 t77 M nm I ni : Nat) : Res :=
 nilcK (.k t15) zf I ni fun v45 I ni =>
 fa 2 v45 fun v46 =>
 ld v46 M fun v47 =>
 nilcK (.k t16) zf I ni fun v49 I ni =>
 fa 0 v49 fun v50 =>
 ld v50 M fun v51 =>
 minK false 5 (.k v47) (.k v51) zf I ni fun v52 I ni =>
 nilcK (.k t15) zf I ni fun v53 I ni =>
 fa 2 v53 fun v54 =>
 storeK 1 (.k v54) (.k v52) zf M nm I ni fun _ M nm I ni =>
 nilcK (.k t16) zf I ni fun v57 I ni =>
 fa 2 v57 fun v58 =>
 ld v58 M fun v59 =>
 nilcK (.k t15) zf I ni fun v61 I ni =>
 fa 0 v61 fun v62 =>
 ld v62 M fun v63 =>
 minK false 5 (.k v59) (.k v63) zf I ni fun v64 I ni =>
 nilcK (.k t16) zf I ni fun v65 I ni =>
 fa 2 v65 fun v66 =>
 storeK 1 (.k v66) (.k v64) zf M nm I ni fun _ M nm I ni =>
 j42 t5 t6 t75 t76 t77 M nm I ni
def S183_4 (j42 : Nat → Nat → Nat → Nat → Nat → Nat → Nat → Nat → Nat → Res) (t5 t6 t14 t15 t16 t75 t76 t77 M nm I ni : Nat) : Res :=
 jn (S183_3 j42) fun j67 =>
 nilcK (.k t15) zf I ni fun v69 I ni =>
 fa 1 v69 fun v70 =>
 ld v70 M fun v71 =>
 iadrAK 2 1 (.k t14) (.k 295147905179352825893) zf I ni fun v72 I ni =>
 ld v72 M fun v73 =>
 eq 5 v71 v73 fun v74 =>
 jn (fun (v84 M nm I ni : Nat) =>
 pk v74 33 v84 fun v85 =>
 cnd v85 (j42 t5 t6 t75 t76 t77 M nm I ni)
 (j67 t5 t6 t15 t16 t75 t76 t77 M nm I ni))
 (fun j76 => gd v74 1 (nilcK (.k t16) zf I ni fun v78 I ni =>
 fa 1 v78 fun v79 =>
 ld v79 M fun v80 =>
 iadrAK 2 1 (.k t14) (.k 295147905179352825861) zf I ni fun v81 I ni =>
 ld v81 M fun v82 =>
 eq 5 v80 v82 fun v83 =>
 j76 v83 M nm I ni) (j76 0 M nm I ni))
def S183_5 (j42 : Nat → Nat → Nat → Nat → Nat → Nat → Nat → Nat → Nat → Res) (t5 t6 t14 t75 t76 t77 M nm I ni : Nat) : Res :=
 jn (S183_4 j42) fun j86 =>
 ld t5 M fun v87 =>
 iadrAK 2 1 (.k t14) (.k 295147905179352825861) zf I ni fun v88 I ni =>
 ld v88 M fun v89 =>
 ia 3 v87 v89 fun v90 =>
 ld t5 M fun v91 =>
 iadrAK 2 1 (.k t14) (.k 295147905179352825893) zf I ni fun v92 I ni =>
 ld v92 M fun v93 =>
 ia 3 v91 v93 fun v94 =>
 j86 t5 t6 t14 v90 v94 t75 t76 t77 M nm I ni
def S183_6 (n39 : Nat) (j38 : Nat → Nat → Nat → Nat → Nat → Nat → Nat → Nat → Nat → Res) (t5 t6 t75 t76 t77 M nm I ni : Nat) : Res :=
 jn (fun (t5 t6 t75 t76 t77 M nm I ni : Nat) =>
 adt n39 t77 295147905179352825893 fun v40 =>
 j38 t5 t6 t75 t76 v40 M nm I ni) fun j42 =>
 jn (S183_5 j42) fun j97 =>
 ia 2 t75 t77 fun v98 =>
 loadNK 2 (.k v98) zf M I ni fun v99 I ni =>
 newK 2 23384026197294446691655098136326997907641993265157 M nm I ni fun v100 M nm I ni =>
 storeK 2 (.k v100) (.k v99) zf M nm I ni fun _ M nm I ni =>
 j97 t5 t6 v100 t75 t76 t77 M nm I ni
def S183_7 (j37 : Nat → Nat → Nat → Nat → Nat → Nat → Res) (n39 : Nat) (j38 : Nat → Nat → Nat → Nat → Nat → Nat → Nat → Nat → Nat → Res) (t5 t6 t75 t76 t77 t78 M nm I ni : Nat) : Res :=
 jn (S183_6 n39 j38) fun j101 =>
 cnd t78 (j101 t5 t6 t75 t76 t77 M nm I ni)
 (j37 t5 t6 M nm I ni)
def S183_8 (j37 : Nat → Nat → Nat → Nat → Nat → Nat → Res) (n39 : Nat) (j38 : Nat → Nat → Nat → Nat → Nat → Nat → Nat → Nat → Nat → Res) (t5 t6 t75 t76 t77 M nm I ni : Nat) : Res :=
 jn (S183_7 j37 n39 j38) fun j102 =>
 lt 5 t77 t76 fun v103 =>
 j102 t5 t6 t75 t76 t77 v103 M nm I ni
def S183_9 (j37 : Nat → Nat → Nat → Nat → Nat → Nat → Res) (t5 t6 t75 t76 t77 M nm I ni : Nat) : Res :=
 lp (S183_8 j37) (fun _ _ _ _ _ _ _ _ _ => .bad 73 0) t5 t6 t75 t76 t77 M nm I ni
def S183_10 (call : CallT) (kf : KF) (t1 t5 t6 M nm I ni : Nat) : Res :=
 jn (S183_2 call kf) fun j37 =>
 jn (S183_9 j37) fun j104 =>
 fa 1 t1 fun v105 =>
 ld v105 M fun v106 =>
 ln v106 fun v107 =>
 j104 t5 t6 v106 v107 295147905179352825861 M nm I ni
def S183_11 (j114 : Nat → Nat → Nat → Nat → Nat → Nat → Nat → Nat → Nat → Res) (n116 : Nat) (j115 : Nat → Nat → Nat → Nat → Nat → Nat → Nat → Nat → Nat → Nat → Nat → Nat → Nat → Res) (t1 t5 t6 t9 t30 t31 t50 t51 t52 M nm I ni : Nat) : Res :=
 lt 5 t52 t51 fun v117 =>
 cnd v117 (ia 1 t50 t52 fun v118 =>
 ld v118 M fun v119 =>
 bldSK 1 1 295147905179352825861 [(0, 1, (.k v119))] zf M nm I ni fun v123 M nm I ni =>
 appW 1 t6 v123 M nm I ni fun v124 M nm I ni =>
 ld t5 M fun v126 =>
 ln v124 fun v129 =>
 ia 1 t9 v119 fun v132 =>
 ld v132 M fun v133 =>
 ln v124 fun v135 =>
 buildK 3 1852673427797059126808521268839323955668793148457942454848160119256572240068613 [(0, 1, (.k v129)), (1, 1, (.k v133)), (2, 1, (.k v135))] zf I ni fun v136 I ni =>
 ia 3 v126 v119 fun v137 =>
 storeK 3 (.k v137) (.k v136) zf M nm I ni fun _ M nm I ni =>
 adt n116 t52 295147905179352825893 fun v138 =>
 j115 t1 t5 v124 t9 t30 t31 t50 t51 v138 M nm I ni)
 (j114 t1 t5 t6 t30 t31 M nm I ni)
def S183_12 (j114 : Nat → Nat → Nat → Nat → Nat → Nat → Nat → Nat → Nat → Res) (t1 t5 t6 t9 t30 t31 t50 t51 t52 M nm I ni : Nat) : Res :=
 lp (S183_11 j114) (fun _ _ _ _ _ _ _ _ _ _ _ _ _ => .bad 73 0) t1 t5 t6 t9 t30 t31 t50 t51 t52 M nm I ni
def S183_13 (j114 : Nat → Nat → Nat → Nat → Nat → Nat → Nat → Nat → Nat → Res) (t1 t5 t6 t8 t9 t30 t31 M nm I ni : Nat) : Res :=
 jn (S183_12 j114) fun j140 =>
 ln t8 fun v142 =>
 j140 t1 t5 t6 t9 t30 t31 t8 v142 295147905179352825861 M nm I ni
def S183_14 (kf : KF) (j114 : Nat → Nat → Nat → Nat → Nat → Nat → Nat → Nat → Nat → Res) (t1 t5 t6 t8 t9 t10 t30 t31 M nm I ni : Nat) : Res :=
 jn (S183_13 j114) fun j144 =>
 ne 5 t10 295147905179352825861 fun v146 =>
 cnd v146 (rtn 3 [11, 11, t10] M nm I ni kf)
 (j144 t1 t5 t6 t8 t9 t30 t31 M nm I ni)
def S183_15 (call : CallT) (kf : KF) (j114 : Nat → Nat → Nat → Nat → Nat → Nat → Nat → Nat → Nat → Res) (t1 t5 t6 t7 t30 t31 M nm I ni : Nat) : Res :=
 jn (S183_14 kf j114) fun j151 =>
 loadNK 2 (.k t1) zf M I ni fun v152 I ni =>
 call 191 [v152, t7] M nm I ni fun v154 M nm I ni =>
 f1 19 0 v154 I fun v156 =>
 f1 19 1 v154 I fun v157 =>
 f1 19 2 v154 I fun v158 =>
 j151 t1 t5 t6 v156 v157 v158 t30 t31 M nm I ni
def S183_16 (call : CallT) (kf : KF) (j114 : Nat → Nat → Nat → Nat → Nat → Nat → Nat → Nat → Nat → Res) (t1 t5 t6 t7 t30 t31 M nm I ni : Nat) : Res :=
 jn (S183_15 call kf j114) fun j162 =>
 ld t5 M fun v163 =>
 ia 3 v163 t7 fun v165 =>
 fa 0 v165 fun v166 =>
 ld v166 M fun v167 =>
 ne 5 v167 295147905179352825861 fun v168 =>
 cnd v168 (j114 t1 t5 t6 t30 t31 M nm I ni)
 (j162 t1 t5 t6 t7 t30 t31 M nm I ni)
def S183_17 (call : CallT) (kf : KF) (n111 : Nat) (j110 : Nat → Nat → Nat → Nat → Nat → Nat → Nat → Nat → Nat → Res) (t1 t5 t6 t30 t31 M nm I ni : Nat) : Res :=
 jn (fun (t1 t5 t6 t30 t31 M nm I ni : Nat) =>
 adt n111 t31 295147905179352825893 fun v112 =>
 j110 t1 t5 t6 t30 v112 M nm I ni) fun j114 =>
 jn (S183_16 call kf j114) fun j169 =>
 j169 t1 t5 t6 t31 t30 t31 M nm I ni
def S183_18 (call : CallT) (kf : KF) (j109 : Nat → Nat → Nat → Nat → Nat → Nat → Nat → Res) (n111 : Nat) (j110 : Nat → Nat → Nat → Nat → Nat → Nat → Nat → Nat → Nat → Res) (t1 t5 t6 t30 t31 t32 M nm I ni : Nat) : Res :=
 jn (S183_17 call kf n111 j110) fun j172 =>
 cnd t32 (j172 t1 t5 t6 t30 t31 M nm I ni)
 (j109 t1 t5 t6 M nm I ni)
def S183_19 (call : CallT) (kf : KF) (j109 : Nat → Nat → Nat → Nat → Nat → Nat → Nat → Res) (n111 : Nat) (j110 : Nat → Nat → Nat → Nat → Nat → Nat → Nat → Nat → Nat → Res) (t1 t5 t6 t30 t31 M nm I ni : Nat) : Res :=
 jn (S183_18 call kf j109 n111 j110) fun j173 =>
 lt 5 t31 t30 fun v174 =>
 j173 t1 t5 t6 t30 t31 v174 M nm I ni
def S183_20 (call : CallT) (kf : KF) (j109 : Nat → Nat → Nat → Nat → Nat → Nat → Nat → Res) (t1 t5 t6 t30 t31 M nm I ni : Nat) : Res :=
 lp (S183_19 call kf j109) (fun _ _ _ _ _ _ _ _ _ => .bad 73 0) t1 t5 t6 t30 t31 M nm I ni
def S183_21 (call : CallT) (kf : KF) (t1 t5 t6 M nm I ni : Nat) : Res :=
 jn (S183_10 call kf) fun j109 =>
 jn (S183_20 call kf j109) fun j175 =>
 fa 0 t1 fun v176 =>
 ld v176 M fun v177 =>
 j175 t1 t5 t6 v177 295147905179352825861 M nm I ni
def S183_22 (call : CallT) (kf : KF) (t1 t5 M nm I ni : Nat) : Res :=
 jn (S183_21 call kf) fun j179 =>
 fa 0 t1 fun v180 =>
 ld v180 M fun v181 =>
 mkSlK 1 295147905179352825861 (.k 295147905179352825861) (.k v181) zf M nm I ni fun v182 M nm I ni =>
 j179 t1 t5 v182 M nm I ni
def S183_23 (call : CallT) (kf : KF) (t1 M nm I ni : Nat) : Res :=
 jn (S183_22 call kf) fun j184 =>
 fa 0 t1 fun v185 =>
 ld v185 M fun v186 =>
 mkSlK 3 1852673427797059126808521268839323955668793148457942454848160119256572240068613 (.k v186) (.k v186) zf M nm I ni fun v187 M nm I ni =>
 newK 1 11 M nm I ni fun v188 M nm I ni =>
 storeK 1 (.k v188) (.k v187) zf M nm I ni fun _ M nm I ni =>
 j184 t1 v188 M nm I ni
def S183_24 (call : CallT) (kf : KF) (t1 M nm I ni : Nat) : Res :=
 jn (S183_23 call kf) fun j189 =>
 loadNK 2 (.k t1) zf M I ni fun v190 I ni =>
 call 22 [v190] M nm I ni fun v191 M nm I ni =>
 notK (.k v191) zf I ni fun v192 I ni =>
 cnd v192 (rtn 3 [11, 11, 295147905179352826501] M nm I ni kf)
 (j189 t1 M nm I ni)
def F183 (call : CallT) (t0 M nm I ni : Nat) (kf : KF) : Res :=
 jn (S183_24 call kf) fun j196 =>
 boxK 2 (.k t0) zf M nm I ni fun v197 M nm I ni =>
 j196 v197 M nm I ni
def g183 (call : CallT) : List Nat → Nat → Nat → Nat → Nat → KF → Res := unS fun t0 => un0 (F183 call t0)
/- math/bits.Len64 -/
def S106_1 (kf : KF) (t0 t2 M nm I ni : Nat) : Res :=
 jn (fun (t0 t2 M nm I ni : Nat) =>
 jn (fun (t0 t2 M nm I ni : Nat) =>
 convK .u64 .u8 (.k t0) zf I ni fun v3 I ni =>
 idxTK (.str 256 496986003408712215933005303621146343841837811690876167382323004466384420695090407243345123874780946046625255262057845613767806773758184921447759720770971536008171983842311960805720366577116933250839345203839274948261284255908394484732272583221484877694546905335834403051067785895034095251181560891789708940188598129052595634438001880866652824740680664595948164050600812232986714152902334120417949232733424961741260388658846598210939813666227264727603044226856020347194099943897342244906131705541414413428559898943151040826816076322978570758226444464494629814583418847495712557856038296917933182380796641777551368) (.k v3) zf I ni fun v4 I ni =>
 convK .u8 .i64 (.k v4) zf I ni fun v5 I ni =>
 ad t2 v5 fun v6 =>
 kf v6 M nm I ni) fun j8 =>
 ge 9 t0 8201 fun v10 =>
 cnd v10 (shfK .shr .u64 .u64 (.k t0) (.k 265) zf I ni fun v12 I ni =>
 ad t2 295147905179352826117 fun v15 =>
 j8 v12 v15 M nm I ni)
 (j8 t0 t2 M nm I ni)) fun j17 =>
 ge 9 t0 2097161 fun v19 =>
 cnd v19 (shfK .shr .u64 .u64 (.k t0) (.k 521) zf I ni fun v21 I ni =>
 ad t2 295147905179352826373 fun v24 =>
 j17 v21 v24 M nm I ni)
 (j17 t0 t2 M nm I ni)
def S106_2 (kf : KF) (t0 t2 M nm I ni : Nat) : Res :=
 jn (S106_1 kf) fun j26 =>
 ge 9 t0 137438953481 fun v28 =>
 cnd v28 (shfK .shr .u64 .u64 (.k t0) (.k 1033) zf I ni fun v30 I ni =>
 j26 v30 295147905179352826885 M nm I ni)
 (j26 t0 t2 M nm I ni)
def F106 (call : CallT) (t0 M nm I ni : Nat) (kf : KF) : Res :=
 jn (S106_2 kf) fun j33 =>
 j33 t0 295147905179352825861 M nm I ni
def g106 (call : CallT) : List Nat → Nat → Nat → Nat → Nat → KF → Res := unS fun t0 => un0 (F106 call t0)
/- cmp.Or[int] -/
def S66_1 (kf : KF) (t0 t3 M nm I ni : Nat) : Res :=
 jn (fun (t3 M nm I ni : Nat) =>
 kf t3 M nm I ni) fun j3 =>
 jn (fun (t3 t6 t7 t8 M nm I ni : Nat) =>
 lp (fun (n5 : Nat) (j4 : Nat → Nat → Nat → Nat → Nat → Nat → Nat → Nat → Res) (t3 t6 t7 t8 M nm I ni : Nat) =>
 lt 5 t8 t7 fun v6 =>
 cnd v6 (ia 1 t6 t8 fun v7 =>
 ld v7 M fun v8 =>
 ne 5 v8 t3 fun v12 =>
 cnd v12 (kf v8 M nm I ni)
 (adt n5 t8 295147905179352825893 fun v15 =>
 j4 t3 t6 t7 v15 M nm I ni))
 (j3 t3 M nm I ni)) (fun _ _ _ _ _ _ _ _ => .bad 73 0) t3 t6 t7 t8 M nm I ni) fun j17 =>
 ln t0 fun v19 =>
 j17 t3 t0 v19 295147905179352825861 M nm I ni
def S66_2 (kf : KF) (t0 M nm I ni : Nat) : Res :=
 jn (S66_1 kf) fun j21 =>
 j21 t0 295147905179352825861 M nm I ni
def F66 (call : CallT) (t0 M nm I ni : Nat) (kf : KF) : Res :=
 jn (S66_2 kf) fun j23 =>
 j23 t0 M nm I ni
def g66 (call : CallT) : List Nat → Nat → Nat → Nat → Nat → KF → Res := unS fun t0 => un0 (F66 call t0)
/- fretwork/bough.grown -/
def S147_1 (call : CallT) (kf : KF) (t2 t6 t23 t24 M nm I ni : Nat) : Res :=
 jn (fun (t6 t24 M nm I ni : Nat) =>
 nilcK (.k t6) zf I ni fun v3 I ni =>
 fa 2 v3 fun v4 =>
 storeK 1 (.k v4) (.k t24) zf M nm I ni fun _ M nm I ni =>
 call 170 [t6] M nm I ni fun v6 M nm I ni =>
 kf t6 M nm I ni) fun j9 =>
 notK (.k t23) zf I ni fun v11 I ni =>
 cnd v11 (fa 0 t2 fun v13 =>
 ld v13 M fun v14 =>
 ln v14 fun v15 =>
 ad t24 v15 fun v16 =>
 j9 t6 v16 M nm I ni)
 (j9 t6 t24 M nm I ni)
def S147_2 (call : CallT) (kf : KF) (t2 t6 M nm I ni : Nat) : Res :=
 jn (S147_1 call kf) fun j18 =>
 loadNK 3 (.k t2) zf M I ni fun v19 I ni =>
 call 169 [v19] M nm I ni fun v20 M nm I ni =>
 f1 19 0 v20 I fun v22 =>
 f1 19 1 v20 I fun v23 =>
 j18 t2 t6 v22 v23 M nm I ni
def S147_3 (j31 : Nat → Nat → Nat → Nat → Nat → Nat → Nat → Nat → Nat → Res) (t2 t6 t21 t22 t195 t196 t197 M nm I ni : Nat) : Res :=
 nilcK (.k t6) zf I ni fun v33 I ni =>
 fa 1 v33 fun v34 =>
 ld v34 M fun v35 =>
 nilcK (.k t6) zf I ni fun v38 I ni =>
 fa 1 v38 fun v39 =>
 ld v39 M fun v40 =>
 ia 1 v40 t21 fun v42 =>
 ld v42 M fun v43 =>
 bldSK 1 1 295147905179352825861 [(0, 1, (.k t22))] zf M nm I ni fun v45 M nm I ni =>
 appW 1 v43 v45 M nm I ni fun v47 M46 nm I ni =>
 flL v34 1 M M46 <| 
 ia 1 v35 t21 fun v48 =>
 storeK 1 (.k v48) (.k v47) zf M46 nm I ni fun _ M nm I ni =>
 nilcK (.k t6) zf I ni fun v50 I ni =>
 fa 1 v50 fun v51 =>
 ld v51 M fun v52 =>
 nilcK (.k t6) zf I ni fun v55 I ni =>
 fa 1 v55 fun v56 =>
 ld v56 M fun v57 =>
 ia 1 v57 t22 fun v59 =>
 ld v59 M fun v60 =>
 bldSK 1 1 295147905179352825861 [(0, 1, (.k t21))] zf M nm I ni fun v62 M nm I ni =>
 appW 1 v60 v62 M nm I ni fun v64 M63 nm I ni =>
 flL v51 1 M M63 <| 
 ia 1 v52 t22 fun v65 =>
 storeK 1 (.k v65) (.k v64) zf M63 nm I ni fun _ M nm I ni =>
 j31 t2 t6 t195 t196 t197 M nm I ni
def S147_4 (n28 : Nat) (j31 : Nat → Nat → Nat → Nat → Nat → Nat → Nat → Nat → Nat → Res) (t2 t6 t20 t195 t196 t197 M nm I ni : Nat) : Res :=
 jn (S147_3 j31) fun j66 =>
 iadrAK 2 1 (.k t20) (.k 295147905179352825861) zf I ni fun v67 I ni =>
 ld v67 M fun v68 =>
 fa 0 t2 fun v69 =>
 ld v69 M fun v70 =>
 ln v70 fun v71 =>
 iadrAK 2 1 (.k t20) (.k 295147905179352825893) zf I ni fun v72 I ni =>
 ld v72 M fun v73 =>
 adt n28 v71 v73 fun v74 =>
 j66 t2 t6 v68 v74 t195 t196 t197 M nm I ni
def S147_5 (n28 : Nat) (j27 : Nat → Nat → Nat → Nat → Nat → Nat → Nat → Nat → Nat → Res) (t2 t6 t195 t196 t197 M nm I ni : Nat) : Res :=
 jn (fun (t2 t6 t195 t196 t197 M nm I ni : Nat) =>
 adt n28 t197 295147905179352825893 fun v29 =>
 j27 t2 t6 t195 t196 v29 M nm I ni) fun j31 =>
 jn (S147_4 n28 j31) fun j77 =>
 ia 2 t195 t197 fun v78 =>
 loadNK 2 (.k v78) zf M I ni fun v79 I ni =>
 newK 2 23384026197294446691655098136326997907641993265157 M nm I ni fun v80 M nm I ni =>
 storeK 2 (.k v80) (.k v79) zf M nm I ni fun _ M nm I ni =>
 j77 t2 t6 v80 t195 t196 t197 M nm I ni
def S147_6 (j26 : Nat → Nat → Nat → Nat → Nat → Nat → Res) (n28 : Nat) (j27 : Nat → Nat → Nat → Nat → Nat → Nat → Nat → Nat → Nat → Res) (t2 t6 t195 t196 t197 t198 M nm I ni : Nat) : Res :=
 jn (S147_5 n28 j27) fun j81 =>
 cnd t198 (j81 t2 t6 t195 t196 t197 M nm I ni)
 (j26 t2 t6 M nm I ni)
def S147_7 (j26 : Nat → Nat → Nat → Nat → Nat → Nat → Res) (n28 : Nat) (j27 : Nat → Nat → Nat → Nat → Nat → Nat → Nat → Nat → Nat → Res) (t2 t6 t195 t196 t197 M nm I ni : Nat) : Res :=
 jn (S147_6 j26 n28 j27) fun j82 =>
 lt 5 t197 t196 fun v83 =>
 j82 t2 t6 t195 t196 t197 v83 M nm I ni
def S147_8 (j26 : Nat → Nat → Nat → Nat → Nat → Nat → Res) (t2 t6 t195 t196 t197 M nm I ni : Nat) : Res :=
 lp (S147_7 j26) (fun _ _ _ _ _ _ _ _ _ => .bad 73 0) t2 t6 t195 t196 t197 M nm I ni
def S147_9 (call : CallT) (kf : KF) (t2 t6 M nm I ni : Nat) : Res :=
 jn (S147_2 call kf) fun j26 =>
 jn (S147_8 j26) fun j84 =>
 fa 2 t2 fun v85 =>
 ld v85 M fun v86 =>
 ln v86 fun v87 =>
 j84 t2 t6 v86 v87 295147905179352825861 M nm I ni
def S147_10 (call : CallT) (kf : KF) (t2 t6 t18 M nm I ni : Nat) : Res :=
 jn (S147_9 call kf) fun j89 =>
 mkSlK 1 11 (.k t18) (.k t18) zf M nm I ni fun v95 M nm I ni =>
 mkSlK 1 295147905179352825861 (.k t18) (.k t18) zf M nm I ni fun v97 M nm I ni =>
 mkSlK 1 295147905179352825861 (.k t18) (.k t18) zf M nm I ni fun v99 M nm I ni =>
 mkSlK 1 295147905179352825861 (.k t18) (.k t18) zf M nm I ni fun v101 M nm I ni =>
 nilcK (.k t6) zf I ni fun v102 I ni =>
 fa 1 v102 fun v103 =>
 storeK 1 (.k v103) (.k v95) zf M nm I ni fun _ M nm I ni =>
 nilcK (.k t6) zf I ni fun v104 I ni =>
 fa 3 v104 fun v105 =>
 storeK 1 (.k v105) (.k v97) zf M nm I ni fun _ M nm I ni =>
 nilcK (.k t6) zf I ni fun v106 I ni =>
 fa 4 v106 fun v107 =>
 storeK 1 (.k v107) (.k v99) zf M nm I ni fun _ M nm I ni =>
 nilcK (.k t6) zf I ni fun v108 I ni =>
 fa 5 v108 fun v109 =>
 storeK 1 (.k v109) (.k v101) zf M nm I ni fun _ M nm I ni =>
 j89 t2 t6 M nm I ni
def S147_11 (call : CallT) (kf : KF) (t2 t6 M nm I ni : Nat) : Res :=
 jn (S147_10 call kf) fun j110 =>
 nilcK (.k t6) zf I ni fun v112 I ni =>
 fa 0 v112 fun v113 =>
 ld v113 M fun v114 =>
 ln v114 fun v115 =>
 j110 t2 t6 v115 M nm I ni
def S147_12 (j117 : Nat → Nat → Nat → Nat → Nat → Nat → Res) (n119 : Nat) (j118 : Nat → Nat → Nat → Nat → Nat → Nat → Nat → Nat → Nat → Res) (t2 t6 t133 t134 t135 M nm I ni : Nat) : Res :=
 lt 5 t135 t134 fun v120 =>
 cnd v120 (ia 1 t133 t135 fun v122 =>
 ld v122 M fun v123 =>
 nilcK (.k t6) zf I ni fun v127 I ni =>
 fa 8 v127 fun v128 =>
 ld v128 M fun v129 =>
 fa 0 t2 fun v131 =>
 ld v131 M fun v132 =>
 ln v132 fun v133 =>
 adt n119 v133 t135 fun v135 =>
 updW (.word 5) v129 v123 v135 M nm I ni fun _ M nm I ni =>
 nilcK (.k t6) zf I ni fun v138 I ni =>
 fa 0 v138 fun v139 =>
 ld v139 M fun v140 =>
 fa 0 t2 fun v141 =>
 ld v141 M fun v142 =>
 ln v142 fun v143 =>
 adt n119 v143 t135 fun v145 =>
 buildK 2 23384026197294446691655098136326997907641993265157 [(0, 1, (.k v145)), (1, 1, (.k v123))] zf I ni fun v147 I ni =>
 boxK 2 (.k v147) zf M nm I ni fun v148 M nm I ni =>
 mkiK 242 (.k v148) zf I ni fun v149 I ni =>
 bldSK 1 1 17 [(0, 1, (.k v149))] zf M nm I ni fun v150 M nm I ni =>
 appW 1 v140 v150 M nm I ni fun v151 M nm I ni =>
 nilcK (.k t6) zf I ni fun v152 I ni =>
 fa 0 v152 fun v153 =>
 storeK 1 (.k v153) (.k v151) zf M nm I ni fun _ M nm I ni =>
 adt n119 t135 295147905179352825893 fun v154 =>
 j118 t2 t6 t133 t134 v154 M nm I ni)
 (j117 t2 t6 M nm I ni)
def S147_13 (j117 : Nat → Nat → Nat → Nat → Nat → Nat → Res) (t2 t6 t133 t134 t135 M nm I ni : Nat) : Res :=
 lp (S147_12 j117) (fun _ _ _ _ _ _ _ _ _ => .bad 73 0) t2 t6 t133 t134 t135 M nm I ni
def S147_14 (call : CallT) (kf : KF) (t2 t6 M nm I ni : Nat) : Res :=
 jn (S147_11 call kf) fun j117 =>
 jn (S147_13 j117) fun j156 =>
 fa 1 t2 fun v157 =>
 ld v157 M fun v158 =>
 ln v158 fun v159 =>
 j156 t2 t6 v158 v159 295147905179352825861 M nm I ni
def S147_15 (call : CallT) (j166 : Nat → Nat → Nat → Nat → Nat → Nat → Nat → Nat → Nat → Res) (t2 t6 t13 t63 t64 t65 M nm I ni : Nat) : Res :=
 nilcK (.k t13) zf I ni fun v168 I ni =>
 fa 2 v168 fun v169 =>
 ld v169 M fun v170 =>
 call 55 [v170] M nm I ni fun v171 M nm I ni =>
 nilcK (.k t13) zf I ni fun v174 I ni =>
 fa 2 v174 fun v175 =>
 ld v175 M fun v176 =>
 call 168 [v176] M nm I ni fun v177 M nm I ni =>
 nilcK (.k t13) zf I ni fun v178 I ni =>
 fa 2 v178 fun v179 =>
 storeK 1 (.k v179) (.k v177) zf M nm I ni fun _ M nm I ni =>
 nilcK (.k t6) zf I ni fun v182 I ni =>
 fa 0 v182 fun v183 =>
 ld v183 M fun v184 =>
 mkiK 236 (.k t13) zf I ni fun v186 I ni =>
 bldSK 1 1 17 [(0, 1, (.k v186))] zf M nm I ni fun v187 M nm I ni =>
 appW 1 v184 v187 M nm I ni fun v188 M nm I ni =>
 nilcK (.k t6) zf I ni fun v189 I ni =>
 fa 0 v189 fun v190 =>
 storeK 1 (.k v190) (.k v188) zf M nm I ni fun _ M nm I ni =>
 j166 t2 t6 t63 t64 t65 M nm I ni
def S147_16 (j191 : Nat → Nat → Nat → Nat → Nat → Nat → Nat → Nat → Nat → Nat → Res) (n193 : Nat) (j192 : Nat → Nat → Nat → Nat → Nat → Nat → Nat → Nat → Nat → Nat → Nat → Nat → Nat → Res) (t2 t6 t13 t63 t64 t65 t73 t74 t75 M nm I ni : Nat) : Res :=
 lt 5 t75 t74 fun v194 =>
 cnd v194 (ia 2 t73 t75 fun v195 =>
 loadNK 2 (.k v195) zf M I ni fun v196 I ni =>
 newK 2 23384026197294446691655098136326997907641993265157 M nm I ni fun v197 M nm I ni =>
 storeK 2 (.k v197) (.k v196) zf M nm I ni fun _ M nm I ni =>
 nilcK (.k t13) zf I ni fun v200 I ni =>
 fa 1 v200 fun v201 =>
 ld v201 M fun v202 =>
 iadrAK 2 1 (.k v197) (.k 295147905179352825861) zf I ni fun v203 I ni =>
 ld v203 M fun v204 =>
 iadrAK 2 1 (.k v197) (.k 295147905179352825893) zf I ni fun v205 I ni =>
 ld v205 M fun v206 =>
 buildK 3 1852673427797059126808521268839323955668793148457942454848160119256572240068613 [(0, 1, (.k v204)), (1, 1, (.k v206))] zf I ni fun v207 I ni =>
 bldSK 1 3 1852673427797059126808521268839323955668793148457942454848160119256572240068613 [(0, 3, (.k v207))] zf M nm I ni fun v208 M nm I ni =>
 appW 3 v202 v208 M nm I ni fun v209 M nm I ni =>
 nilcK (.k t13) zf I ni fun v210 I ni =>
 fa 1 v210 fun v211 =>
 storeK 1 (.k v211) (.k v209) zf M nm I ni fun _ M nm I ni =>
 nilcK (.k t13) zf I ni fun v214 I ni =>
 fa 2 v214 fun v215 =>
 ld v215 M fun v216 =>
 iadrAK 2 1 (.k v197) (.k 295147905179352825861) zf I ni fun v217 I ni =>
 ld v217 M fun v218 =>
 iadrAK 2 1 (.k v197) (.k 295147905179352825893) zf I ni fun v219 I ni =>
 ld v219 M fun v220 =>
 bldSK 2 1 295147905179352825861 [(0, 1, (.k v218)), (1, 1, (.k v220))] zf M nm I ni fun v221 M nm I ni =>
 appW 1 v216 v221 M nm I ni fun v222 M nm I ni =>
 nilcK (.k t13) zf I ni fun v223 I ni =>
 fa 2 v223 fun v224 =>
 storeK 1 (.k v224) (.k v222) zf M nm I ni fun _ M nm I ni =>
 adt n193 t75 295147905179352825893 fun v225 =>
 j192 t2 t6 t13 t63 t64 t65 t73 t74 v225 M nm I ni)
 (j191 t2 t6 t13 t63 t64 t65 M nm I ni)
def S147_17 (j191 : Nat → Nat → Nat → Nat → Nat → Nat → Nat → Nat → Nat → Nat → Res) (t2 t6 t13 t63 t64 t65 t73 t74 t75 M nm I ni : Nat) : Res :=
 lp (S147_16 j191) (fun _ _ _ _ _ _ _ _ _ _ _ _ _ => .bad 73 0) t2 t6 t13 t63 t64 t65 t73 t74 t75 M nm I ni
def S147_18 (call : CallT) (j166 : Nat → Nat → Nat → Nat → Nat → Nat → Nat → Nat → Nat → Res) (t2 t6 t12 t13 t63 t64 t65 M nm I ni : Nat) : Res :=
 jn (S147_15 call j166) fun j191 =>
 jn (S147_17 j191) fun j227 =>
 ln t12 fun v229 =>
 j227 t2 t6 t13 t63 t64 t65 t12 v229 295147905179352825861 M nm I ni
def S147_19 (call : CallT) (j166 : Nat → Nat → Nat → Nat → Nat → Nat → Nat → Nat → Nat → Res) (t2 t6 t11 t12 t63 t64 t65 M nm I ni : Nat) : Res :=
 jn (S147_18 call j166) fun j231 =>
 buildK 5 433422068160339271335069441107050307456384785038829118077115304806897210633642335301058188389923904481518587740160005 [(0, 1, (.k t11))] zf I ni fun v233 I ni =>
 boxK 5 (.k v233) zf M nm I ni fun v234 M nm I ni =>
 j231 t2 t6 t12 v234 t63 t64 t65 M nm I ni
def S147_20 (call : CallT) (n163 : Nat) (j162 : Nat → Nat → Nat → Nat → Nat → Nat → Nat → Nat → Nat → Res) (t2 t6 t63 t64 t65 M nm I ni : Nat) : Res :=
 jn (fun (t2 t6 t63 t64 t65 M nm I ni : Nat) =>
 adt n163 t65 295147905179352825893 fun v164 =>
 j162 t2 t6 t63 t64 v164 M nm I ni) fun j166 =>
 jn (S147_19 call j166) fun j236 =>
 ia 1 t63 t65 fun v238 =>
 ld v238 M fun v239 =>
 j236 t2 t6 t65 v239 t63 t64 t65 M nm I ni
def S147_21 (call : CallT) (j161 : Nat → Nat → Nat → Nat → Nat → Nat → Res) (n163 : Nat) (j162 : Nat → Nat → Nat → Nat → Nat → Nat → Nat → Nat → Nat → Res) (t2 t6 t63 t64 t65 t66 M nm I ni : Nat) : Res :=
 jn (S147_20 call n163 j162) fun j242 =>
 cnd t66 (j242 t2 t6 t63 t64 t65 M nm I ni)
 (j161 t2 t6 M nm I ni)
def S147_22 (call : CallT) (j161 : Nat → Nat → Nat → Nat → Nat → Nat → Res) (n163 : Nat) (j162 : Nat → Nat → Nat → Nat → Nat → Nat → Nat → Nat → Nat → Res) (t2 t6 t63 t64 t65 M nm I ni : Nat) : Res :=
 jn (S147_21 call j161 n163 j162) fun j243 =>
 lt 5 t65 t64 fun v244 =>
 j243 t2 t6 t63 t64 t65 v244 M nm I ni
def S147_23 (call : CallT) (j161 : Nat → Nat → Nat → Nat → Nat → Nat → Res) (t2 t6 t63 t64 t65 M nm I ni : Nat) : Res :=
 lp (S147_22 call j161) (fun _ _ _ _ _ _ _ _ _ => .bad 73 0) t2 t6 t63 t64 t65 M nm I ni
def S147_24 (call : CallT) (kf : KF) (t2 t6 M nm I ni : Nat) : Res :=
 jn (S147_14 call kf) fun j161 =>
 jn (S147_23 call j161) fun j245 =>
 fa 0 t2 fun v246 =>
 ld v246 M fun v247 =>
 ln v247 fun v248 =>
 j245 t2 t6 v247 v248 295147905179352825861 M nm I ni
def S147_25 (call : CallT) (j250 : Nat → Nat → Nat → Nat → Nat → Nat → Res) (n252 : Nat) (j251 : Nat → Nat → Nat → Nat → Nat → Nat → Nat → Nat → Nat → Nat → Res) (t2 t5 t6 t39 t40 t41 M nm I ni : Nat) : Res :=
 lt 5 t41 t40 fun v253 =>
 cnd v253 (ia 1 t39 t41 fun v254 =>
 ld v254 M fun v255 =>
 call 56 [t5, v255] M nm I ni fun v259 M nm I ni =>
 f1 19 0 v259 I fun v261 =>
 f1 19 1 v259 I fun v262 =>
 nilcK (.k t6) zf I ni fun v267 I ni =>
 fa 6 v267 fun v268 =>
 ld v268 M fun v269 =>
 bldSK 1 1 295147905179352825861 [(0, 1, (.k v261))] zf M nm I ni fun v271 M nm I ni =>
 appW 1 v269 v271 M nm I ni fun v272 M nm I ni =>
 nilcK (.k t6) zf I ni fun v273 I ni =>
 fa 6 v273 fun v274 =>
 storeK 1 (.k v274) (.k v272) zf M nm I ni fun _ M nm I ni =>
 adt n252 t41 295147905179352825893 fun v275 =>
 j251 t2 t5 t6 t39 t40 v275 M nm I ni)
 (j250 t2 t6 M nm I ni)
def S147_26 (call : CallT) (j250 : Nat → Nat → Nat → Nat → Nat → Nat → Res) (t2 t5 t6 t39 t40 t41 M nm I ni : Nat) : Res :=
 lp (S147_25 call j250) (fun _ _ _ _ _ _ _ _ _ _ => .bad 73 0) t2 t5 t6 t39 t40 t41 M nm I ni
def S147_27 (call : CallT) (kf : KF) (t1 t2 t5 t6 M nm I ni : Nat) : Res :=
 jn (S147_24 call kf) fun j250 =>
 jn (S147_26 call j250) fun j277 =>
 ln t1 fun v279 =>
 j277 t2 t5 t6 t1 v279 295147905179352825861 M nm I ni
def S147_28 (call : CallT) (kf : KF) (t1 t2 t5 M nm I ni : Nat) : Res :=
 jn (S147_27 call kf) fun j281 =>
 ln t5 fun v283 =>
 mkMapK M nm I ni fun v284 M nm I ni =>
 ln t1 fun v286 =>
 mkSlK 1 1 (.k v286) (.k v286) zf M nm I ni fun v287 M nm I ni =>
 buildK 11 107198454125399989883887206267980106132592993727791404720082614073121178956162924015299865750296305105155242079642919866338389429624140633399739290166435169189123271254708874727282303552107766527933389550216969778187387700208926536446166509594013637626145858272307859853711251685761532035083 [(7, 1, (.k v283)), (8, 1, (.k v284)), (9, 1, (.k v287))] zf I ni fun v288 I ni =>
 boxK 11 (.k v288) zf M nm I ni fun v289 M nm I ni =>
 j281 t1 t2 t5 v289 M nm I ni
def S147_29 (call : CallT) (kf : KF) (t1 t2 t5 M nm I ni : Nat) : Res :=
 jn (S147_28 call kf) fun j291 =>
 call 168 [t5] M nm I ni fun v293 M nm I ni =>
 j291 t1 t2 v293 M nm I ni
def S147_30 (call : CallT) (kf : KF) (t1 t2 t5 M nm I ni : Nat) : Res :=
 jn (S147_29 call kf) fun j295 =>
 call 55 [t5] M nm I ni fun v297 M nm I ni =>
 j295 t1 t2 t5 M nm I ni
def S147_31 (call : CallT) (kf : KF) (t1 t2 M nm I ni : Nat) : Res :=
 jn (S147_30 call kf) fun j298 =>
 call 77 [t1] M nm I ni fun v300 M nm I ni =>
 j298 t1 t2 v300 M nm I ni
def F147 (call : CallT) (t0 t1 M nm I ni : Nat) (kf : KF) : Res :=
 jn (S147_31 call kf) fun j302 =>
 boxK 3 (.k t0) zf M nm I ni fun v303 M nm I ni =>
 j302 t1 v303 M nm I ni
def g147 (call : CallT) : List Nat → Nat → Nat → Nat → Nat → KF → Res := unS fun t0 => unS fun t1 => un0 (F147 call t0 t1)
/- cmp.Less[int] -/
def F91 (call : CallT) (t0 t1 M nm I ni : Nat) (kf : KF) : Res :=
 call 118 [t0] M nm I ni fun v3 M nm I ni =>
 jn (fun (v9 M nm I ni : Nat) =>
 pk v3 v9 1 fun v10 =>
 jn (fun (v16 : Nat) =>
 pk v10 33 v16 fun v17 =>
 kf v17 M nm I ni)
 (fun j12 => gd v10 1 (lt 5 t0 t1 fun v15 =>
 j12 v15) (j12 0)))
 (fun j5 => gd v3 33 (call 118 [t1] M nm I ni fun v7 M nm I ni =>
 notK (.k v7) zf I ni fun v8 I ni =>
 j5 v8 M nm I ni) (j5 0 M nm I ni))
def g91 (call : CallT) : List Nat → Nat → Nat → Nat → Nat → KF → Res := unS fun t0 => unS fun t1 => un0 (F91 call t0 t1)
/- fretwork/graph.Beside -/
def S88_1 (j3 : Nat → Nat → Nat → Nat → Nat → Res) (n5 : Nat) (j4 : Nat → Nat → Nat → Nat → Nat → Nat → Nat → Nat → Res) (t3 t13 t14 t15 M nm I ni : Nat) : Res :=
 lt 5 t15 t14 fun v6 =>
 cnd v6 (ia 2 t13 t15 fun v7 =>
 loadNK 2 (.k v7) zf M I ni fun v8 I ni =>
 newK 2 23384026197294446691655098136326997907641993265157 M nm I ni fun v9 M nm I ni =>
 storeK 2 (.k v9) (.k v8) zf M nm I ni fun _ M nm I ni =>
 iadrAK 2 1 (.k v9) (.k 295147905179352825861) zf I ni fun v11 I ni =>
 ld v11 M fun v12 =>
 iadrAK 2 1 (.k v9) (.k 295147905179352825861) zf I ni fun v14 I ni =>
 ld v14 M fun v15 =>
 ia 1 t3 v15 fun v16 =>
 ld v16 M fun v17 =>
 iadrAK 2 1 (.k v9) (.k 295147905179352825893) zf I ni fun v18 I ni =>
 ld v18 M fun v19 =>
 bldSK 1 1 295147905179352825861 [(0, 1, (.k v19))] zf M nm I ni fun v20 M nm I ni =>
 appW 1 v17 v20 M nm I ni fun v22 M21 nm I ni =>
 flL v11 1 M M21 <| 
 ia 1 t3 v12 fun v23 =>
 storeK 1 (.k v23) (.k v22) zf M21 nm I ni fun _ M nm I ni =>
 iadrAK 2 1 (.k v9) (.k 295147905179352825893) zf I ni fun v25 I ni =>
 ld v25 M fun v26 =>
 iadrAK 2 1 (.k v9) (.k 295147905179352825893) zf I ni fun v28 I ni =>
 ld v28 M fun v29 =>
 ia 1 t3 v29 fun v30 =>
 ld v30 M fun v31 =>
 iadrAK 2 1 (.k v9) (.k 295147905179352825861) zf I ni fun v32 I ni =>
 ld v32 M fun v33 =>
 bldSK 1 1 295147905179352825861 [(0, 1, (.k v33))] zf M nm I ni fun v34 M nm I ni =>
 appW 1 v31 v34 M nm I ni fun v36 M35 nm I ni =>
 flL v25 1 M M35 <| 
 ia 1 t3 v26 fun v37 =>
 storeK 1 (.k v37) (.k v36) zf M35 nm I ni fun _ M nm I ni =>
 adt n5 t15 295147905179352825893 fun v38 =>
 j4 t3 t13 t14 v38 M nm I ni)
 (j3 t3 M nm I ni)
def S88_2 (j3 : Nat → Nat → Nat → Nat → Nat → Res) (t3 t13 t14 t15 M nm I ni : Nat) : Res :=
 lp (S88_1 j3) (fun _ _ _ _ _ _ _ _ => .bad 73 0) t3 t13 t14 t15 M nm I ni
def S88_3 (kf : KF) (t1 t3 M nm I ni : Nat) : Res :=
 jn (fun (t3 M nm I ni : Nat) =>
 kf t3 M nm I ni) fun j3 =>
 jn (S88_2 j3) fun j40 =>
 fa 1 t1 fun v41 =>
 ld v41 M fun v42 =>
 ln v42 fun v43 =>
 j40 t3 v42 v43 295147905179352825861 M nm I ni
def S88_4 (kf : KF) (t1 M nm I ni : Nat) : Res :=
 jn (S88_3 kf) fun j45 =>
 fa 0 t1 fun v46 =>
 ld v46 M fun v47 =>
 mkSlK 1 11 (.k v47) (.k v47) zf M nm I ni fun v48 M nm I ni =>
 j45 t1 v48 M nm I ni
def S88_5 (call : CallT) (kf : KF) (t1 M nm I ni : Nat) : Res :=
 jn (S88_4 kf) fun j50 =>
 loadNK 2 (.k t1) zf M I ni fun v51 I ni =>
 call 22 [v51] M nm I ni fun v52 M nm I ni =>
 notK (.k v52) zf I ni fun v53 I ni =>
 cnd v53 (kf 11 M nm I ni)
 (j50 t1 M nm I ni)
def F88 (call : CallT) (t0 M nm I ni : Nat) (kf : KF) : Res :=
 jn (S88_5 call kf) fun j55 =>
 boxK 2 (.k t0) zf M nm I ni fun v56 M nm I ni =>
 j55 v56 M nm I ni
def g88 (call : CallT) : List Nat → Nat → Nat → Nat → Nat → KF → Res := unS fun t0 => un0 (F88 call t0)
/- slices.Compact[[]int,int] -/
def S168_1 (j17 : Nat → Nat → Nat → Nat → Nat → Nat → Res) (n19 : Nat) (j18 : Nat → Nat → Nat → Nat → Nat → Nat → Nat → Nat → Res) (t0 t3 t4 t5 M nm I ni : Nat) : Res :=
 ln t4 fun v22 =>
 lt 5 t5 v22 fun v23 =>
 cnd v23 (ia 1 t4 t5 fun v26 =>
 ld v26 M fun v27 =>
 sbt n19 t5 295147905179352825893 fun v30 =>
 ia 1 t4 v30 fun v31 =>
 ld v31 M fun v32 =>
 ne 5 v27 v32 fun v33 =>
 cnd v33 (ia 1 t4 t5 fun v38 =>
 ld v38 M fun v39 =>
 ia 1 t0 t3 fun v40 =>
 storeK 1 (.k v40) (.k v39) zf M nm I ni fun _ M nm I ni =>
 adt n19 t3 295147905179352825893 fun v42 =>
 adt n19 t5 295147905179352825893 fun v45 =>
 j18 t0 v42 t4 v45 M nm I ni)
 (adt n19 t5 295147905179352825893 fun v48 =>
 j18 t0 t3 t4 v48 M nm I ni))
 (j17 t0 t3 M nm I ni)
def S168_2 (j17 : Nat → Nat → Nat → Nat → Nat → Nat → Res) (t0 t3 t4 t5 M nm I ni : Nat) : Res :=
 lp (S168_1 j17) (fun _ _ _ _ _ _ _ _ => .bad 73 0) t0 t3 t4 t5 M nm I ni
def S168_3 (kf : KF) (t0 t3 t4 M nm I ni : Nat) : Res :=
 jn (fun (t0 t3 M nm I ni : Nat) =>
 slcK 1 (.k t0) (some (.k t3)) none none zf I ni fun v12 I ni =>
 clearW 1 295147905179352825861 v12 M nm I ni fun _ M nm I ni =>
 slcK 1 (.k t0) none (some (.k t3)) none zf I ni fun v15 I ni =>
 kf v15 M nm I ni) fun j17 =>
 jn (S168_2 j17) fun j50 =>
 j50 t0 t3 t4 295147905179352825893 M nm I ni
def S168_4 (kf : KF) (j9 : Nat → Nat → Nat → Nat → Nat → Nat → Res) (t0 t3 t25 M nm I ni : Nat) : Res :=
 cnd t25 (jn (S168_3 kf) fun j52 =>
 slcK 1 (.k t0) (some (.k t3)) none none zf I ni fun v55 I ni =>
 j52 t0 t3 v55 M nm I ni)
 (j9 t0 t3 M nm I ni)
def S168_5 (kf : KF) (n5 : Nat) (j4 : Nat → Nat → Nat → Nat → Nat → Nat → Res) (t0 t3 M nm I ni : Nat) : Res :=
 jn (fun (t0 t3 M nm I ni : Nat) =>
 adt n5 t3 295147905179352825893 fun v7 =>
 j4 t0 v7 M nm I ni) fun j9 =>
 jn (S168_4 kf j9) fun j57 =>
 ia 1 t0 t3 fun v60 =>
 ld v60 M fun v61 =>
 sbt n5 t3 295147905179352825893 fun v64 =>
 ia 1 t0 v64 fun v65 =>
 ld v65 M fun v66 =>
 eq 5 v61 v66 fun v67 =>
 j57 t0 t3 v67 M nm I ni
def S168_6 (kf : KF) (j3 : Nat → Nat → Nat → Nat → Nat → Res) (n5 : Nat) (j4 : Nat → Nat → Nat → Nat → Nat → Nat → Res) (t0 t3 M nm I ni : Nat) : Res :=
 jn (S168_5 kf n5 j4) fun j68 =>
 ln t0 fun v71 =>
 lt 5 t3 v71 fun v72 =>
 cnd v72 (j68 t0 t3 M nm I ni)
 (j3 t0 M nm I ni)
def S168_7 (kf : KF) (j3 : Nat → Nat → Nat → Nat → Nat → Res) (t0 t3 M nm I ni : Nat) : Res :=
 lp (S168_6 kf j3) (fun _ _ _ _ _ _ => .bad 73 0) t0 t3 M nm I ni
def S168_8 (kf : KF) (t0 M nm I ni : Nat) : Res :=
 jn (fun (t0 M nm I ni : Nat) =>
 kf t0 M nm I ni) fun j3 =>
 jn (S168_7 kf j3) fun j73 =>
 j73 t0 295147905179352825893 M nm I ni
def S168_9 (kf : KF) (t0 M nm I ni : Nat) : Res :=
 jn (S168_8 kf) fun j75 =>
 ln t0 fun v77 =>
 lt 5 v77 295147905179352825925 fun v78 =>
 cnd v78 (kf t0 M nm I ni)
 (j75 t0 M nm I ni)
def F168 (call : CallT) (t0 M nm I ni : Nat) (kf : KF) : Res :=
 jn (S168_9 kf) fun j81 =>
 j81 t0 M nm I ni
def g168 (call : CallT) : List Nat → Nat → Nat → Nat → Nat → KF → Res := unS fun t0 => un0 (F168 call t0)
/- fretwork/walk.Parts -/
def S30_1 (call : CallT) (j8 : Nat → Nat → Nat → Nat → Nat → Nat → Nat → Nat → Nat → Res) (t3 t5 t6 t8 t24 t25 M nm I ni : Nat) : Res :=
 jn (fun (t3 t5 t6 t8 t24 t25 M nm I ni : Nat) =>
 call 55 [t8] M nm I ni fun v10 M nm I ni =>
 bldSK 1 1 11 [(0, 1, (.k t8))] zf M nm I ni fun v13 M nm I ni =>
 appW 1 t5 v13 M nm I ni fun v14 M nm I ni =>
 j8 t3 v14 t6 t24 t25 M nm I ni) fun j16 =>
 jn (fun (t3 t5 t6 t8 t24 t25 t38 t39 t40 M nm I ni : Nat) =>
 lp (fun (n18 : Nat) (j17 : Nat → Nat → Nat → Nat → Nat → Nat → Nat → Nat → Nat → Nat → Nat → Nat → Nat → Res) (t3 t5 t6 t8 t24 t25 t38 t39 t40 M nm I ni : Nat) =>
 lt 5 t40 t39 fun v19 =>
 cnd v19 (ia 1 t38 t40 fun v20 =>
 ld v20 M fun v21 =>
 ia 1 t6 v21 fun v25 =>
 storeK 1 (.k v25) (.k 33) zf M nm I ni fun _ M nm I ni =>
 adt n18 t40 295147905179352825893 fun v26 =>
 j17 t3 t5 t6 t8 t24 t25 t38 t39 v26 M nm I ni)
 (j16 t3 t5 t6 t8 t24 t25 M nm I ni)) (fun _ _ _ _ _ _ _ _ _ _ _ _ _ => .bad 73 0) t3 t5 t6 t8 t24 t25 t38 t39 t40 M nm I ni) fun j28 =>
 ln t8 fun v30 =>
 j28 t3 t5 t6 t8 t24 t25 t8 v30 295147905179352825861 M nm I ni
def S30_2 (call : CallT) (j8 : Nat → Nat → Nat → Nat → Nat → Nat → Nat → Nat → Nat → Res) (t3 t5 t6 t7 t24 t25 M nm I ni : Nat) : Res :=
 jn (S30_1 call j8) fun j32 =>
 call 54 [t3, t7] M nm I ni fun v35 M nm I ni =>
 f1 19 0 v35 I fun v37 =>
 f1 19 1 v35 I fun v38 =>
 j32 t3 t5 t6 v37 t24 t25 M nm I ni
def S30_3 (call : CallT) (j8 : Nat → Nat → Nat → Nat → Nat → Nat → Nat → Nat → Nat → Res) (t3 t5 t6 t7 t24 t25 M nm I ni : Nat) : Res :=
 jn (S30_2 call j8) fun j41 =>
 ia 1 t6 t7 fun v44 =>
 ld v44 M fun v45 =>
 cnd v45 (j8 t3 t5 t6 t24 t25 M nm I ni)
 (j41 t3 t5 t6 t7 t24 t25 M nm I ni)
def S30_4 (call : CallT) (n5 : Nat) (j4 : Nat → Nat → Nat → Nat → Nat → Nat → Nat → Nat → Nat → Res) (t3 t5 t6 t24 t25 M nm I ni : Nat) : Res :=
 jn (fun (t3 t5 t6 t24 t25 M nm I ni : Nat) =>
 adt n5 t25 295147905179352825893 fun v6 =>
 j4 t3 t5 t6 t24 v6 M nm I ni) fun j8 =>
 jn (S30_3 call j8) fun j46 =>
 j46 t3 t5 t6 t25 t24 t25 M nm I ni
def S30_5 (call : CallT) (j3 : Nat → Nat → Nat → Nat → Nat → Res) (n5 : Nat) (j4 : Nat → Nat → Nat → Nat → Nat → Nat → Nat → Nat → Nat → Res) (t3 t5 t6 t24 t25 t26 M nm I ni : Nat) : Res :=
 jn (S30_4 call n5 j4) fun j49 =>
 cnd t26 (j49 t3 t5 t6 t24 t25 M nm I ni)
 (j3 t5 M nm I ni)
def S30_6 (call : CallT) (j3 : Nat → Nat → Nat → Nat → Nat → Res) (n5 : Nat) (j4 : Nat → Nat → Nat → Nat → Nat → Nat → Nat → Nat → Nat → Res) (t3 t5 t6 t24 t25 M nm I ni : Nat) : Res :=
 jn (S30_5 call j3 n5 j4) fun j50 =>
 lt 5 t25 t24 fun v51 =>
 j50 t3 t5 t6 t24 t25 v51 M nm I ni
def S30_7 (call : CallT) (j3 : Nat → Nat → Nat → Nat → Nat → Res) (t3 t5 t6 t24 t25 M nm I ni : Nat) : Res :=
 lp (S30_6 call j3) (fun _ _ _ _ _ _ _ _ _ => .bad 73 0) t3 t5 t6 t24 t25 M nm I ni
def S30_8 (call : CallT) (kf : KF) (t1 t3 t5 t6 M nm I ni : Nat) : Res :=
 jn (fun (t5 M nm I ni : Nat) =>
 kf t5 M nm I ni) fun j3 =>
 jn (S30_7 call j3) fun j52 =>
 fa 0 t1 fun v53 =>
 ld v53 M fun v54 =>
 j52 t3 t5 t6 v54 295147905179352825861 M nm I ni
def S30_9 (call : CallT) (kf : KF) (t1 t3 t5 M nm I ni : Nat) : Res :=
 jn (S30_8 call kf) fun j56 =>
 fa 0 t1 fun v57 =>
 ld v57 M fun v58 =>
 mkSlK 1 1 (.k v58) (.k v58) zf M nm I ni fun v59 M nm I ni =>
 j56 t1 t3 t5 v59 M nm I ni
def S30_10 (call : CallT) (kf : KF) (t1 t3 M nm I ni : Nat) : Res :=
 jn (S30_9 call kf) fun j61 =>
 bldSK 0 1 11 [] zf M nm I ni fun v62 M nm I ni =>
 j61 t1 t3 v62 M nm I ni
def S30_11 (call : CallT) (kf : KF) (t1 t3 t4 M nm I ni : Nat) : Res :=
 jn (S30_10 call kf) fun j64 =>
 ne 5 t4 295147905179352825861 fun v66 =>
 cnd v66 (kf 11 M nm I ni)
 (j64 t1 t3 M nm I ni)
def S30_12 (call : CallT) (kf : KF) (t1 M nm I ni : Nat) : Res :=
 jn (S30_11 call kf) fun j68 =>
 loadNK 2 (.k t1) zf M I ni fun v69 I ni =>
 call 53 [v69, 11] M nm I ni fun v70 M nm I ni =>
 f1 19 0 v70 I fun v72 =>
 f1 19 1 v70 I fun v73 =>
 j68 t1 v72 v73 M nm I ni
def F30 (call : CallT) (t0 M nm I ni : Nat) (kf : KF) : Res :=
 jn (S30_12 call kf) fun j76 =>
 boxK 2 (.k t0) zf M nm I ni fun v77 M nm I ni =>
 j76 v77 M nm I ni
def g30 (call : CallT) : List Nat → Nat → Nat → Nat → Nat → KF → Res := unS fun t0 => un0 (F30 call t0)
/- fretwork/strand.Right -/
def F105 (call : CallT) (t0 M nm I ni : Nat) (kf : KF) : Res :=
 boxK 2 (.k t0) zf M nm I ni fun v1 M nm I ni =>
 fa 1 v1 fun v3 =>
 ld v3 M fun v4 =>
 lt 5 v4 295147905179352825861 fun v5 =>
 jn (fun (v11 : Nat) =>
 pk v5 33 v11 fun v12 =>
 jn (fun (v20 v21 v22 : Nat) =>
 jn (fun (v26 M25 nm I ni : Nat) =>
 flG v12 1 (flL v20 1 M M25) <| 
 jn (fun (v29 : Nat) =>
 pk v12 33 v29 fun v30 =>
 cnd v30 (kf 1 M25 nm I ni)
 (fa 1 v1 fun v32 =>
 ld v32 M25 fun v33 =>
 iopK .rem .i64 (.k v33) (.k 295147905179352826117) zf I ni fun v34 I ni =>
 ne 5 v34 295147905179352825861 fun v37 =>
 cnd v37 (fa 0 v1 fun v38 =>
 ld v38 M25 fun v39 =>
 fa 0 v1 fun v40 =>
 ld v40 M25 fun v41 =>
 ln v41 fun v42 =>
 sb v42 295147905179352825893 fun v43 =>
 ia 1 v39 v43 fun v44 =>
 ld v44 M25 fun v45 =>
 shfK .shl .u8 .i64 (.k v45) (.k v34) zf I ni fun v47 I ni =>
 eq 6 v47 6 fun v48 =>
 kf v48 M25 nm I ni)
 (kf 33 M25 nm I ni)))
 (fun j27 => gd v12 1 (ne 5 v21 v26 fun v28 =>
 j27 v28) (j27 0)))
 (fun j23 => gd v12 1 (call 120 [v22] M nm I ni fun v24 M nm I ni => j23 v24 M nm I ni) (j23 0 M nm I ni)))
 (fun j14 => gd v12 1 (fa 0 v1 fun v15 =>
 ld v15 M fun v16 =>
 ln v16 fun v17 =>
 fa 1 v1 fun v18 =>
 ld v18 M fun v19 =>
 j14 v15 v17 v19) (j14 0 0 0)))
 (fun j7 => gd v5 1 (fa 1 v1 fun v8 =>
 ld v8 M fun v9 =>
 lt 5 295147905179487043589 v9 fun v10 =>
 j7 v10) (j7 0))
def g105 (call : CallT) : List Nat → Nat → Nat → Nat → Nat → KF → Res := unS fun t0 => un0 (F105 call t0)
/- slices.Repeat[[]int,int] -/
def S89_1 (j3 : Nat → Nat → Nat → Nat → Nat → Res) (n5 : Nat) (j4 : Nat → Nat → Nat → Nat → Nat → Nat → Res) (t7 t8 M nm I ni : Nat) : Res :=
 ln t7 fun v8 =>
 lt 5 t8 v8 fun v9 =>
 cnd v9 (slcK 1 (.k t7) (some (.k t8)) none none zf I ni fun v13 I ni =>
 slcK 1 (.k t7) none (some (.k t8)) none zf I ni fun v16 I ni =>
 copyW 1 v13 v16 M nm I ni fun v17 M nm I ni =>
 adt n5 t8 v17 fun v18 =>
 j4 t7 v18 M nm I ni)
 (j3 t7 M nm I ni)
def S89_2 (kf : KF) (t7 t8 M nm I ni : Nat) : Res :=
 jn (fun (t7 M nm I ni : Nat) =>
 kf t7 M nm I ni) fun j3 =>
 lp (S89_1 j3) (fun _ _ _ _ _ _ => .bad 73 0) t7 t8 M nm I ni
def S89_3 (kf : KF) (t0 t7 M nm I ni : Nat) : Res :=
 jn (S89_2 kf) fun j20 =>
 copyW 1 t7 t0 M nm I ni fun v23 M nm I ni =>
 j20 t7 v23 M nm I ni
def S89_4 (kf : KF) (t0 t6 M nm I ni : Nat) : Res :=
 jn (S89_3 kf) fun j25 =>
 convK .u64 .i64 (.k t6) zf I ni fun v27 I ni =>
 mkSlK 1 295147905179352825861 (.k v27) (.k v27) zf M nm I ni fun v28 M nm I ni =>
 j25 t0 v28 M nm I ni
def S89_5 (kf : KF) (t0 t5 t6 M nm I ni : Nat) : Res :=
 jn (S89_4 kf) fun j30 =>
 lt 9 9 t5 fun v32 =>
 jn (fun (v37 : Nat) =>
 pk v32 33 v37 fun v38 =>
 cnd v38 (mkiK 9 (.str 40 971271628442461262305342622147048840531060285544137864858842745136541560975091858458257159845747) zf I ni fun v39 I ni =>
 Res.bad 51 99)
 (j30 t0 t6 M nm I ni))
 (fun j34 => gd v32 1 (lt 9 295147905179352825833 t6 fun v36 =>
 j34 v36) (j34 0))
def S89_6 (call : CallT) (kf : KF) (t0 t1 M nm I ni : Nat) : Res :=
 jn (S89_5 kf) fun j40 =>
 ln t0 fun v42 =>
 convK .i64 .u64 (.k v42) zf I ni fun v43 I ni =>
 convK .i64 .u64 (.k t1) zf I ni fun v45 I ni =>
 call 128 [v43, v45] M nm I ni fun v46 M nm I ni =>
 f1 19 0 v46 I fun v48 =>
 f1 19 1 v46 I fun v49 =>
 j40 t0 v48 v49 M nm I ni
def S89_7 (call : CallT) (kf : KF) (t0 t1 M nm I ni : Nat) : Res :=
 jn (S89_6 call kf) fun j52 =>
 lt 5 t1 295147905179352825861 fun v54 =>
 cnd v54 (mkiK 9 (.str 18 8657270485328334183878363895755874379593317) zf I ni fun v55 I ni =>
 Res.bad 51 99)
 (j52 t0 t1 M nm I ni)
def F89 (call : CallT) (t0 t1 M nm I ni : Nat) (kf : KF) : Res :=
 jn (S89_7 call kf) fun j56 =>
 j56 t0 t1 M nm I ni
def g89 (call : CallT) : List Nat → Nat → Nat → Nat → Nat → KF → Res := unS fun t0 => unS fun t1 => un0 (F89 call t0 t1)
/- fretwork/blocks.linked -/
def S185_1 (j14 : Nat → Nat → Nat → Nat → Nat → Nat → Nat → Nat → Nat → Nat → Res) (n16 : Nat) (j15 : Nat → Nat → Nat → Nat → Nat → Nat → Nat → Nat → Nat → Nat → Nat → Nat → Nat → Nat → Res) (t2 t4 t5 t10 t12 t13 t14 t140 t141 t142 M nm I ni : Nat) : Res :=
 lt 5 t142 t141 fun v17 =>
 cnd v17 (ia 1 t140 t142 fun v18 =>
 ld v18 M fun v19 =>
 fa 0 t14 fun v21 =>
 ld v21 M fun v22 =>
 sbt n16 295147905179352825893 v22 fun v23 =>
 iadrAK 2 1 (.k t10) (.k v23) zf I ni fun v24 I ni =>
 ld v24 M fun v25 =>
 ia 1 v25 v19 fun v27 =>
 ld v27 M fun v28 =>
 notK (.k v28) zf I ni fun v29 I ni =>
 cnd v29 (fa 0 t14 fun v30 =>
 ld v30 M fun v31 =>
 sbt n16 295147905179352825893 v31 fun v32 =>
 iadrAK 2 1 (.k t10) (.k v32) zf I ni fun v33 I ni =>
 ld v33 M fun v34 =>
 ia 1 v34 v19 fun v36 =>
 storeK 1 (.k v36) (.k 33) zf M nm I ni fun _ M nm I ni =>
 fa 0 t14 fun v38 =>
 ld v38 M fun v39 =>
 sbt n16 295147905179352825893 v39 fun v40 =>
 buildK 2 23384026197294446691655098136326997907641993265157 [(0, 1, (.k v40)), (1, 1, (.k v19))] zf I ni fun v42 I ni =>
 bldSK 1 2 23384026197294446691655098136326997907641993265157 [(0, 2, (.k v42))] zf M nm I ni fun v43 M nm I ni =>
 appW 2 t12 v43 M nm I ni fun v44 M nm I ni =>
 adt n16 t142 295147905179352825893 fun v46 =>
 j15 t2 t4 t5 t10 v44 t13 t14 t140 t141 v46 M nm I ni)
 (adt n16 t142 295147905179352825893 fun v48 =>
 j15 t2 t4 t5 t10 t12 t13 t14 t140 t141 v48 M nm I ni))
 (j14 t2 t4 t5 t10 t12 t13 M nm I ni)
def S185_2 (j14 : Nat → Nat → Nat → Nat → Nat → Nat → Nat → Nat → Nat → Nat → Res) (t2 t4 t5 t10 t12 t13 t14 t140 t141 t142 M nm I ni : Nat) : Res :=
 lp (S185_1 j14) (fun _ _ _ _ _ _ _ _ _ _ _ _ _ _ => .bad 73 0) t2 t4 t5 t10 t12 t13 t14 t140 t141 t142 M nm I ni
def S185_3 (j14 : Nat → Nat → Nat → Nat → Nat → Nat → Nat → Nat → Nat → Nat → Res) (t2 t4 t5 t10 t12 t13 t14 M nm I ni : Nat) : Res :=
 jn (S185_2 j14) fun j50 =>
 fa 0 t14 fun v51 =>
 ld v51 M fun v52 =>
 iadrAK 2 1 (.k t5) (.k v52) zf I ni fun v53 I ni =>
 ld v53 M fun v54 =>
 fa 1 t14 fun v55 =>
 ld v55 M fun v56 =>
 ia 1 v54 v56 fun v57 =>
 ld v57 M fun v58 =>
 ln v58 fun v59 =>
 j50 t2 t4 t5 t10 t12 t13 t14 v58 v59 295147905179352825861 M nm I ni
def S185_4 (n10 : Nat) (j9 : Nat → Nat → Nat → Nat → Nat → Nat → Nat → Nat → Nat → Nat → Res) (t2 t4 t5 t10 t12 t13 M nm I ni : Nat) : Res :=
 jn (fun (t2 t4 t5 t10 t12 t13 M nm I ni : Nat) =>
 adt n10 t13 295147905179352825893 fun v12 =>
 j9 t2 t4 t5 t10 t12 v12 M nm I ni) fun j14 =>
 jn (S185_3 j14) fun j61 =>
 ia 2 t12 t13 fun v64 =>
 loadNK 2 (.k v64) zf M I ni fun v65 I ni =>
 newK 2 23384026197294446691655098136326997907641993265157 M nm I ni fun v66 M nm I ni =>
 storeK 2 (.k v66) (.k v65) zf M nm I ni fun _ M nm I ni =>
 j61 t2 t4 t5 t10 t12 t13 v66 M nm I ni
def S185_5 (j8 : Nat → Nat → Nat → Nat → Nat → Nat → Nat → Nat → Res) (n10 : Nat) (j9 : Nat → Nat → Nat → Nat → Nat → Nat → Nat → Nat → Nat → Nat → Res) (t2 t4 t5 t10 t12 t13 M nm I ni : Nat) : Res :=
 jn (S185_4 n10 j9) fun j67 =>
 ln t12 fun v70 =>
 lt 5 t13 v70 fun v71 =>
 cnd v71 (j67 t2 t4 t5 t10 t12 t13 M nm I ni)
 (j8 t2 t4 t5 t12 M nm I ni)
def S185_6 (j8 : Nat → Nat → Nat → Nat → Nat → Nat → Nat → Nat → Res) (t2 t4 t5 t10 t12 t13 M nm I ni : Nat) : Res :=
 lp (S185_5 j8) (fun _ _ _ _ _ _ _ _ _ _ => .bad 73 0) t2 t4 t5 t10 t12 t13 M nm I ni
def S185_7 (kf : KF) (t2 t4 t5 t10 t12 M nm I ni : Nat) : Res :=
 jn (fun (t2 t4 t5 t12 M nm I ni : Nat) =>
 loadNK 2 (.k t5) zf M I ni fun v1 I ni =>
 ln t12 fun v3 =>
 eq 5 v3 t4 fun v5 =>
 storeK 2 (.k t2) (.k v1) zf M nm I ni fun _ M nm I ni =>
 loadNK 2 (.k t2) zf M I ni fun v7 I ni => rtn 2 [v7, v5] M nm I ni kf) fun j8 =>
 jn (S185_6 j8) fun j72 =>
 j72 t2 t4 t5 t10 t12 295147905179352825861 M nm I ni
def S185_8 (kf : KF) (t2 t4 t5 t10 t11 M nm I ni : Nat) : Res :=
 jn (S185_7 kf) fun j74 =>
 loadNK 2 (.k t11) zf M I ni fun v75 I ni =>
 bldSK 1 2 23384026197294446691655098136326997907641993265157 [(0, 2, (.k v75))] zf M nm I ni fun v76 M nm I ni =>
 j74 t2 t4 t5 t10 v76 M nm I ni
def S185_9 (kf : KF) (t2 t4 t5 t10 t11 M nm I ni : Nat) : Res :=
 jn (S185_8 kf) fun j78 =>
 fa 0 t11 fun v79 =>
 ld v79 M fun v80 =>
 iadrAK 2 1 (.k t10) (.k v80) zf I ni fun v81 I ni =>
 ld v81 M fun v82 =>
 ia 1 v82 295147905179352825861 fun v83 =>
 storeK 1 (.k v83) (.k 33) zf M nm I ni fun _ M nm I ni =>
 j78 t2 t4 t5 t10 t11 M nm I ni
def S185_10 (kf : KF) (t1 t2 t4 t5 t10 t11 M nm I ni : Nat) : Res :=
 jn (S185_9 kf) fun j84 =>
 fa 0 t1 fun v85 =>
 ld v85 M fun v86 =>
 ln v86 fun v87 =>
 eq 5 v87 295147905179352825861 fun v88 =>
 cnd v88 (buildK 2 23384026197294446691655098136326997907641993265157 [(0, 1, (.k 295147905179352825893)), (1, 1, (.k 295147905179352825861))] zf I ni fun v89 I ni =>
 storeK 2 (.k t11) (.k v89) zf M nm I ni fun _ M nm I ni =>
 j84 t2 t4 t5 t10 t11 M nm I ni)
 (j84 t2 t4 t5 t10 t11 M nm I ni)
def S185_11 (kf : KF) (t1 t2 t4 t5 t10 M nm I ni : Nat) : Res :=
 jn (S185_10 kf) fun j90 =>
 buildK 2 23384026197294446691655098136326997907641993265157 [(0, 1, (.k 295147905179352825861)), (1, 1, (.k 295147905179352825861))] zf I ni fun v91 I ni =>
 newK 2 23384026197294446691655098136326997907641993265157 M nm I ni fun v92 M nm I ni =>
 storeK 2 (.k v92) (.k v91) zf M nm I ni fun _ M nm I ni =>
 j90 t1 t2 t4 t5 t10 v92 M nm I ni
def S185_12 (kf : KF) (t1 t2 t4 t5 M nm I ni : Nat) : Res :=
 jn (S185_11 kf) fun j93 =>
 fa 0 t1 fun v94 =>
 ld v94 M fun v95 =>
 ln v95 fun v96 =>
 mkSlK 1 1 (.k v96) (.k v96) zf M nm I ni fun v97 M nm I ni =>
 fa 1 t1 fun v98 =>
 ld v98 M fun v99 =>
 ln v99 fun v100 =>
 mkSlK 1 1 (.k v100) (.k v100) zf M nm I ni fun v101 M nm I ni =>
 buildK 2 871509787656907713528983453707 [(0, 1, (.k v97)), (1, 1, (.k v101))] zf I ni fun v102 I ni =>
 newK 2 871509787656907713528983453707 M nm I ni fun v103 M nm I ni =>
 storeK 2 (.k v103) (.k v102) zf M nm I ni fun _ M nm I ni =>
 j93 t1 t2 t4 t5 v103 M nm I ni
def S185_13 (j109 : Nat → Nat → Nat → Nat → Nat → Nat → Nat → Nat → Nat → Nat → Nat → Res) (t1 t2 t4 t5 t8 t9 t45 t46 t47 M nm I ni : Nat) : Res :=
 iadrAK 2 1 (.k t5) (.k 295147905179352825861) zf I ni fun v110 I ni =>
 ld v110 M fun v111 =>
 iadrAK 2 1 (.k t5) (.k 295147905179352825861) zf I ni fun v113 I ni =>
 ld v113 M fun v114 =>
 ia 1 v114 t8 fun v116 =>
 ld v116 M fun v117 =>
 bldSK 1 1 295147905179352825861 [(0, 1, (.k t9))] zf M nm I ni fun v119 M nm I ni =>
 appW 1 v117 v119 M nm I ni fun v121 M120 nm I ni =>
 flL v110 1 M M120 <| 
 ia 1 v111 t8 fun v122 =>
 storeK 1 (.k v122) (.k v121) zf M120 nm I ni fun _ M nm I ni =>
 iadrAK 2 1 (.k t5) (.k 295147905179352825893) zf I ni fun v123 I ni =>
 ld v123 M fun v124 =>
 iadrAK 2 1 (.k t5) (.k 295147905179352825893) zf I ni fun v126 I ni =>
 ld v126 M fun v127 =>
 ia 1 v127 t9 fun v129 =>
 ld v129 M fun v130 =>
 bldSK 1 1 295147905179352825861 [(0, 1, (.k t8))] zf M nm I ni fun v132 M nm I ni =>
 appW 1 v130 v132 M nm I ni fun v134 M133 nm I ni =>
 flL v123 1 M M133 <| 
 ia 1 v124 t9 fun v135 =>
 storeK 1 (.k v135) (.k v134) zf M133 nm I ni fun _ M nm I ni =>
 j109 t1 t2 t4 t5 t45 t46 t47 M nm I ni
def S185_14 (kf : KF) (j109 : Nat → Nat → Nat → Nat → Nat → Nat → Nat → Nat → Nat → Nat → Nat → Res) (t1 t2 t4 t5 t8 t9 t45 t46 t47 M nm I ni : Nat) : Res :=
 jn (S185_13 j109) fun j136 =>
 lt 5 t8 295147905179352825861 fun v138 =>
 jn (fun (v146 : Nat) =>
 pk v138 33 v146 fun v147 =>
 jn (fun (v152 : Nat) =>
 pk v147 33 v152 fun v153 =>
 jn (fun (v161 : Nat) =>
 pk v153 33 v161 fun v162 =>
 cnd v162 (buildK 2 871509787656907713528983453707 [] zf I ni fun v163 I ni =>
 storeK 2 (.k t2) (.k v163) zf M nm I ni fun _ M nm I ni =>
 loadNK 2 (.k t2) zf M I ni fun v165 I ni => rtn 2 [v165, 1] M nm I ni kf)
 (j136 t1 t2 t4 t5 t8 t9 t45 t46 t47 M nm I ni))
 (fun j155 => gd v153 1 (fa 1 t1 fun v157 =>
 ld v157 M fun v158 =>
 ln v158 fun v159 =>
 ge 5 t9 v159 fun v160 =>
 j155 v160) (j155 0)))
 (fun j149 => gd v147 1 (lt 5 t9 295147905179352825861 fun v151 =>
 j149 v151) (j149 0)))
 (fun j140 => gd v138 1 (fa 0 t1 fun v142 =>
 ld v142 M fun v143 =>
 ln v143 fun v144 =>
 ge 5 t8 v144 fun v145 =>
 j140 v145) (j140 0))
def S185_15 (kf : KF) (j109 : Nat → Nat → Nat → Nat → Nat → Nat → Nat → Nat → Nat → Nat → Nat → Res) (t1 t2 t4 t5 t7 t45 t46 t47 M nm I ni : Nat) : Res :=
 jn (S185_14 kf j109) fun j166 =>
 iadrAK 2 1 (.k t7) (.k 295147905179352825861) zf I ni fun v167 I ni =>
 ld v167 M fun v168 =>
 iadrAK 2 1 (.k t7) (.k 295147905179352825893) zf I ni fun v169 I ni =>
 ld v169 M fun v170 =>
 j166 t1 t2 t4 t5 v168 v170 t45 t46 t47 M nm I ni
def S185_16 (kf : KF) (n106 : Nat) (j105 : Nat → Nat → Nat → Nat → Nat → Nat → Nat → Nat → Nat → Nat → Nat → Res) (t1 t2 t4 t5 t45 t46 t47 M nm I ni : Nat) : Res :=
 jn (fun (t1 t2 t4 t5 t45 t46 t47 M nm I ni : Nat) =>
 adt n106 t47 295147905179352825893 fun v107 =>
 j105 t1 t2 t4 t5 t45 t46 v107 M nm I ni) fun j109 =>
 jn (S185_15 kf j109) fun j173 =>
 ia 2 t45 t47 fun v174 =>
 loadNK 2 (.k v174) zf M I ni fun v175 I ni =>
 newK 2 23384026197294446691655098136326997907641993265157 M nm I ni fun v176 M nm I ni =>
 storeK 2 (.k v176) (.k v175) zf M nm I ni fun _ M nm I ni =>
 j173 t1 t2 t4 t5 v176 t45 t46 t47 M nm I ni
def S185_17 (kf : KF) (j104 : Nat → Nat → Nat → Nat → Nat → Nat → Nat → Nat → Res) (n106 : Nat) (j105 : Nat → Nat → Nat → Nat → Nat → Nat → Nat → Nat → Nat → Nat → Nat → Res) (t1 t2 t4 t5 t45 t46 t47 t48 M nm I ni : Nat) : Res :=
 jn (S185_16 kf n106 j105) fun j177 =>
 cnd t48 (j177 t1 t2 t4 t5 t45 t46 t47 M nm I ni)
 (j104 t1 t2 t4 t5 M nm I ni)
def S185_18 (kf : KF) (j104 : Nat → Nat → Nat → Nat → Nat → Nat → Nat → Nat → Res) (n106 : Nat) (j105 : Nat → Nat → Nat → Nat → Nat → Nat → Nat → Nat → Nat → Nat → Nat → Res) (t1 t2 t4 t5 t45 t46 t47 M nm I ni : Nat) : Res :=
 jn (S185_17 kf j104 n106 j105) fun j178 =>
 lt 5 t47 t46 fun v179 =>
 j178 t1 t2 t4 t5 t45 t46 t47 v179 M nm I ni
def S185_19 (kf : KF) (j104 : Nat → Nat → Nat → Nat → Nat → Nat → Nat → Nat → Res) (t1 t2 t4 t5 t45 t46 t47 M nm I ni : Nat) : Res :=
 lp (S185_18 kf j104) (fun _ _ _ _ _ _ _ _ _ _ _ => .bad 73 0) t1 t2 t4 t5 t45 t46 t47 M nm I ni
def S185_20 (kf : KF) (t1 t2 t4 t5 M nm I ni : Nat) : Res :=
 jn (S185_12 kf) fun j104 =>
 jn (S185_19 kf j104) fun j180 =>
 fa 2 t1 fun v181 =>
 ld v181 M fun v182 =>
 ln v182 fun v183 =>
 j180 t1 t2 t4 t5 v182 v183 295147905179352825861 M nm I ni
def S185_21 (kf : KF) (t1 t2 t4 M nm I ni : Nat) : Res :=
 jn (S185_20 kf) fun j185 =>
 fa 0 t1 fun v186 =>
 ld v186 M fun v187 =>
 ln v187 fun v188 =>
 mkSlK 1 11 (.k v188) (.k v188) zf M nm I ni fun v189 M nm I ni =>
 fa 1 t1 fun v190 =>
 ld v190 M fun v191 =>
 ln v191 fun v192 =>
 mkSlK 1 11 (.k v192) (.k v192) zf M nm I ni fun v193 M nm I ni =>
 buildK 2 871509787656907713528983453707 [(0, 1, (.k v189)), (1, 1, (.k v193))] zf I ni fun v194 I ni =>
 newK 2 871509787656907713528983453707 M nm I ni fun v195 M nm I ni =>
 storeK 2 (.k v195) (.k v194) zf M nm I ni fun _ M nm I ni =>
 j185 t1 t2 t4 v195 M nm I ni
def S185_22 (kf : KF) (t1 t2 t4 M nm I ni : Nat) : Res :=
 jn (S185_21 kf) fun j196 =>
 eq 5 t4 295147905179352825861 fun v198 =>
 jn (fun (v207 : Nat) =>
 pk v198 33 v207 fun v208 =>
 cnd v208 (buildK 2 871509787656907713528983453707 [] zf I ni fun v209 I ni =>
 storeK 2 (.k t2) (.k v209) zf M nm I ni fun _ M nm I ni =>
 loadNK 2 (.k t2) zf M I ni fun v211 I ni => rtn 2 [v211, 1] M nm I ni kf)
 (j196 t1 t2 t4 M nm I ni))
 (fun j200 => gd v198 1 (fa 2 t1 fun v201 =>
 ld v201 M fun v202 =>
 ln v202 fun v203 =>
 sb t4 295147905179352825893 fun v205 =>
 ne 5 v203 v205 fun v206 =>
 j200 v206) (j200 0))
def S185_23 (kf : KF) (t1 t2 M nm I ni : Nat) : Res :=
 jn (S185_22 kf) fun j212 =>
 fa 0 t1 fun v213 =>
 ld v213 M fun v214 =>
 ln v214 fun v215 =>
 fa 1 t1 fun v216 =>
 ld v216 M fun v217 =>
 ln v217 fun v218 =>
 ad v215 v218 fun v219 =>
 j212 t1 t2 v219 M nm I ni
def F185 (call : CallT) (t0 M nm I ni : Nat) (kf : KF) : Res :=
 jn (S185_23 kf) fun j221 =>
 boxK 3 (.k t0) zf M nm I ni fun v222 M nm I ni =>
 newK 2 871509787656907713528983453707 M nm I ni fun v223 M nm I ni =>
 j221 v222 v223 M nm I ni
def g185 (call : CallT) : List Nat → Nat → Nat → Nat → Nat → KF → Res := unS fun t0 => un0 (F185 call t0)
/- fretwork/strand.put -/
def S108_1 (kf : KF) (n2 : Nat) (j1 : Nat → Nat → Nat → Nat → Nat → Nat → Nat → Nat → Nat → Nat → Res) (t1 t2 t3 t4 t9 t10 M nm I ni : Nat) : Res :=
 lt 5 t10 t9 fun v3 =>
 cnd v3 (sbt n2 t3 295147905179352825893 fun v8 =>
 sbt n2 v8 t10 fun v10 =>
 shfK .shr .u64 .i64 (.k t2) (.k v10) zf I ni fun v11 I ni => tkk n2 v11 fun v12 =>
 iopK .and .u64 (.k v12) (.k 41) zf I ni fun v13 I ni => tkk n2 v13 fun v14 =>
 eq 9 v14 41 fun v15 =>
 cnd v15 (fa 0 t4 fun v16 =>
 ld v16 M fun v17 =>
 adt n2 t1 t10 fun v20 =>
 iopK .quo .i64 (.k v20) (.k 295147905179352826117) zf I ni fun v21 I ni => tkk n2 v21 fun v22 =>
 ia 1 v17 v22 fun v23 =>
 ld v23 M fun v24 =>
 adt n2 t1 t10 fun v27 =>
 iopK .rem .i64 (.k v27) (.k 295147905179352826117) zf I ni fun v28 I ni => tkk n2 v28 fun v29 =>
 sbt n2 295147905179352826085 v29 fun v30 =>
 shfK .shl .u8 .i64 (.k 38) (.k v30) zf I ni fun v31 I ni => tkk n2 v31 fun v32 =>
 iopK .or .u8 (.k v24) (.k v32) zf I ni fun v33 I ni => tkk n2 v33 fun v34 =>
 ia 1 v17 v22 fun v35 =>
 storeK 1 (.k v35) (.k v34) zf M nm I ni fun _ M nm I ni =>
 adt n2 t10 295147905179352825893 fun v36 =>
 j1 t1 t2 t3 t4 t9 v36 M nm I ni)
 (adt n2 t10 295147905179352825893 fun v38 =>
 j1 t1 t2 t3 t4 t9 v38 M nm I ni))
 (rtn 0 [] M nm I ni kf)
def S108_2 (kf : KF) (t1 t2 t3 t4 t9 t10 M nm I ni : Nat) : Res :=
 lp (S108_1 kf) (fun _ _ _ _ _ _ _ _ _ _ => .bad 73 0) t1 t2 t3 t4 t9 t10 M nm I ni
def S108_3 (kf : KF) (t1 t2 t3 t4 M nm I ni : Nat) : Res :=
 jn (S108_2 kf) fun j40 =>
 j40 t1 t2 t3 t4 t3 295147905179352825861 M nm I ni
def F108 (call : CallT) (t0 t1 t2 t3 M nm I ni : Nat) (kf : KF) : Res :=
 jn (S108_3 kf) fun j43 =>
 boxK 2 (.k t0) zf M nm I ni fun v44 M nm I ni =>
 j43 t1 t2 t3 v44 M nm I ni
def g108 (call : CallT) : List Nat → Nat → Nat → Nat → Nat → KF → Res := unS fun t0 => unS fun t1 => unS fun t2 => unS fun t3 => un0 (F108 call t0 t1 t2 t3)
/- math/bits.Mul64 -/
def F160 (call : CallT) (t0 t1 M nm I ni : Nat) (kf : KF) : Res :=
 iopK .and .u64 (.k t0) (.k 137438953449) zf I ni fun v4 I ni =>
 shfK .shr .u64 .u64 (.k t0) (.k 1033) zf I ni fun v7 I ni =>
 iopK .and .u64 (.k t1) (.k 137438953449) zf I ni fun v10 I ni =>
 shfK .shr .u64 .u64 (.k t1) (.k 1033) zf I ni fun v13 I ni =>
 iopK .mul .u64 (.k v4) (.k v10) zf I ni fun v17 I ni =>
 iopK .mul .u64 (.k v7) (.k v10) zf I ni fun v21 I ni =>
 shfK .shr .u64 .u64 (.k v17) (.k 1033) zf I ni fun v23 I ni =>
 iopK .add .u64 (.k v21) (.k v23) zf I ni fun v24 I ni =>
 iopK .and .u64 (.k v24) (.k 137438953449) zf I ni fun v27 I ni =>
 shfK .shr .u64 .u64 (.k v24) (.k 1033) zf I ni fun v30 I ni =>
 iopK .mul .u64 (.k v4) (.k v13) zf I ni fun v35 I ni =>
 iopK .add .u64 (.k v27) (.k v35) zf I ni fun v36 I ni =>
 iopK .mul .u64 (.k v7) (.k v13) zf I ni fun v40 I ni =>
 iopK .add .u64 (.k v40) (.k v30) zf I ni fun v42 I ni =>
 shfK .shr .u64 .u64 (.k v36) (.k 1033) zf I ni fun v44 I ni =>
 iopK .add .u64 (.k v42) (.k v44) zf I ni fun v45 I ni =>
 iopK .mul .u64 (.k t0) (.k t1) zf I ni fun v49 I ni =>
 rtn 2 [v45, v49] M nm I ni kf
def g160 (call : CallT) : List Nat → Nat → Nat → Nat → Nat → KF → Res := unS fun t0 => unS fun t1 => un0 (F160 call t0 t1)
/- fretwork/links.Verts -/
def S229_1 (j7 : Nat → Nat → Nat → Nat → Nat → Res) (n9 : Nat) (j8 : Nat → Nat → Nat → Nat → Nat → Nat → Nat → Nat → Res) (t3 t6 t7 t8 M nm I ni : Nat) : Res :=
 lt 5 t8 t7 fun v10 =>
 cnd v10 (ia 3 t6 t8 fun v11 =>
 loadNK 3 (.k v11) zf M I ni fun v12 I ni =>
 newK 3 1852673427797059126808521268839323955668793148457942454848160119256572240068613 M nm I ni fun v13 M nm I ni =>
 storeK 3 (.k v13) (.k v12) zf M nm I ni fun _ M nm I ni =>
 fa 0 v13 fun v15 =>
 ld v15 M fun v16 =>
 fa 1 v13 fun v17 =>
 ld v17 M fun v18 =>
 bldSK 2 1 295147905179352825861 [(0, 1, (.k v16)), (1, 1, (.k v18))] zf M nm I ni fun v19 M nm I ni =>
 appW 1 t3 v19 M nm I ni fun v20 M nm I ni =>
 adt n9 t8 295147905179352825893 fun v22 =>
 j8 v20 t6 t7 v22 M nm I ni)
 (j7 t3 M nm I ni)
def S229_2 (j7 : Nat → Nat → Nat → Nat → Nat → Res) (t3 t6 t7 t8 M nm I ni : Nat) : Res :=
 lp (S229_1 j7) (fun _ _ _ _ _ _ _ _ => .bad 73 0) t3 t6 t7 t8 M nm I ni
def S229_3 (call : CallT) (kf : KF) (t0 t3 M nm I ni : Nat) : Res :=
 jn (fun (t3 M nm I ni : Nat) =>
 call 55 [t3] M nm I ni fun v2 M nm I ni =>
 call 168 [t3] M nm I ni fun v4 M nm I ni =>
 call 234 [v4] M nm I ni fun v5 M nm I ni =>
 kf v5 M nm I ni) fun j7 =>
 jn (S229_2 j7) fun j24 =>
 ln t0 fun v26 =>
 j24 t3 t0 v26 295147905179352825861 M nm I ni
def S229_4 (call : CallT) (kf : KF) (t0 M nm I ni : Nat) : Res :=
 jn (S229_3 call kf) fun j28 =>
 j28 t0 11 M nm I ni
def F229 (call : CallT) (t0 M nm I ni : Nat) (kf : KF) : Res :=
 jn (S229_4 call kf) fun j30 =>
 j30 t0 M nm I ni
def g229 (call : CallT) : List Nat → Nat → Nat → Nat → Nat → KF → Res := unS fun t0 => un0 (F229 call t0)
/- fretwork/graph.compare -/
def F38 (call : CallT) (t0 t1 M nm I ni : Nat) (kf : KF) : Res :=
 boxK 2 (.k t0) zf M nm I ni fun v1 M nm I ni =>
 boxK 2 (.k t1) zf M nm I ni fun v2 M nm I ni =>
 iadrAK 2 1 (.k v1) (.k 295147905179352825861) zf I ni fun v4 I ni =>
 ld v4 M fun v5 =>
 iadrAK 2 1 (.k v2) (.k 295147905179352825861) zf I ni fun v6 I ni =>
 ld v6 M fun v7 =>
 iadrAK 2 1 (.k v1) (.k 295147905179352825893) zf I ni fun v8 I ni =>
 ld v8 M fun v9 =>
 iadrAK 2 1 (.k v2) (.k 295147905179352825893) zf I ni fun v10 I ni =>
 ld v10 M fun v11 =>
 call 67 [v5, v7] M nm I ni fun v13 M12 nm I ni =>
 flL v8 1 M M12 <| flL v10 1 M M12 <| 
 call 67 [v9, v11] M12 nm I ni fun v14 M nm I ni =>
 bldSK 2 1 295147905179352825861 [(0, 1, (.k v13)), (1, 1, (.k v14))] zf M nm I ni fun v15 M nm I ni =>
 call 66 [v15] M nm I ni fun v16 M nm I ni =>
 kf v16 M nm I ni
def g38 (call : CallT) : List Nat → Nat → Nat → Nat → Nat → KF → Res := unS fun t0 => unS fun t1 => un0 (F38 call t0 t1)
/- (*fretwork/bough.tree).weigh -/
def S148_1 (call : CallT) (j8 : Nat → Nat → Nat → Nat → Nat → Nat → Res) (n10 : Nat) (j9 : Nat → Nat → Nat → Nat → Nat → Nat → Nat → Nat → Nat → Nat → Nat → Nat → Res) (t0 t3 t5 t10 t11 t68 t69 t70 M nm I ni : Nat) : Res :=
 lt 5 t70 t69 fun v11 =>
 cnd v11 (ia 1 t68 t70 fun v13 =>
 ld v13 M fun v14 =>
 nilcK (.k t0) zf I ni fun v18 I ni =>
 fa 5 v18 fun v19 =>
 ld v19 M fun v20 =>
 ia 1 t5 t70 fun v25 =>
 ld v25 M fun v26 =>
 ld t10 M fun v27 =>
 call 177 [t11, v26, v27] M nm I ni fun v29 M28 nm I ni =>
 flL v19 1 M M28 <| 
 f1 19 0 v29 I fun v31 =>
 f1 19 1 v29 I fun v32 =>
 ia 1 v20 v14 fun v33 =>
 storeK 1 (.k v33) (.k v31) zf M28 nm I ni fun _ M nm I ni =>
 adt n10 t70 295147905179352825893 fun v34 =>
 j9 t0 t3 t5 t10 t11 t68 t69 v34 M nm I ni)
 (j8 t0 t3 M nm I ni)
def S148_2 (call : CallT) (j8 : Nat → Nat → Nat → Nat → Nat → Nat → Res) (t0 t3 t5 t10 t11 t68 t69 t70 M nm I ni : Nat) : Res :=
 lp (S148_1 call j8) (fun _ _ _ _ _ _ _ _ _ _ _ _ => .bad 73 0) t0 t3 t5 t10 t11 t68 t69 t70 M nm I ni
def S148_3 (call : CallT) (j8 : Nat → Nat → Nat → Nat → Nat → Nat → Res) (t0 t3 t4 t5 t10 t11 M nm I ni : Nat) : Res :=
 jn (S148_2 call j8) fun j36 =>
 ln t4 fun v38 =>
 j36 t0 t3 t5 t10 t11 t4 v38 295147905179352825861 M nm I ni
def S148_4 (call : CallT) (j8 : Nat → Nat → Nat → Nat → Nat → Nat → Res) (t0 t3 t4 t5 t10 t11 M nm I ni : Nat) : Res :=
 jn (S148_3 call j8) fun j40 =>
 mkfK 176 1 [(.k t10)] zf I ni fun v42 I ni =>
 call 175 [t11, v42] M nm I ni fun v43 M nm I ni =>
 j40 t0 t3 t4 t5 t10 v43 M nm I ni
def S148_5 (call : CallT) (j8 : Nat → Nat → Nat → Nat → Nat → Nat → Res) (t0 t3 t4 t5 t10 t11 M nm I ni : Nat) : Res :=
 jn (S148_4 call j8) fun j45 =>
 ld t10 M fun v47 =>
 call 174 [t11, v47] M nm I ni fun v48 M nm I ni =>
 j45 t0 t3 t4 t5 t10 t11 M nm I ni
def S148_6 (call : CallT) (j8 : Nat → Nat → Nat → Nat → Nat → Nat → Res) (t0 t3 t4 t5 t10 M nm I ni : Nat) : Res :=
 jn (S148_5 call j8) fun j49 =>
 call 173 [t5] M nm I ni fun v51 M nm I ni =>
 j49 t0 t3 t4 t5 t10 v51 M nm I ni
def S148_7 (call : CallT) (j8 : Nat → Nat → Nat → Nat → Nat → Nat → Res) (t0 t3 t4 t5 M nm I ni : Nat) : Res :=
 jn (S148_6 call j8) fun j53 =>
 newK 1 15 M nm I ni fun v54 M nm I ni =>
 storeK 1 (.k v54) (.k 5518) zf M nm I ni fun _ M nm I ni =>
 j53 t0 t3 t4 t5 v54 M nm I ni
def S148_8 (call : CallT) (kf : KF) (j55 : Nat → Nat → Nat → Nat → Nat → Nat → Nat → Nat → Res) (n57 : Nat) (j56 : Nat → Nat → Nat → Nat → Nat → Nat → Nat → Nat → Nat → Nat → Nat → Res) (t0 t3 t4 t5 t26 t27 t28 M nm I ni : Nat) : Res :=
 lt 5 t28 t27 fun v58 =>
 cnd v58 (ia 1 t26 t28 fun v60 =>
 ld v60 M fun v61 =>
 nilcK (.k t0) zf I ni fun v65 I ni =>
 fa 4 v65 fun v66 =>
 ld v66 M fun v67 =>
 ia 1 v67 t28 fun v69 =>
 ld v69 M fun v70 =>
 ne 5 v70 t3 fun v72 =>
 cnd v72 (adt n57 t28 295147905179352825893 fun v73 =>
 j56 t0 t3 t4 t5 t26 t27 v73 M nm I ni)
 (invS Go.Proofs.Tryz.prog call "fretwork/bough.weigh" (.k v61) [(.k t0)] zf M nm I ni fun v77 M nm I ni =>
 f1 19 0 v77 I fun v79 =>
 f1 19 1 v77 I fun v80 =>
 ne 5 v80 295147905179352825861 fun v84 =>
 cnd v84 (kf v80 M nm I ni)
 (bldSK 1 1 295147905179352825861 [(0, 1, (.k t28))] zf M nm I ni fun v89 M nm I ni =>
 appW 1 t4 v89 M nm I ni fun v90 M nm I ni =>
 bldSK 1 1 11 [(0, 1, (.k v79))] zf M nm I ni fun v93 M nm I ni =>
 appW 1 t5 v93 M nm I ni fun v94 M nm I ni =>
 adt n57 t28 295147905179352825893 fun v97 =>
 j56 t0 t3 v90 v94 t26 t27 v97 M nm I ni)))
 (j55 t0 t3 t4 t5 M nm I ni)
def S148_9 (call : CallT) (kf : KF) (j55 : Nat → Nat → Nat → Nat → Nat → Nat → Nat → Nat → Res) (t0 t3 t4 t5 t26 t27 t28 M nm I ni : Nat) : Res :=
 lp (S148_8 call kf j55) (fun _ _ _ _ _ _ _ _ _ _ _ => .bad 73 0) t0 t3 t4 t5 t26 t27 t28 M nm I ni
def S148_10 (call : CallT) (kf : KF) (j8 : Nat → Nat → Nat → Nat → Nat → Nat → Res) (t0 t3 t4 t5 M nm I ni : Nat) : Res :=
 jn (S148_7 call j8) fun j55 =>
 jn (S148_9 call kf j55) fun j99 =>
 nilcK (.k t0) zf I ni fun v101 I ni =>
 fa 0 v101 fun v102 =>
 ld v102 M fun v103 =>
 ln v103 fun v104 =>
 j99 t0 t3 t4 t5 v103 v104 295147905179352825861 M nm I ni
def S148_11 (call : CallT) (kf : KF) (j8 : Nat → Nat → Nat → Nat → Nat → Nat → Res) (t0 t3 t4 M nm I ni : Nat) : Res :=
 jn (S148_10 call kf j8) fun j106 =>
 j106 t0 t3 t4 11 M nm I ni
def S148_12 (call : CallT) (kf : KF) (n4 : Nat) (j3 : Nat → Nat → Nat → Nat → Nat → Nat → Res) (t0 t3 M nm I ni : Nat) : Res :=
 jn (fun (t0 t3 M nm I ni : Nat) =>
 sbt n4 t3 295147905179352825893 fun v6 =>
 j3 t0 v6 M nm I ni) fun j8 =>
 jn (S148_11 call kf j8) fun j108 =>
 j108 t0 t3 11 M nm I ni
def S148_13 (call : CallT) (kf : KF) (j2 : Nat → Nat → Nat → Nat → Res) (n4 : Nat) (j3 : Nat → Nat → Nat → Nat → Nat → Nat → Res) (t0 t3 M nm I ni : Nat) : Res :=
 jn (S148_12 call kf n4 j3) fun j110 =>
 ge 5 t3 295147905179352825861 fun v112 =>
 cnd v112 (j110 t0 t3 M nm I ni)
 (j2 M nm I ni)
def S148_14 (call : CallT) (kf : KF) (j2 : Nat → Nat → Nat → Nat → Res) (t0 t3 M nm I ni : Nat) : Res :=
 lp (S148_13 call kf j2) (fun _ _ _ _ _ _ => .bad 73 0) t0 t3 M nm I ni
def S148_15 (call : CallT) (kf : KF) (t0 M nm I ni : Nat) : Res :=
 jn (fun (M nm I ni : Nat) =>
 kf 295147905179352825861 M nm I ni) fun j2 =>
 jn (S148_14 call kf j2) fun j113 =>
 nilcK (.k t0) zf I ni fun v115 I ni =>
 fa 4 v115 fun v116 =>
 ld v116 M fun v117 =>
 call 171 [v117] M nm I ni fun v118 M nm I ni =>
 j113 t0 v118 M nm I ni
def F148 (call : CallT) (t0 M nm I ni : Nat) (kf : KF) : Res :=
 jn (S148_15 call kf) fun j120 =>
 j120 t0 M nm I ni
def g148 (call : CallT) : List Nat → Nat → Nat → Nat → Nat → KF → Res := unS fun t0 => un0 (F148 call t0)
/- fretwork/strand.Knot -/
def S62_1 (call : CallT) (kf : KF) (t1 t2 t4 M nm I ni : Nat) : Res :=
 loadNK 2 (.k t2) zf M I ni fun v1 I ni =>
 call 105 [v1] M nm I ni fun v2 M nm I ni =>
 notK (.k v2) zf I ni fun v3 I ni =>
 cnd v3 (buildK 2 23384026197294446691655098136031850002462640439307 [] zf I ni fun v4 I ni =>
 storeK 2 (.k t4) (.k v4) zf M nm I ni fun _ M nm I ni =>
 loadNK 2 (.k t4) zf M I ni fun v6 I ni => rtn 2 [v6, 295147905179352826213] M nm I ni kf)
 (eq 9 t1 590295810358705651689 fun v8 =>
 cnd v8 (buildK 2 23384026197294446691655098136031850002462640439307 [] zf I ni fun v9 I ni =>
 storeK 2 (.k t4) (.k v9) zf M nm I ni fun _ M nm I ni =>
 loadNK 2 (.k t4) zf M I ni fun v11 I ni => rtn 2 [v11, 295147905179352825925] M nm I ni kf)
 (iopK .add .u64 (.k t1) (.k 41) zf I ni fun v13 I ni =>
 call 106 [v13] M nm I ni fun v14 M nm I ni =>
 fa 1 t2 fun v16 =>
 ld v16 M fun v17 =>
 iopK .mul .i64 (.k 295147905179352825925) (.k v14) zf I ni fun v19 I ni =>
 ad v17 v19 fun v20 =>
 sb v20 295147905179352825893 fun v21 =>
 lt 5 295147905179487043589 v21 fun v22 =>
 cnd v22 (buildK 2 23384026197294446691655098136031850002462640439307 [] zf I ni fun v23 I ni =>
 storeK 2 (.k t4) (.k v23) zf M nm I ni fun _ M nm I ni =>
 loadNK 2 (.k t4) zf M I ni fun v25 I ni => rtn 2 [v25, 295147905179352825957] M nm I ni kf)
 (loadNK 2 (.k t2) zf M I ni fun v26 I ni =>
 iopK .mul .i64 (.k 295147905179352825925) (.k v14) zf I ni fun v28 I ni =>
 sb v28 295147905179352825893 fun v29 =>
 call 107 [v26, v29] M nm I ni fun v30 M nm I ni =>
 newK 2 23384026197294446691655098136031850002462640439307 M nm I ni fun v31 M nm I ni =>
 storeK 2 (.k v31) (.k v30) zf M nm I ni fun _ M nm I ni =>
 loadNK 2 (.k v31) zf M I ni fun v32 I ni =>
 fa 1 t2 fun v33 =>
 ld v33 M fun v34 =>
 ad v34 v14 fun v36 =>
 sb v36 295147905179352825893 fun v37 =>
 iopK .add .u64 (.k t1) (.k 41) zf I ni fun v39 I ni =>
 call 108 [v32, v37, v39, v14] M nm I ni fun v41 M nm I ni =>
 loadNK 2 (.k v31) zf M I ni fun v42 I ni =>
 storeK 2 (.k t4) (.k v42) zf M nm I ni fun _ M nm I ni =>
 loadNK 2 (.k t4) zf M I ni fun v44 I ni => rtn 2 [v44, 295147905179352825861] M nm I ni kf)))
def F62 (call : CallT) (t0 t1 M nm I ni : Nat) (kf : KF) : Res :=
 jn (S62_1 call kf) fun j45 =>
 boxK 2 (.k t0) zf M nm I ni fun v46 M nm I ni =>
 newK 2 23384026197294446691655098136031850002462640439307 M nm I ni fun v47 M nm I ni =>
 j45 t1 v46 v47 M nm I ni
def g62 (call : CallT) : List Nat → Nat → Nat → Nat → Nat → KF → Res := unS fun t0 => unS fun t1 => un0 (F62 call t0 t1)
/- fretwork/figures.Tints -/
def S122_1 (kf : KF) (j2 : Nat → Nat → Nat → Nat → Res) (n4 : Nat) (j3 : Nat → Nat → Nat → Nat → Nat → Nat → Nat → Res) (t11 t12 t13 M nm I ni : Nat) : Res :=
 lt 5 t13 t12 fun v5 =>
 cnd v5 (ia 1 t11 t13 fun v6 =>
 ld v6 M fun v7 =>
 lt 5 v7 295147905179352825861 fun v10 =>
 jn (fun (v15 : Nat) =>
 pk v10 33 v15 fun v16 =>
 cnd v16 (kf 1 M nm I ni)
 (adt n4 t13 295147905179352825893 fun v18 =>
 j3 t11 t12 v18 M nm I ni))
 (fun j12 => gd v10 1 (ge 5 v7 295147905213712564229 fun v14 =>
 j12 v14) (j12 0)))
 (j2 M nm I ni)
def S122_2 (kf : KF) (j2 : Nat → Nat → Nat → Nat → Res) (t11 t12 t13 M nm I ni : Nat) : Res :=
 lp (S122_1 kf j2) (fun _ _ _ _ _ _ _ => .bad 73 0) t11 t12 t13 M nm I ni
def S122_3 (kf : KF) (t0 M nm I ni : Nat) : Res :=
 jn (fun (M nm I ni : Nat) =>
 kf 33 M nm I ni) fun j2 =>
 jn (S122_2 kf j2) fun j20 =>
 ln t0 fun v22 =>
 j20 t0 v22 295147905179352825861 M nm I ni
def S122_4 (kf : KF) (t0 t1 M nm I ni : Nat) : Res :=
 jn (S122_3 kf) fun j24 =>
 ln t0 fun v26 =>
 ne 5 v26 t1 fun v28 =>
 cnd v28 (kf 1 M nm I ni)
 (j24 t0 M nm I ni)
def F122 (call : CallT) (t0 t1 M nm I ni : Nat) (kf : KF) : Res :=
 jn (S122_4 kf) fun j30 =>
 j30 t0 t1 M nm I ni
def g122 (call : CallT) : List Nat → Nat → Nat → Nat → Nat → KF → Res := unS fun t0 => unS fun t1 => un0 (F122 call t0 t1)
/- fretwork/strand.GetKnot -/
def S121_1 (call : CallT) (kf : KF) (t1 t2 t7 M nm I ni : Nat) : Res :=
 eq 5 t7 295147905179352827909 fun v2 =>
 cnd v2 (rtn 3 [9, 295147905179352825861, 295147905179352826245] M nm I ni kf)
 (iopK .mul .i64 (.k 295147905179352825925) (.k t7) zf I ni fun v8 I ni =>
 ad t1 v8 fun v9 =>
 ad v9 295147905179352825893 fun v10 =>
 fa 1 t2 fun v13 =>
 ld v13 M fun v14 =>
 lt 5 v14 v10 fun v15 =>
 cnd v15 (rtn 3 [9, 295147905179352825861, 295147905179352826181] M nm I ni kf)
 (loadNK 2 (.k t2) zf M I ni fun v19 I ni =>
 ad t1 t7 fun v22 =>
 ad t7 295147905179352825893 fun v24 =>
 call 145 [v19, v22, v24] M nm I ni fun v25 M nm I ni =>
 iopK .sub .u64 (.k v25) (.k 41) zf I ni fun v26 I ni =>
 rtn 3 [v26, v10, 295147905179352825861] M nm I ni kf))
def S121_2 (call : CallT) (j31 : Nat → Nat → Nat → Nat → Nat → Nat → Nat → Res) (n33 : Nat) (j32 : Nat → Nat → Nat → Nat → Nat → Nat → Nat → Nat → Nat → Res) (t1 t2 t7 t26 t27 M nm I ni : Nat) : Res :=
 lt 5 t27 t26 fun v34 =>
 cnd v34 (loadNK 2 (.k t2) zf M I ni fun v37 I ni =>
 adt n33 t1 t27 fun v40 =>
 call 144 [v37, v40] M nm I ni fun v41 M nm I ni =>
 eq 6 v41 38 fun v42 =>
 cnd v42 (j31 t1 t2 t27 M nm I ni)
 (adt n33 t27 295147905179352825893 fun v45 =>
 j32 t1 t2 t7 t26 v45 M nm I ni))
 (j31 t1 t2 t7 M nm I ni)
def S121_3 (call : CallT) (j31 : Nat → Nat → Nat → Nat → Nat → Nat → Nat → Res) (t1 t2 t7 t26 t27 M nm I ni : Nat) : Res :=
 lp (S121_2 call j31) (fun _ _ _ _ _ _ _ _ _ => .bad 73 0) t1 t2 t7 t26 t27 M nm I ni
def S121_4 (call : CallT) (kf : KF) (t1 t2 t7 M nm I ni : Nat) : Res :=
 jn (S121_1 call kf) fun j31 =>
 jn (S121_3 call j31) fun j47 =>
 j47 t1 t2 t7 t7 295147905179352825861 M nm I ni
def S121_5 (call : CallT) (kf : KF) (t1 t2 M nm I ni : Nat) : Res :=
 jn (S121_4 call kf) fun j50 =>
 fa 1 t2 fun v51 =>
 ld v51 M fun v52 =>
 sb v52 t1 fun v54 =>
 minK false 5 (.k 295147905179352827909) (.k v54) zf I ni fun v55 I ni =>
 j50 t1 t2 v55 M nm I ni
def S121_6 (call : CallT) (kf : KF) (t1 t2 M nm I ni : Nat) : Res :=
 jn (S121_5 call kf) fun j57 =>
 lt 5 t1 295147905179352825861 fun v59 =>
 jn (fun (v66 : Nat) =>
 pk v59 33 v66 fun v67 =>
 cnd v67 (rtn 3 [9, 295147905179352825861, 295147905179352825925] M nm I ni kf)
 (j57 t1 t2 M nm I ni))
 (fun j61 => gd v59 1 (fa 1 t2 fun v63 =>
 ld v63 M fun v64 =>
 lt 5 v64 t1 fun v65 =>
 j61 v65) (j61 0))
def S121_7 (call : CallT) (kf : KF) (t1 t2 M nm I ni : Nat) : Res :=
 jn (S121_6 call kf) fun j71 =>
 loadNK 2 (.k t2) zf M I ni fun v72 I ni =>
 call 105 [v72] M nm I ni fun v73 M nm I ni =>
 notK (.k v73) zf I ni fun v74 I ni =>
 cnd v74 (rtn 3 [9, 295147905179352825861, 295147905179352826213] M nm I ni kf)
 (j71 t1 t2 M nm I ni)
def F121 (call : CallT) (t0 t1 M nm I ni : Nat) (kf : KF) : Res :=
 jn (S121_7 call kf) fun j78 =>
 boxK 2 (.k t0) zf M nm I ni fun v79 M nm I ni =>
 j78 t1 v79 M nm I ni
def g121 (call : CallT) : List Nat → Nat → Nat → Nat → Nat → KF → Res := unS fun t0 => unS fun t1 => un0 (F121 call t0 t1)
/- fretwork/canon.apart -/
def S71_1 (j3 : Nat → Nat → Nat → Nat → Nat → Res) (n5 : Nat) (j4 : Nat → Nat → Nat → Nat → Nat → Nat → Nat → Nat → Nat → Nat → Res) (t5 t6 t7 t65 t66 t67 M nm I ni : Nat) : Res :=
 lt 5 t67 t66 fun v6 =>
 cnd v6 (ia 2 t65 t67 fun v7 =>
 loadNK 2 (.k v7) zf M I ni fun v8 I ni =>
 newK 2 23384026197294446691655098136326997907641993265157 M nm I ni fun v9 M nm I ni =>
 storeK 2 (.k v9) (.k v8) zf M nm I ni fun _ M nm I ni =>
 iadrAK 2 1 (.k v9) (.k 295147905179352825861) zf I ni fun v12 I ni =>
 ld v12 M fun v13 =>
 ia 1 t6 v13 fun v14 =>
 ld v14 M fun v15 =>
 ia 4 t5 v15 fun v16 =>
 nilcK (.k v16) zf I ni fun v20 I ni =>
 fa 1 v20 fun v21 =>
 fa 1 v21 fun v22 =>
 ld v22 M fun v23 =>
 iadrAK 2 1 (.k v9) (.k 295147905179352825861) zf I ni fun v25 I ni =>
 ld v25 M fun v26 =>
 lookW (.word 5) false false 1 295147905179352825861 t7 v26 M I ni fun v27 I ni =>
 iadrAK 2 1 (.k v9) (.k 295147905179352825893) zf I ni fun v29 I ni =>
 ld v29 M fun v30 =>
 lookW (.word 5) false false 1 295147905179352825861 t7 v30 M I ni fun v31 I ni =>
 buildK 2 23384026197294446691655098136326997907641993265157 [(0, 1, (.k v27)), (1, 1, (.k v31))] zf I ni fun v32 I ni =>
 bldSK 1 2 23384026197294446691655098136326997907641993265157 [(0, 2, (.k v32))] zf M nm I ni fun v33 M nm I ni =>
 appW 2 v23 v33 M nm I ni fun v34 M nm I ni =>
 nilcK (.k v16) zf I ni fun v35 I ni =>
 fa 1 v35 fun v36 =>
 fa 1 v36 fun v37 =>
 storeK 1 (.k v37) (.k v34) zf M nm I ni fun _ M nm I ni =>
 adt n5 t67 295147905179352825893 fun v38 =>
 j4 t5 t6 t7 t65 t66 v38 M nm I ni)
 (j3 t5 M nm I ni)
def S71_2 (j3 : Nat → Nat → Nat → Nat → Nat → Res) (t5 t6 t7 t65 t66 t67 M nm I ni : Nat) : Res :=
 lp (S71_1 j3) (fun _ _ _ _ _ _ _ _ _ _ => .bad 73 0) t5 t6 t7 t65 t66 t67 M nm I ni
def S71_3 (kf : KF) (t2 t5 t6 t7 M nm I ni : Nat) : Res :=
 jn (fun (t5 M nm I ni : Nat) =>
 kf t5 M nm I ni) fun j3 =>
 jn (S71_2 j3) fun j40 =>
 fa 1 t2 fun v41 =>
 ld v41 M fun v42 =>
 ln v42 fun v43 =>
 j40 t5 t6 t7 v42 v43 295147905179352825861 M nm I ni
def S71_4 (j56 : Nat → Nat → Nat → Nat → Nat → Nat → Nat → Nat → Nat → Nat → Nat → Nat → Nat → Res) (n58 : Nat) (j57 : Nat → Nat → Nat → Nat → Nat → Nat → Nat → Nat → Nat → Nat → Nat → Nat → Nat → Nat → Nat → Nat → Nat → Res) (t1 t2 t5 t6 t7 t8 t10 t23 t24 t25 t35 t36 t37 M nm I ni : Nat) : Res :=
 lt 5 t37 t36 fun v59 =>
 cnd v59 (ia 1 t35 t37 fun v61 =>
 ld v61 M fun v62 =>
 ia 1 t6 v62 fun v71 =>
 storeK 1 (.k v71) (.k t8) zf M nm I ni fun _ M nm I ni =>
 updW (.word 5) t7 v62 t37 M nm I ni fun _ M nm I ni =>
 fa 3 t10 fun v72 =>
 ld v72 M fun v73 =>
 ia 1 t1 v62 fun v76 =>
 ld v76 M fun v77 =>
 bldSK 1 1 295147905179352825861 [(0, 1, (.k v77))] zf M nm I ni fun v78 M nm I ni =>
 appW 1 v73 v78 M nm I ni fun v79 M nm I ni =>
 fa 3 t10 fun v80 =>
 storeK 1 (.k v80) (.k v79) zf M nm I ni fun _ M nm I ni =>
 adt n58 t37 295147905179352825893 fun v81 =>
 j57 t1 t2 t5 t6 t7 t8 t10 t23 t24 t25 t35 t36 v81 M nm I ni)
 (j56 t1 t2 t5 t6 t7 t10 t23 t24 t25 M nm I ni)
def S71_5 (j56 : Nat → Nat → Nat → Nat → Nat → Nat → Nat → Nat → Nat → Nat → Nat → Nat → Nat → Res) (t1 t2 t5 t6 t7 t8 t10 t23 t24 t25 t35 t36 t37 M nm I ni : Nat) : Res :=
 lp (S71_4 j56) (fun _ _ _ _ _ _ _ _ _ _ _ _ _ _ _ _ _ => .bad 73 0) t1 t2 t5 t6 t7 t8 t10 t23 t24 t25 t35 t36 t37 M nm I ni
def S71_6 (j50 : Nat → Nat → Nat → Nat → Nat → Nat → Nat → Nat → Nat → Nat → Nat → Nat → Res) (t1 t2 t5 t6 t7 t8 t9 t10 t23 t24 t25 M nm I ni : Nat) : Res :=
 jn (fun (t1 t2 t5 t6 t7 t10 t23 t24 t25 M nm I ni : Nat) =>
 loadNK 4 (.k t10) zf M I ni fun v52 I ni =>
 bldSK 1 4 5470555600507653063709204729684077360217655173370313022192043174537912227029434150944779 [(0, 4, (.k v52))] zf M nm I ni fun v53 M nm I ni =>
 appW 4 t5 v53 M nm I ni fun v54 M nm I ni =>
 j50 t1 t2 v54 t6 t7 t23 t24 t25 M nm I ni) fun j56 =>
 jn (S71_5 j56) fun j83 =>
 ln t9 fun v85 =>
 j83 t1 t2 t5 t6 t7 t8 t10 t23 t24 t25 t9 v85 295147905179352825861 M nm I ni
def S71_7 (j50 : Nat → Nat → Nat → Nat → Nat → Nat → Nat → Nat → Nat → Nat → Nat → Nat → Res) (t1 t2 t5 t6 t7 t8 t9 t23 t24 t25 M nm I ni : Nat) : Res :=
 jn (S71_6 j50) fun j87 =>
 ln t9 fun v90 =>
 buildK 2 871509787952055618708336279557 [(0, 1, (.k v90))] zf I ni fun v91 I ni =>
 buildK 4 5470555600507653063709204729684077360217655173370313022192043174537912227029434150944779 [(0, 1, (.k t9)), (1, 2, (.k v91))] zf I ni fun v92 I ni =>
 newK 4 5470555600507653063709204729684077360217655173370313022192043174537912227029434150944779 M nm I ni fun v93 M nm I ni =>
 storeK 4 (.k v93) (.k v92) zf M nm I ni fun _ M nm I ni =>
 j87 t1 t2 t5 t6 t7 t8 t9 v93 t23 t24 t25 M nm I ni
def S71_8 (n47 : Nat) (j46 : Nat → Nat → Nat → Nat → Nat → Nat → Nat → Nat → Nat → Nat → Nat → Nat → Res) (t1 t2 t5 t6 t7 t23 t24 t25 M nm I ni : Nat) : Res :=
 jn (fun (t1 t2 t5 t6 t7 t23 t24 t25 M nm I ni : Nat) =>
 adt n47 t25 295147905179352825893 fun v48 =>
 j46 t1 t2 t5 t6 t7 t23 t24 v48 M nm I ni) fun j50 =>
 jn (S71_7 j50) fun j94 =>
 ia 1 t23 t25 fun v96 =>
 ld v96 M fun v97 =>
 j94 t1 t2 t5 t6 t7 t25 v97 t23 t24 t25 M nm I ni
def S71_9 (j45 : Nat → Nat → Nat → Nat → Nat → Nat → Nat → Nat → Res) (n47 : Nat) (j46 : Nat → Nat → Nat → Nat → Nat → Nat → Nat → Nat → Nat → Nat → Nat → Nat → Res) (t1 t2 t5 t6 t7 t23 t24 t25 t26 M nm I ni : Nat) : Res :=
 jn (S71_8 n47 j46) fun j100 =>
 cnd t26 (j100 t1 t2 t5 t6 t7 t23 t24 t25 M nm I ni)
 (j45 t2 t5 t6 t7 M nm I ni)
def S71_10 (j45 : Nat → Nat → Nat → Nat → Nat → Nat → Nat → Nat → Res) (n47 : Nat) (j46 : Nat → Nat → Nat → Nat → Nat → Nat → Nat → Nat → Nat → Nat → Nat → Nat → Res) (t1 t2 t5 t6 t7 t23 t24 t25 M nm I ni : Nat) : Res :=
 jn (S71_9 j45 n47 j46) fun j101 =>
 lt 5 t25 t24 fun v102 =>
 j101 t1 t2 t5 t6 t7 t23 t24 t25 v102 M nm I ni
def S71_11 (j45 : Nat → Nat → Nat → Nat → Nat → Nat → Nat → Nat → Res) (t1 t2 t5 t6 t7 t23 t24 t25 M nm I ni : Nat) : Res :=
 lp (S71_10 j45) (fun _ _ _ _ _ _ _ _ _ _ _ _ => .bad 73 0) t1 t2 t5 t6 t7 t23 t24 t25 M nm I ni
def S71_12 (call : CallT) (kf : KF) (t1 t2 t5 t6 t7 M nm I ni : Nat) : Res :=
 jn (S71_3 kf) fun j45 =>
 jn (S71_11 j45) fun j103 =>
 loadNK 2 (.k t2) zf M I ni fun v104 I ni =>
 call 30 [v104] M nm I ni fun v105 M nm I ni =>
 ln v105 fun v106 =>
 j103 t1 t2 t5 t6 t7 v105 v106 295147905179352825861 M nm I ni
def S71_13 (call : CallT) (kf : KF) (t1 t2 t5 t6 M nm I ni : Nat) : Res :=
 jn (S71_12 call kf) fun j108 =>
 fa 0 t2 fun v109 =>
 ld v109 M fun v110 =>
 mkMapHK (.k v110) zf M nm I ni fun v111 M nm I ni =>
 j108 t1 t2 t5 t6 v111 M nm I ni
def S71_14 (call : CallT) (kf : KF) (t1 t2 t5 M nm I ni : Nat) : Res :=
 jn (S71_13 call kf) fun j113 =>
 fa 0 t2 fun v114 =>
 ld v114 M fun v115 =>
 mkSlK 1 295147905179352825861 (.k v115) (.k v115) zf M nm I ni fun v116 M nm I ni =>
 j113 t1 t2 t5 v116 M nm I ni
def S71_15 (call : CallT) (kf : KF) (t1 t2 M nm I ni : Nat) : Res :=
 jn (S71_14 call kf) fun j118 =>
 j118 t1 t2 11 M nm I ni
def F71 (call : CallT) (t0 t1 M nm I ni : Nat) (kf : KF) : Res :=
 jn (S71_15 call kf) fun j120 =>
 boxK 2 (.k t0) zf M nm I ni fun v121 M nm I ni =>
 j120 t1 v121 M nm I ni
def g71 (call : CallT) : List Nat → Nat → Nat → Nat → Nat → KF → Res := unS fun t0 => unS fun t1 => un0 (F71 call t0 t1)
/- fretwork/blocks.Centre -/
def S169_1 (call : CallT) (kf : KF) (t7 t17 M nm I ni : Nat) : Res :=
 jn (fun (t17 M nm I ni : Nat) =>
 fa 0 t17 fun v1 =>
 ld v1 M fun v2 =>
 eq 5 v2 295147905179352825861 fun v3 =>
 fa 1 t17 fun v4 =>
 ld v4 M fun v5 =>
 rtn 2 [v3, v5] M nm I ni kf) fun j8 =>
 call 186 [t7, 5998] M nm I ni fun v10 M nm I ni =>
 ge 5 v10 295147905179352825861 fun v13 =>
 cnd v13 (ia 2 t7 v10 fun v16 =>
 loadNK 2 (.k v16) zf M I ni fun v17 I ni =>
 storeK 2 (.k t17) (.k v17) zf M nm I ni fun _ M nm I ni =>
 j8 t17 M nm I ni)
 (j8 t17 M nm I ni)
def S169_2 (call : CallT) (kf : KF) (t7 M nm I ni : Nat) : Res :=
 jn (S169_1 call kf) fun j18 =>
 ia 2 t7 295147905179352825861 fun v20 =>
 loadNK 2 (.k v20) zf M I ni fun v21 I ni =>
 newK 2 23384026197294446691655098136326997907641993265157 M nm I ni fun v22 M nm I ni =>
 storeK 2 (.k v22) (.k v21) zf M nm I ni fun _ M nm I ni =>
 j18 t7 v22 M nm I ni
def S169_3 (j33 : Nat → Nat → Nat → Nat → Nat → Nat → Nat → Nat → Nat → Nat → Nat → Res) (n35 : Nat) (j34 : Nat → Nat → Nat → Nat → Nat → Nat → Nat → Nat → Nat → Nat → Nat → Nat → Nat → Nat → Nat → Res) (t4 t6 t11 t12 t14 t80 t81 t82 t93 t94 t95 M nm I ni : Nat) : Res :=
 lt 5 t95 t94 fun v36 =>
 cnd v36 (ia 1 t93 t95 fun v37 =>
 ld v37 M fun v38 =>
 fa 0 t14 fun v40 =>
 ld v40 M fun v41 =>
 sbt n35 295147905179352825893 v41 fun v42 =>
 iadrAK 2 1 (.k t6) (.k v42) zf I ni fun v43 I ni =>
 ld v43 M fun v44 =>
 ia 1 v44 v38 fun v46 =>
 ld v46 M fun v47 =>
 sbt n35 v47 295147905179352825893 fun v48 =>
 ia 1 v44 v38 fun v49 =>
 storeK 1 (.k v49) (.k v48) zf M nm I ni fun _ M nm I ni =>
 fa 0 t14 fun v50 =>
 ld v50 M fun v51 =>
 sbt n35 295147905179352825893 v51 fun v52 =>
 iadrAK 2 1 (.k t6) (.k v52) zf I ni fun v53 I ni =>
 ld v53 M fun v54 =>
 ia 1 v54 v38 fun v56 =>
 ld v56 M fun v57 =>
 eq 5 v57 295147905179352825893 fun v58 =>
 cnd v58 (fa 0 t14 fun v60 =>
 ld v60 M fun v61 =>
 sbt n35 295147905179352825893 v61 fun v62 =>
 buildK 2 23384026197294446691655098136326997907641993265157 [(0, 1, (.k v62)), (1, 1, (.k v38))] zf I ni fun v64 I ni =>
 bldSK 1 2 23384026197294446691655098136326997907641993265157 [(0, 2, (.k v64))] zf M nm I ni fun v65 M nm I ni =>
 appW 2 t12 v65 M nm I ni fun v66 M nm I ni =>
 adt n35 t95 295147905179352825893 fun v68 =>
 j34 t4 t6 t11 v66 t14 t80 t81 t82 t93 t94 v68 M nm I ni)
 (adt n35 t95 295147905179352825893 fun v70 =>
 j34 t4 t6 t11 t12 t14 t80 t81 t82 t93 t94 v70 M nm I ni))
 (j33 t4 t6 t11 t12 t80 t81 t82 M nm I ni)
def S169_4 (j33 : Nat → Nat → Nat → Nat → Nat → Nat → Nat → Nat → Nat → Nat → Nat → Res) (t4 t6 t11 t12 t14 t80 t81 t82 t93 t94 t95 M nm I ni : Nat) : Res :=
 lp (S169_3 j33) (fun _ _ _ _ _ _ _ _ _ _ _ _ _ _ _ => .bad 73 0) t4 t6 t11 t12 t14 t80 t81 t82 t93 t94 t95 M nm I ni
def S169_5 (j33 : Nat → Nat → Nat → Nat → Nat → Nat → Nat → Nat → Nat → Nat → Nat → Res) (t4 t6 t11 t12 t14 t80 t81 t82 M nm I ni : Nat) : Res :=
 jn (S169_4 j33) fun j72 =>
 fa 0 t14 fun v73 =>
 ld v73 M fun v74 =>
 iadrAK 2 1 (.k t4) (.k v74) zf I ni fun v75 I ni =>
 ld v75 M fun v76 =>
 fa 1 t14 fun v77 =>
 ld v77 M fun v78 =>
 ia 1 v76 v78 fun v79 =>
 ld v79 M fun v80 =>
 ln v80 fun v81 =>
 j72 t4 t6 t11 t12 t14 t80 t81 t82 v80 v81 295147905179352825861 M nm I ni
def S169_6 (n30 : Nat) (j29 : Nat → Nat → Nat → Nat → Nat → Nat → Nat → Nat → Nat → Nat → Nat → Res) (t4 t6 t11 t12 t80 t81 t82 M nm I ni : Nat) : Res :=
 jn (fun (t4 t6 t11 t12 t80 t81 t82 M nm I ni : Nat) =>
 adt n30 t82 295147905179352825893 fun v31 =>
 j29 t4 t6 t11 t12 t80 t81 v31 M nm I ni) fun j33 =>
 jn (S169_5 j33) fun j83 =>
 ia 2 t80 t82 fun v84 =>
 loadNK 2 (.k v84) zf M I ni fun v85 I ni =>
 newK 2 23384026197294446691655098136326997907641993265157 M nm I ni fun v86 M nm I ni =>
 storeK 2 (.k v86) (.k v85) zf M nm I ni fun _ M nm I ni =>
 j83 t4 t6 t11 t12 v86 t80 t81 t82 M nm I ni
def S169_7 (j28 : Nat → Nat → Nat → Nat → Nat → Nat → Nat → Nat → Res) (n30 : Nat) (j29 : Nat → Nat → Nat → Nat → Nat → Nat → Nat → Nat → Nat → Nat → Nat → Res) (t4 t6 t11 t12 t80 t81 t82 t83 M nm I ni : Nat) : Res :=
 jn (S169_6 n30 j29) fun j87 =>
 cnd t83 (j87 t4 t6 t11 t12 t80 t81 t82 M nm I ni)
 (j28 t4 t6 t11 t12 M nm I ni)
def S169_8 (j28 : Nat → Nat → Nat → Nat → Nat → Nat → Nat → Nat → Res) (n30 : Nat) (j29 : Nat → Nat → Nat → Nat → Nat → Nat → Nat → Nat → Nat → Nat → Nat → Res) (t4 t6 t11 t12 t80 t81 t82 M nm I ni : Nat) : Res :=
 jn (S169_7 j28 n30 j29) fun j88 =>
 lt 5 t82 t81 fun v89 =>
 j88 t4 t6 t11 t12 t80 t81 t82 v89 M nm I ni
def S169_9 (j28 : Nat → Nat → Nat → Nat → Nat → Nat → Nat → Nat → Res) (t4 t6 t11 t12 t80 t81 t82 M nm I ni : Nat) : Res :=
 lp (S169_8 j28) (fun _ _ _ _ _ _ _ _ _ _ _ => .bad 73 0) t4 t6 t11 t12 t80 t81 t82 M nm I ni
def S169_10 (j24 : Nat → Nat → Nat → Nat → Nat → Nat → Nat → Nat → Res) (t4 t6 t7 t11 t12 M nm I ni : Nat) : Res :=
 jn (fun (t4 t6 t11 t12 M nm I ni : Nat) =>
 j24 t4 t6 t12 t11 M nm I ni) fun j28 =>
 jn (S169_9 j28) fun j90 =>
 ln t7 fun v92 =>
 j90 t4 t6 t11 t12 t7 v92 295147905179352825861 M nm I ni
def S169_11 (j24 : Nat → Nat → Nat → Nat → Nat → Nat → Nat → Nat → Res) (t4 t6 t7 t11 M nm I ni : Nat) : Res :=
 jn (S169_10 j24) fun j94 =>
 bldSK 0 2 23384026197294446691655098136326997907641993265157 [] zf M nm I ni fun v95 M nm I ni =>
 j94 t4 t6 t7 t11 v95 M nm I ni
def S169_12 (n25 : Nat) (j24 : Nat → Nat → Nat → Nat → Nat → Nat → Nat → Nat → Res) (t4 t6 t7 t11 M nm I ni : Nat) : Res :=
 jn (S169_11 j24) fun j97 =>
 ln t7 fun v100 =>
 sbt n25 t11 v100 fun v101 =>
 j97 t4 t6 t7 v101 M nm I ni
def S169_13 (j23 : Nat → Nat → Nat → Nat → Nat → Res) (n25 : Nat) (j24 : Nat → Nat → Nat → Nat → Nat → Nat → Nat → Nat → Res) (t4 t6 t7 t11 M nm I ni : Nat) : Res :=
 jn (S169_12 n25 j24) fun j103 =>
 lt 5 295147905179352825925 t11 fun v105 =>
 cnd v105 (j103 t4 t6 t7 t11 M nm I ni)
 (j23 t7 M nm I ni)
def S169_14 (j23 : Nat → Nat → Nat → Nat → Nat → Res) (t4 t6 t7 t11 M nm I ni : Nat) : Res :=
 lp (S169_13 j23) (fun _ _ _ _ _ _ _ _ => .bad 73 0) t4 t6 t7 t11 M nm I ni
def S169_15 (call : CallT) (kf : KF) (t1 t4 t6 t7 M nm I ni : Nat) : Res :=
 jn (S169_2 call kf) fun j23 =>
 jn (S169_14 j23) fun j106 =>
 fa 0 t1 fun v107 =>
 ld v107 M fun v108 =>
 ln v108 fun v109 =>
 fa 1 t1 fun v110 =>
 ld v110 M fun v111 =>
 ln v111 fun v112 =>
 ad v109 v112 fun v113 =>
 j106 t4 t6 t7 v113 M nm I ni
def S169_16 (j120 : Nat → Nat → Nat → Nat → Nat → Nat → Nat → Nat → Nat → Res) (n122 : Nat) (j121 : Nat → Nat → Nat → Nat → Nat → Nat → Nat → Nat → Nat → Nat → Nat → Nat → Nat → Res) (t1 t4 t6 t7 t8 t36 t41 t42 t43 M nm I ni : Nat) : Res :=
 lt 5 t43 t42 fun v123 =>
 cnd v123 (ia 1 t41 t43 fun v125 =>
 ld v125 M fun v126 =>
 iadrAK 2 1 (.k t6) (.k t8) zf I ni fun v130 I ni =>
 ld v130 M fun v131 =>
 ln v126 fun v134 =>
 ia 1 v131 t43 fun v135 =>
 storeK 1 (.k v135) (.k v134) zf M nm I ni fun _ M nm I ni =>
 ln v126 fun v137 =>
 ge 5 295147905179352825893 v137 fun v138 =>
 cnd v138 (buildK 2 23384026197294446691655098136326997907641993265157 [(0, 1, (.k t8)), (1, 1, (.k t43))] zf I ni fun v142 I ni =>
 bldSK 1 2 23384026197294446691655098136326997907641993265157 [(0, 2, (.k v142))] zf M nm I ni fun v143 M nm I ni =>
 appW 2 t7 v143 M nm I ni fun v144 M nm I ni =>
 adt n122 t43 295147905179352825893 fun v146 =>
 j121 t1 t4 t6 v144 t8 t36 t41 t42 v146 M nm I ni)
 (adt n122 t43 295147905179352825893 fun v148 =>
 j121 t1 t4 t6 t7 t8 t36 t41 t42 v148 M nm I ni))
 (j120 t1 t4 t6 t7 t36 M nm I ni)
def S169_17 (j120 : Nat → Nat → Nat → Nat → Nat → Nat → Nat → Nat → Nat → Res) (t1 t4 t6 t7 t8 t36 t41 t42 t43 M nm I ni : Nat) : Res :=
 lp (S169_16 j120) (fun _ _ _ _ _ _ _ _ _ _ _ _ _ => .bad 73 0) t1 t4 t6 t7 t8 t36 t41 t42 t43 M nm I ni
def S169_18 (j120 : Nat → Nat → Nat → Nat → Nat → Nat → Nat → Nat → Nat → Res) (t1 t4 t6 t7 t8 t36 M nm I ni : Nat) : Res :=
 jn (S169_17 j120) fun j150 =>
 iadrAK 2 1 (.k t4) (.k t8) zf I ni fun v152 I ni =>
 ld v152 M fun v153 =>
 ln v153 fun v154 =>
 j150 t1 t4 t6 t7 t8 t36 v153 v154 295147905179352825861 M nm I ni
def S169_19 (n117 : Nat) (j116 : Nat → Nat → Nat → Nat → Nat → Nat → Nat → Nat → Nat → Res) (t1 t4 t6 t7 t36 M nm I ni : Nat) : Res :=
 jn (fun (t1 t4 t6 t7 t36 M nm I ni : Nat) =>
 adt n117 t36 295147905179352825893 fun v118 =>
 j116 t1 t4 t6 t7 v118 M nm I ni) fun j120 =>
 jn (S169_18 j120) fun j156 =>
 j156 t1 t4 t6 t7 t36 t36 M nm I ni
def S169_20 (j115 : Nat → Nat → Nat → Nat → Nat → Nat → Nat → Nat → Res) (n117 : Nat) (j116 : Nat → Nat → Nat → Nat → Nat → Nat → Nat → Nat → Nat → Res) (t1 t4 t6 t7 t36 t37 M nm I ni : Nat) : Res :=
 jn (S169_19 n117 j116) fun j159 =>
 cnd t37 (j159 t1 t4 t6 t7 t36 M nm I ni)
 (j115 t1 t4 t6 t7 M nm I ni)
def S169_21 (j115 : Nat → Nat → Nat → Nat → Nat → Nat → Nat → Nat → Res) (n117 : Nat) (j116 : Nat → Nat → Nat → Nat → Nat → Nat → Nat → Nat → Nat → Res) (t1 t4 t6 t7 t36 M nm I ni : Nat) : Res :=
 jn (S169_20 j115 n117 j116) fun j160 =>
 lt 5 t36 295147905179352825925 fun v161 =>
 j160 t1 t4 t6 t7 t36 v161 M nm I ni
def S169_22 (j115 : Nat → Nat → Nat → Nat → Nat → Nat → Nat → Nat → Res) (t1 t4 t6 t7 t36 M nm I ni : Nat) : Res :=
 lp (S169_21 j115) (fun _ _ _ _ _ _ _ _ _ => .bad 73 0) t1 t4 t6 t7 t36 M nm I ni
def S169_23 (call : CallT) (kf : KF) (t1 t4 t6 t7 M nm I ni : Nat) : Res :=
 jn (S169_15 call kf) fun j115 =>
 jn (S169_22 j115) fun j162 =>
 j162 t1 t4 t6 t7 295147905179352825861 M nm I ni
def S169_24 (call : CallT) (kf : KF) (t1 t4 t6 M nm I ni : Nat) : Res :=
 jn (S169_23 call kf) fun j164 =>
 bldSK 0 2 23384026197294446691655098136326997907641993265157 [] zf M nm I ni fun v165 M nm I ni =>
 j164 t1 t4 t6 v165 M nm I ni
def S169_25 (call : CallT) (kf : KF) (t1 t4 M nm I ni : Nat) : Res :=
 jn (S169_24 call kf) fun j167 =>
 fa 0 t1 fun v168 =>
 ld v168 M fun v169 =>
 ln v169 fun v170 =>
 mkSlK 1 295147905179352825861 (.k v170) (.k v170) zf M nm I ni fun v171 M nm I ni =>
 fa 1 t1 fun v172 =>
 ld v172 M fun v173 =>
 ln v173 fun v174 =>
 mkSlK 1 295147905179352825861 (.k v174) (.k v174) zf M nm I ni fun v175 M nm I ni =>
 buildK 2 871509787656907713528983453707 [(0, 1, (.k v171)), (1, 1, (.k v175))] zf I ni fun v176 I ni =>
 newK 2 871509787656907713528983453707 M nm I ni fun v177 M nm I ni =>
 storeK 2 (.k v177) (.k v176) zf M nm I ni fun _ M nm I ni =>
 j167 t1 t4 v177 M nm I ni
def S169_26 (call : CallT) (kf : KF) (t1 t4 t5 M nm I ni : Nat) : Res :=
 jn (S169_25 call kf) fun j178 =>
 notK (.k t5) zf I ni fun v180 I ni =>
 cnd v180 (rtn 2 [1, 295147905179352825829] M nm I ni kf)
 (j178 t1 t4 M nm I ni)
def S169_27 (call : CallT) (kf : KF) (t1 M nm I ni : Nat) : Res :=
 jn (S169_26 call kf) fun j183 =>
 loadNK 3 (.k t1) zf M I ni fun v184 I ni =>
 call 185 [v184] M nm I ni fun v185 M nm I ni =>
 f1 19 0 v185 I fun v187 =>
 f1 19 1 v185 I fun v188 =>
 newK 2 871509787656907713528983453707 M nm I ni fun v189 M nm I ni =>
 storeK 2 (.k v189) (.k v187) zf M nm I ni fun _ M nm I ni =>
 j183 t1 v189 v188 M nm I ni
def F169 (call : CallT) (t0 M nm I ni : Nat) (kf : KF) : Res :=
 jn (S169_27 call kf) fun j191 =>
 boxK 3 (.k t0) zf M nm I ni fun v192 M nm I ni =>
 j191 v192 M nm I ni
def g169 (call : CallT) : List Nat → Nat → Nat → Nat → Nat → KF → Res := unS fun t0 => un0 (F169 call t0)
/- (*fretwork/bough.block).weigh -/
def S225_1 (call : CallT) (kf : KF) (t0 t6 M nm I ni : Nat) : Res :=
 nilcK (.k t0) zf I ni fun v2 I ni =>
 fa 1 v2 fun v3 =>
 ld v3 M fun v4 =>
 call 227 [v4, t6] M nm I ni fun v6 M nm I ni =>
 f1 19 0 v6 I fun v8 =>
 f1 19 1 v6 I fun v9 =>
 newK 2 871509787656907713528983453707 M nm I ni fun v10 M nm I ni =>
 storeK 2 (.k v10) (.k v8) zf M nm I ni fun _ M nm I ni =>
 loadNK 2 (.k v10) zf M I ni fun v13 I ni =>
 nilcK (.k t0) zf I ni fun v14 I ni =>
 fa 3 v14 fun v15 =>
 storeK 2 (.k v15) (.k v13) zf M nm I ni fun _ M nm I ni =>
 fa 0 v10 fun v16 =>
 ld v16 M fun v17 =>
 rtn 2 [v17, v9] M nm I ni kf
def S225_2 (n23 : Nat) (j26 : Nat → Nat → Nat → Nat → Nat → Nat → Nat → Nat → Nat → Nat → Res) (t0 t1 t6 t8 t9 t23 t24 t25 M nm I ni : Nat) : Res :=
 jn (fun (t0 t1 t6 t9 t23 t24 t25 M nm I ni : Nat) =>
 bldSK 1 1 295147905179352825861 [(0, 1, (.k t9))] zf M nm I ni fun v29 M nm I ni =>
 appW 1 t6 v29 M nm I ni fun v30 M nm I ni =>
 j26 t0 t1 v30 t23 t24 t25 M nm I ni) fun j32 =>
 nilcK (.k t1) zf I ni fun v34 I ni =>
 fa 8 v34 fun v35 =>
 ld v35 M fun v36 =>
 lookW (.word 5) true false 1 295147905179352825861 v36 t8 M I ni fun v38 I ni =>
 f1 19 0 v38 I fun v40 =>
 f1 19 1 v38 I fun v41 =>
 cnd v41 (nilcK (.k t1) zf I ni fun v46 I ni =>
 fa 7 v46 fun v47 =>
 ld v47 M fun v48 =>
 adt n23 295147905179352825893 v48 fun v49 =>
 nilcK (.k t1) zf I ni fun v51 I ni =>
 fa 5 v51 fun v52 =>
 ld v52 M fun v53 =>
 ia 1 v53 v40 fun v55 =>
 ld v55 M fun v56 =>
 adt n23 v49 v56 fun v57 =>
 nilcK (.k t1) zf I ni fun v61 I ni =>
 fa 3 v61 fun v62 =>
 ld v62 M fun v63 =>
 nilcK (.k t0) zf I ni fun v65 I ni =>
 fa 0 v65 fun v66 =>
 ld v66 M fun v67 =>
 ia 1 v63 v67 fun v68 =>
 ld v68 M fun v69 =>
 eq 5 v40 v69 fun v70 =>
 cnd v70 (j32 t0 t1 t6 295147905179352825861 t23 t24 t25 M nm I ni)
 (j32 t0 t1 t6 v57 t23 t24 t25 M nm I ni))
 (j32 t0 t1 t6 t9 t23 t24 t25 M nm I ni)
def S225_3 (n23 : Nat) (j26 : Nat → Nat → Nat → Nat → Nat → Nat → Nat → Nat → Nat → Nat → Res) (t0 t1 t6 t8 t23 t24 t25 M nm I ni : Nat) : Res :=
 jn (S225_2 n23 j26) fun j72 =>
 nilcK (.k t1) zf I ni fun v74 I ni =>
 fa 6 v74 fun v75 =>
 ld v75 M fun v76 =>
 ia 1 v76 t8 fun v78 =>
 ld v78 M fun v79 =>
 adt n23 295147905179352825893 v79 fun v80 =>
 j72 t0 t1 t6 t8 v80 t23 t24 t25 M nm I ni
def S225_4 (n23 : Nat) (j22 : Nat → Nat → Nat → Nat → Nat → Nat → Nat → Nat → Nat → Nat → Res) (t0 t1 t6 t23 t24 t25 M nm I ni : Nat) : Res :=
 jn (fun (t0 t1 t6 t23 t24 t25 M nm I ni : Nat) =>
 adt n23 t25 295147905179352825893 fun v24 =>
 j22 t0 t1 t6 t23 t24 v24 M nm I ni) fun j26 =>
 jn (S225_3 n23 j26) fun j82 =>
 ia 1 t23 t25 fun v83 =>
 ld v83 M fun v84 =>
 j82 t0 t1 t6 v84 t23 t24 t25 M nm I ni
def S225_5 (j21 : Nat → Nat → Nat → Nat → Nat → Nat → Res) (n23 : Nat) (j22 : Nat → Nat → Nat → Nat → Nat → Nat → Nat → Nat → Nat → Nat → Res) (t0 t1 t6 t23 t24 t25 t26 M nm I ni : Nat) : Res :=
 jn (S225_4 n23 j22) fun j86 =>
 cnd t26 (j86 t0 t1 t6 t23 t24 t25 M nm I ni)
 (j21 t0 t6 M nm I ni)
def S225_6 (j21 : Nat → Nat → Nat → Nat → Nat → Nat → Res) (n23 : Nat) (j22 : Nat → Nat → Nat → Nat → Nat → Nat → Nat → Nat → Nat → Nat → Res) (t0 t1 t6 t23 t24 t25 M nm I ni : Nat) : Res :=
 jn (S225_5 j21 n23 j22) fun j87 =>
 lt 5 t25 t24 fun v88 =>
 j87 t0 t1 t6 t23 t24 t25 v88 M nm I ni
def S225_7 (j21 : Nat → Nat → Nat → Nat → Nat → Nat → Res) (t0 t1 t6 t23 t24 t25 M nm I ni : Nat) : Res :=
 lp (S225_6 j21) (fun _ _ _ _ _ _ _ _ _ _ => .bad 73 0) t0 t1 t6 t23 t24 t25 M nm I ni
def S225_8 (call : CallT) (kf : KF) (t0 t1 t6 M nm I ni : Nat) : Res :=
 jn (S225_1 call kf) fun j21 =>
 jn (S225_7 j21) fun j89 =>
 nilcK (.k t0) zf I ni fun v91 I ni =>
 fa 2 v91 fun v92 =>
 ld v92 M fun v93 =>
 ln v93 fun v94 =>
 j89 t0 t1 t6 v93 v94 295147905179352825861 M nm I ni
def S225_9 (call : CallT) (kf : KF) (t0 t1 M nm I ni : Nat) : Res :=
 jn (S225_8 call kf) fun j96 =>
 nilcK (.k t0) zf I ni fun v98 I ni =>
 fa 2 v98 fun v99 =>
 ld v99 M fun v100 =>
 ln v100 fun v101 =>
 mkSlK 1 295147905179352825861 (.k 295147905179352825861) (.k v101) zf M nm I ni fun v102 M nm I ni =>
 j96 t0 t1 v102 M nm I ni
def F225 (call : CallT) (t0 t1 M nm I ni : Nat) (kf : KF) : Res :=
 jn (S225_9 call kf) fun j104 =>
 j104 t0 t1 M nm I ni
def g225 (call : CallT) : List Nat → Nat → Nat → Nat → Nat → KF → Res := unS fun t0 => unS fun t1 => un0 (F225 call t0 t1)
/- slices.pdqsortOrdered[int] -/
def S90_1 (call : CallT) (n2 : Nat) (j1 : Nat → Nat → Nat → Nat → Nat → Nat → Nat → Nat → Nat → Nat → Res) (t0 t1 t2 t3 t8 t9 t10 t11 M nm I ni : Nat) : Res :=
 lt 5 295147905179352825861 t1 fun v4 =>
 jn (fun (v18 M nm I ni : Nat) =>
 pk v4 v18 1 fun v19 =>
 cnd v19 (call 135 [t0, t1, t2, t11] M nm I ni fun v24 M nm I ni =>
 j1 t0 v24 t2 t3 t8 t9 M nm I ni)
 (call 136 [t0, t1, t2, t11] M nm I ni fun v32 M nm I ni =>
 f1 19 0 v32 I fun v34 =>
 f1 19 1 v32 I fun v35 =>
 sbt n2 v34 t1 fun v42 =>
 sbt n2 t2 v34 fun v45 =>
 iopK .quo .i64 (.k t10) (.k 295147905179352826117) zf I ni fun v49 I ni => tkk n2 v49 fun v50 =>
 lt 5 v42 v45 fun v54 =>
 cnd v54 (ge 5 v42 v50 fun v57 =>
 call 90 [t0, t1, v34, t3] M nm I ni fun v63 M nm I ni =>
 adt n2 v34 295147905179352825893 fun v65 =>
 j1 t0 v65 t2 t3 v57 v35 M nm I ni)
 (ge 5 v45 v50 fun v69 =>
 adt n2 v34 295147905179352825893 fun v73 =>
 call 90 [t0, v73, t2, t3] M nm I ni fun v76 M nm I ni =>
 j1 t0 t1 v34 t3 v69 v35 M nm I ni)))
 (fun j6 => gd v4 33 (sbt n2 t1 295147905179352825893 fun v9 =>
 ia 1 t0 v9 fun v10 =>
 ld v10 M fun v11 =>
 ia 1 t0 t11 fun v14 =>
 ld v14 M fun v15 =>
 call 91 [v11, v15] M nm I ni fun v16 M nm I ni =>
 notK (.k v16) zf I ni fun v17 I ni =>
 j6 v17 M nm I ni) (j6 0 M nm I ni))
def S90_2 (call : CallT) (kf : KF) (n2 : Nat) (j1 : Nat → Nat → Nat → Nat → Nat → Nat → Nat → Nat → Nat → Nat → Res) (t0 t1 t2 t3 t8 t9 t10 t11 t12 M nm I ni : Nat) : Res :=
 jn (S90_1 call n2 j1) fun j79 =>
 jn (fun (v84 : Nat) =>
 pk t8 v84 1 fun v85 =>
 jn (fun (v90 : Nat) =>
 pk v85 v90 1 fun v91 =>
 cnd v91 (call 134 [t0, t1, t2] M nm I ni fun v95 M nm I ni =>
 cnd v95 (rtn 0 [] M nm I ni kf)
 (j79 t0 t1 t2 t3 t8 t9 t10 t11 M nm I ni))
 (j79 t0 t1 t2 t3 t8 t9 t10 t11 M nm I ni))
 (fun j87 => gd v85 33 (eq 5 t12 295147905179352825893 fun v89 =>
 j87 v89) (j87 0)))
 (fun j82 => gd t8 33 (j82 t9) (j82 0))
def S90_3 (call : CallT) (kf : KF) (n2 : Nat) (j1 : Nat → Nat → Nat → Nat → Nat → Nat → Nat → Nat → Nat → Nat → Res) (t0 t1 t2 t3 t8 t9 t10 t11 t12 M nm I ni : Nat) : Res :=
 jn (S90_2 call kf n2 j1) fun j96 =>
 eq 5 t12 295147905179352825925 fun v98 =>
 cnd v98 (call 133 [t0, t1, t2] M nm I ni fun v102 M nm I ni =>
 sbt n2 t2 295147905179352825893 fun v104 =>
 sbt n2 t11 t1 fun v107 =>
 sbt n2 v104 v107 fun v108 =>
 j96 t0 t1 t2 t3 t8 t9 t10 v108 295147905179352825893 M nm I ni)
 (j96 t0 t1 t2 t3 t8 t9 t10 t11 t12 M nm I ni)
def S90_4 (call : CallT) (kf : KF) (n2 : Nat) (j1 : Nat → Nat → Nat → Nat → Nat → Nat → Nat → Nat → Nat → Nat → Res) (t0 t1 t2 t3 t8 t9 t10 M nm I ni : Nat) : Res :=
 jn (S90_3 call kf n2 j1) fun j111 =>
 call 132 [t0, t1, t2] M nm I ni fun v115 M nm I ni =>
 f1 19 0 v115 I fun v117 =>
 f1 19 1 v115 I fun v118 =>
 j111 t0 t1 t2 t3 t8 t9 t10 v117 v118 M nm I ni
def S90_5 (call : CallT) (kf : KF) (n2 : Nat) (j1 : Nat → Nat → Nat → Nat → Nat → Nat → Nat → Nat → Nat → Nat → Res) (t0 t1 t2 t3 t8 t9 t10 M nm I ni : Nat) : Res :=
 jn (S90_4 call kf n2 j1) fun j121 =>
 notK (.k t8) zf I ni fun v123 I ni =>
 cnd v123 (call 131 [t0, t1, t2] M nm I ni fun v127 M nm I ni =>
 sbt n2 t3 295147905179352825893 fun v129 =>
 j121 t0 t1 t2 v129 t8 t9 t10 M nm I ni)
 (j121 t0 t1 t2 t3 t8 t9 t10 M nm I ni)
def S90_6 (call : CallT) (kf : KF) (n2 : Nat) (j1 : Nat → Nat → Nat → Nat → Nat → Nat → Nat → Nat → Nat → Nat → Res) (t0 t1 t2 t3 t8 t9 t10 M nm I ni : Nat) : Res :=
 jn (S90_5 call kf n2 j1) fun j131 =>
 eq 5 t3 295147905179352825861 fun v133 =>
 cnd v133 (call 130 [t0, t1, t2] M nm I ni fun v137 M nm I ni =>
 rtn 0 [] M nm I ni kf)
 (j131 t0 t1 t2 t3 t8 t9 t10 M nm I ni)
def S90_7 (call : CallT) (kf : KF) (n2 : Nat) (j1 : Nat → Nat → Nat → Nat → Nat → Nat → Nat → Nat → Nat → Nat → Res) (t0 t1 t2 t3 t8 t9 t10 M nm I ni : Nat) : Res :=
 jn (S90_6 call kf n2 j1) fun j138 =>
 ge 5 295147905179352826245 t10 fun v140 =>
 cnd v140 (call 129 [t0, t1, t2] M nm I ni fun v144 M nm I ni =>
 rtn 0 [] M nm I ni kf)
 (j138 t0 t1 t2 t3 t8 t9 t10 M nm I ni)
def S90_8 (call : CallT) (kf : KF) (n2 : Nat) (j1 : Nat → Nat → Nat → Nat → Nat → Nat → Nat → Nat → Nat → Nat → Res) (t0 t1 t2 t3 t8 t9 M nm I ni : Nat) : Res :=
 jn (S90_7 call kf n2 j1) fun j145 =>
 sbt n2 t2 t1 fun v148 =>
 j145 t0 t1 t2 t3 t8 t9 v148 M nm I ni
def S90_9 (call : CallT) (kf : KF) (t0 t1 t2 t3 t8 t9 M nm I ni : Nat) : Res :=
 lp (S90_8 call kf) (fun _ _ _ _ _ _ _ _ _ _ => .bad 73 0) t0 t1 t2 t3 t8 t9 M nm I ni
def S90_10 (call : CallT) (kf : KF) (t0 t1 t2 t3 t8 M nm I ni : Nat) : Res :=
 jn (S90_9 call kf) fun j150 =>
 j150 t0 t1 t2 t3 t8 33 M nm I ni
def F90 (call : CallT) (t0 t1 t2 t3 M nm I ni : Nat) (kf : KF) : Res :=
 jn (S90_10 call kf) fun j152 =>
 j152 t0 t1 t2 t3 33 M nm I ni
def g90 (call : CallT) : List Nat → Nat → Nat → Nat → Nat → KF → Res := unS fun t0 => unS fun t1 => unS fun t2 => unS fun t3 => un0 (F90 call t0 t1 t2 t3)
/- fretwork/graph.Bytes -/
def S34_1 (call : CallT) (kf : KF) (j15 : Nat → Nat → Nat → Nat → Nat → Res) (n17 : Nat) (j16 : Nat → Nat → Nat → Nat → Nat → Nat → Nat → Nat → Res) (t7 t39 t40 t41 M nm I ni : Nat) : Res :=
 lt 5 t41 t40 fun v18 =>
 cnd v18 (ia 1 t39 t41 fun v19 =>
 ld v19 M fun v20 =>
 loadNK 2 (.k t7) zf M I ni fun v22 I ni =>
 convK .i64 .u64 (.k v20) zf I ni fun v24 I ni =>
 call 62 [v22, v24] M nm I ni fun v25 M nm I ni =>
 f1 19 0 v25 I fun v27 =>
 f1 19 1 v25 I fun v28 =>
 newK 2 23384026197294446691655098136031850002462640439307 M nm I ni fun v29 M nm I ni =>
 storeK 2 (.k v29) (.k v27) zf M nm I ni fun _ M nm I ni =>
 ne 5 v28 295147905179352825861 fun v32 =>
 cnd v32 (rtn 2 [11, 295147905179352826501] M nm I ni kf)
 (loadNK 2 (.k v29) zf M I ni fun v35 I ni =>
 storeK 2 (.k t7) (.k v35) zf M nm I ni fun _ M nm I ni =>
 adt n17 t41 295147905179352825893 fun v36 =>
 j16 t7 t39 t40 v36 M nm I ni))
 (j15 t7 M nm I ni)
def S34_2 (call : CallT) (kf : KF) (j15 : Nat → Nat → Nat → Nat → Nat → Res) (t7 t39 t40 t41 M nm I ni : Nat) : Res :=
 lp (S34_1 call kf j15) (fun _ _ _ _ _ _ _ _ => .bad 73 0) t7 t39 t40 t41 M nm I ni
def S34_3 (call : CallT) (kf : KF) (t4 t7 M nm I ni : Nat) : Res :=
 jn (fun (t7 M nm I ni : Nat) =>
 loadNK 2 (.k t7) zf M I ni fun v1 I ni =>
 call 63 [v1] M nm I ni fun v2 M nm I ni =>
 f1 19 0 v2 I fun v4 =>
 f1 19 1 v2 I fun v5 =>
 ne 5 v5 295147905179352825861 fun v9 =>
 cnd v9 (rtn 2 [11, 295147905179352826501] M nm I ni kf)
 (rtn 2 [v4, 295147905179352825861] M nm I ni kf)) fun j15 =>
 jn (S34_2 call kf j15) fun j38 =>
 ln t4 fun v40 =>
 j38 t7 t4 v40 295147905179352825861 M nm I ni
def S34_4 (call : CallT) (kf : KF) (t4 M nm I ni : Nat) : Res :=
 jn (S34_3 call kf) fun j42 =>
 buildK 2 23384026197294446691655098136031850002462640439307 [] zf I ni fun v43 I ni =>
 newK 2 23384026197294446691655098136031850002462640439307 M nm I ni fun v44 M nm I ni =>
 storeK 2 (.k v44) (.k v43) zf M nm I ni fun _ M nm I ni =>
 j42 t4 v44 M nm I ni
def S34_5 (j45 : Nat → Nat → Nat → Nat → Nat → Res) (n47 : Nat) (j46 : Nat → Nat → Nat → Nat → Nat → Nat → Nat → Nat → Res) (t4 t24 t25 t26 M nm I ni : Nat) : Res :=
 lt 5 t26 t25 fun v48 =>
 cnd v48 (ia 2 t24 t26 fun v49 =>
 loadNK 2 (.k v49) zf M I ni fun v50 I ni =>
 newK 2 23384026197294446691655098136326997907641993265157 M nm I ni fun v51 M nm I ni =>
 storeK 2 (.k v51) (.k v50) zf M nm I ni fun _ M nm I ni =>
 iadrAK 2 1 (.k v51) (.k 295147905179352825861) zf I ni fun v53 I ni =>
 ld v53 M fun v54 =>
 iadrAK 2 1 (.k v51) (.k 295147905179352825893) zf I ni fun v55 I ni =>
 ld v55 M fun v56 =>
 bldSK 2 1 295147905179352825861 [(0, 1, (.k v54)), (1, 1, (.k v56))] zf M nm I ni fun v57 M nm I ni =>
 appW 1 t4 v57 M nm I ni fun v58 M nm I ni =>
 adt n47 t26 295147905179352825893 fun v60 =>
 j46 v58 t24 t25 v60 M nm I ni)
 (j45 t4 M nm I ni)
def S34_6 (j45 : Nat → Nat → Nat → Nat → Nat → Res) (t4 t24 t25 t26 M nm I ni : Nat) : Res :=
 lp (S34_5 j45) (fun _ _ _ _ _ _ _ _ => .bad 73 0) t4 t24 t25 t26 M nm I ni
def S34_7 (call : CallT) (kf : KF) (t1 t4 M nm I ni : Nat) : Res :=
 jn (S34_4 call kf) fun j45 =>
 jn (S34_6 j45) fun j62 =>
 fa 1 t1 fun v63 =>
 ld v63 M fun v64 =>
 ln v64 fun v65 =>
 j62 t4 v64 v65 295147905179352825861 M nm I ni
def S34_8 (call : CallT) (kf : KF) (t1 M nm I ni : Nat) : Res :=
 jn (S34_7 call kf) fun j67 =>
 fa 0 t1 fun v68 =>
 ld v68 M fun v69 =>
 fa 1 t1 fun v70 =>
 ld v70 M fun v71 =>
 ln v71 fun v72 =>
 bldSK 2 1 295147905179352825861 [(0, 1, (.k v69)), (1, 1, (.k v72))] zf M nm I ni fun v73 M nm I ni =>
 j67 t1 v73 M nm I ni
def S34_9 (call : CallT) (kf : KF) (t1 M nm I ni : Nat) : Res :=
 jn (S34_8 call kf) fun j75 =>
 loadNK 2 (.k t1) zf M I ni fun v76 I ni =>
 call 22 [v76] M nm I ni fun v77 M nm I ni =>
 notK (.k v77) zf I ni fun v78 I ni =>
 cnd v78 (rtn 2 [11, 295147905179352826501] M nm I ni kf)
 (j75 t1 M nm I ni)
def F34 (call : CallT) (t0 M nm I ni : Nat) (kf : KF) : Res :=
 jn (S34_9 call kf) fun j81 =>
 boxK 2 (.k t0) zf M nm I ni fun v82 M nm I ni =>
 j81 v82 M nm I ni
def g34 (call : CallT) : List Nat → Nat → Nat → Nat → Nat → KF → Res := unS fun t0 => un0 (F34 call t0)
/- fretwork/low.Blocks -/
def S166_1 (kf : KF) (t12 t13 t17 M nm I ni : Nat) : Res :=
 jn (fun (t17 M nm I ni : Nat) =>
 rtn 2 [t17, 295147905179352825861] M nm I ni kf) fun j4 =>
 jn (fun (t12 t17 t107 t108 t109 M nm I ni : Nat) =>
 lp (fun (n6 : Nat) (j5 : Nat → Nat → Nat → Nat → Nat → Nat → Nat → Nat → Nat → Res) (t12 t17 t107 t108 t109 M nm I ni : Nat) =>
 lt 5 t109 t108 fun v7 =>
 cnd v7 (ia 1 t107 t109 fun v9 =>
 ld v9 M fun v10 =>
 lookW (.word 5) false false 1 11 t12 v10 M I ni fun v17 I ni =>
 ia 1 t17 t109 fun v18 =>
 storeK 1 (.k v18) (.k v17) zf M nm I ni fun _ M nm I ni =>
 adt n6 t109 295147905179352825893 fun v19 =>
 j5 t12 t17 t107 t108 v19 M nm I ni)
 (j4 t17 M nm I ni)) (fun _ _ _ _ _ _ _ _ _ => .bad 73 0) t12 t17 t107 t108 t109 M nm I ni) fun j21 =>
 ln t13 fun v23 =>
 j21 t12 t17 t13 v23 295147905179352825861 M nm I ni
def S166_2 (kf : KF) (t12 t13 M nm I ni : Nat) : Res :=
 jn (S166_1 kf) fun j25 =>
 ln t13 fun v27 =>
 mkSlK 1 11 (.k v27) (.k v27) zf M nm I ni fun v28 M nm I ni =>
 j25 t12 t13 v28 M nm I ni
def S166_3 (j35 : Nat → Nat → Nat → Nat → Nat → Nat → Nat → Nat → Nat → Nat → Nat → Res) (t7 t11 t12 t13 t15 t16 t74 t75 t76 M nm I ni : Nat) : Res :=
 jn (fun (t7 t11 t12 t13 t15 t16 t74 t75 t76 M nm I ni : Nat) =>
 lookW (.word 5) false false 1 11 t12 t16 M I ni fun v40 I ni =>
 loadNK 2 (.k t15) zf M I ni fun v41 I ni =>
 bldSK 1 2 23384026197294446691655098136326997907641993265157 [(0, 2, (.k v41))] zf M nm I ni fun v42 M nm I ni =>
 appW 2 v40 v42 M nm I ni fun v43 M nm I ni =>
 updW (.word 5) t12 t16 v43 M nm I ni fun _ M nm I ni =>
 j35 t7 t11 t12 t13 t74 t75 t76 M nm I ni) fun j44 =>
 lookW (.word 5) false false 1 11 t12 t16 M I ni fun v47 I ni =>
 ln v47 fun v48 =>
 eq 5 v48 295147905179352825861 fun v49 =>
 cnd v49 (bldSK 1 1 295147905179352825861 [(0, 1, (.k t16))] zf M nm I ni fun v52 M nm I ni =>
 appW 1 t13 v52 M nm I ni fun v53 M nm I ni =>
 j44 t7 t11 t12 v53 t15 t16 t74 t75 t76 M nm I ni)
 (j44 t7 t11 t12 t13 t15 t16 t74 t75 t76 M nm I ni)
def S166_4 (call : CallT) (j35 : Nat → Nat → Nat → Nat → Nat → Nat → Nat → Nat → Nat → Nat → Nat → Res) (t7 t11 t12 t13 t15 t74 t75 t76 M nm I ni : Nat) : Res :=
 jn (S166_3 j35) fun j55 =>
 loadNK 2 (.k t15) zf M I ni fun v58 I ni =>
 callvS call (.k t11) [(.k v58)] zf M nm I ni fun v59 M nm I ni =>
 ia 1 t7 v59 fun v60 =>
 ld v60 M fun v61 =>
 j55 t7 t11 t12 t13 t15 v61 t74 t75 t76 M nm I ni
def S166_5 (call : CallT) (n32 : Nat) (j31 : Nat → Nat → Nat → Nat → Nat → Nat → Nat → Nat → Nat → Nat → Nat → Res) (t7 t11 t12 t13 t74 t75 t76 M nm I ni : Nat) : Res :=
 jn (fun (t7 t11 t12 t13 t74 t75 t76 M nm I ni : Nat) =>
 adt n32 t76 295147905179352825893 fun v33 =>
 j31 t7 t11 t12 t13 t74 t75 v33 M nm I ni) fun j35 =>
 jn (S166_4 call j35) fun j63 =>
 ia 2 t74 t76 fun v64 =>
 loadNK 2 (.k v64) zf M I ni fun v65 I ni =>
 newK 2 23384026197294446691655098136326997907641993265157 M nm I ni fun v66 M nm I ni =>
 storeK 2 (.k v66) (.k v65) zf M nm I ni fun _ M nm I ni =>
 j63 t7 t11 t12 t13 v66 t74 t75 t76 M nm I ni
def S166_6 (call : CallT) (j30 : Nat → Nat → Nat → Nat → Nat → Nat → Res) (n32 : Nat) (j31 : Nat → Nat → Nat → Nat → Nat → Nat → Nat → Nat → Nat → Nat → Nat → Res) (t7 t11 t12 t13 t74 t75 t76 t77 M nm I ni : Nat) : Res :=
 jn (S166_5 call n32 j31) fun j67 =>
 cnd t77 (j67 t7 t11 t12 t13 t74 t75 t76 M nm I ni)
 (j30 t12 t13 M nm I ni)
def S166_7 (call : CallT) (j30 : Nat → Nat → Nat → Nat → Nat → Nat → Res) (n32 : Nat) (j31 : Nat → Nat → Nat → Nat → Nat → Nat → Nat → Nat → Nat → Nat → Nat → Res) (t7 t11 t12 t13 t74 t75 t76 M nm I ni : Nat) : Res :=
 jn (S166_6 call j30 n32 j31) fun j68 =>
 lt 5 t76 t75 fun v69 =>
 j68 t7 t11 t12 t13 t74 t75 t76 v69 M nm I ni
def S166_8 (call : CallT) (j30 : Nat → Nat → Nat → Nat → Nat → Nat → Res) (t7 t11 t12 t13 t74 t75 t76 M nm I ni : Nat) : Res :=
 lp (S166_7 call j30) (fun _ _ _ _ _ _ _ _ _ _ _ => .bad 73 0) t7 t11 t12 t13 t74 t75 t76 M nm I ni
def S166_9 (call : CallT) (kf : KF) (t1 t7 t11 t12 t13 M nm I ni : Nat) : Res :=
 jn (S166_2 kf) fun j30 =>
 jn (S166_8 call j30) fun j70 =>
 fa 1 t1 fun v71 =>
 ld v71 M fun v72 =>
 ln v72 fun v73 =>
 j70 t7 t11 t12 t13 v72 v73 295147905179352825861 M nm I ni
def S166_10 (call : CallT) (kf : KF) (t1 t7 t11 t12 M nm I ni : Nat) : Res :=
 jn (S166_9 call kf) fun j75 =>
 bldSK 0 1 295147905179352825861 [] zf M nm I ni fun v76 M nm I ni =>
 j75 t1 t7 t11 t12 v76 M nm I ni
def S166_11 (call : CallT) (kf : KF) (t1 t7 t11 M nm I ni : Nat) : Res :=
 jn (S166_10 call kf) fun j78 =>
 mkMapK M nm I ni fun v79 M nm I ni =>
 j78 t1 t7 t11 v79 M nm I ni
def S166_12 (call : CallT) (kf : KF) (t1 t4 t7 M nm I ni : Nat) : Res :=
 jn (S166_11 call kf) fun j81 =>
 mkfK 184 1 [(.k t4)] zf I ni fun v82 I ni =>
 j81 t1 t7 v82 M nm I ni
def S166_13 (j84 : Nat → Nat → Nat → Nat → Nat → Nat → Nat → Res) (n86 : Nat) (j85 : Nat → Nat → Nat → Nat → Nat → Nat → Nat → Nat → Nat → Nat → Res) (t1 t4 t7 t32 t33 t34 M nm I ni : Nat) : Res :=
 lt 5 t34 t33 fun v87 =>
 cnd v87 (ia 1 t32 t34 fun v88 =>
 ld v88 M fun v89 =>
 ia 1 t7 v89 fun v94 =>
 storeK 1 (.k v94) (.k v89) zf M nm I ni fun _ M nm I ni =>
 ld t4 M fun v95 =>
 ia 3 v95 v89 fun v97 =>
 fa 1 v97 fun v98 =>
 ld v98 M fun v99 =>
 ge 5 v99 295147905179352825861 fun v102 =>
 jn (fun (v116 : Nat) =>
 pk v102 v116 1 fun v117 =>
 cnd v117 (ia 1 t7 v99 fun v122 =>
 ld v122 M fun v123 =>
 ia 1 t7 v89 fun v124 =>
 storeK 1 (.k v124) (.k v123) zf M nm I ni fun _ M nm I ni =>
 adt n86 t34 295147905179352825893 fun v125 =>
 j85 t1 t4 t7 t32 t33 v125 M nm I ni)
 (adt n86 t34 295147905179352825893 fun v127 =>
 j85 t1 t4 t7 t32 t33 v127 M nm I ni))
 (fun j104 => gd v102 33 (ld t4 M fun v105 =>
 ia 3 v105 v89 fun v107 =>
 fa 2 v107 fun v108 =>
 ld v108 M fun v109 =>
 ld t4 M fun v110 =>
 ia 3 v110 v99 fun v112 =>
 fa 0 v112 fun v113 =>
 ld v113 M fun v114 =>
 lt 5 v109 v114 fun v115 =>
 j104 v115) (j104 0)))
 (j84 t1 t4 t7 M nm I ni)
def S166_14 (j84 : Nat → Nat → Nat → Nat → Nat → Nat → Nat → Res) (t1 t4 t7 t32 t33 t34 M nm I ni : Nat) : Res :=
 lp (S166_13 j84) (fun _ _ _ _ _ _ _ _ _ _ => .bad 73 0) t1 t4 t7 t32 t33 t34 M nm I ni
def S166_15 (call : CallT) (kf : KF) (t1 t4 t5 t7 M nm I ni : Nat) : Res :=
 jn (S166_12 call kf) fun j84 =>
 jn (S166_14 j84) fun j129 =>
 ln t5 fun v131 =>
 j129 t1 t4 t7 t5 v131 295147905179352825861 M nm I ni
def S166_16 (call : CallT) (kf : KF) (t1 t4 t5 M nm I ni : Nat) : Res :=
 jn (S166_15 call kf) fun j133 =>
 fa 0 t1 fun v134 =>
 ld v134 M fun v135 =>
 mkSlK 1 295147905179352825861 (.k v135) (.k v135) zf M nm I ni fun v136 M nm I ni =>
 j133 t1 t4 t5 v136 M nm I ni
def S166_17 (call : CallT) (kf : KF) (t1 t4 t5 t6 M nm I ni : Nat) : Res :=
 jn (S166_16 call kf) fun j138 =>
 ne 5 t6 295147905179352825861 fun v140 =>
 cnd v140 (rtn 2 [11, t6] M nm I ni kf)
 (j138 t1 t4 t5 M nm I ni)
def S166_18 (call : CallT) (kf : KF) (t1 M nm I ni : Nat) : Res :=
 jn (S166_17 call kf) fun j144 =>
 loadNK 2 (.k t1) zf M I ni fun v145 I ni =>
 call 183 [v145] M nm I ni fun v146 M nm I ni =>
 f1 19 0 v146 I fun v148 =>
 f1 19 1 v146 I fun v149 =>
 f1 19 2 v146 I fun v150 =>
 newK 1 11 M nm I ni fun v151 M nm I ni =>
 storeK 1 (.k v151) (.k v148) zf M nm I ni fun _ M nm I ni =>
 j144 t1 v151 v149 v150 M nm I ni
def F166 (call : CallT) (t0 M nm I ni : Nat) (kf : KF) : Res :=
 jn (S166_18 call kf) fun j154 =>
 boxK 2 (.k t0) zf M nm I ni fun v155 M nm I ni =>
 j154 v155 M nm I ni
def g166 (call : CallT) : List Nat → Nat → Nat → Nat → Nat → KF → Res := unS fun t0 => un0 (F166 call t0)
/- fretwork/limb.Code -/
def S232_1 (call : CallT) (j7 : Nat → Nat → Nat → Nat → Nat → Nat → Nat → Res) (n9 : Nat) (j8 : Nat → Nat → Nat → Nat → Nat → Nat → Nat → Nat → Nat → Nat → Nat → Res) (t1 t8 t9 t14 t57 t58 t59 M nm I ni : Nat) : Res :=
 lt 5 t59 t58 fun v10 =>
 cnd v10 (ia 3 t57 t59 fun v11 =>
 loadNK 3 (.k v11) zf M I ni fun v12 I ni =>
 newK 3 1852673427797059126808521268839323955668793148457942454848160119256572240068613 M nm I ni fun v13 M nm I ni =>
 storeK 3 (.k v13) (.k v12) zf M nm I ni fun _ M nm I ni =>
 fa 0 v13 fun v15 =>
 ld v15 M fun v16 =>
 call 56 [t8, v16] M nm I ni fun v17 M nm I ni =>
 f1 19 0 v17 I fun v19 =>
 f1 19 1 v17 I fun v20 =>
 fa 1 v13 fun v24 =>
 ld v24 M fun v25 =>
 call 56 [t8, v25] M nm I ni fun v26 M nm I ni =>
 f1 19 0 v26 I fun v28 =>
 f1 19 1 v26 I fun v29 =>
 buildK 2 23384026197294446691655098136326997907641993265157 [(0, 1, (.k v19)), (1, 1, (.k v28))] zf I ni fun v35 I ni =>
 bldSK 1 2 23384026197294446691655098136326997907641993265157 [(0, 2, (.k v35))] zf M nm I ni fun v36 M nm I ni =>
 appW 2 t14 v36 M nm I ni fun v37 M nm I ni =>
 adt n9 t59 295147905179352825893 fun v39 =>
 j8 t1 t8 t9 v37 t57 t58 v39 M nm I ni)
 (j7 t1 t9 t14 M nm I ni)
def S232_2 (call : CallT) (j7 : Nat → Nat → Nat → Nat → Nat → Nat → Nat → Res) (t1 t8 t9 t14 t57 t58 t59 M nm I ni : Nat) : Res :=
 lp (S232_1 call j7) (fun _ _ _ _ _ _ _ _ _ _ _ => .bad 73 0) t1 t8 t9 t14 t57 t58 t59 M nm I ni
def S232_3 (call : CallT) (kf : KF) (t0 t1 t8 t9 t14 M nm I ni : Nat) : Res :=
 jn (fun (t1 t9 t14 M nm I ni : Nat) =>
 call 75 [t1, t9, t14] M nm I ni fun v4 M nm I ni =>
 rtn 2 [v4, 295147905179352825861] M nm I ni kf) fun j7 =>
 jn (S232_2 call j7) fun j41 =>
 ln t0 fun v43 =>
 j41 t1 t8 t9 t14 t0 v43 295147905179352825861 M nm I ni
def S232_4 (call : CallT) (kf : KF) (t0 t1 t8 t9 M nm I ni : Nat) : Res :=
 jn (S232_3 call kf) fun j45 =>
 ln t0 fun v47 =>
 mkSlK 2 23384026197294446691655098136326997907641993265157 (.k 295147905179352825861) (.k v47) zf M nm I ni fun v48 M nm I ni =>
 j45 t0 t1 t8 t9 v48 M nm I ni
def S232_5 (call : CallT) (kf : KF) (t0 t1 t8 t9 M nm I ni : Nat) : Res :=
 jn (S232_4 call kf) fun j50 =>
 ln t8 fun v53 =>
 call 239 [t9, v53] M nm I ni fun v54 M nm I ni =>
 notK (.k v54) zf I ni fun v55 I ni =>
 cnd v55 (rtn 2 [11, 295147905179352831941] M nm I ni kf)
 (j50 t0 t1 t8 t9 M nm I ni)
def S232_6 (call : CallT) (kf : KF) (j58 : Nat → Nat → Nat → Nat → Nat → Nat → Nat → Nat → Res) (n60 : Nat) (j59 : Nat → Nat → Nat → Nat → Nat → Nat → Nat → Nat → Nat → Nat → Nat → Res) (t0 t1 t8 t9 t30 t31 t32 M nm I ni : Nat) : Res :=
 lt 5 t32 t31 fun v61 =>
 cnd v61 (ia 1 t30 t32 fun v62 =>
 ld v62 M fun v63 =>
 call 56 [t8, v63] M nm I ni fun v67 M nm I ni =>
 f1 19 0 v67 I fun v69 =>
 f1 19 1 v67 I fun v70 =>
 notK (.k v70) zf I ni fun v74 I ni =>
 cnd v74 (rtn 2 [11, 295147905179352831941] M nm I ni kf)
 (bldSK 1 1 295147905179352825861 [(0, 1, (.k v69))] zf M nm I ni fun v79 M nm I ni =>
 appW 1 t9 v79 M nm I ni fun v80 M nm I ni =>
 adt n60 t32 295147905179352825893 fun v82 =>
 j59 t0 t1 t8 v80 t30 t31 v82 M nm I ni))
 (j58 t0 t1 t8 t9 M nm I ni)
def S232_7 (call : CallT) (kf : KF) (j58 : Nat → Nat → Nat → Nat → Nat → Nat → Nat → Nat → Res) (t0 t1 t8 t9 t30 t31 t32 M nm I ni : Nat) : Res :=
 lp (S232_6 call kf j58) (fun _ _ _ _ _ _ _ _ _ _ _ => .bad 73 0) t0 t1 t8 t9 t30 t31 t32 M nm I ni
def S232_8 (call : CallT) (kf : KF) (t0 t1 t2 t8 t9 M nm I ni : Nat) : Res :=
 jn (S232_5 call kf) fun j58 =>
 jn (S232_7 call kf j58) fun j84 =>
 ln t2 fun v86 =>
 j84 t0 t1 t8 t9 t2 v86 295147905179352825861 M nm I ni
def S232_9 (call : CallT) (kf : KF) (t0 t1 t2 t8 M nm I ni : Nat) : Res :=
 jn (S232_8 call kf) fun j88 =>
 ln t2 fun v90 =>
 mkSlK 1 295147905179352825861 (.k 295147905179352825861) (.k v90) zf M nm I ni fun v91 M nm I ni =>
 j88 t0 t1 t2 t8 v91 M nm I ni
def S232_10 (call : CallT) (kf : KF) (t0 t1 t2 M nm I ni : Nat) : Res :=
 jn (S232_9 call kf) fun j93 =>
 call 229 [t0] M nm I ni fun v95 M nm I ni =>
 j93 t0 t1 t2 v95 M nm I ni
def S232_11 (call : CallT) (kf : KF) (t0 t1 t2 M nm I ni : Nat) : Res :=
 jn (S232_10 call kf) fun j97 =>
 call 228 [t0, t1] M nm I ni fun v100 M nm I ni =>
 notK (.k v100) zf I ni fun v101 I ni =>
 cnd v101 (rtn 2 [11, 295147905179352831941] M nm I ni kf)
 (j97 t0 t1 t2 M nm I ni)
def F232 (call : CallT) (t0 t1 t2 M nm I ni : Nat) (kf : KF) : Res :=
 jn (S232_11 call kf) fun j104 =>
 j104 t0 t1 t2 M nm I ni
def g232 (call : CallT) : List Nat → Nat → Nat → Nat → Nat → KF → Res := unS fun t0 => unS fun t1 => unS fun t2 => un0 (F232 call t0 t1 t2)
/- fretwork/canon.Tinted -/
def S41_1 (j10 : Nat → Nat → Nat → Nat → Nat → Nat → Nat → Nat → Res) (n12 : Nat) (j11 : Nat → Nat → Nat → Nat → Nat → Nat → Nat → Nat → Nat → Nat → Nat → Res) (t1 t2 t4 t14 t75 t76 t77 M nm I ni : Nat) : Res :=
 lt 5 t77 t76 fun v13 =>
 cnd v13 (ia 2 t75 t77 fun v14 =>
 loadNK 2 (.k v14) zf M I ni fun v15 I ni =>
 newK 2 871509787656907713528983453707 M nm I ni fun v16 M nm I ni =>
 storeK 2 (.k v16) (.k v15) zf M nm I ni fun _ M nm I ni =>
 fa 1 v16 fun v18 =>
 ld v18 M fun v19 =>
 appW 1 t14 v19 M nm I ni fun v20 M nm I ni =>
 adt n12 t77 295147905179352825893 fun v22 =>
 j11 t1 t2 t4 v20 t75 t76 v22 M nm I ni)
 (j10 t1 t2 t4 t14 M nm I ni)
def S41_2 (j10 : Nat → Nat → Nat → Nat → Nat → Nat → Nat → Nat → Res) (t1 t2 t4 t14 t75 t76 t77 M nm I ni : Nat) : Res :=
 lp (S41_1 j10) (fun _ _ _ _ _ _ _ _ _ _ _ => .bad 73 0) t1 t2 t4 t14 t75 t76 t77 M nm I ni
def S41_3 (call : CallT) (kf : KF) (t1 t2 t4 t7 t14 M nm I ni : Nat) : Res :=
 jn (fun (t1 t2 t4 t14 M nm I ni : Nat) =>
 fa 1 t2 fun v3 =>
 ld v3 M fun v4 =>
 call 75 [t1, t14, v4] M nm I ni fun v5 M nm I ni =>
 buildK 2 871509787656907713528983453707 [(0, 1, (.k v5)), (1, 1, (.k t14))] zf I ni fun v7 I ni =>
 storeK 2 (.k t4) (.k v7) zf M nm I ni fun _ M nm I ni =>
 loadNK 2 (.k t4) zf M I ni fun v9 I ni => rtn 2 [v9, 295147905179352825861] M nm I ni kf) fun j10 =>
 jn (S41_2 j10) fun j24 =>
 ln t7 fun v26 =>
 j24 t1 t2 t4 t14 t7 v26 295147905179352825861 M nm I ni
def S41_4 (call : CallT) (kf : KF) (t1 t2 t4 t7 M nm I ni : Nat) : Res :=
 jn (S41_3 call kf) fun j28 =>
 fa 0 t2 fun v29 =>
 ld v29 M fun v30 =>
 mkSlK 1 295147905179352825861 (.k 295147905179352825861) (.k v30) zf M nm I ni fun v31 M nm I ni =>
 j28 t1 t2 t4 t7 v31 M nm I ni
def S41_5 (call : CallT) (kf : KF) (t1 t2 t4 t7 M nm I ni : Nat) : Res :=
 jn (S41_4 call kf) fun j33 =>
 call 73 [t7, 2382] M nm I ni fun v35 M nm I ni =>
 j33 t1 t2 t4 t7 M nm I ni
def S41_6 (j46 : Nat → Nat → Nat → Nat → Nat → Nat → Nat → Nat → Nat → Nat → Nat → Nat → Nat → Res) (n48 : Nat) (j47 : Nat → Nat → Nat → Nat → Nat → Nat → Nat → Nat → Nat → Nat → Nat → Nat → Nat → Nat → Nat → Nat → Nat → Res) (t1 t2 t4 t7 t8 t9 t10 t28 t29 t30 t48 t49 t50 M nm I ni : Nat) : Res :=
 lt 5 t50 t49 fun v49 =>
 cnd v49 (ia 1 t48 t50 fun v51 =>
 ld v51 M fun v52 =>
 fa 1 t10 fun v55 =>
 ld v55 M fun v56 =>
 fa 0 t9 fun v58 =>
 ld v58 M fun v59 =>
 ia 1 v59 v52 fun v61 =>
 ld v61 M fun v62 =>
 ia 1 v56 t50 fun v63 =>
 storeK 1 (.k v63) (.k v62) zf M nm I ni fun _ M nm I ni =>
 adt n48 t50 295147905179352825893 fun v64 =>
 j47 t1 t2 t4 t7 t8 t9 t10 t28 t29 t30 t48 t49 v64 M nm I ni)
 (j46 t1 t2 t4 t7 t8 t10 t28 t29 t30 M nm I ni)
def S41_7 (j46 : Nat → Nat → Nat → Nat → Nat → Nat → Nat → Nat → Nat → Nat → Nat → Nat → Nat → Res) (t1 t2 t4 t7 t8 t9 t10 t28 t29 t30 t48 t49 t50 M nm I ni : Nat) : Res :=
 lp (S41_6 j46) (fun _ _ _ _ _ _ _ _ _ _ _ _ _ _ _ _ _ => .bad 73 0) t1 t2 t4 t7 t8 t9 t10 t28 t29 t30 t48 t49 t50 M nm I ni
def S41_8 (j41 : Nat → Nat → Nat → Nat → Nat → Nat → Nat → Nat → Nat → Nat → Nat → Res) (t1 t2 t4 t7 t8 t9 t10 t28 t29 t30 M nm I ni : Nat) : Res :=
 jn (fun (t1 t2 t4 t7 t8 t10 t28 t29 t30 M nm I ni : Nat) =>
 loadNK 2 (.k t10) zf M I ni fun v44 I ni =>
 ia 2 t7 t8 fun v45 =>
 storeK 2 (.k v45) (.k v44) zf M nm I ni fun _ M nm I ni =>
 j41 t1 t2 t4 t7 t28 t29 t30 M nm I ni) fun j46 =>
 jn (S41_7 j46) fun j66 =>
 fa 1 t10 fun v67 =>
 ld v67 M fun v68 =>
 ln v68 fun v69 =>
 j66 t1 t2 t4 t7 t8 t9 t10 t28 t29 t30 v68 v69 295147905179352825861 M nm I ni
def S41_9 (kf : KF) (j41 : Nat → Nat → Nat → Nat → Nat → Nat → Nat → Nat → Nat → Nat → Nat → Res) (t1 t2 t4 t7 t8 t9 t10 t11 t28 t29 t30 M nm I ni : Nat) : Res :=
 jn (S41_8 j41) fun j71 =>
 ne 5 t11 295147905179352825861 fun v73 =>
 cnd v73 (buildK 2 871509787656907713528983453707 [] zf I ni fun v74 I ni =>
 storeK 2 (.k t4) (.k v74) zf M nm I ni fun _ M nm I ni =>
 loadNK 2 (.k t4) zf M I ni fun v77 I ni => rtn 2 [v77, t11] M nm I ni kf)
 (j71 t1 t2 t4 t7 t8 t9 t10 t28 t29 t30 M nm I ni)
def S41_10 (call : CallT) (kf : KF) (j41 : Nat → Nat → Nat → Nat → Nat → Nat → Nat → Nat → Nat → Nat → Nat → Res) (t1 t2 t4 t7 t8 t9 t28 t29 t30 M nm I ni : Nat) : Res :=
 jn (S41_9 kf j41) fun j78 =>
 fa 1 t9 fun v79 =>
 loadNK 2 (.k v79) zf M I ni fun v80 I ni =>
 fa 3 t9 fun v81 =>
 ld v81 M fun v82 =>
 call 72 [v80, v82] M nm I ni fun v83 M nm I ni =>
 f1 19 0 v83 I fun v85 =>
 f1 19 1 v83 I fun v86 =>
 newK 2 871509787656907713528983453707 M nm I ni fun v87 M nm I ni =>
 storeK 2 (.k v87) (.k v85) zf M nm I ni fun _ M nm I ni =>
 j78 t1 t2 t4 t7 t8 t9 v87 v86 t28 t29 t30 M nm I ni
def S41_11 (call : CallT) (kf : KF) (n38 : Nat) (j37 : Nat → Nat → Nat → Nat → Nat → Nat → Nat → Nat → Nat → Nat → Nat → Res) (t1 t2 t4 t7 t28 t29 t30 M nm I ni : Nat) : Res :=
 jn (fun (t1 t2 t4 t7 t28 t29 t30 M nm I ni : Nat) =>
 adt n38 t30 295147905179352825893 fun v39 =>
 j37 t1 t2 t4 t7 t28 t29 v39 M nm I ni) fun j41 =>
 jn (S41_10 call kf j41) fun j89 =>
 ia 4 t28 t30 fun v91 =>
 loadNK 4 (.k v91) zf M I ni fun v92 I ni =>
 newK 4 5470555600507653063709204729684077360217655173370313022192043174537912227029434150944779 M nm I ni fun v93 M nm I ni =>
 storeK 4 (.k v93) (.k v92) zf M nm I ni fun _ M nm I ni =>
 j89 t1 t2 t4 t7 t30 v93 t28 t29 t30 M nm I ni
def S41_12 (call : CallT) (kf : KF) (j36 : Nat → Nat → Nat → Nat → Nat → Nat → Nat → Nat → Res) (n38 : Nat) (j37 : Nat → Nat → Nat → Nat → Nat → Nat → Nat → Nat → Nat → Nat → Nat → Res) (t1 t2 t4 t7 t28 t29 t30 t31 M nm I ni : Nat) : Res :=
 jn (S41_11 call kf n38 j37) fun j95 =>
 cnd t31 (j95 t1 t2 t4 t7 t28 t29 t30 M nm I ni)
 (j36 t1 t2 t4 t7 M nm I ni)
def S41_13 (call : CallT) (kf : KF) (j36 : Nat → Nat → Nat → Nat → Nat → Nat → Nat → Nat → Res) (n38 : Nat) (j37 : Nat → Nat → Nat → Nat → Nat → Nat → Nat → Nat → Nat → Nat → Nat → Res) (t1 t2 t4 t7 t28 t29 t30 M nm I ni : Nat) : Res :=
 jn (S41_12 call kf j36 n38 j37) fun j96 =>
 lt 5 t30 t29 fun v97 =>
 j96 t1 t2 t4 t7 t28 t29 t30 v97 M nm I ni
def S41_14 (call : CallT) (kf : KF) (j36 : Nat → Nat → Nat → Nat → Nat → Nat → Nat → Nat → Res) (t1 t2 t4 t7 t28 t29 t30 M nm I ni : Nat) : Res :=
 lp (S41_13 call kf j36) (fun _ _ _ _ _ _ _ _ _ _ _ => .bad 73 0) t1 t2 t4 t7 t28 t29 t30 M nm I ni
def S41_15 (call : CallT) (kf : KF) (t1 t2 t4 t6 t7 M nm I ni : Nat) : Res :=
 jn (S41_5 call kf) fun j36 =>
 jn (S41_14 call kf j36) fun j98 =>
 ln t6 fun v100 =>
 j98 t1 t2 t4 t7 t6 v100 295147905179352825861 M nm I ni
def S41_16 (call : CallT) (kf : KF) (t1 t2 t4 t6 M nm I ni : Nat) : Res :=
 jn (S41_15 call kf) fun j102 =>
 ln t6 fun v104 =>
 mkSlK 2 871509787656907713528983453707 (.k v104) (.k v104) zf M nm I ni fun v105 M nm I ni =>
 j102 t1 t2 t4 t6 v105 M nm I ni
def S41_17 (call : CallT) (kf : KF) (t1 t2 t4 M nm I ni : Nat) : Res :=
 jn (S41_16 call kf) fun j107 =>
 loadNK 2 (.k t2) zf M I ni fun v108 I ni =>
 call 71 [v108, t1] M nm I ni fun v110 M nm I ni =>
 j107 t1 t2 t4 v110 M nm I ni
def S41_18 (call : CallT) (kf : KF) (t1 t2 t4 M nm I ni : Nat) : Res :=
 jn (S41_17 call kf) fun j112 =>
 loadNK 2 (.k t2) zf M I ni fun v113 I ni =>
 call 70 [v113, t1] M nm I ni fun v115 M nm I ni =>
 notK (.k v115) zf I ni fun v116 I ni =>
 cnd v116 (buildK 2 871509787656907713528983453707 [] zf I ni fun v117 I ni =>
 storeK 2 (.k t4) (.k v117) zf M nm I ni fun _ M nm I ni =>
 loadNK 2 (.k t4) zf M I ni fun v119 I ni => rtn 2 [v119, 295147905179352832581] M nm I ni kf)
 (j112 t1 t2 t4 M nm I ni)
def F41 (call : CallT) (t0 t1 M nm I ni : Nat) (kf : KF) : Res :=
 jn (S41_18 call kf) fun j120 =>
 boxK 2 (.k t0) zf M nm I ni fun v121 M nm I ni =>
 newK 2 871509787656907713528983453707 M nm I ni fun v122 M nm I ni =>
 j120 t1 v121 v122 M nm I ni
def g41 (call : CallT) : List Nat → Nat → Nat → Nat → Nat → KF → Res := unS fun t0 => unS fun t1 => un0 (F41 call t0 t1)
/- (*fretwork/bough.tree).hang -/
def S170_1 (j6 : Nat → Nat → Nat → Nat → Nat → Nat → Nat → Res) (n8 : Nat) (j7 : Nat → Nat → Nat → Nat → Nat → Nat → Nat → Nat → Nat → Nat → Nat → Res) (t0 t2 t3 t4 t37 t38 t39 M nm I ni : Nat) : Res :=
 lt 5 t39 t38 fun v9 =>
 cnd v9 (ia 1 t37 t39 fun v10 =>
 ld v10 M fun v11 =>
 nilcK (.k t0) zf I ni fun v15 I ni =>
 fa 3 v15 fun v16 =>
 ld v16 M fun v17 =>
 ia 1 v17 t4 fun v19 =>
 ld v19 M fun v20 =>
 ne 5 v11 v20 fun v21 =>
 cnd v21 (nilcK (.k t0) zf I ni fun v23 I ni =>
 fa 3 v23 fun v24 =>
 ld v24 M fun v25 =>
 nilcK (.k t0) zf I ni fun v28 I ni =>
 fa 4 v28 fun v29 =>
 ld v29 M fun v30 =>
 nilcK (.k t0) zf I ni fun v34 I ni =>
 fa 4 v34 fun v35 =>
 ld v35 M fun v36 =>
 ia 1 v36 t4 fun v38 =>
 ld v38 M fun v39 =>
 adt n8 v39 295147905179352825893 fun v40 =>
 ia 1 v25 v11 fun v41 =>
 storeK 1 (.k v41) (.k t4) zf M nm I ni fun _ M nm I ni =>
 ia 1 v30 v11 fun v42 =>
 storeK 1 (.k v42) (.k v40) zf M nm I ni fun _ M nm I ni =>
 bldSK 1 1 295147905179352825861 [(0, 1, (.k v11))] zf M nm I ni fun v45 M nm I ni =>
 appW 1 t2 v45 M nm I ni fun v46 M nm I ni =>
 adt n8 t39 295147905179352825893 fun v48 =>
 j7 t0 v46 t3 t4 t37 t38 v48 M nm I ni)
 (adt n8 t39 295147905179352825893 fun v50 =>
 j7 t0 t2 t3 t4 t37 t38 v50 M nm I ni))
 (j6 t0 t2 t3 M nm I ni)
def S170_2 (j6 : Nat → Nat → Nat → Nat → Nat → Nat → Nat → Res) (t0 t2 t3 t4 t37 t38 t39 M nm I ni : Nat) : Res :=
 lp (S170_1 j6) (fun _ _ _ _ _ _ _ _ _ _ _ => .bad 73 0) t0 t2 t3 t4 t37 t38 t39 M nm I ni
def S170_3 (j6 : Nat → Nat → Nat → Nat → Nat → Nat → Nat → Res) (t0 t2 t3 t4 M nm I ni : Nat) : Res :=
 jn (S170_2 j6) fun j52 =>
 nilcK (.k t0) zf I ni fun v54 I ni =>
 fa 1 v54 fun v55 =>
 ld v55 M fun v56 =>
 ia 1 v56 t4 fun v58 =>
 ld v58 M fun v59 =>
 ln v59 fun v60 =>
 j52 t0 t2 t3 t4 v59 v60 295147905179352825861 M nm I ni
def S170_4 (n2 : Nat) (j1 : Nat → Nat → Nat → Nat → Nat → Nat → Nat → Res) (t0 t2 t3 M nm I ni : Nat) : Res :=
 jn (fun (t0 t2 t3 M nm I ni : Nat) =>
 adt n2 t3 295147905179352825893 fun v4 =>
 j1 t0 t2 v4 M nm I ni) fun j6 =>
 jn (S170_3 j6) fun j62 =>
 ia 1 t2 t3 fun v65 =>
 ld v65 M fun v66 =>
 j62 t0 t2 t3 v66 M nm I ni
def S170_5 (kf : KF) (n2 : Nat) (j1 : Nat → Nat → Nat → Nat → Nat → Nat → Nat → Res) (t0 t2 t3 M nm I ni : Nat) : Res :=
 jn (S170_4 n2 j1) fun j68 =>
 ln t2 fun v71 =>
 lt 5 t3 v71 fun v72 =>
 cnd v72 (j68 t0 t2 t3 M nm I ni)
 (rtn 0 [] M nm I ni kf)
def S170_6 (kf : KF) (t0 t2 t3 M nm I ni : Nat) : Res :=
 lp (S170_5 kf) (fun _ _ _ _ _ _ _ => .bad 73 0) t0 t2 t3 M nm I ni
def S170_7 (kf : KF) (t0 t2 M nm I ni : Nat) : Res :=
 jn (S170_6 kf) fun j73 =>
 j73 t0 t2 295147905179352825861 M nm I ni
def S170_8 (kf : KF) (t0 M nm I ni : Nat) : Res :=
 jn (S170_7 kf) fun j75 =>
 nilcK (.k t0) zf I ni fun v77 I ni =>
 fa 2 v77 fun v78 =>
 ld v78 M fun v79 =>
 bldSK 1 1 295147905179352825861 [(0, 1, (.k v79))] zf M nm I ni fun v80 M nm I ni =>
 j75 t0 v80 M nm I ni
def F170 (call : CallT) (t0 M nm I ni : Nat) (kf : KF) : Res :=
 jn (S170_8 kf) fun j82 =>
 nilcK (.k t0) zf I ni fun v84 I ni =>
 fa 3 v84 fun v85 =>
 ld v85 M fun v86 =>
 nilcK (.k t0) zf I ni fun v88 I ni =>
 fa 2 v88 fun v89 =>
 ld v89 M fun v90 =>
 ia 1 v86 v90 fun v91 =>
 storeK 1 (.k v91) (.k 295147905179352825829) zf M nm I ni fun _ M nm I ni =>
 j82 t0 M nm I ni
def g170 (call : CallT) : List Nat → Nat → Nat → Nat → Nat → KF → Res := unS fun t0 => un0 (F170 call t0)
/- fretwork/strand.bit -/
def F144 (call : CallT) (t0 t1 M nm I ni : Nat) (kf : KF) : Res :=
 boxK 2 (.k t0) zf M nm I ni fun v1 M nm I ni =>
 fa 0 v1 fun v3 =>
 ld v3 M fun v4 =>
 iopK .quo .i64 (.k t1) (.k 295147905179352826117) zf I ni fun v6 I ni =>
 ia 1 v4 v6 fun v7 =>
 ld v7 M fun v8 =>
 iopK .rem .i64 (.k t1) (.k 295147905179352826117) zf I ni fun v10 I ni =>
 sb 295147905179352826085 v10 fun v11 =>
 shfK .shr .u8 .i64 (.k v8) (.k v11) zf I ni fun v12 I ni =>
 iopK .and .u8 (.k v12) (.k 38) zf I ni fun v13 I ni =>
 kf v13 M nm I ni
def g144 (call : CallT) : List Nat → Nat → Nat → Nat → Nat → KF → Res := unS fun t0 => unS fun t1 => un0 (F144 call t0 t1)
/- fretwork/links.Right -/
def S240_1 (call : CallT) (kf : KF) (n4 : Nat) (j7 : Nat → Nat → Nat → Nat → Nat → Nat → Nat → Nat → Res) (t0 t3 t4 t8 t9 t10 M nm I ni : Nat) : Res :=
 fa 0 t4 fun v8 =>
 ld v8 M fun v9 =>
 lt 5 v9 295147905179352825861 fun v10 =>
 jn (fun (v18 : Nat) =>
 pk v10 33 v18 fun v19 =>
 jn (fun (v25 : Nat) =>
 pk v19 33 v25 fun v26 =>
 jn (fun (v32 : Nat) =>
 pk v26 33 v32 fun v33 =>
 jn (fun (v39 : Nat) =>
 pk v33 33 v39 fun v40 =>
 cnd v40 (kf 1 M nm I ni)
 (lt 5 295147905179352825861 t3 fun v43 =>
 jn (fun (v54 M nm I ni : Nat) =>
 pk v43 v54 1 fun v55 =>
 cnd v55 (kf 1 M nm I ni)
 (j7 t0 t8 t9 t10 M nm I ni))
 (fun j45 => gd v43 33 (sbt n4 t3 295147905179352825893 fun v48 =>
 ia 3 t0 v48 fun v49 =>
 loadNK 3 (.k v49) zf M I ni fun v50 I ni =>
 loadNK 3 (.k t4) zf M I ni fun v51 I ni =>
 call 262 [v50, v51] M nm I ni fun v52 M nm I ni =>
 ge 5 v52 295147905179352825861 fun v53 =>
 j45 v53 M nm I ni) (j45 0 M nm I ni))))
 (fun j35 => gd v33 1 (fa 2 t4 fun v36 =>
 ld v36 M fun v37 =>
 lt 5 295147905179386380293 v37 fun v38 =>
 j35 v38) (j35 0)))
 (fun j28 => gd v26 1 (fa 2 t4 fun v29 =>
 ld v29 M fun v30 =>
 lt 5 v30 295147905179352825861 fun v31 =>
 j28 v31) (j28 0)))
 (fun j21 => gd v19 1 (fa 1 t4 fun v22 =>
 ld v22 M fun v23 =>
 ge 5 v23 295147905179386380293 fun v24 =>
 j21 v24) (j21 0)))
 (fun j12 => gd v10 1 (fa 0 t4 fun v13 =>
 ld v13 M fun v14 =>
 fa 1 t4 fun v15 =>
 ld v15 M fun v16 =>
 ge 5 v14 v16 fun v17 =>
 j12 v17) (j12 0))
def S240_2 (call : CallT) (kf : KF) (n4 : Nat) (j3 : Nat → Nat → Nat → Nat → Nat → Nat → Nat → Nat → Res) (t0 t8 t9 t10 M nm I ni : Nat) : Res :=
 jn (fun (t0 t8 t9 t10 M nm I ni : Nat) =>
 adt n4 t10 295147905179352825893 fun v5 =>
 j3 t0 t8 t9 v5 M nm I ni) fun j7 =>
 jn (S240_1 call kf n4 j7) fun j57 =>
 ia 3 t8 t10 fun v59 =>
 loadNK 3 (.k v59) zf M I ni fun v60 I ni =>
 newK 3 1852673427797059126808521268839323955668793148457942454848160119256572240068613 M nm I ni fun v61 M nm I ni =>
 storeK 3 (.k v61) (.k v60) zf M nm I ni fun _ M nm I ni =>
 j57 t0 t10 v61 t8 t9 t10 M nm I ni
def S240_3 (call : CallT) (kf : KF) (j2 : Nat → Nat → Nat → Nat → Res) (n4 : Nat) (j3 : Nat → Nat → Nat → Nat → Nat → Nat → Nat → Nat → Res) (t0 t8 t9 t10 t11 M nm I ni : Nat) : Res :=
 jn (S240_2 call kf n4 j3) fun j63 =>
 cnd t11 (j63 t0 t8 t9 t10 M nm I ni)
 (j2 M nm I ni)
def S240_4 (call : CallT) (kf : KF) (j2 : Nat → Nat → Nat → Nat → Res) (n4 : Nat) (j3 : Nat → Nat → Nat → Nat → Nat → Nat → Nat → Nat → Res) (t0 t8 t9 t10 M nm I ni : Nat) : Res :=
 jn (S240_3 call kf j2 n4 j3) fun j64 =>
 lt 5 t10 t9 fun v65 =>
 j64 t0 t8 t9 t10 v65 M nm I ni
def S240_5 (call : CallT) (kf : KF) (j2 : Nat → Nat → Nat → Nat → Res) (t0 t8 t9 t10 M nm I ni : Nat) : Res :=
 lp (S240_4 call kf j2) (fun _ _ _ _ _ _ _ _ => .bad 73 0) t0 t8 t9 t10 M nm I ni
def S240_6 (call : CallT) (kf : KF) (t0 M nm I ni : Nat) : Res :=
 jn (fun (M nm I ni : Nat) =>
 kf 33 M nm I ni) fun j2 =>
 jn (S240_5 call kf j2) fun j66 =>
 ln t0 fun v68 =>
 j66 t0 t0 v68 295147905179352825861 M nm I ni
def S240_7 (call : CallT) (kf : KF) (t0 M nm I ni : Nat) : Res :=
 jn (S240_6 call kf) fun j70 =>
 ln t0 fun v72 =>
 lt 5 295147905179352857861 v72 fun v73 =>
 cnd v73 (kf 1 M nm I ni)
 (j70 t0 M nm I ni)
def F240 (call : CallT) (t0 M nm I ni : Nat) (kf : KF) : Res :=
 jn (S240_7 call kf) fun j75 =>
 j75 t0 M nm I ni
def g240 (call : CallT) : List Nat → Nat → Nat → Nat → Nat → KF → Res := unS fun t0 => un0 (F240 call t0)
/- slices.Sort[[]int,int] -/
def F55 (call : CallT) (t0 M nm I ni : Nat) (kf : KF) : Res :=
 ln t0 fun v2 =>
 convK .i64 .u64 (.k v2) zf I ni fun v7 I ni =>
 call 65 [v7] M nm I ni fun v8 M nm I ni =>
 call 90 [t0, 295147905179352825861, v2, v8] M nm I ni fun v9 M nm I ni =>
 rtn 0 [] M nm I ni kf
def g55 (call : CallT) : List Nat → Nat → Nat → Nat → Nat → KF → Res := unS fun t0 => un0 (F55 call t0)
/- fretwork/low.Cuts -/
def S167_1 (j4 : Nat → Nat → Nat → Nat → Nat → Res) (n6 : Nat) (j5 : Nat → Nat → Nat → Nat → Nat → Nat → Nat → Nat → Nat → Res) (t4 t7 t11 t60 t61 M nm I ni : Nat) : Res :=
 lt 5 t61 t60 fun v7 =>
 cnd v7 (ia 1 t7 t61 fun v12 =>
 ld v12 M fun v13 =>
 lt 5 295147905179352825893 v13 fun v14 =>
 jn (fun (v23 : Nat) =>
 jn (fun (v31 : Nat) =>
 jn (fun (v34 : Nat) =>
 pk v14 33 v34 fun v35 =>
 cnd v35 (bldSK 1 1 295147905179352825861 [(0, 1, (.k t61))] zf M nm I ni fun v38 M nm I ni =>
 appW 1 t11 v38 M nm I ni fun v39 M nm I ni =>
 adt n6 t61 295147905179352825893 fun v41 =>
 j5 t4 t7 v39 t60 v41 M nm I ni)
 (adt n6 t61 295147905179352825893 fun v43 =>
 j5 t4 t7 t11 t60 v43 M nm I ni))
 (fun j32 => gd v14 1 (pk v23 v31 1 fun v33 =>
 j32 v33) (j32 0)))
 (fun j24 => gd v23 33 (ia 3 t4 t61 fun v27 =>
 fa 1 v27 fun v28 =>
 ld v28 M fun v29 =>
 ge 5 v29 295147905179352825861 fun v30 =>
 j24 v30) (j24 0)))
 (fun j16 => gd v14 1 (ia 1 t7 t61 fun v19 =>
 ld v19 M fun v20 =>
 eq 5 v20 295147905179352825893 fun v21 =>
 j16 v21) (j16 0)))
 (j4 t11 M nm I ni)
def S167_2 (j4 : Nat → Nat → Nat → Nat → Nat → Res) (t4 t7 t11 t60 t61 M nm I ni : Nat) : Res :=
 lp (S167_1 j4) (fun _ _ _ _ _ _ _ _ _ => .bad 73 0) t4 t7 t11 t60 t61 M nm I ni
def S167_3 (kf : KF) (t1 t4 t7 t11 M nm I ni : Nat) : Res :=
 jn (fun (t11 M nm I ni : Nat) =>
 rtn 2 [t11, 295147905179352825861] M nm I ni kf) fun j4 =>
 jn (S167_2 j4) fun j45 =>
 fa 0 t1 fun v46 =>
 ld v46 M fun v47 =>
 j45 t4 t7 t11 v47 295147905179352825861 M nm I ni
def S167_4 (kf : KF) (t1 t4 t7 M nm I ni : Nat) : Res :=
 jn (S167_3 kf) fun j49 =>
 bldSK 0 1 295147905179352825861 [] zf M nm I ni fun v50 M nm I ni =>
 j49 t1 t4 t7 v50 M nm I ni
def S167_5 (j52 : Nat → Nat → Nat → Nat → Nat → Nat → Nat → Res) (n54 : Nat) (j53 : Nat → Nat → Nat → Nat → Nat → Nat → Nat → Nat → Nat → Nat → Res) (t1 t4 t7 t25 t26 t27 M nm I ni : Nat) : Res :=
 lt 5 t27 t26 fun v55 =>
 cnd v55 (ia 1 t25 t27 fun v56 =>
 ld v56 M fun v57 =>
 ia 3 t4 v57 fun v61 =>
 fa 1 v61 fun v62 =>
 ld v62 M fun v63 =>
 ge 5 v63 295147905179352825861 fun v66 =>
 jn (fun (v80 : Nat) =>
 pk v66 v80 1 fun v81 =>
 cnd v81 (ia 1 t7 v63 fun v84 =>
 ld v84 M fun v85 =>
 adt n54 v85 295147905179352825893 fun v86 =>
 ia 1 t7 v63 fun v87 =>
 storeK 1 (.k v87) (.k v86) zf M nm I ni fun _ M nm I ni =>
 adt n54 t27 295147905179352825893 fun v88 =>
 j53 t1 t4 t7 t25 t26 v88 M nm I ni)
 (adt n54 t27 295147905179352825893 fun v90 =>
 j53 t1 t4 t7 t25 t26 v90 M nm I ni))
 (fun j68 => gd v66 33 (ia 3 t4 v57 fun v71 =>
 fa 2 v71 fun v72 =>
 ld v72 M fun v73 =>
 ia 3 t4 v63 fun v76 =>
 fa 0 v76 fun v77 =>
 ld v77 M fun v78 =>
 ge 5 v73 v78 fun v79 =>
 j68 v79) (j68 0)))
 (j52 t1 t4 t7 M nm I ni)
def S167_6 (j52 : Nat → Nat → Nat → Nat → Nat → Nat → Nat → Res) (t1 t4 t7 t25 t26 t27 M nm I ni : Nat) : Res :=
 lp (S167_5 j52) (fun _ _ _ _ _ _ _ _ _ _ => .bad 73 0) t1 t4 t7 t25 t26 t27 M nm I ni
def S167_7 (kf : KF) (t1 t4 t5 t7 M nm I ni : Nat) : Res :=
 jn (S167_4 kf) fun j52 =>
 jn (S167_6 j52) fun j92 =>
 ln t5 fun v94 =>
 j92 t1 t4 t7 t5 v94 295147905179352825861 M nm I ni
def S167_8 (kf : KF) (t1 t4 t5 M nm I ni : Nat) : Res :=
 jn (S167_7 kf) fun j96 =>
 fa 0 t1 fun v97 =>
 ld v97 M fun v98 =>
 mkSlK 1 295147905179352825861 (.k v98) (.k v98) zf M nm I ni fun v99 M nm I ni =>
 j96 t1 t4 t5 v99 M nm I ni
def S167_9 (kf : KF) (t1 t4 t5 t6 M nm I ni : Nat) : Res :=
 jn (S167_8 kf) fun j101 =>
 ne 5 t6 295147905179352825861 fun v103 =>
 cnd v103 (rtn 2 [11, t6] M nm I ni kf)
 (j101 t1 t4 t5 M nm I ni)
def S167_10 (call : CallT) (kf : KF) (t1 M nm I ni : Nat) : Res :=
 jn (S167_9 kf) fun j107 =>
 loadNK 2 (.k t1) zf M I ni fun v108 I ni =>
 call 183 [v108] M nm I ni fun v109 M nm I ni =>
 f1 19 0 v109 I fun v111 =>
 f1 19 1 v109 I fun v112 =>
 f1 19 2 v109 I fun v113 =>
 j107 t1 v111 v112 v113 M nm I ni
def F167 (call : CallT) (t0 M nm I ni : Nat) (kf : KF) : Res :=
 jn (S167_10 call kf) fun j117 =>
 boxK 2 (.k t0) zf M nm I ni fun v118 M nm I ni =>
 j117 v118 M nm I ni
def g167 (call : CallT) : List Nat → Nat → Nat → Nat → Nat → KF → Res := unS fun t0 => un0 (F167 call t0)
/- (*fretwork/bough.block).visit -/
def S224_1 (call : CallT) (kf : KF) (n2 : Nat) (j1 : Nat → Nat → Nat → Nat → Nat → Nat → Nat → Nat → Nat → Res) (t0 t1 t28 t29 t30 M nm I ni : Nat) : Res :=
 lt 5 t30 t29 fun v3 =>
 cnd v3 (ia 1 t28 t30 fun v4 =>
 ld v4 M fun v5 =>
 nilcK (.k t1) zf I ni fun v8 I ni =>
 fa 8 v8 fun v9 =>
 ld v9 M fun v10 =>
 lookW (.word 5) true false 1 295147905179352825861 v10 v5 M I ni fun v12 I ni =>
 f1 19 0 v12 I fun v14 =>
 f1 19 1 v12 I fun v15 =>
 jn (fun (v33 M nm I ni : Nat) =>
 pk v15 v33 1 fun v34 =>
 cnd v34 (nilcK (.k t1) zf I ni fun v36 I ni =>
 fa 0 v36 fun v37 =>
 ld v37 M fun v38 =>
 ia 1 v38 v14 fun v40 =>
 ld v40 M fun v41 =>
 invS Go.Proofs.Tryz.prog call "fretwork/bough.visit" (.k v41) [(.k t1)] zf M nm I ni fun v43 M nm I ni =>
 adt n2 t30 295147905179352825893 fun v44 =>
 j1 t0 t1 t28 t29 v44 M nm I ni)
 (adt n2 t30 295147905179352825893 fun v46 =>
 j1 t0 t1 t28 t29 v46 M nm I ni))
 (fun j20 => gd v15 33 (nilcK (.k t1) zf I ni fun v23 I ni =>
 fa 3 v23 fun v24 =>
 ld v24 M fun v25 =>
 nilcK (.k t0) zf I ni fun v27 I ni =>
 fa 0 v27 fun v28 =>
 ld v28 M fun v29 =>
 ia 1 v25 v29 fun v30 =>
 ld v30 M fun v31 =>
 ne 5 v14 v31 fun v32 =>
 j20 v32 M nm I ni) (j20 0 M nm I ni)))
 (rtn 0 [] M nm I ni kf)
def S224_2 (call : CallT) (kf : KF) (t0 t1 t28 t29 t30 M nm I ni : Nat) : Res :=
 lp (S224_1 call kf) (fun _ _ _ _ _ _ _ _ _ => .bad 73 0) t0 t1 t28 t29 t30 M nm I ni
def S224_3 (call : CallT) (kf : KF) (t0 t1 M nm I ni : Nat) : Res :=
 jn (S224_2 call kf) fun j48 =>
 nilcK (.k t0) zf I ni fun v50 I ni =>
 fa 3 v50 fun v51 =>
 fa 1 v51 fun v52 =>
 ld v52 M fun v53 =>
 ln v53 fun v54 =>
 j48 t0 t1 v53 v54 295147905179352825861 M nm I ni
def F224 (call : CallT) (t0 t1 M nm I ni : Nat) (kf : KF) : Res :=
 jn (S224_3 call kf) fun j56 =>
 jn (fun (t0 t1 t14 t15 t16 M nm I ni : Nat) =>
 lp (fun (n58 : Nat) (j57 : Nat → Nat → Nat → Nat → Nat → Nat → Nat → Nat → Nat → Res) (t0 t1 t14 t15 t16 M nm I ni : Nat) =>
 lt 5 t16 t15 fun v59 =>
 cnd v59 (ia 1 t14 t16 fun v60 =>
 ld v60 M fun v61 =>
 call 226 [t1, v61] M nm I ni fun v65 M nm I ni =>
 adt n58 t16 295147905179352825893 fun v66 =>
 j57 t0 t1 t14 t15 v66 M nm I ni)
 (j56 t0 t1 M nm I ni)) (fun _ _ _ _ _ _ _ _ _ => .bad 73 0) t0 t1 t14 t15 t16 M nm I ni) fun j68 =>
 nilcK (.k t0) zf I ni fun v70 I ni =>
 fa 3 v70 fun v71 =>
 fa 1 v71 fun v72 =>
 ld v72 M fun v73 =>
 ln v73 fun v74 =>
 j68 t0 t1 v73 v74 295147905179352825861 M nm I ni
def g224 (call : CallT) : List Nat → Nat → Nat → Nat → Nat → KF → Res := unS fun t0 => unS fun t1 => un0 (F224 call t0 t1)
/- fretwork/blocks.Tree -/
def S146_1 (j12 : Nat → Nat → Nat → Nat → Nat → Nat → Nat → Nat → Nat → Nat → Nat → Nat → Res) (n14 : Nat) (j13 : Nat → Nat → Nat → Nat → Nat → Nat → Nat → Nat → Nat → Nat → Nat → Nat → Nat → Nat → Nat → Nat → Nat → Res) (t1 t2 t4 t6 t7 t8 t10 t49 t50 t51 t74 t75 t76 M nm I ni : Nat) : Res :=
 lt 5 t76 t75 fun v15 =>
 cnd v15 (ia 1 t74 t76 fun v17 =>
 ld v17 M fun v18 =>
 ia 1 t10 v18 fun v23 =>
 ld v23 M fun v24 =>
 cnd v24 (buildK 2 23384026197294446691655098136326997907641993265157 [(0, 1, (.k t8)), (1, 1, (.k t76))] zf I ni fun v28 I ni =>
 bldSK 1 2 23384026197294446691655098136326997907641993265157 [(0, 2, (.k v28))] zf M nm I ni fun v29 M nm I ni =>
 appW 2 t7 v29 M nm I ni fun v30 M nm I ni =>
 adt n14 t76 295147905179352825893 fun v32 =>
 j13 t1 t2 t4 t6 v30 t8 t10 t49 t50 t51 t74 t75 v32 M nm I ni)
 (adt n14 t76 295147905179352825893 fun v34 =>
 j13 t1 t2 t4 t6 t7 t8 t10 t49 t50 t51 t74 t75 v34 M nm I ni))
 (j12 t1 t2 t4 t6 t7 t49 t50 t51 M nm I ni)
def S146_2 (j12 : Nat → Nat → Nat → Nat → Nat → Nat → Nat → Nat → Nat → Nat → Nat → Nat → Res) (t1 t2 t4 t6 t7 t8 t10 t49 t50 t51 t74 t75 t76 M nm I ni : Nat) : Res :=
 lp (S146_1 j12) (fun _ _ _ _ _ _ _ _ _ _ _ _ _ _ _ _ _ => .bad 73 0) t1 t2 t4 t6 t7 t8 t10 t49 t50 t51 t74 t75 t76 M nm I ni
def S146_3 (j12 : Nat → Nat → Nat → Nat → Nat → Nat → Nat → Nat → Nat → Nat → Nat → Nat → Res) (t1 t2 t4 t6 t7 t8 t10 t49 t50 t51 M nm I ni : Nat) : Res :=
 jn (S146_2 j12) fun j36 =>
 ln t6 fun v38 =>
 j36 t1 t2 t4 t6 t7 t8 t10 t49 t50 t51 t6 v38 295147905179352825861 M nm I ni
def S146_4 (j40 : Nat → Nat → Nat → Nat → Nat → Nat → Nat → Nat → Nat → Nat → Nat → Nat → Nat → Nat → Res) (n42 : Nat) (j41 : Nat → Nat → Nat → Nat → Nat → Nat → Nat → Nat → Nat → Nat → Nat → Nat → Nat → Nat → Nat → Nat → Nat → Res) (t1 t2 t4 t6 t7 t8 t10 t49 t50 t51 t59 t60 t61 M nm I ni : Nat) : Res :=
 lt 5 t61 t60 fun v43 =>
 cnd v43 (ia 2 t59 t61 fun v44 =>
 loadNK 2 (.k v44) zf M I ni fun v45 I ni =>
 newK 2 23384026197294446691655098136326997907641993265157 M nm I ni fun v46 M nm I ni =>
 storeK 2 (.k v46) (.k v45) zf M nm I ni fun _ M nm I ni =>
 iadrAK 2 1 (.k v46) (.k 295147905179352825861) zf I ni fun v48 I ni =>
 ld v48 M fun v49 =>
 iadrAK 2 1 (.k v46) (.k 295147905179352825893) zf I ni fun v51 I ni =>
 ld v51 M fun v52 =>
 ia 1 t10 v49 fun v53 =>
 storeK 1 (.k v53) (.k 33) zf M nm I ni fun _ M54 nm I ni =>
 flL v51 1 M M54 <| 
 ia 1 t10 v52 fun v55 =>
 storeK 1 (.k v55) (.k 33) zf M54 nm I ni fun _ M nm I ni =>
 adt n42 t61 295147905179352825893 fun v56 =>
 j41 t1 t2 t4 t6 t7 t8 t10 t49 t50 t51 t59 t60 v56 M nm I ni)
 (j40 t1 t2 t4 t6 t7 t8 t10 t49 t50 t51 M nm I ni)
def S146_5 (j40 : Nat → Nat → Nat → Nat → Nat → Nat → Nat → Nat → Nat → Nat → Nat → Nat → Nat → Nat → Res) (t1 t2 t4 t6 t7 t8 t10 t49 t50 t51 t59 t60 t61 M nm I ni : Nat) : Res :=
 lp (S146_4 j40) (fun _ _ _ _ _ _ _ _ _ _ _ _ _ _ _ _ _ => .bad 73 0) t1 t2 t4 t6 t7 t8 t10 t49 t50 t51 t59 t60 t61 M nm I ni
def S146_6 (j12 : Nat → Nat → Nat → Nat → Nat → Nat → Nat → Nat → Nat → Nat → Nat → Nat → Res) (t1 t2 t4 t6 t7 t8 t9 t10 t49 t50 t51 M nm I ni : Nat) : Res :=
 jn (S146_3 j12) fun j40 =>
 jn (S146_5 j40) fun j58 =>
 ln t9 fun v60 =>
 j58 t1 t2 t4 t6 t7 t8 t10 t49 t50 t51 t9 v60 295147905179352825861 M nm I ni
def S146_7 (j12 : Nat → Nat → Nat → Nat → Nat → Nat → Nat → Nat → Nat → Nat → Nat → Nat → Res) (t1 t2 t4 t6 t7 t8 t9 t49 t50 t51 M nm I ni : Nat) : Res :=
 jn (S146_6 j12) fun j62 =>
 fa 0 t1 fun v63 =>
 ld v63 M fun v64 =>
 mkSlK 1 1 (.k v64) (.k v64) zf M nm I ni fun v65 M nm I ni =>
 j62 t1 t2 t4 t6 t7 t8 t9 v65 t49 t50 t51 M nm I ni
def S146_8 (n9 : Nat) (j8 : Nat → Nat → Nat → Nat → Nat → Nat → Nat → Nat → Nat → Nat → Nat → Nat → Res) (t1 t2 t4 t6 t7 t49 t50 t51 M nm I ni : Nat) : Res :=
 jn (fun (t1 t2 t4 t6 t7 t49 t50 t51 M nm I ni : Nat) =>
 adt n9 t51 295147905179352825893 fun v10 =>
 j8 t1 t2 t4 t6 t7 t49 t50 v10 M nm I ni) fun j12 =>
 jn (S146_7 j12) fun j67 =>
 ia 1 t49 t51 fun v69 =>
 ld v69 M fun v70 =>
 j67 t1 t2 t4 t6 t7 t51 v70 t49 t50 t51 M nm I ni
def S146_9 (j7 : Nat → Nat → Nat → Nat → Nat → Nat → Nat → Nat → Res) (n9 : Nat) (j8 : Nat → Nat → Nat → Nat → Nat → Nat → Nat → Nat → Nat → Nat → Nat → Nat → Res) (t1 t2 t4 t6 t7 t49 t50 t51 t52 M nm I ni : Nat) : Res :=
 jn (S146_8 n9 j8) fun j73 =>
 cnd t52 (j73 t1 t2 t4 t6 t7 t49 t50 t51 M nm I ni)
 (j7 t2 t4 t6 t7 M nm I ni)
def S146_10 (j7 : Nat → Nat → Nat → Nat → Nat → Nat → Nat → Nat → Res) (n9 : Nat) (j8 : Nat → Nat → Nat → Nat → Nat → Nat → Nat → Nat → Nat → Nat → Nat → Nat → Res) (t1 t2 t4 t6 t7 t49 t50 t51 M nm I ni : Nat) : Res :=
 jn (S146_9 j7 n9 j8) fun j74 =>
 lt 5 t51 t50 fun v75 =>
 j74 t1 t2 t4 t6 t7 t49 t50 t51 v75 M nm I ni
def S146_11 (j7 : Nat → Nat → Nat → Nat → Nat → Nat → Nat → Nat → Res) (t1 t2 t4 t6 t7 t49 t50 t51 M nm I ni : Nat) : Res :=
 lp (S146_10 j7) (fun _ _ _ _ _ _ _ _ _ _ _ _ => .bad 73 0) t1 t2 t4 t6 t7 t49 t50 t51 M nm I ni
def S146_12 (kf : KF) (t1 t2 t4 t6 t7 M nm I ni : Nat) : Res :=
 jn (fun (t2 t4 t6 t7 M nm I ni : Nat) =>
 buildK 3 69048119089253488402193683656155840364782817602633363095563 [(0, 1, (.k t4)), (1, 1, (.k t6)), (2, 1, (.k t7))] zf I ni fun v4 I ni =>
 storeK 3 (.k t2) (.k v4) zf M nm I ni fun _ M nm I ni =>
 loadNK 3 (.k t2) zf M I ni fun v6 I ni => rtn 2 [v6, 295147905179352825861] M nm I ni kf) fun j7 =>
 jn (S146_11 j7) fun j76 =>
 ln t4 fun v78 =>
 j76 t1 t2 t4 t6 t7 t4 v78 295147905179352825861 M nm I ni
def S146_13 (kf : KF) (t1 t2 t4 t6 M nm I ni : Nat) : Res :=
 jn (S146_12 kf) fun j80 =>
 bldSK 0 2 23384026197294446691655098136326997907641993265157 [] zf M nm I ni fun v81 M nm I ni =>
 j80 t1 t2 t4 t6 v81 M nm I ni
def S146_14 (kf : KF) (t1 t2 t4 t5 t6 M nm I ni : Nat) : Res :=
 jn (S146_13 kf) fun j83 =>
 ne 5 t5 295147905179352825861 fun v85 =>
 cnd v85 (buildK 3 69048119089253488402193683656155840364782817602633363095563 [] zf I ni fun v86 I ni =>
 storeK 3 (.k t2) (.k v86) zf M nm I ni fun _ M nm I ni =>
 loadNK 3 (.k t2) zf M I ni fun v89 I ni => rtn 2 [v89, t5] M nm I ni kf)
 (j83 t1 t2 t4 t6 M nm I ni)
def S146_15 (call : CallT) (kf : KF) (t1 t2 t4 M nm I ni : Nat) : Res :=
 jn (S146_14 kf) fun j90 =>
 loadNK 2 (.k t1) zf M I ni fun v91 I ni =>
 call 167 [v91] M nm I ni fun v92 M nm I ni =>
 f1 19 0 v92 I fun v94 =>
 f1 19 1 v92 I fun v95 =>
 j90 t1 t2 t4 v95 v94 M nm I ni
def S146_16 (call : CallT) (kf : KF) (t1 t2 t4 t5 M nm I ni : Nat) : Res :=
 jn (S146_15 call kf) fun j98 =>
 ne 5 t5 295147905179352825861 fun v100 =>
 cnd v100 (buildK 3 69048119089253488402193683656155840364782817602633363095563 [] zf I ni fun v101 I ni =>
 storeK 3 (.k t2) (.k v101) zf M nm I ni fun _ M nm I ni =>
 loadNK 3 (.k t2) zf M I ni fun v104 I ni => rtn 2 [v104, t5] M nm I ni kf)
 (j98 t1 t2 t4 M nm I ni)
def S146_17 (call : CallT) (kf : KF) (t1 t2 M nm I ni : Nat) : Res :=
 jn (S146_16 call kf) fun j105 =>
 loadNK 2 (.k t1) zf M I ni fun v106 I ni =>
 call 166 [v106] M nm I ni fun v107 M nm I ni =>
 f1 19 0 v107 I fun v109 =>
 f1 19 1 v107 I fun v110 =>
 j105 t1 t2 v109 v110 M nm I ni
def S146_18 (call : CallT) (kf : KF) (t1 t2 M nm I ni : Nat) : Res :=
 jn (S146_17 call kf) fun j113 =>
 fa 1 t1 fun v114 =>
 ld v114 M fun v115 =>
 ln v115 fun v116 =>
 eq 5 v116 295147905179352825861 fun v117 =>
 jn (fun (v124 M nm I ni : Nat) =>
 pk v117 33 v124 fun v125 =>
 cnd v125 (buildK 3 69048119089253488402193683656155840364782817602633363095563 [] zf I ni fun v126 I ni =>
 storeK 3 (.k t2) (.k v126) zf M nm I ni fun _ M nm I ni =>
 loadNK 3 (.k t2) zf M I ni fun v128 I ni => rtn 2 [v128, 295147905179352827781] M nm I ni kf)
 (j113 t1 t2 M nm I ni))
 (fun j119 => gd v117 1 (loadNK 2 (.k t1) zf M I ni fun v120 I ni =>
 call 30 [v120] M nm I ni fun v121 M nm I ni =>
 ln v121 fun v122 =>
 ne 5 v122 295147905179352825893 fun v123 =>
 j119 v123 M nm I ni) (j119 0 M nm I ni))
def S146_19 (call : CallT) (kf : KF) (t1 t2 M nm I ni : Nat) : Res :=
 jn (S146_18 call kf) fun j129 =>
 loadNK 2 (.k t1) zf M I ni fun v130 I ni =>
 call 22 [v130] M nm I ni fun v131 M nm I ni =>
 notK (.k v131) zf I ni fun v132 I ni =>
 cnd v132 (buildK 3 69048119089253488402193683656155840364782817602633363095563 [] zf I ni fun v133 I ni =>
 storeK 3 (.k t2) (.k v133) zf M nm I ni fun _ M nm I ni =>
 loadNK 3 (.k t2) zf M I ni fun v135 I ni => rtn 2 [v135, 295147905179352826501] M nm I ni kf)
 (j129 t1 t2 M nm I ni)
def F146 (call : CallT) (t0 M nm I ni : Nat) (kf : KF) : Res :=
 jn (S146_19 call kf) fun j136 =>
 boxK 2 (.k t0) zf M nm I ni fun v137 M nm I ni =>
 newK 3 69048119089253488402193683656155840364782817602633363095563 M nm I ni fun v138 M nm I ni =>
 j136 v137 v138 M nm I ni
def g146 (call : CallT) : List Nat → Nat → Nat → Nat → Nat → KF → Res := unS fun t0 => un0 (F146 call t0)
/- fretwork/strand.grown -/
def F107 (call : CallT) (t0 t1 M nm I ni : Nat) (kf : KF) : Res :=
 boxK 2 (.k t0) zf M nm I ni fun v1 M nm I ni =>
 newK 2 23384026197294446691655098136031850002462640439307 M nm I ni fun v2 M nm I ni =>
 fa 1 v1 fun v3 =>
 ld v3 M fun v4 =>
 ad v4 t1 fun v6 =>
 fa 1 v1 fun v7 =>
 ld v7 M fun v8 =>
 ad v8 t1 fun v10 =>
 newK 2 23384026197294446691655098136031850002462640439307 M nm I ni fun v11 M nm I ni =>
 call 120 [v6] M nm I ni fun v13 M12 nm I ni =>
 flL v7 1 M M12 <| 
 mkSlK 1 6 (.k v13) (.k v13) zf M12 nm I ni fun v14 M nm I ni =>
 buildK 2 23384026197294446691655098136031850002462640439307 [(0, 1, (.k v14)), (1, 1, (.k v10))] zf I ni fun v15 I ni =>
 storeK 2 (.k v11) (.k v15) zf M nm I ni fun _ M nm I ni =>
 fa 0 v11 fun v16 =>
 ld v16 M fun v17 =>
 fa 0 v1 fun v18 =>
 ld v18 M fun v19 =>
 copyW 1 v17 v19 M nm I ni fun v20 M nm I ni =>
 loadNK 2 (.k v11) zf M I ni fun v21 I ni =>
 storeK 2 (.k v2) (.k v21) zf M nm I ni fun _ M nm I ni =>
 loadNK 2 (.k v2) zf M I ni fun v22 I ni => kf v22 M nm I ni
def g107 (call : CallT) : List Nat → Nat → Nat → Nat → Nat → KF → Res := unS fun t0 => unS fun t1 => un0 (F107 call t0 t1)
/- fretwork/graph.New -/
def S19_1 (kf : KF) (j13 : Nat → Nat → Nat → Nat → Nat → Nat → Nat → Nat → Nat → Nat → Nat → Res) (t0 t4 t6 t7 t8 t10 t28 t29 t30 M nm I ni : Nat) : Res :=
 iadrAK 2 1 (.k t10) (.k 295147905179352825861) zf I ni fun v14 I ni =>
 ld v14 M fun v15 =>
 lt 5 v15 295147905179352825861 fun v16 =>
 jn (fun (v24 M nm I ni : Nat) =>
 pk v16 33 v24 fun v25 =>
 jn (fun (v32 M nm I ni : Nat) =>
 pk v25 33 v32 fun v33 =>
 cnd v33 (buildK 2 871509787952055618708336279557 [] zf I ni fun v34 I ni =>
 storeK 2 (.k t4) (.k v34) zf M nm I ni fun _ M nm I ni =>
 loadNK 2 (.k t4) zf M I ni fun v36 I ni => rtn 2 [v36, 295147905179352826501] M nm I ni kf)
 (loadNK 2 (.k t10) zf M I ni fun v38 I ni =>
 lookW (.row 2 5) true false 1 295147905179352825861 t6 v38 M I ni fun v39 I ni =>
 f1 19 0 v39 I fun v41 =>
 f1 19 1 v39 I fun v42 =>
 cnd v42 (buildK 2 871509787952055618708336279557 [] zf I ni fun v46 I ni =>
 storeK 2 (.k t4) (.k v46) zf M nm I ni fun _ M nm I ni =>
 loadNK 2 (.k t4) zf M I ni fun v48 I ni => rtn 2 [v48, 295147905179352826501] M nm I ni kf)
 (loadNK 2 (.k t10) zf M I ni fun v50 I ni =>
 updW (.row 2 5) t6 v50 t8 M nm I ni fun _ M nm I ni =>
 loadNK 2 (.k t10) zf M I ni fun v53 I ni =>
 bldSK 1 2 23384026197294446691655098136326997907641993265157 [(0, 2, (.k v53))] zf M nm I ni fun v54 M nm I ni =>
 appW 2 t7 v54 M nm I ni fun v55 M nm I ni =>
 j13 t0 t4 t6 v55 t28 t29 t30 M nm I ni)))
 (fun j27 => gd v25 1 (iadrAK 2 1 (.k t10) (.k 295147905179352825893) zf I ni fun v28 I ni =>
 ld v28 M fun v29 =>
 ge 5 v29 t0 fun v31 =>
 j27 v31 M nm I ni) (j27 0 M nm I ni)))
 (fun j18 => gd v16 1 (iadrAK 2 1 (.k t10) (.k 295147905179352825861) zf I ni fun v19 I ni =>
 ld v19 M fun v20 =>
 iadrAK 2 1 (.k t10) (.k 295147905179352825893) zf I ni fun v21 I ni =>
 ld v21 M fun v22 =>
 eq 5 v20 v22 fun v23 =>
 j18 v23 M nm I ni) (j18 0 M nm I ni))
def S19_2 (kf : KF) (j13 : Nat → Nat → Nat → Nat → Nat → Nat → Nat → Nat → Nat → Nat → Nat → Res) (t0 t4 t6 t7 t8 t9 t28 t29 t30 M nm I ni : Nat) : Res :=
 jn (S19_1 kf j13) fun j57 =>
 iadrAK 2 1 (.k t9) (.k 295147905179352825861) zf I ni fun v58 I ni =>
 ld v58 M fun v59 =>
 iadrAK 2 1 (.k t9) (.k 295147905179352825893) zf I ni fun v60 I ni =>
 ld v60 M fun v61 =>
 minK false 5 (.k v59) (.k v61) zf I ni fun v62 I ni =>
 iadrAK 2 1 (.k t9) (.k 295147905179352825861) zf I ni fun v63 I ni =>
 ld v63 M fun v64 =>
 iadrAK 2 1 (.k t9) (.k 295147905179352825893) zf I ni fun v65 I ni =>
 ld v65 M fun v66 =>
 minK true 5 (.k v64) (.k v66) zf I ni fun v67 I ni =>
 buildK 2 23384026197294446691655098136326997907641993265157 [(0, 1, (.k v62)), (1, 1, (.k v67))] zf I ni fun v68 I ni =>
 newK 2 23384026197294446691655098136326997907641993265157 M nm I ni fun v69 M nm I ni =>
 storeK 2 (.k v69) (.k v68) zf M nm I ni fun _ M nm I ni =>
 j57 t0 t4 t6 t7 t8 v69 t28 t29 t30 M nm I ni
def S19_3 (kf : KF) (n10 : Nat) (j9 : Nat → Nat → Nat → Nat → Nat → Nat → Nat → Nat → Nat → Nat → Nat → Res) (t0 t4 t6 t7 t28 t29 t30 M nm I ni : Nat) : Res :=
 jn (fun (t0 t4 t6 t7 t28 t29 t30 M nm I ni : Nat) =>
 adt n10 t30 295147905179352825893 fun v11 =>
 j9 t0 t4 t6 t7 t28 t29 v11 M nm I ni) fun j13 =>
 jn (S19_2 kf j13) fun j70 =>
 ia 2 t28 t30 fun v72 =>
 loadNK 2 (.k v72) zf M I ni fun v73 I ni =>
 newK 2 23384026197294446691655098136326997907641993265157 M nm I ni fun v74 M nm I ni =>
 storeK 2 (.k v74) (.k v73) zf M nm I ni fun _ M nm I ni =>
 j70 t0 t4 t6 t7 t30 v74 t28 t29 t30 M nm I ni
def S19_4 (kf : KF) (j8 : Nat → Nat → Nat → Nat → Nat → Nat → Nat → Res) (n10 : Nat) (j9 : Nat → Nat → Nat → Nat → Nat → Nat → Nat → Nat → Nat → Nat → Nat → Res) (t0 t4 t6 t7 t28 t29 t30 t31 M nm I ni : Nat) : Res :=
 jn (S19_3 kf n10 j9) fun j76 =>
 cnd t31 (j76 t0 t4 t6 t7 t28 t29 t30 M nm I ni)
 (j8 t0 t4 t7 M nm I ni)
def S19_5 (kf : KF) (j8 : Nat → Nat → Nat → Nat → Nat → Nat → Nat → Res) (n10 : Nat) (j9 : Nat → Nat → Nat → Nat → Nat → Nat → Nat → Nat → Nat → Nat → Nat → Res) (t0 t4 t6 t7 t28 t29 t30 M nm I ni : Nat) : Res :=
 jn (S19_4 kf j8 n10 j9) fun j77 =>
 lt 5 t30 t29 fun v78 =>
 j77 t0 t4 t6 t7 t28 t29 t30 v78 M nm I ni
def S19_6 (kf : KF) (j8 : Nat → Nat → Nat → Nat → Nat → Nat → Nat → Res) (t0 t4 t6 t7 t28 t29 t30 M nm I ni : Nat) : Res :=
 lp (S19_5 kf j8) (fun _ _ _ _ _ _ _ _ _ _ _ => .bad 73 0) t0 t4 t6 t7 t28 t29 t30 M nm I ni
def S19_7 (call : CallT) (kf : KF) (t0 t1 t4 t6 t7 M nm I ni : Nat) : Res :=
 jn (fun (t0 t4 t7 M nm I ni : Nat) =>
 call 37 [t7, 1230] M nm I ni fun v2 M nm I ni =>
 buildK 2 871509787952055618708336279557 [(0, 1, (.k t0)), (1, 1, (.k t7))] zf I ni fun v5 I ni =>
 storeK 2 (.k t4) (.k v5) zf M nm I ni fun _ M nm I ni =>
 loadNK 2 (.k t4) zf M I ni fun v7 I ni => rtn 2 [v7, 295147905179352825861] M nm I ni kf) fun j8 =>
 jn (S19_6 kf j8) fun j79 =>
 ln t1 fun v81 =>
 j79 t0 t4 t6 t7 t1 v81 295147905179352825861 M nm I ni
def S19_8 (call : CallT) (kf : KF) (t0 t1 t4 t6 M nm I ni : Nat) : Res :=
 jn (S19_7 call kf) fun j83 =>
 ln t1 fun v85 =>
 mkSlK 2 23384026197294446691655098136326997907641993265157 (.k 295147905179352825861) (.k v85) zf M nm I ni fun v86 M nm I ni =>
 j83 t0 t1 t4 t6 v86 M nm I ni
def S19_9 (call : CallT) (kf : KF) (t0 t1 t4 M nm I ni : Nat) : Res :=
 jn (S19_8 call kf) fun j88 =>
 mkMapK M nm I ni fun v89 M nm I ni =>
 j88 t0 t1 t4 v89 M nm I ni
def S19_10 (call : CallT) (kf : KF) (t0 t1 t4 M nm I ni : Nat) : Res :=
 jn (S19_9 call kf) fun j91 =>
 lt 5 t0 295147905179352825861 fun v93 =>
 cnd v93 (buildK 2 871509787952055618708336279557 [] zf I ni fun v94 I ni =>
 storeK 2 (.k t4) (.k v94) zf M nm I ni fun _ M nm I ni =>
 loadNK 2 (.k t4) zf M I ni fun v96 I ni => rtn 2 [v96, 295147905179352826501] M nm I ni kf)
 (j91 t0 t1 t4 M nm I ni)
def S19_11 (call : CallT) (kf : KF) (t0 t1 t4 M nm I ni : Nat) : Res :=
 jn (S19_10 call kf) fun j97 =>
 lt 5 295147905179352832261 t0 fun v99 =>
 jn (fun (v105 : Nat) =>
 pk v99 33 v105 fun v106 =>
 cnd v106 (buildK 2 871509787952055618708336279557 [] zf I ni fun v107 I ni =>
 storeK 2 (.k t4) (.k v107) zf M nm I ni fun _ M nm I ni =>
 loadNK 2 (.k t4) zf M I ni fun v109 I ni => rtn 2 [v109, 295147905179352826533] M nm I ni kf)
 (j97 t0 t1 t4 M nm I ni))
 (fun j101 => gd v99 1 (ln t1 fun v103 =>
 lt 5 295147905179352844869 v103 fun v104 =>
 j101 v104) (j101 0))
def F19 (call : CallT) (t0 t1 M nm I ni : Nat) (kf : KF) : Res :=
 jn (S19_11 call kf) fun j110 =>
 newK 2 871509787952055618708336279557 M nm I ni fun v111 M nm I ni =>
 j110 t0 t1 v111 M nm I ni
def g19 (call : CallT) : List Nat → Nat → Nat → Nat → Nat → KF → Res := unS fun t0 => unS fun t1 => un0 (F19 call t0 t1)
/- slices.BinarySearchFunc[[][]byte,[]byte,[]byte] -/
def S177_1 (call : CallT) (kf : KF) (t0 t1 t2 t8 t9 M nm I ni : Nat) : Res :=
 lt 5 t9 t8 fun v4 =>
 jn (fun (v15 M nm I ni : Nat) =>
 pk v4 v15 1 fun v16 =>
 rtn 2 [t9, v16] M nm I ni kf)
 (fun j6 => gd v4 33 (ia 1 t0 t9 fun v10 =>
 ld v10 M fun v11 =>
 callvS call (.k t2) [(.k v11), (.k t1)] zf M nm I ni fun v13 M nm I ni =>
 eq 5 v13 295147905179352825861 fun v14 =>
 j6 v14 M nm I ni) (j6 0 M nm I ni))
def S177_2 (call : CallT) (j19 : Nat → Nat → Nat → Nat → Nat → Nat → Nat → Nat → Nat → Res) (n21 : Nat) (j20 : Nat → Nat → Nat → Nat → Nat → Nat → Nat → Nat → Nat → Nat → Res) (t0 t1 t2 t8 t9 t10 M nm I ni : Nat) : Res :=
 lt 5 t9 t10 fun v24 =>
 cnd v24 (adt n21 t9 t10 fun v27 =>
 convK .i64 .u64 (.k v27) zf I ni fun v28 I ni =>
 shfK .shr .u64 .u64 (.k v28) (.k 41) zf I ni fun v29 I ni => tkk n21 v29 fun v30 =>
 convK .u64 .i64 (.k v30) zf I ni fun v31 I ni =>
 ia 1 t0 v31 fun v36 =>
 ld v36 M fun v37 =>
 callvS call (.k t2) [(.k v37), (.k t1)] zf M nm I ni fun v39 M nm I ni =>
 lt 5 v39 295147905179352825861 fun v40 =>
 cnd v40 (adt n21 v31 295147905179352825893 fun v42 =>
 j20 t0 t1 t2 t8 v42 t10 M nm I ni)
 (j20 t0 t1 t2 t8 t9 v31 M nm I ni))
 (j19 t0 t1 t2 t8 t9 M nm I ni)
def S177_3 (call : CallT) (kf : KF) (t0 t1 t2 t8 t9 t10 M nm I ni : Nat) : Res :=
 jn (S177_1 call kf) fun j19 =>
 lp (S177_2 call j19) (fun _ _ _ _ _ _ _ _ _ _ => .bad 73 0) t0 t1 t2 t8 t9 t10 M nm I ni
def S177_4 (call : CallT) (kf : KF) (t0 t1 t2 t8 M nm I ni : Nat) : Res :=
 jn (S177_3 call kf) fun j46 =>
 j46 t0 t1 t2 t8 295147905179352825861 t8 M nm I ni
def S177_5 (call : CallT) (kf : KF) (t0 t1 t2 M nm I ni : Nat) : Res :=
 jn (S177_4 call kf) fun j50 =>
 ln t0 fun v52 =>
 j50 t0 t1 t2 v52 M nm I ni
def F177 (call : CallT) (t0 t1 t2 M nm I ni : Nat) (kf : KF) : Res :=
 jn (S177_5 call kf) fun j54 =>
 j54 t0 t1 t2 M nm I ni
def g177 (call : CallT) : List Nat → Nat → Nat → Nat → Nat → KF → Res := unS fun t0 => unS fun t1 => unS fun t2 => un0 (F177 call t0 t1 t2)
/- fretwork/limb.Right -/
def S228_1 (call : CallT) (kf : KF) (t0 t1 M nm I ni : Nat) : Res :=
 call 229 [t0] M nm I ni fun v2 M nm I ni =>
 ln v2 fun v5 =>
 ge 5 295147905179352832261 v5 fun v6 =>
 jn (fun (v13 M nm I ni : Nat) =>
 pk v6 v13 1 fun v14 =>
 jn (fun (v19 M nm I ni : Nat) =>
 pk v14 v19 1 fun v20 =>
 kf v20 M nm I ni)
 (fun j16 => gd v14 33 (call 233 [t0] M nm I ni fun v18 M nm I ni =>
 j16 v18 M nm I ni) (j16 0 M nm I ni)))
 (fun j8 => gd v6 33 (ln v2 fun v11 =>
 call 122 [t1, v11] M nm I ni fun v12 M nm I ni =>
 j8 v12 M nm I ni) (j8 0 M nm I ni))
def S228_2 (kf : KF) (j22 : Nat → Nat → Nat → Nat → Nat → Nat → Res) (n24 : Nat) (j23 : Nat → Nat → Nat → Nat → Nat → Nat → Nat → Nat → Nat → Res) (t0 t1 t11 t12 t13 M nm I ni : Nat) : Res :=
 lt 5 t13 t12 fun v25 =>
 cnd v25 (ia 3 t11 t13 fun v26 =>
 loadNK 3 (.k v26) zf M I ni fun v27 I ni =>
 newK 3 1852673427797059126808521268839323955668793148457942454848160119256572240068613 M nm I ni fun v28 M nm I ni =>
 storeK 3 (.k v28) (.k v27) zf M nm I ni fun _ M nm I ni =>
 fa 2 v28 fun v29 =>
 ld v29 M fun v30 =>
 ne 5 v30 295147905179352825861 fun v31 =>
 cnd v31 (kf 1 M nm I ni)
 (adt n24 t13 295147905179352825893 fun v33 =>
 j23 t0 t1 t11 t12 v33 M nm I ni))
 (j22 t0 t1 M nm I ni)
def S228_3 (kf : KF) (j22 : Nat → Nat → Nat → Nat → Nat → Nat → Res) (t0 t1 t11 t12 t13 M nm I ni : Nat) : Res :=
 lp (S228_2 kf j22) (fun _ _ _ _ _ _ _ _ _ => .bad 73 0) t0 t1 t11 t12 t13 M nm I ni
def S228_4 (call : CallT) (kf : KF) (t0 t1 M nm I ni : Nat) : Res :=
 jn (S228_1 call kf) fun j22 =>
 jn (S228_3 kf j22) fun j35 =>
 ln t0 fun v37 =>
 j35 t0 t1 t0 v37 295147905179352825861 M nm I ni
def S228_5 (call : CallT) (kf : KF) (t0 t1 M nm I ni : Nat) : Res :=
 jn (S228_4 call kf) fun j39 =>
 ln t0 fun v41 =>
 lt 5 295147905179352857861 v41 fun v42 =>
 cnd v42 (kf 1 M nm I ni)
 (j39 t0 t1 M nm I ni)
def F228 (call : CallT) (t0 t1 M nm I ni : Nat) (kf : KF) : Res :=
 jn (S228_5 call kf) fun j44 =>
 j44 t0 t1 M nm I ni
def g228 (call : CallT) : List Nat → Nat → Nat → Nat → Nat → KF → Res := unS fun t0 => unS fun t1 => un0 (F228 call t0 t1)
/- fretwork/strand.get -/
def S145_1 (call : CallT) (j3 : Nat → Nat → Nat → Nat → Nat → Res) (n5 : Nat) (j4 : Nat → Nat → Nat → Nat → Nat → Nat → Nat → Nat → Nat → Res) (t1 t3 t7 t9 t10 M nm I ni : Nat) : Res :=
 lt 5 t10 t9 fun v6 =>
 cnd v6 (shfK .shl .u64 .u64 (.k t7) (.k 41) zf I ni fun v10 I ni => tkk n5 v10 fun v11 =>
 loadNK 2 (.k t3) zf M I ni fun v12 I ni =>
 adt n5 t1 t10 fun v15 =>
 call 144 [v12, v15] M nm I ni fun v16 M nm I ni =>
 convK .u8 .u64 (.k v16) zf I ni fun v17 I ni =>
 iopK .or .u64 (.k v11) (.k v17) zf I ni fun v18 I ni => tkk n5 v18 fun v19 =>
 adt n5 t10 295147905179352825893 fun v21 =>
 j4 t1 t3 v19 t9 v21 M nm I ni)
 (j3 t7 M nm I ni)
def S145_2 (call : CallT) (j3 : Nat → Nat → Nat → Nat → Nat → Res) (t1 t3 t7 t9 t10 M nm I ni : Nat) : Res :=
 lp (S145_1 call j3) (fun _ _ _ _ _ _ _ _ _ => .bad 73 0) t1 t3 t7 t9 t10 M nm I ni
def S145_3 (call : CallT) (kf : KF) (t1 t2 t3 t7 M nm I ni : Nat) : Res :=
 jn (fun (t7 M nm I ni : Nat) =>
 kf t7 M nm I ni) fun j3 =>
 jn (S145_2 call j3) fun j23 =>
 j23 t1 t3 t7 t2 295147905179352825861 M nm I ni
def S145_4 (call : CallT) (kf : KF) (t1 t2 t3 M nm I ni : Nat) : Res :=
 jn (S145_3 call kf) fun j26 =>
 j26 t1 t2 t3 9 M nm I ni
def F145 (call : CallT) (t0 t1 t2 M nm I ni : Nat) (kf : KF) : Res :=
 jn (S145_4 call kf) fun j28 =>
 boxK 2 (.k t0) zf M nm I ni fun v29 M nm I ni =>
 j28 t1 t2 v29 M nm I ni
def g145 (call : CallT) : List Nat → Nat → Nat → Nat → Nat → KF → Res := unS fun t0 => unS fun t1 => unS fun t2 => un0 (F145 call t0 t1 t2)
/- fretwork/canon.Canon -/
def S23_1 (call : CallT) (kf : KF) (t1 t2 t6 M nm I ni : Nat) : Res :=
 loadNK 2 (.k t1) zf M I ni fun v1 I ni =>
 call 42 [v1, t6] M nm I ni fun v3 M nm I ni =>
 f1 19 0 v3 I fun v5 =>
 f1 19 1 v3 I fun v6 =>
 newK 2 871509787952055618708336279557 M nm I ni fun v7 M nm I ni =>
 storeK 2 (.k v7) (.k v5) zf M nm I ni fun _ M nm I ni =>
 ne 5 v6 295147905179352825861 fun v10 =>
 cnd v10 (buildK 2 871509787656907713528983453707 [] zf I ni fun v11 I ni =>
 storeK 2 (.k t2) (.k v11) zf M nm I ni fun _ M nm I ni =>
 loadNK 2 (.k t2) zf M I ni fun v14 I ni => rtn 2 [v14, v6] M nm I ni kf)
 (loadNK 2 (.k v7) zf M I ni fun v15 I ni =>
 call 34 [v15] M nm I ni fun v16 M nm I ni =>
 f1 19 0 v16 I fun v18 =>
 f1 19 1 v16 I fun v19 =>
 ne 5 v19 295147905179352825861 fun v23 =>
 cnd v23 (buildK 2 871509787656907713528983453707 [] zf I ni fun v24 I ni =>
 storeK 2 (.k t2) (.k v24) zf M nm I ni fun _ M nm I ni =>
 loadNK 2 (.k t2) zf M I ni fun v27 I ni => rtn 2 [v27, v19] M nm I ni kf)
 (buildK 2 871509787656907713528983453707 [(0, 1, (.k v18)), (1, 1, (.k t6))] zf I ni fun v30 I ni =>
 storeK 2 (.k t2) (.k v30) zf M nm I ni fun _ M nm I ni =>
 loadNK 2 (.k t2) zf M I ni fun v32 I ni => rtn 2 [v32, 295147905179352825861] M nm I ni kf))
def S23_2 (call : CallT) (kf : KF) (t1 t2 t4 t6 M nm I ni : Nat) : Res :=
 jn (S23_1 call kf) fun j33 =>
 jn (fun (t1 t2 t6 t31 t32 t33 M nm I ni : Nat) =>
 lp (fun (n35 : Nat) (j34 : Nat → Nat → Nat → Nat → Nat → Nat → Nat → Nat → Nat → Nat → Res) (t1 t2 t6 t31 t32 t33 M nm I ni : Nat) =>
 lt 5 t33 t32 fun v36 =>
 cnd v36 (ia 1 t31 t33 fun v38 =>
 ld v38 M fun v39 =>
 ia 1 t6 v39 fun v45 =>
 storeK 1 (.k v45) (.k t33) zf M nm I ni fun _ M nm I ni =>
 adt n35 t33 295147905179352825893 fun v46 =>
 j34 t1 t2 t6 t31 t32 v46 M nm I ni)
 (j33 t1 t2 t6 M nm I ni)) (fun _ _ _ _ _ _ _ _ _ _ => .bad 73 0) t1 t2 t6 t31 t32 t33 M nm I ni) fun j48 =>
 fa 1 t4 fun v49 =>
 ld v49 M fun v50 =>
 ln v50 fun v51 =>
 j48 t1 t2 t6 v50 v51 295147905179352825861 M nm I ni
def S23_3 (call : CallT) (kf : KF) (t1 t2 t4 M nm I ni : Nat) : Res :=
 jn (S23_2 call kf) fun j53 =>
 fa 0 t1 fun v54 =>
 ld v54 M fun v55 =>
 mkSlK 1 295147905179352825861 (.k v55) (.k v55) zf M nm I ni fun v56 M nm I ni =>
 j53 t1 t2 t4 v56 M nm I ni
def S23_4 (call : CallT) (kf : KF) (t1 t2 t4 t5 M nm I ni : Nat) : Res :=
 jn (S23_3 call kf) fun j58 =>
 ne 5 t5 295147905179352825861 fun v60 =>
 cnd v60 (buildK 2 871509787656907713528983453707 [] zf I ni fun v61 I ni =>
 storeK 2 (.k t2) (.k v61) zf M nm I ni fun _ M nm I ni =>
 loadNK 2 (.k t2) zf M I ni fun v64 I ni => rtn 2 [v64, t5] M nm I ni kf)
 (j58 t1 t2 t4 M nm I ni)
def S23_5 (call : CallT) (kf : KF) (t1 t2 M nm I ni : Nat) : Res :=
 jn (S23_4 call kf) fun j65 =>
 loadNK 2 (.k t1) zf M I ni fun v66 I ni =>
 fa 0 t1 fun v67 =>
 ld v67 M fun v68 =>
 mkSlK 1 295147905179352825861 (.k v68) (.k v68) zf M nm I ni fun v69 M nm I ni =>
 newK 2 871509787656907713528983453707 M nm I ni fun v70 M nm I ni =>
 call 41 [v66, v69] M nm I ni fun v71 M nm I ni =>
 f1 19 0 v71 I fun v73 =>
 f1 19 1 v71 I fun v74 =>
 storeK 2 (.k v70) (.k v73) zf M nm I ni fun _ M nm I ni =>
 j65 t1 t2 v70 v74 M nm I ni
def S23_6 (call : CallT) (kf : KF) (t1 t2 M nm I ni : Nat) : Res :=
 jn (S23_5 call kf) fun j76 =>
 loadNK 2 (.k t1) zf M I ni fun v77 I ni =>
 call 22 [v77] M nm I ni fun v78 M nm I ni =>
 notK (.k v78) zf I ni fun v79 I ni =>
 cnd v79 (buildK 2 871509787656907713528983453707 [] zf I ni fun v80 I ni =>
 storeK 2 (.k t2) (.k v80) zf M nm I ni fun _ M nm I ni =>
 loadNK 2 (.k t2) zf M I ni fun v82 I ni => rtn 2 [v82, 295147905179352826501] M nm I ni kf)
 (j76 t1 t2 M nm I ni)
def F23 (call : CallT) (t0 M nm I ni : Nat) (kf : KF) : Res :=
 jn (S23_6 call kf) fun j83 =>
 boxK 2 (.k t0) zf M nm I ni fun v84 M nm I ni =>
 newK 2 871509787656907713528983453707 M nm I ni fun v85 M nm I ni =>
 j83 v84 v85 M nm I ni
def g23 (call : CallT) : List Nat → Nat → Nat → Nat → Nat → KF → Res := unS fun t0 => un0 (F23 call t0)
/- math/bits.Len -/
def F65 (call : CallT) (t0 M nm I ni : Nat) (kf : KF) : Res :=
 cnd 1 (convK .u64 .u32 (.k t0) zf I ni fun v3 I ni =>
 call 117 [v3] M nm I ni fun v4 M nm I ni =>
 kf v4 M nm I ni)
 (call 106 [t0] M nm I ni fun v7 M nm I ni =>
 kf v7 M nm I ni)
def g65 (call : CallT) : List Nat → Nat → Nat → Nat → Nat → KF → Res := unS fun t0 => un0 (F65 call t0)
/- fretwork/walk.start -/
def S53_1 (kf : KF) (j5 : Nat → Nat → Nat → Nat → Nat → Res) (n7 : Nat) (j6 : Nat → Nat → Nat → Nat → Nat → Nat → Nat → Nat → Res) (t2 t11 t12 t13 M nm I ni : Nat) : Res :=
 lt 5 t13 t12 fun v8 =>
 cnd v8 (ia 1 t11 t13 fun v9 =>
 ld v9 M fun v10 =>
 lt 5 v10 295147905179352825861 fun v13 =>
 jn (fun (v20 : Nat) =>
 pk v13 33 v20 fun v21 =>
 cnd v21 (rtn 2 [11, 295147905179352825925] M nm I ni kf)
 (adt n7 t13 295147905179352825893 fun v24 =>
 j6 t2 t11 t12 v24 M nm I ni))
 (fun j15 => gd v13 1 (fa 0 t2 fun v17 =>
 ld v17 M fun v18 =>
 ge 5 v10 v18 fun v19 =>
 j15 v19) (j15 0)))
 (j5 t2 M nm I ni)
def S53_2 (kf : KF) (j5 : Nat → Nat → Nat → Nat → Nat → Res) (t2 t11 t12 t13 M nm I ni : Nat) : Res :=
 lp (S53_1 kf j5) (fun _ _ _ _ _ _ _ _ => .bad 73 0) t2 t11 t12 t13 M nm I ni
def S53_3 (call : CallT) (kf : KF) (t1 t2 M nm I ni : Nat) : Res :=
 jn (fun (t2 M nm I ni : Nat) =>
 loadNK 2 (.k t2) zf M I ni fun v1 I ni =>
 call 88 [v1] M nm I ni fun v2 M nm I ni =>
 rtn 2 [v2, 295147905179352825861] M nm I ni kf) fun j5 =>
 jn (S53_2 kf j5) fun j26 =>
 ln t1 fun v28 =>
 j26 t2 t1 v28 295147905179352825861 M nm I ni
def S53_4 (call : CallT) (kf : KF) (t1 t2 M nm I ni : Nat) : Res :=
 jn (S53_3 call kf) fun j30 =>
 loadNK 2 (.k t2) zf M I ni fun v31 I ni =>
 call 22 [v31] M nm I ni fun v32 M nm I ni =>
 notK (.k v32) zf I ni fun v33 I ni =>
 cnd v33 (rtn 2 [11, 295147905179352826501] M nm I ni kf)
 (j30 t1 t2 M nm I ni)
def F53 (call : CallT) (t0 t1 M nm I ni : Nat) (kf : KF) : Res :=
 jn (S53_4 call kf) fun j36 =>
 boxK 2 (.k t0) zf M nm I ni fun v37 M nm I ni =>
 j36 t1 v37 M nm I ni
def g53 (call : CallT) : List Nat → Nat → Nat → Nat → Nat → KF → Res := unS fun t0 => unS fun t1 => un0 (F53 call t0 t1)
/- fretwork/figures.Order -/
def S239_1 (kf : KF) (j2 : Nat → Nat → Nat → Nat → Res) (n4 : Nat) (j3 : Nat → Nat → Nat → Nat → Nat → Nat → Nat → Nat → Nat → Res) (t1 t5 t14 t15 t16 M nm I ni : Nat) : Res :=
 lt 5 t16 t15 fun v5 =>
 cnd v5 (ia 1 t14 t16 fun v6 =>
 ld v6 M fun v7 =>
 lt 5 v7 295147905179352825861 fun v10 =>
 jn (fun (v16 : Nat) =>
 pk v10 33 v16 fun v17 =>
 jn (fun (v24 : Nat) =>
 pk v17 33 v24 fun v25 =>
 cnd v25 (kf 1 M nm I ni)
 (ia 1 t5 v7 fun v29 =>
 storeK 1 (.k v29) (.k 33) zf M nm I ni fun _ M nm I ni =>
 adt n4 t16 295147905179352825893 fun v30 =>
 j3 t1 t5 t14 t15 v30 M nm I ni))
 (fun j19 => gd v17 1 (ia 1 t5 v7 fun v22 =>
 ld v22 M fun v23 =>
 j19 v23) (j19 0)))
 (fun j12 => gd v10 1 (ge 5 v7 t1 fun v15 =>
 j12 v15) (j12 0)))
 (j2 M nm I ni)
def S239_2 (kf : KF) (j2 : Nat → Nat → Nat → Nat → Res) (t1 t5 t14 t15 t16 M nm I ni : Nat) : Res :=
 lp (S239_1 kf j2) (fun _ _ _ _ _ _ _ _ _ => .bad 73 0) t1 t5 t14 t15 t16 M nm I ni
def S239_3 (kf : KF) (t0 t1 t5 M nm I ni : Nat) : Res :=
 jn (fun (M nm I ni : Nat) =>
 kf 33 M nm I ni) fun j2 =>
 jn (S239_2 kf j2) fun j32 =>
 ln t0 fun v34 =>
 j32 t1 t5 t0 v34 295147905179352825861 M nm I ni
def S239_4 (kf : KF) (t0 t1 M nm I ni : Nat) : Res :=
 jn (S239_3 kf) fun j36 =>
 mkSlK 1 1 (.k t1) (.k t1) zf M nm I ni fun v38 M nm I ni =>
 j36 t0 t1 v38 M nm I ni
def S239_5 (kf : KF) (t0 t1 M nm I ni : Nat) : Res :=
 jn (S239_4 kf) fun j40 =>
 ln t0 fun v42 =>
 ne 5 v42 t1 fun v44 =>
 cnd v44 (kf 1 M nm I ni)
 (j40 t0 t1 M nm I ni)
def F239 (call : CallT) (t0 t1 M nm I ni : Nat) (kf : KF) : Res :=
 jn (S239_5 kf) fun j46 =>
 j46 t0 t1 M nm I ni
def g239 (call : CallT) : List Nat → Nat → Nat → Nat → Nat → KF → Res := unS fun t0 => unS fun t1 => un0 (F239 call t0 t1)
/- slices.insertionSortCmpFunc[[2]int] -/
def S109_1 (call : CallT) (j6 : Nat → Nat → Nat → Nat → Nat → Nat → Nat → Nat → Nat → Res) (n8 : Nat) (j7 : Nat → Nat → Nat → Nat → Nat → Nat → Nat → Nat → Nat → Nat → Res) (t0 t1 t2 t3 t8 t9 M nm I ni : Nat) : Res :=
 lt 5 t1 t9 fun v11 =>
 jn (fun (v26 M nm I ni : Nat) =>
 pk v11 v26 1 fun v27 =>
 cnd v27 (sbt n8 t9 295147905179352825893 fun v32 =>
 sbt n8 t9 295147905179352825893 fun v35 =>
 ia 2 t0 v35 fun v36 =>
 loadNK 2 (.k v36) zf M I ni fun v37 I ni =>
 ia 2 t0 t9 fun v40 =>
 loadNK 2 (.k v40) zf M I ni fun v41 I ni =>
 ia 2 t0 t9 fun v42 =>
 storeK 2 (.k v42) (.k v37) zf M nm I ni fun _ M nm I ni =>
 ia 2 t0 v32 fun v43 =>
 storeK 2 (.k v43) (.k v41) zf M nm I ni fun _ M nm I ni =>
 sbt n8 t9 295147905179352825893 fun v45 =>
 j7 t0 t1 t2 t3 t8 v45 M nm I ni)
 (j6 t0 t1 t2 t3 t8 M nm I ni))
 (fun j13 => gd v11 33 (ia 2 t0 t9 fun v17 =>
 loadNK 2 (.k v17) zf M I ni fun v18 I ni =>
 sbt n8 t9 295147905179352825893 fun v21 =>
 ia 2 t0 v21 fun v22 =>
 loadNK 2 (.k v22) zf M I ni fun v23 I ni =>
 callvS call (.k t3) [(.k v18), (.k v23)] zf M nm I ni fun v24 M nm I ni =>
 lt 5 v24 295147905179352825861 fun v25 =>
 j13 v25 M nm I ni) (j13 0 M nm I ni))
def S109_2 (call : CallT) (j6 : Nat → Nat → Nat → Nat → Nat → Nat → Nat → Nat → Nat → Res) (t0 t1 t2 t3 t8 t9 M nm I ni : Nat) : Res :=
 lp (S109_1 call j6) (fun _ _ _ _ _ _ _ _ _ _ => .bad 73 0) t0 t1 t2 t3 t8 t9 M nm I ni
def S109_3 (call : CallT) (n2 : Nat) (j1 : Nat → Nat → Nat → Nat → Nat → Nat → Nat → Nat → Nat → Res) (t0 t1 t2 t3 t8 M nm I ni : Nat) : Res :=
 jn (fun (t0 t1 t2 t3 t8 M nm I ni : Nat) =>
 adt n2 t8 295147905179352825893 fun v4 =>
 j1 t0 t1 t2 t3 v4 M nm I ni) fun j6 =>
 jn (S109_2 call j6) fun j47 =>
 j47 t0 t1 t2 t3 t8 t8 M nm I ni
def S109_4 (call : CallT) (kf : KF) (n2 : Nat) (j1 : Nat → Nat → Nat → Nat → Nat → Nat → Nat → Nat → Nat → Res) (t0 t1 t2 t3 t8 M nm I ni : Nat) : Res :=
 jn (S109_3 call n2 j1) fun j50 =>
 lt 5 t8 t2 fun v53 =>
 cnd v53 (j50 t0 t1 t2 t3 t8 M nm I ni)
 (rtn 0 [] M nm I ni kf)
def S109_5 (call : CallT) (kf : KF) (t0 t1 t2 t3 t8 M nm I ni : Nat) : Res :=
 lp (S109_4 call kf) (fun _ _ _ _ _ _ _ _ _ => .bad 73 0) t0 t1 t2 t3 t8 M nm I ni
def F109 (call : CallT) (t0 t1 t2 t3 M nm I ni : Nat) (kf : KF) : Res :=
 jn (S109_5 call kf) fun j54 =>
 ad t1 295147905179352825893 fun v56 =>
 j54 t0 t1 t2 t3 v56 M nm I ni
def g109 (call : CallT) : List Nat → Nat → Nat → Nat → Nat → KF → Res := unS fun t0 => unS fun t1 => unS fun t2 => unS fun t3 => un0 (F109 call t0 t1 t2 t3)
/- fretwork/perm.Right -/
def S76_1 (kf : KF) (j2 : Nat → Nat → Nat → Nat → Res) (n4 : Nat) (j3 : Nat → Nat → Nat → Nat → Nat → Nat → Nat → Nat → Nat → Res) (t0 t3 t12 t13 t14 M nm I ni : Nat) : Res :=
 lt 5 t14 t13 fun v5 =>
 cnd v5 (ia 1 t12 t14 fun v6 =>
 ld v6 M fun v7 =>
 lt 5 v7 295147905179352825861 fun v10 =>
 jn (fun (v17 : Nat) =>
 pk v10 33 v17 fun v18 =>
 jn (fun (v25 : Nat) =>
 pk v18 33 v25 fun v26 =>
 cnd v26 (kf 1 M nm I ni)
 (ia 1 t3 v7 fun v30 =>
 storeK 1 (.k v30) (.k 33) zf M nm I ni fun _ M nm I ni =>
 adt n4 t14 295147905179352825893 fun v31 =>
 j3 t0 t3 t12 t13 v31 M nm I ni))
 (fun j20 => gd v18 1 (ia 1 t3 v7 fun v23 =>
 ld v23 M fun v24 =>
 j20 v24) (j20 0)))
 (fun j12 => gd v10 1 (ln t0 fun v15 =>
 ge 5 v7 v15 fun v16 =>
 j12 v16) (j12 0)))
 (j2 M nm I ni)
def S76_2 (kf : KF) (j2 : Nat → Nat → Nat → Nat → Res) (t0 t3 t12 t13 t14 M nm I ni : Nat) : Res :=
 lp (S76_1 kf j2) (fun _ _ _ _ _ _ _ _ _ => .bad 73 0) t0 t3 t12 t13 t14 M nm I ni
def S76_3 (kf : KF) (t0 t3 M nm I ni : Nat) : Res :=
 jn (fun (M nm I ni : Nat) =>
 kf 33 M nm I ni) fun j2 =>
 jn (S76_2 kf j2) fun j33 =>
 ln t0 fun v35 =>
 j33 t0 t3 t0 v35 295147905179352825861 M nm I ni
def S76_4 (kf : KF) (t0 M nm I ni : Nat) : Res :=
 jn (S76_3 kf) fun j37 =>
 ln t0 fun v39 =>
 mkSlK 1 1 (.k v39) (.k v39) zf M nm I ni fun v40 M nm I ni =>
 j37 t0 v40 M nm I ni
def S76_5 (kf : KF) (t0 M nm I ni : Nat) : Res :=
 jn (S76_4 kf) fun j42 =>
 ln t0 fun v44 =>
 lt 5 295147905179352832261 v44 fun v45 =>
 cnd v45 (kf 1 M nm I ni)
 (j42 t0 M nm I ni)
def F76 (call : CallT) (t0 M nm I ni : Nat) (kf : KF) : Res :=
 jn (S76_5 kf) fun j47 =>
 j47 t0 M nm I ni
def g76 (call : CallT) : List Nat → Nat → Nat → Nat → Nat → KF → Res := unS fun t0 => un0 (F76 call t0)
/- (*fretwork/bough.tree).below -/
def S398_1 (j6 : Nat → Nat → Nat → Nat → Nat → Nat → Res) (n8 : Nat) (j7 : Nat → Nat → Nat → Nat → Nat → Nat → Nat → Nat → Nat → Nat → Res) (t1 t2 t5 t14 t15 t16 M nm I ni : Nat) : Res :=
 lt 5 t16 t15 fun v9 =>
 cnd v9 (ia 1 t14 t16 fun v10 =>
 ld v10 M fun v11 =>
 ld t2 M fun v14 =>
 nilcK (.k v14) zf I ni fun v15 I ni =>
 fa 3 v15 fun v16 =>
 ld v16 M fun v17 =>
 ia 1 v17 t1 fun v19 =>
 ld v19 M fun v20 =>
 ne 5 v11 v20 fun v21 =>
 cnd v21 (bldSK 1 1 295147905179352825861 [(0, 1, (.k v11))] zf M nm I ni fun v24 M nm I ni =>
 appW 1 t5 v24 M nm I ni fun v25 M nm I ni =>
 adt n8 t16 295147905179352825893 fun v27 =>
 j7 t1 t2 v25 t14 t15 v27 M nm I ni)
 (adt n8 t16 295147905179352825893 fun v29 =>
 j7 t1 t2 t5 t14 t15 v29 M nm I ni))
 (j6 t2 t5 M nm I ni)
def S398_2 (j6 : Nat → Nat → Nat → Nat → Nat → Nat → Res) (t1 t2 t5 t14 t15 t16 M nm I ni : Nat) : Res :=
 lp (S398_1 j6) (fun _ _ _ _ _ _ _ _ _ _ => .bad 73 0) t1 t2 t5 t14 t15 t16 M nm I ni
def S398_3 (call : CallT) (kf : KF) (t1 t2 t5 M nm I ni : Nat) : Res :=
 jn (fun (t2 t5 M nm I ni : Nat) =>
 mkfK 399 1 [(.k t2)] zf I ni fun v2 I ni =>
 call 305 [t5, v2] M nm I ni fun v3 M nm I ni =>
 kf t5 M nm I ni) fun j6 =>
 jn (S398_2 j6) fun j31 =>
 ld t2 M fun v32 =>
 nilcK (.k v32) zf I ni fun v33 I ni =>
 fa 1 v33 fun v34 =>
 ld v34 M fun v35 =>
 ia 1 v35 t1 fun v37 =>
 ld v37 M fun v38 =>
 ln v38 fun v39 =>
 j31 t1 t2 t5 v38 v39 295147905179352825861 M nm I ni
def S398_4 (call : CallT) (kf : KF) (t1 t2 M nm I ni : Nat) : Res :=
 jn (S398_3 call kf) fun j41 =>
 j41 t1 t2 11 M nm I ni
def F398 (call : CallT) (t0 t1 M nm I ni : Nat) (kf : KF) : Res :=
 jn (S398_4 call kf) fun j43 =>
 boxK 1 (.k t0) zf M nm I ni fun v44 M nm I ni =>
 j43 t1 v44 M nm I ni
def g398 (call : CallT) : List Nat → Nat → Nat → Nat → Nat → KF → Res := unS fun t0 => unS fun t1 => un0 (F398 call t0 t1)
/- fretwork/graph.knot -/
def F69 (call : CallT) (t0 t1 t2 M nm I ni : Nat) (kf : KF) : Res :=
 boxK 2 (.k t0) zf M nm I ni fun v1 M nm I ni =>
 loadNK 2 (.k v1) zf M I ni fun v5 I ni =>
 call 121 [v5, t1] M nm I ni fun v7 M nm I ni =>
 f1 19 0 v7 I fun v9 =>
 f1 19 1 v7 I fun v10 =>
 f1 19 2 v7 I fun v11 =>
 ne 5 v11 295147905179352825861 fun v16 =>
 jn (fun (v23 M nm I ni : Nat) =>
 pk v16 33 v23 fun v24 =>
 cnd v24 (rtn 3 [295147905179352825861, 295147905179352825861, 1] M nm I ni kf)
 (convK .u64 .i64 (.k v9) zf I ni fun v29 I ni =>
 rtn 3 [v29, v10, 33] M nm I ni kf))
 (fun j18 => gd v16 1 (convK .i64 .u64 (.k t2) zf I ni fun v21 I ni =>
 lt 9 v21 v9 fun v22 =>
 j18 v22 M nm I ni) (j18 0 M nm I ni))
def g69 (call : CallT) : List Nat → Nat → Nat → Nat → Nat → KF → Res := unS fun t0 => unS fun t1 => unS fun t2 => un0 (F69 call t0 t1 t2)
/- fretwork/graph.Read -/
def S39_1 (call : CallT) (kf : KF) (t2 t4 t7 t10 M nm I ni : Nat) : Res :=
 fa 1 t4 fun v2 =>
 ld v2 M fun v3 =>
 ne 5 t7 v3 fun v4 =>
 jn (fun (v10 M nm I ni : Nat) =>
 pk v4 33 v10 fun v11 =>
 cnd v11 (buildK 2 871509787952055618708336279557 [] zf I ni fun v12 I ni =>
 storeK 2 (.k t2) (.k v12) zf M nm I ni fun _ M nm I ni =>
 loadNK 2 (.k t2) zf M I ni fun v14 I ni => rtn 2 [v14, 295147905179352826501] M nm I ni kf)
 (loadNK 2 (.k t10) zf M I ni fun v15 I ni =>
 storeK 2 (.k t2) (.k v15) zf M nm I ni fun _ M nm I ni =>
 loadNK 2 (.k t2) zf M I ni fun v17 I ni => rtn 2 [v17, 295147905179352825861] M nm I ni kf))
 (fun j6 => gd v4 1 (loadNK 2 (.k t10) zf M I ni fun v7 I ni =>
 call 22 [v7] M nm I ni fun v8 M nm I ni =>
 notK (.k v8) zf I ni fun v9 I ni =>
 j6 v9 M nm I ni) (j6 0 M nm I ni))
def S39_2 (call : CallT) (kf : KF) (j23 : Nat → Nat → Nat → Nat → Nat → Nat → Nat → Nat → Nat → Nat → Res) (n25 : Nat) (j24 : Nat → Nat → Nat → Nat → Nat → Nat → Nat → Nat → Nat → Nat → Nat → Nat → Res) (t2 t4 t7 t10 t11 t46 t47 t50 M nm I ni : Nat) : Res :=
 lt 5 t50 295147905179352825925 fun v26 =>
 cnd v26 (fa 1 t10 fun v29 =>
 ld v29 M fun v30 =>
 loadNK 2 (.k t4) zf M I ni fun v33 I ni =>
 ia 2 v30 t11 fun v35 =>
 call 69 [v33, t7, 295147905179352832261] M nm I ni fun v37 M36 nm I ni =>
 flL v29 1 M M36 <| 
 f1 19 0 v37 I fun v39 =>
 f1 19 1 v37 I fun v40 =>
 f1 19 2 v37 I fun v41 =>
 iadrAK 2 1 (.k v35) (.k t50) zf I ni fun v42 I ni =>
 storeK 1 (.k v42) (.k v39) zf M36 nm I ni fun _ M nm I ni =>
 notK (.k v41) zf I ni fun v46 I ni =>
 cnd v46 (buildK 2 871509787952055618708336279557 [] zf I ni fun v47 I ni =>
 storeK 2 (.k t2) (.k v47) zf M nm I ni fun _ M nm I ni =>
 loadNK 2 (.k t2) zf M I ni fun v49 I ni => rtn 2 [v49, 295147905179352826501] M nm I ni kf)
 (adt n25 t50 295147905179352825893 fun v50 =>
 j24 t2 t4 v40 t10 t11 t46 t47 v50 M nm I ni))
 (j23 t2 t4 t7 t10 t46 t47 M nm I ni)
def S39_3 (call : CallT) (kf : KF) (j23 : Nat → Nat → Nat → Nat → Nat → Nat → Nat → Nat → Nat → Nat → Res) (t2 t4 t7 t10 t11 t46 t47 t50 M nm I ni : Nat) : Res :=
 lp (S39_2 call kf j23) (fun _ _ _ _ _ _ _ _ _ _ _ _ => .bad 73 0) t2 t4 t7 t10 t11 t46 t47 t50 M nm I ni
def S39_4 (call : CallT) (kf : KF) (j23 : Nat → Nat → Nat → Nat → Nat → Nat → Nat → Nat → Nat → Nat → Res) (t2 t4 t7 t10 t11 t46 t47 M nm I ni : Nat) : Res :=
 jn (S39_3 call kf j23) fun j52 =>
 j52 t2 t4 t7 t10 t11 t46 t47 295147905179352825861 M nm I ni
def S39_5 (call : CallT) (kf : KF) (n20 : Nat) (j19 : Nat → Nat → Nat → Nat → Nat → Nat → Nat → Nat → Nat → Nat → Res) (t2 t4 t7 t10 t46 t47 M nm I ni : Nat) : Res :=
 jn (fun (t2 t4 t7 t10 t46 t47 M nm I ni : Nat) =>
 adt n20 t47 295147905179352825893 fun v21 =>
 j19 t2 t4 t7 t10 t46 v21 M nm I ni) fun j23 =>
 jn (S39_4 call kf j23) fun j54 =>
 j54 t2 t4 t7 t10 t47 t46 t47 M nm I ni
def S39_6 (call : CallT) (kf : KF) (j18 : Nat → Nat → Nat → Nat → Nat → Nat → Nat → Nat → Res) (n20 : Nat) (j19 : Nat → Nat → Nat → Nat → Nat → Nat → Nat → Nat → Nat → Nat → Res) (t2 t4 t7 t10 t46 t47 t48 M nm I ni : Nat) : Res :=
 jn (S39_5 call kf n20 j19) fun j57 =>
 cnd t48 (j57 t2 t4 t7 t10 t46 t47 M nm I ni)
 (j18 t2 t4 t7 t10 M nm I ni)
def S39_7 (call : CallT) (kf : KF) (j18 : Nat → Nat → Nat → Nat → Nat → Nat → Nat → Nat → Res) (n20 : Nat) (j19 : Nat → Nat → Nat → Nat → Nat → Nat → Nat → Nat → Nat → Nat → Res) (t2 t4 t7 t10 t46 t47 M nm I ni : Nat) : Res :=
 jn (S39_6 call kf j18 n20 j19) fun j58 =>
 lt 5 t47 t46 fun v59 =>
 j58 t2 t4 t7 t10 t46 t47 v59 M nm I ni
def S39_8 (call : CallT) (kf : KF) (j18 : Nat → Nat → Nat → Nat → Nat → Nat → Nat → Nat → Res) (t2 t4 t7 t10 t46 t47 M nm I ni : Nat) : Res :=
 lp (S39_7 call kf j18) (fun _ _ _ _ _ _ _ _ _ _ => .bad 73 0) t2 t4 t7 t10 t46 t47 M nm I ni
def S39_9 (call : CallT) (kf : KF) (t2 t4 t7 t10 M nm I ni : Nat) : Res :=
 jn (S39_1 call kf) fun j18 =>
 jn (S39_8 call kf j18) fun j60 =>
 fa 1 t10 fun v61 =>
 ld v61 M fun v62 =>
 ln v62 fun v63 =>
 j60 t2 t4 t7 t10 v63 295147905179352825861 M nm I ni
def S39_10 (call : CallT) (kf : KF) (t2 t4 t6 t7 t9 M nm I ni : Nat) : Res :=
 jn (S39_9 call kf) fun j65 =>
 mkSlK 2 23384026197294446691655098136326997907641993265157 (.k t9) (.k t9) zf M nm I ni fun v68 M nm I ni =>
 buildK 2 871509787952055618708336279557 [(0, 1, (.k t6)), (1, 1, (.k v68))] zf I ni fun v69 I ni =>
 newK 2 871509787952055618708336279557 M nm I ni fun v70 M nm I ni =>
 storeK 2 (.k v70) (.k v69) zf M nm I ni fun _ M nm I ni =>
 j65 t2 t4 t7 v70 M nm I ni
def S39_11 (call : CallT) (kf : KF) (t2 t4 t6 t7 t8 t9 M nm I ni : Nat) : Res :=
 jn (S39_10 call kf) fun j71 =>
 notK (.k t8) zf I ni fun v73 I ni =>
 cnd v73 (buildK 2 871509787952055618708336279557 [] zf I ni fun v74 I ni =>
 storeK 2 (.k t2) (.k v74) zf M nm I ni fun _ M nm I ni =>
 loadNK 2 (.k t2) zf M I ni fun v76 I ni => rtn 2 [v76, 295147905179352826501] M nm I ni kf)
 (j71 t2 t4 t6 t7 t9 M nm I ni)
def S39_12 (call : CallT) (kf : KF) (t2 t4 t6 t7 M nm I ni : Nat) : Res :=
 jn (S39_11 call kf) fun j77 =>
 loadNK 2 (.k t4) zf M I ni fun v78 I ni =>
 call 69 [v78, t7, 295147905179352844869] M nm I ni fun v80 M nm I ni =>
 f1 19 0 v80 I fun v82 =>
 f1 19 1 v80 I fun v83 =>
 f1 19 2 v80 I fun v84 =>
 j77 t2 t4 t6 v83 v84 v82 M nm I ni
def S39_13 (call : CallT) (kf : KF) (t2 t4 t6 t7 t8 M nm I ni : Nat) : Res :=
 jn (S39_12 call kf) fun j88 =>
 notK (.k t8) zf I ni fun v90 I ni =>
 cnd v90 (buildK 2 871509787952055618708336279557 [] zf I ni fun v91 I ni =>
 storeK 2 (.k t2) (.k v91) zf M nm I ni fun _ M nm I ni =>
 loadNK 2 (.k t2) zf M I ni fun v93 I ni => rtn 2 [v93, 295147905179352826501] M nm I ni kf)
 (j88 t2 t4 t6 t7 M nm I ni)
def S39_14 (call : CallT) (kf : KF) (t2 t4 M nm I ni : Nat) : Res :=
 jn (S39_13 call kf) fun j94 =>
 loadNK 2 (.k t4) zf M I ni fun v95 I ni =>
 call 69 [v95, 295147905179352825861, 295147905179352832261] M nm I ni fun v96 M nm I ni =>
 f1 19 0 v96 I fun v98 =>
 f1 19 1 v96 I fun v99 =>
 f1 19 2 v96 I fun v100 =>
 j94 t2 t4 v98 v99 v100 M nm I ni
def S39_15 (call : CallT) (kf : KF) (t2 t4 t5 M nm I ni : Nat) : Res :=
 jn (S39_14 call kf) fun j104 =>
 ne 5 t5 295147905179352825861 fun v106 =>
 cnd v106 (buildK 2 871509787952055618708336279557 [] zf I ni fun v107 I ni =>
 storeK 2 (.k t2) (.k v107) zf M nm I ni fun _ M nm I ni =>
 loadNK 2 (.k t2) zf M I ni fun v109 I ni => rtn 2 [v109, 295147905179352826501] M nm I ni kf)
 (j104 t2 t4 M nm I ni)
def S39_16 (call : CallT) (kf : KF) (t0 t2 M nm I ni : Nat) : Res :=
 jn (S39_15 call kf) fun j110 =>
 call 68 [t0] M nm I ni fun v112 M nm I ni =>
 f1 19 0 v112 I fun v114 =>
 f1 19 1 v112 I fun v115 =>
 newK 2 23384026197294446691655098136031850002462640439307 M nm I ni fun v116 M nm I ni =>
 storeK 2 (.k v116) (.k v114) zf M nm I ni fun _ M nm I ni =>
 j110 t2 v116 v115 M nm I ni
def F39 (call : CallT) (t0 M nm I ni : Nat) (kf : KF) : Res :=
 jn (S39_16 call kf) fun j118 =>
 newK 2 871509787952055618708336279557 M nm I ni fun v119 M nm I ni =>
 j118 t0 v119 M nm I ni
def g39 (call : CallT) : List Nat → Nat → Nat → Nat → Nat → KF → Res := unS fun t0 => un0 (F39 call t0)
/- fretwork/strand.size -/
def F120 (call : CallT) (t0 M nm I ni : Nat) (kf : KF) : Res :=
 ad t0 295147905179352826085 fun v3 =>
 iopK .quo .i64 (.k v3) (.k 295147905179352826117) zf I ni fun v4 I ni =>
 kf v4 M nm I ni
def g120 (call : CallT) : List Nat → Nat → Nat → Nat → Nat → KF → Res := unS fun t0 => un0 (F120 call t0)
/- fretwork/perm.Apply -/
def S42_1 (j9 : Nat → Nat → Nat → Nat → Nat → Nat → Nat → Res) (n11 : Nat) (j10 : Nat → Nat → Nat → Nat → Nat → Nat → Nat → Nat → Nat → Nat → Nat → Res) (t1 t2 t4 t6 t29 t30 t31 M nm I ni : Nat) : Res :=
 lt 5 t31 t30 fun v12 =>
 cnd v12 (ia 2 t29 t31 fun v14 =>
 loadNK 2 (.k v14) zf M I ni fun v15 I ni =>
 newK 2 23384026197294446691655098136326997907641993265157 M nm I ni fun v16 M nm I ni =>
 storeK 2 (.k v16) (.k v15) zf M nm I ni fun _ M nm I ni =>
 iadrAK 2 1 (.k v16) (.k 295147905179352825861) zf I ni fun v21 I ni =>
 ld v21 M fun v22 =>
 ia 1 t1 v22 fun v23 =>
 ld v23 M fun v24 =>
 iadrAK 2 1 (.k v16) (.k 295147905179352825893) zf I ni fun v26 I ni =>
 ld v26 M fun v27 =>
 ia 1 t1 v27 fun v28 =>
 ld v28 M fun v29 =>
 buildK 2 23384026197294446691655098136326997907641993265157 [(0, 1, (.k v24)), (1, 1, (.k v29))] zf I ni fun v30 I ni =>
 ia 2 t6 t31 fun v31 =>
 storeK 2 (.k v31) (.k v30) zf M nm I ni fun _ M nm I ni =>
 adt n11 t31 295147905179352825893 fun v32 =>
 j10 t1 t2 t4 t6 t29 t30 v32 M nm I ni)
 (j9 t2 t4 t6 M nm I ni)
def S42_2 (j9 : Nat → Nat → Nat → Nat → Nat → Nat → Nat → Res) (t1 t2 t4 t6 t29 t30 t31 M nm I ni : Nat) : Res :=
 lp (S42_1 j9) (fun _ _ _ _ _ _ _ _ _ _ _ => .bad 73 0) t1 t2 t4 t6 t29 t30 t31 M nm I ni
def S42_3 (call : CallT) (kf : KF) (t1 t2 t4 t6 M nm I ni : Nat) : Res :=
 jn (fun (t2 t4 t6 M nm I ni : Nat) =>
 fa 0 t2 fun v1 =>
 ld v1 M fun v2 =>
 call 19 [v2, t6] M nm I ni fun v4 M nm I ni =>
 f1 19 0 v4 I fun v5 =>
 f1 19 1 v4 I fun v6 =>
 storeK 2 (.k t4) (.k v5) zf M nm I ni fun _ M nm I ni =>
 loadNK 2 (.k t4) zf M I ni fun v8 I ni => rtn 2 [v8, v6] M nm I ni kf) fun j9 =>
 jn (S42_2 j9) fun j34 =>
 fa 1 t2 fun v35 =>
 ld v35 M fun v36 =>
 ln v36 fun v37 =>
 j34 t1 t2 t4 t6 v36 v37 295147905179352825861 M nm I ni
def S42_4 (call : CallT) (kf : KF) (t1 t2 t4 M nm I ni : Nat) : Res :=
 jn (S42_3 call kf) fun j39 =>
 fa 1 t2 fun v40 =>
 ld v40 M fun v41 =>
 ln v41 fun v42 =>
 mkSlK 2 23384026197294446691655098136326997907641993265157 (.k v42) (.k v42) zf M nm I ni fun v43 M nm I ni =>
 j39 t1 t2 t4 v43 M nm I ni
def S42_5 (call : CallT) (kf : KF) (t1 t2 t4 M nm I ni : Nat) : Res :=
 jn (S42_4 call kf) fun j45 =>
 call 76 [t1] M nm I ni fun v47 M nm I ni =>
 notK (.k v47) zf I ni fun v48 I ni =>
 jn (fun (v56 : Nat) =>
 pk v48 33 v56 fun v57 =>
 cnd v57 (buildK 2 871509787952055618708336279557 [] zf I ni fun v58 I ni =>
 storeK 2 (.k t4) (.k v58) zf M nm I ni fun _ M nm I ni =>
 loadNK 2 (.k t4) zf M I ni fun v60 I ni => rtn 2 [v60, 295147905179352826821] M nm I ni kf)
 (j45 t1 t2 t4 M nm I ni))
 (fun j50 => gd v48 1 (ln t1 fun v52 =>
 fa 0 t2 fun v53 =>
 ld v53 M fun v54 =>
 ne 5 v52 v54 fun v55 =>
 j50 v55) (j50 0))
def S42_6 (call : CallT) (kf : KF) (t1 t2 t4 M nm I ni : Nat) : Res :=
 jn (S42_5 call kf) fun j61 =>
 loadNK 2 (.k t2) zf M I ni fun v62 I ni =>
 call 22 [v62] M nm I ni fun v63 M nm I ni =>
 notK (.k v63) zf I ni fun v64 I ni =>
 cnd v64 (buildK 2 871509787952055618708336279557 [] zf I ni fun v65 I ni =>
 storeK 2 (.k t4) (.k v65) zf M nm I ni fun _ M nm I ni =>
 loadNK 2 (.k t4) zf M I ni fun v67 I ni => rtn 2 [v67, 295147905179352826501] M nm I ni kf)
 (j61 t1 t2 t4 M nm I ni)
def F42 (call : CallT) (t0 t1 M nm I ni : Nat) (kf : KF) : Res :=
 jn (S42_6 call kf) fun j68 =>
 boxK 2 (.k t0) zf M nm I ni fun v69 M nm I ni =>
 newK 2 871509787952055618708336279557 M nm I ni fun v70 M nm I ni =>
 j68 t1 v69 v70 M nm I ni
def g42 (call : CallT) : List Nat → Nat → Nat → Nat → Nat → KF → Res := unS fun t0 => unS fun t1 => un0 (F42 call t0 t1)
/- math/bits.Mul -/
def F128 (call : CallT) (t0 t1 M nm I ni : Nat) (kf : KF) : Res :=
 cnd 1 (convK .u64 .u32 (.k t0) zf I ni fun v4 I ni =>
 convK .u64 .u32 (.k t1) zf I ni fun v6 I ni =>
 call 159 [v4, v6] M nm I ni fun v7 M nm I ni =>
 f1 19 0 v7 I fun v9 =>
 f1 19 1 v7 I fun v10 =>
 convK .u32 .u64 (.k v9) zf I ni fun v14 I ni =>
 convK .u32 .u64 (.k v10) zf I ni fun v16 I ni =>
 rtn 2 [v14, v16] M nm I ni kf)
 (call 160 [t0, t1] M nm I ni fun v21 M nm I ni =>
 f1 19 0 v21 I fun v23 =>
 f1 19 1 v21 I fun v24 =>
 rtn 2 [v23, v24] M nm I ni kf)
def g128 (call : CallT) : List Nat → Nat → Nat → Nat → Nat → KF → Res := unS fun t0 => unS fun t1 => un0 (F128 call t0 t1)
/- slices.Clip[[]int,int] -/
def F234 (call : CallT) (t0 M nm I ni : Nat) (kf : KF) : Res :=
 ln t0 fun v4 =>
 ln t0 fun v6 =>
 slcK 1 (.k t0) none (some (.k v4)) (some (.k v6)) zf I ni fun v7 I ni =>
 kf v7 M nm I ni
def g234 (call : CallT) : List Nat → Nat → Nat → Nat → Nat → KF → Res := unS fun t0 => un0 (F234 call t0)
/- (*fretwork/bough.tree).place -/
def F226 (call : CallT) (t0 t1 M nm I ni : Nat) (kf : KF) : Res :=
 nilcK (.k t0) zf I ni fun v2 I ni =>
 fa 9 v2 fun v3 =>
 ld v3 M fun v4 =>
 ia 1 v4 t1 fun v6 =>
 ld v6 M fun v7 =>
 notK (.k v7) zf I ni fun v8 I ni =>
 cnd v8 (nilcK (.k t0) zf I ni fun v10 I ni =>
 fa 9 v10 fun v11 =>
 ld v11 M fun v12 =>
 ia 1 v12 t1 fun v14 =>
 storeK 1 (.k v14) (.k 33) zf M nm I ni fun _ M nm I ni =>
 nilcK (.k t0) zf I ni fun v17 I ni =>
 fa 10 v17 fun v18 =>
 ld v18 M fun v19 =>
 bldSK 1 1 295147905179352825861 [(0, 1, (.k t1))] zf M nm I ni fun v21 M nm I ni =>
 appW 1 v19 v21 M nm I ni fun v22 M nm I ni =>
 nilcK (.k t0) zf I ni fun v23 I ni =>
 fa 10 v23 fun v24 =>
 storeK 1 (.k v24) (.k v22) zf M nm I ni fun _ M nm I ni =>
 rtn 0 [] M nm I ni kf)
 (rtn 0 [] M nm I ni kf)
def g226 (call : CallT) : List Nat → Nat → Nat → Nat → Nat → KF → Res := unS fun t0 => unS fun t1 => un0 (F226 call t0 t1)
/- slices.pdqsortCmpFunc[[2]int] -/
def S64_1 (call : CallT) (n2 : Nat) (j1 : Nat → Nat → Nat → Nat → Nat → Nat → Nat → Nat → Nat → Nat → Nat → Res) (t0 t1 t2 t3 t4 t10 t11 t12 t13 M nm I ni : Nat) : Res :=
 lt 5 295147905179352825861 t1 fun v4 =>
 jn (fun (v20 M nm I ni : Nat) =>
 pk v4 v20 1 fun v21 =>
 cnd v21 (call 115 [t0, t1, t2, t13, t4] M nm I ni fun v27 M nm I ni =>
 j1 t0 v27 t2 t3 t4 t10 t11 M nm I ni)
 (call 116 [t0, t1, t2, t13, t4] M nm I ni fun v36 M nm I ni =>
 f1 19 0 v36 I fun v38 =>
 f1 19 1 v36 I fun v39 =>
 sbt n2 v38 t1 fun v46 =>
 sbt n2 t2 v38 fun v49 =>
 iopK .quo .i64 (.k t12) (.k 295147905179352826117) zf I ni fun v53 I ni => tkk n2 v53 fun v54 =>
 lt 5 v46 v49 fun v58 =>
 cnd v58 (ge 5 v46 v54 fun v61 =>
 call 64 [t0, t1, v38, t3, t4] M nm I ni fun v68 M nm I ni =>
 adt n2 v38 295147905179352825893 fun v70 =>
 j1 t0 v70 t2 t3 t4 v61 v39 M nm I ni)
 (ge 5 v49 v54 fun v74 =>
 adt n2 v38 295147905179352825893 fun v78 =>
 call 64 [t0, v78, t2, t3, t4] M nm I ni fun v82 M nm I ni =>
 j1 t0 t1 v38 t3 t4 v74 v39 M nm I ni)))
 (fun j6 => gd v4 33 (sbt n2 t1 295147905179352825893 fun v10 =>
 ia 2 t0 v10 fun v11 =>
 loadNK 2 (.k v11) zf M I ni fun v12 I ni =>
 ia 2 t0 t13 fun v15 =>
 loadNK 2 (.k v15) zf M I ni fun v16 I ni =>
 callvS call (.k t4) [(.k v12), (.k v16)] zf M nm I ni fun v17 M nm I ni =>
 lt 5 v17 295147905179352825861 fun v18 =>
 notK (.k v18) zf I ni fun v19 I ni =>
 j6 v19 M nm I ni) (j6 0 M nm I ni))
def S64_2 (call : CallT) (kf : KF) (n2 : Nat) (j1 : Nat → Nat → Nat → Nat → Nat → Nat → Nat → Nat → Nat → Nat → Nat → Res) (t0 t1 t2 t3 t4 t10 t11 t12 t13 t14 M nm I ni : Nat) : Res :=
 jn (S64_1 call n2 j1) fun j85 =>
 jn (fun (v90 : Nat) =>
 pk t10 v90 1 fun v91 =>
 jn (fun (v96 : Nat) =>
 pk v91 v96 1 fun v97 =>
 cnd v97 (call 114 [t0, t1, t2, t4] M nm I ni fun v102 M nm I ni =>
 cnd v102 (rtn 0 [] M nm I ni kf)
 (j85 t0 t1 t2 t3 t4 t10 t11 t12 t13 M nm I ni))
 (j85 t0 t1 t2 t3 t4 t10 t11 t12 t13 M nm I ni))
 (fun j93 => gd v91 33 (eq 5 t14 295147905179352825893 fun v95 =>
 j93 v95) (j93 0)))
 (fun j88 => gd t10 33 (j88 t11) (j88 0))
def S64_3 (call : CallT) (kf : KF) (n2 : Nat) (j1 : Nat → Nat → Nat → Nat → Nat → Nat → Nat → Nat → Nat → Nat → Nat → Res) (t0 t1 t2 t3 t4 t10 t11 t12 t13 t14 M nm I ni : Nat) : Res :=
 jn (S64_2 call kf n2 j1) fun j103 =>
 eq 5 t14 295147905179352825925 fun v105 =>
 cnd v105 (call 113 [t0, t1, t2, t4] M nm I ni fun v110 M nm I ni =>
 sbt n2 t2 295147905179352825893 fun v112 =>
 sbt n2 t13 t1 fun v115 =>
 sbt n2 v112 v115 fun v116 =>
 j103 t0 t1 t2 t3 t4 t10 t11 t12 v116 295147905179352825893 M nm I ni)
 (j103 t0 t1 t2 t3 t4 t10 t11 t12 t13 t14 M nm I ni)
def S64_4 (call : CallT) (kf : KF) (n2 : Nat) (j1 : Nat → Nat → Nat → Nat → Nat → Nat → Nat → Nat → Nat → Nat → Nat → Res) (t0 t1 t2 t3 t4 t10 t11 t12 M nm I ni : Nat) : Res :=
 jn (S64_3 call kf n2 j1) fun j119 =>
 call 112 [t0, t1, t2, t4] M nm I ni fun v124 M nm I ni =>
 f1 19 0 v124 I fun v126 =>
 f1 19 1 v124 I fun v127 =>
 j119 t0 t1 t2 t3 t4 t10 t11 t12 v126 v127 M nm I ni
def S64_5 (call : CallT) (kf : KF) (n2 : Nat) (j1 : Nat → Nat → Nat → Nat → Nat → Nat → Nat → Nat → Nat → Nat → Nat → Res) (t0 t1 t2 t3 t4 t10 t11 t12 M nm I ni : Nat) : Res :=
 jn (S64_4 call kf n2 j1) fun j130 =>
 notK (.k t10) zf I ni fun v132 I ni =>
 cnd v132 (call 111 [t0, t1, t2, t4] M nm I ni fun v137 M nm I ni =>
 sbt n2 t3 295147905179352825893 fun v139 =>
 j130 t0 t1 t2 v139 t4 t10 t11 t12 M nm I ni)
 (j130 t0 t1 t2 t3 t4 t10 t11 t12 M nm I ni)
def S64_6 (call : CallT) (kf : KF) (n2 : Nat) (j1 : Nat → Nat → Nat → Nat → Nat → Nat → Nat → Nat → Nat → Nat → Nat → Res) (t0 t1 t2 t3 t4 t10 t11 t12 M nm I ni : Nat) : Res :=
 jn (S64_5 call kf n2 j1) fun j141 =>
 eq 5 t3 295147905179352825861 fun v143 =>
 cnd v143 (call 110 [t0, t1, t2, t4] M nm I ni fun v148 M nm I ni =>
 rtn 0 [] M nm I ni kf)
 (j141 t0 t1 t2 t3 t4 t10 t11 t12 M nm I ni)
def S64_7 (call : CallT) (kf : KF) (n2 : Nat) (j1 : Nat → Nat → Nat → Nat → Nat → Nat → Nat → Nat → Nat → Nat → Nat → Res) (t0 t1 t2 t3 t4 t10 t11 t12 M nm I ni : Nat) : Res :=
 jn (S64_6 call kf n2 j1) fun j149 =>
 ge 5 295147905179352826245 t12 fun v151 =>
 cnd v151 (call 109 [t0, t1, t2, t4] M nm I ni fun v156 M nm I ni =>
 rtn 0 [] M nm I ni kf)
 (j149 t0 t1 t2 t3 t4 t10 t11 t12 M nm I ni)
def S64_8 (call : CallT) (kf : KF) (n2 : Nat) (j1 : Nat → Nat → Nat → Nat → Nat → Nat → Nat → Nat → Nat → Nat → Nat → Res) (t0 t1 t2 t3 t4 t10 t11 M nm I ni : Nat) : Res :=
 jn (S64_7 call kf n2 j1) fun j157 =>
 sbt n2 t2 t1 fun v160 =>
 j157 t0 t1 t2 t3 t4 t10 t11 v160 M nm I ni
def S64_9 (call : CallT) (kf : KF) (t0 t1 t2 t3 t4 t10 t11 M nm I ni : Nat) : Res :=
 lp (S64_8 call kf) (fun _ _ _ _ _ _ _ _ _ _ _ => .bad 73 0) t0 t1 t2 t3 t4 t10 t11 M nm I ni
def S64_10 (call : CallT) (kf : KF) (t0 t1 t2 t3 t4 t10 M nm I ni : Nat) : Res :=
 jn (S64_9 call kf) fun j162 =>
 j162 t0 t1 t2 t3 t4 t10 33 M nm I ni
def F64 (call : CallT) (t0 t1 t2 t3 t4 M nm I ni : Nat) (kf : KF) : Res :=
 jn (S64_10 call kf) fun j164 =>
 j164 t0 t1 t2 t3 t4 33 M nm I ni
def g64 (call : CallT) : List Nat → Nat → Nat → Nat → Nat → KF → Res := unS fun t0 => unS fun t1 => unS fun t2 => unS fun t3 => unS fun t4 => un0 (F64 call t0 t1 t2 t3 t4)
/- slices.Backward[[]int,int]$1 -/
def S201_1 (call : CallT) (kf : KF) (n2 : Nat) (j1 : Nat → Nat → Nat → Nat → Nat → Nat → Nat → Res) (t0 t1 t3 M nm I ni : Nat) : Res :=
 ge 5 t3 295147905179352825861 fun v4 =>
 cnd v4 (ld t1 M fun v7 =>
 ia 1 v7 t3 fun v9 =>
 ld v9 M fun v10 =>
 callvS call (.k t0) [(.k t3), (.k v10)] zf M nm I ni fun v11 M nm I ni =>
 notK (.k v11) zf I ni fun v12 I ni =>
 cnd v12 (rtn 0 [] M nm I ni kf)
 (sbt n2 t3 295147905179352825893 fun v14 =>
 j1 t0 t1 v14 M nm I ni))
 (rtn 0 [] M nm I ni kf)
def S201_2 (call : CallT) (kf : KF) (t0 t1 t3 M nm I ni : Nat) : Res :=
 lp (S201_1 call kf) (fun _ _ _ _ _ _ _ => .bad 73 0) t0 t1 t3 M nm I ni
def F201 (call : CallT) (t0 t1 M nm I ni : Nat) (kf : KF) : Res :=
 jn (S201_2 call kf) fun j16 =>
 ld t1 M fun v17 =>
 ln v17 fun v18 =>
 sb v18 295147905179352825893 fun v19 =>
 j16 t0 t1 v19 M nm I ni
def g201 (call : CallT) : List Nat → Nat → Nat → Nat → Nat → KF → Res := unS fun t0 => unS fun t1 => un0 (F201 call t0 t1)
/- fretwork/limb.Canon -/
def S227_1 (call : CallT) (kf : KF) (t0 t1 t4 t7 M nm I ni : Nat) : Res :=
 call 232 [t0, t1, t7] M nm I ni fun v4 M nm I ni =>
 f1 19 0 v4 I fun v6 =>
 f1 19 1 v4 I fun v7 =>
 ne 5 v7 295147905179352825861 fun v11 =>
 cnd v11 (buildK 2 871509787656907713528983453707 [] zf I ni fun v12 I ni =>
 storeK 2 (.k t4) (.k v12) zf M nm I ni fun _ M nm I ni =>
 loadNK 2 (.k t4) zf M I ni fun v15 I ni => rtn 2 [v15, v7] M nm I ni kf)
 (buildK 2 871509787656907713528983453707 [(0, 1, (.k v6)), (1, 1, (.k t7))] zf I ni fun v18 I ni =>
 storeK 2 (.k t4) (.k v18) zf M nm I ni fun _ M nm I ni =>
 loadNK 2 (.k t4) zf M I ni fun v20 I ni => rtn 2 [v20, 295147905179352825861] M nm I ni kf)
def S227_2 (call : CallT) (kf : KF) (t0 t1 t4 t6 t7 M nm I ni : Nat) : Res :=
 jn (S227_1 call kf) fun j21 =>
 ln t6 fun v23 =>
 eq 5 v23 295147905179352825925 fun v24 =>
 cnd v24 (ia 1 t1 295147905179352825893 fun v26 =>
 ld v26 M fun v27 =>
 ia 1 t1 295147905179352825861 fun v29 =>
 ld v29 M fun v30 =>
 lt 5 v27 v30 fun v31 =>
 cnd v31 (call 230 [t7] M nm I ni fun v33 M nm I ni =>
 j21 t0 t1 t4 t7 M nm I ni)
 (j21 t0 t1 t4 t7 M nm I ni))
 (call 231 [t0, t6, t1] M nm I ni fun v37 M nm I ni =>
 f1 19 0 v37 I fun v39 =>
 f1 19 1 v37 I fun v40 =>
 ne 5 v40 295147905179352825861 fun v44 =>
 cnd v44 (buildK 2 871509787656907713528983453707 [] zf I ni fun v45 I ni =>
 storeK 2 (.k t4) (.k v45) zf M nm I ni fun _ M nm I ni =>
 loadNK 2 (.k t4) zf M I ni fun v48 I ni => rtn 2 [v48, v40] M nm I ni kf)
 (j21 t0 t1 t4 v39 M nm I ni))
def S227_3 (call : CallT) (kf : KF) (t0 t1 t4 t6 M nm I ni : Nat) : Res :=
 jn (S227_2 call kf) fun j51 =>
 call 77 [t6] M nm I ni fun v53 M nm I ni =>
 j51 t0 t1 t4 t6 v53 M nm I ni
def S227_4 (call : CallT) (kf : KF) (t0 t1 t4 M nm I ni : Nat) : Res :=
 jn (S227_3 call kf) fun j55 =>
 call 229 [t0] M nm I ni fun v57 M nm I ni =>
 j55 t0 t1 t4 v57 M nm I ni
def S227_5 (call : CallT) (kf : KF) (t0 t1 t4 M nm I ni : Nat) : Res :=
 jn (S227_4 call kf) fun j59 =>
 call 228 [t0, t1] M nm I ni fun v62 M nm I ni =>
 notK (.k v62) zf I ni fun v63 I ni =>
 cnd v63 (buildK 2 871509787656907713528983453707 [] zf I ni fun v64 I ni =>
 storeK 2 (.k t4) (.k v64) zf M nm I ni fun _ M nm I ni =>
 loadNK 2 (.k t4) zf M I ni fun v66 I ni => rtn 2 [v66, 295147905179352831941] M nm I ni kf)
 (j59 t0 t1 t4 M nm I ni)
def F227 (call : CallT) (t0 t1 M nm I ni : Nat) (kf : KF) : Res :=
 jn (S227_5 call kf) fun j67 =>
 newK 2 871509787656907713528983453707 M nm I ni fun v68 M nm I ni =>
 j67 t0 t1 v68 M nm I ni
def g227 (call : CallT) : List Nat → Nat → Nat → Nat → Nat → KF → Res := unS fun t0 => unS fun t1 => un0 (F227 call t0 t1)
/- fretwork/catalogue.Import -/
def S28_1 (call : CallT) (kf : KF) (j19 : Nat → Nat → Nat → Nat → Nat → Nat → Nat → Nat → Nat → Nat → Res) (t0 t6 t7 t9 t10 t34 t35 M nm I ni : Nat) : Res :=
 call 52 [t10] M nm I ni fun v21 M nm I ni =>
 f1 19 0 v21 I fun v23 =>
 f1 19 1 v21 I fun v24 =>
 f1 19 2 v21 I fun v25 =>
 notK (.k v25) zf I ni fun v30 I ni =>
 jn (fun (v37 : Nat) =>
 pk v30 33 v37 fun v38 =>
 cnd v38 (rtn 2 [10, 295147905179352833861] M nm I ni kf)
 (slcK 1 (.k v24) none (some (.k v23)) none zf I ni fun v43 I ni =>
 nilcK (.k t6) zf I ni fun v46 I ni =>
 fa 4 v46 fun v47 =>
 ld v47 M fun v48 =>
 strOfW v43 M I ni fun v50 I ni =>
 lookK .str true false 1 295147905179352825861 (.k v48) (.k v50) zf M I ni fun v51 I ni =>
 f1 19 0 v51 I fun v53 =>
 f1 19 1 v51 I fun v54 =>
 cnd v54 (rtn 2 [10, 295147905179352833861] M nm I ni kf)
 (call 21 [v43] M nm I ni fun v61 M nm I ni =>
 f1 19 0 v61 I fun v63 =>
 f1 19 1 v61 I fun v64 =>
 newK 2 871509787952055618708336279557 M nm I ni fun v65 M nm I ni =>
 storeK 2 (.k v65) (.k v63) zf M nm I ni fun _ M nm I ni =>
 ne 5 v64 295147905179352825861 fun v68 =>
 cnd v68 (rtn 2 [10, 295147905179352833861] M nm I ni kf)
 (strOfW v43 M I ni fun v73 I ni =>
 call 26 [t6, v73, t9] M nm I ni fun v75 M nm I ni =>
 slcK 1 (.k v24) (some (.k v23)) none none zf I ni fun v78 I ni =>
 j19 t0 v78 t6 t7 t34 t35 M nm I ni))))
 (fun j32 => gd v30 1 (ln v24 fun v35 =>
 lt 5 v35 v23 fun v36 =>
 j32 v36) (j32 0))
def S28_2 (call : CallT) (kf : KF) (j19 : Nat → Nat → Nat → Nat → Nat → Nat → Nat → Nat → Nat → Nat → Res) (t0 t6 t7 t9 t10 t11 t34 t35 M nm I ni : Nat) : Res :=
 jn (S28_1 call kf j19) fun j80 =>
 notK (.k t11) zf I ni fun v82 I ni =>
 jn (fun (v87 : Nat) =>
 pk v82 33 v87 fun v88 =>
 jn (fun (v93 : Nat) =>
 pk v88 33 v93 fun v94 =>
 cnd v94 (rtn 2 [10, 295147905179352833861] M nm I ni kf)
 (j80 t0 t6 t7 t9 t10 t34 t35 M nm I ni))
 (fun j90 => gd v88 1 (lt 5 295147905248072302565 t9 fun v92 =>
 j90 v92) (j90 0)))
 (fun j84 => gd v82 1 (lt 5 t9 295147905179352825893 fun v86 =>
 j84 v86) (j84 0))
def S28_3 (call : CallT) (kf : KF) (n16 : Nat) (j15 : Nat → Nat → Nat → Nat → Nat → Nat → Nat → Nat → Nat → Nat → Res) (t0 t1 t6 t7 t34 t35 M nm I ni : Nat) : Res :=
 jn (fun (t0 t1 t6 t7 t34 t35 M nm I ni : Nat) =>
 adt n16 t35 295147905179352825893 fun v17 =>
 j15 t0 t1 t6 t7 t34 v17 M nm I ni) fun j19 =>
 jn (S28_2 call kf j19) fun j97 =>
 call 52 [t1] M nm I ni fun v99 M nm I ni =>
 f1 19 0 v99 I fun v101 =>
 f1 19 1 v99 I fun v102 =>
 f1 19 2 v99 I fun v103 =>
 j97 t0 t6 t7 v101 v102 v103 t34 t35 M nm I ni
def S28_4 (call : CallT) (kf : KF) (j14 : Nat → Nat → Nat → Nat → Nat → Nat → Nat → Nat → Res) (n16 : Nat) (j15 : Nat → Nat → Nat → Nat → Nat → Nat → Nat → Nat → Nat → Nat → Res) (t0 t1 t6 t7 t34 t35 t36 M nm I ni : Nat) : Res :=
 jn (S28_3 call kf n16 j15) fun j107 =>
 cnd t36 (j107 t0 t1 t6 t7 t34 t35 M nm I ni)
 (j14 t0 t1 t6 t7 M nm I ni)
def S28_5 (call : CallT) (kf : KF) (j14 : Nat → Nat → Nat → Nat → Nat → Nat → Nat → Nat → Res) (n16 : Nat) (j15 : Nat → Nat → Nat → Nat → Nat → Nat → Nat → Nat → Nat → Nat → Res) (t0 t1 t6 t7 t34 t35 M nm I ni : Nat) : Res :=
 jn (S28_4 call kf j14 n16 j15) fun j108 =>
 lt 5 t35 t34 fun v109 =>
 j108 t0 t1 t6 t7 t34 t35 v109 M nm I ni
def S28_6 (call : CallT) (kf : KF) (j14 : Nat → Nat → Nat → Nat → Nat → Nat → Nat → Nat → Res) (t0 t1 t6 t7 t34 t35 M nm I ni : Nat) : Res :=
 lp (S28_5 call kf j14) (fun _ _ _ _ _ _ _ _ _ _ => .bad 73 0) t0 t1 t6 t7 t34 t35 M nm I ni
def S28_7 (call : CallT) (kf : KF) (t0 t1 t6 t7 M nm I ni : Nat) : Res :=
 jn (fun (t0 t1 t6 t7 M nm I ni : Nat) =>
 ln t1 fun v2 =>
 lt 5 295147905179352825861 v2 fun v3 =>
 cnd v3 (rtn 2 [10, 295147905179352833861] M nm I ni kf)
 (lt 5 t0 t7 fun v8 =>
 cnd v8 (rtn 2 [10, 295147905179352826021] M nm I ni kf)
 (rtn 2 [t6, 295147905179352825861] M nm I ni kf))) fun j14 =>
 jn (S28_6 call kf j14) fun j110 =>
 j110 t0 t1 t6 t7 t7 295147905179352825861 M nm I ni
def S28_8 (call : CallT) (kf : KF) (t0 t1 t6 t7 t8 M nm I ni : Nat) : Res :=
 jn (S28_7 call kf) fun j113 =>
 notK (.k t8) zf I ni fun v115 I ni =>
 cnd v115 (rtn 2 [10, 295147905179352833861] M nm I ni kf)
 (j113 t0 t1 t6 t7 M nm I ni)
def S28_9 (call : CallT) (kf : KF) (t0 t1 t6 M nm I ni : Nat) : Res :=
 jn (S28_8 call kf) fun j118 =>
 call 52 [t1] M nm I ni fun v120 M nm I ni =>
 f1 19 0 v120 I fun v122 =>
 f1 19 1 v120 I fun v123 =>
 f1 19 2 v120 I fun v124 =>
 j118 t0 v123 t6 v122 v124 M nm I ni
def S28_10 (call : CallT) (kf : KF) (t0 t1 M nm I ni : Nat) : Res :=
 jn (S28_9 call kf) fun j128 =>
 call 36 [t0] M nm I ni fun v130 M nm I ni =>
 j128 t0 t1 v130 M nm I ni
def S28_11 (call : CallT) (kf : KF) (t0 t1 M nm I ni : Nat) : Res :=
 jn (S28_10 call kf) fun j132 =>
 lt 5 t0 295147905179352825861 fun v134 =>
 jn (fun (v139 : Nat) =>
 pk v134 33 v139 fun v140 =>
 cnd v140 (rtn 2 [10, 295147905179352825925] M nm I ni kf)
 (j132 t0 t1 M nm I ni))
 (fun j136 => gd v134 1 (lt 5 295147905179352857861 t0 fun v138 =>
 j136 v138) (j136 0))
def F28 (call : CallT) (t0 t1 M nm I ni : Nat) (kf : KF) : Res :=
 jn (S28_11 call kf) fun j143 =>
 j143 t0 t1 M nm I ni
def g28 (call : CallT) : List Nat → Nat → Nat → Nat → Nat → KF → Res := unS fun t0 => unS fun t1 => un0 (F28 call t0 t1)
/- slices.SortFunc[[][2]int,[2]int] -/
def F37 (call : CallT) (t0 t1 M nm I ni : Nat) (kf : KF) : Res :=
 ln t0 fun v2 =>
 convK .i64 .u64 (.k v2) zf I ni fun v7 I ni =>
 call 65 [v7] M nm I ni fun v8 M nm I ni =>
 call 64 [t0, 295147905179352825861, v2, v8, t1] M nm I ni fun v10 M nm I ni =>
 rtn 0 [] M nm I ni kf
def g37 (call : CallT) : List Nat → Nat → Nat → Nat → Nat → KF → Res := unS fun t0 => unS fun t1 => un0 (F37 call t0 t1)
/- fretwork/catalogue.number -/
def F52 (call : CallT) (t0 M nm I ni : Nat) (kf : KF) : Res :=
 ln t0 fun v5 =>
 lt 5 v5 295147905179352825989 fun v6 =>
 cnd v6 (rtn 3 [295147905179352825861, 11, 1] M nm I ni kf)
 (ia 1 t0 295147905179352825861 fun v11 =>
 ld v11 M fun v12 =>
 convK .u8 .i64 (.k v12) zf I ni fun v13 I ni =>
 shfK .shl .i64 .u64 (.k v13) (.k 777) zf I ni fun v14 I ni =>
 ia 1 t0 295147905179352825893 fun v16 =>
 ld v16 M fun v17 =>
 convK .u8 .i64 (.k v17) zf I ni fun v18 I ni =>
 shfK .shl .i64 .u64 (.k v18) (.k 521) zf I ni fun v19 I ni =>
 iopK .or .i64 (.k v14) (.k v19) zf I ni fun v20 I ni =>
 ia 1 t0 295147905179352825925 fun v22 =>
 ld v22 M fun v23 =>
 convK .u8 .i64 (.k v23) zf I ni fun v24 I ni =>
 shfK .shl .i64 .u64 (.k v24) (.k 265) zf I ni fun v25 I ni =>
 iopK .or .i64 (.k v20) (.k v25) zf I ni fun v26 I ni =>
 ia 1 t0 295147905179352825957 fun v28 =>
 ld v28 M fun v29 =>
 convK .u8 .i64 (.k v29) zf I ni fun v30 I ni =>
 iopK .or .i64 (.k v26) (.k v30) zf I ni fun v31 I ni =>
 slcK 1 (.k t0) (some (.k 295147905179352825989)) none none zf I ni fun v33 I ni =>
 rtn 3 [v31, v33, 33] M nm I ni kf)
def g52 (call : CallT) : List Nat → Nat → Nat → Nat → Nat → KF → Res := unS fun t0 => un0 (F52 call t0)
/- fretwork/links.Two -/
def S233_1 (j17 : Nat → Nat → Nat → Nat → Nat → Res) (n19 : Nat) (j18 : Nat → Nat → Nat → Nat → Nat → Nat → Nat → Nat → Nat → Res) (t4 t7 t44 t45 t46 M nm I ni : Nat) : Res :=
 lt 5 t46 t45 fun v20 =>
 cnd v20 (ia 3 t44 t46 fun v21 =>
 loadNK 3 (.k v21) zf M I ni fun v22 I ni =>
 newK 3 1852673427797059126808521268839323955668793148457942454848160119256572240068613 M nm I ni fun v23 M nm I ni =>
 storeK 3 (.k v23) (.k v22) zf M nm I ni fun _ M nm I ni =>
 fa 0 v23 fun v25 =>
 ld v25 M fun v26 =>
 lookW (.word 5) false false 1 295147905179352825861 t4 v26 M I ni fun v27 I ni =>
 fa 1 v23 fun v29 =>
 ld v29 M fun v30 =>
 lookW (.word 5) false false 1 295147905179352825861 t4 v30 M I ni fun v31 I ni =>
 ia 1 t7 v27 fun v38 =>
 ld v38 M fun v39 =>
 bldSK 1 1 295147905179352825861 [(0, 1, (.k v31))] zf M nm I ni fun v41 M nm I ni =>
 appW 1 v39 v41 M nm I ni fun v42 M nm I ni =>
 ia 1 t7 v27 fun v43 =>
 storeK 1 (.k v43) (.k v42) zf M nm I ni fun _ M nm I ni =>
 ia 1 t7 v31 fun v48 =>
 ld v48 M fun v49 =>
 bldSK 1 1 295147905179352825861 [(0, 1, (.k v27))] zf M nm I ni fun v51 M nm I ni =>
 appW 1 v49 v51 M nm I ni fun v52 M nm I ni =>
 ia 1 t7 v31 fun v53 =>
 storeK 1 (.k v53) (.k v52) zf M nm I ni fun _ M nm I ni =>
 adt n19 t46 295147905179352825893 fun v54 =>
 j18 t4 t7 t44 t45 v54 M nm I ni)
 (j17 t7 M nm I ni)
def S233_2 (j17 : Nat → Nat → Nat → Nat → Nat → Res) (t4 t7 t44 t45 t46 M nm I ni : Nat) : Res :=
 lp (S233_1 j17) (fun _ _ _ _ _ _ _ _ _ => .bad 73 0) t4 t7 t44 t45 t46 M nm I ni
def S233_3 (call : CallT) (kf : KF) (t0 t4 t7 M nm I ni : Nat) : Res :=
 jn (fun (t7 M nm I ni : Nat) =>
 call 241 [t7, 295147905179352825829] M nm I ni fun v2 M nm I ni =>
 f1 19 0 v2 I fun v4 =>
 f1 19 1 v2 I fun v5 =>
 jn (fun (v14 M nm I ni : Nat) =>
 pk v4 v14 1 fun v15 =>
 kf v15 M nm I ni)
 (fun j10 => gd v4 33 (call 242 [v5, 33] M nm I ni fun v12 M nm I ni =>
 notK (.k v12) zf I ni fun v13 I ni =>
 j10 v13 M nm I ni) (j10 0 M nm I ni))) fun j17 =>
 jn (S233_2 j17) fun j56 =>
 ln t0 fun v58 =>
 j56 t4 t7 t0 v58 295147905179352825861 M nm I ni
def S233_4 (call : CallT) (kf : KF) (t0 t3 t4 M nm I ni : Nat) : Res :=
 jn (S233_3 call kf) fun j60 =>
 ln t3 fun v62 =>
 mkSlK 1 11 (.k v62) (.k v62) zf M nm I ni fun v63 M nm I ni =>
 j60 t0 t4 v63 M nm I ni
def S233_5 (call : CallT) (kf : KF) (t0 t3 t4 M nm I ni : Nat) : Res :=
 jn (S233_4 call kf) fun j65 =>
 jn (fun (t0 t3 t4 t30 t31 t32 M nm I ni : Nat) =>
 lp (fun (n67 : Nat) (j66 : Nat → Nat → Nat → Nat → Nat → Nat → Nat → Nat → Nat → Nat → Res) (t0 t3 t4 t30 t31 t32 M nm I ni : Nat) =>
 lt 5 t32 t31 fun v68 =>
 cnd v68 (ia 1 t30 t32 fun v70 =>
 ld v70 M fun v71 =>
 updW (.word 5) t4 v71 t32 M nm I ni fun _ M nm I ni =>
 adt n67 t32 295147905179352825893 fun v77 =>
 j66 t0 t3 t4 t30 t31 v77 M nm I ni)
 (j65 t0 t3 t4 M nm I ni)) (fun _ _ _ _ _ _ _ _ _ _ => .bad 73 0) t0 t3 t4 t30 t31 t32 M nm I ni) fun j79 =>
 ln t3 fun v81 =>
 j79 t0 t3 t4 t3 v81 295147905179352825861 M nm I ni
def S233_6 (call : CallT) (kf : KF) (t0 t3 M nm I ni : Nat) : Res :=
 jn (S233_5 call kf) fun j83 =>
 ln t3 fun v85 =>
 mkMapHK (.k v85) zf M nm I ni fun v86 M nm I ni =>
 j83 t0 t3 v86 M nm I ni
def S233_7 (call : CallT) (kf : KF) (t0 t3 M nm I ni : Nat) : Res :=
 jn (S233_6 call kf) fun j88 =>
 ln t3 fun v90 =>
 lt 5 v90 295147905179352825957 fun v91 =>
 cnd v91 (kf 33 M nm I ni)
 (j88 t0 t3 M nm I ni)
def S233_8 (call : CallT) (kf : KF) (t0 M nm I ni : Nat) : Res :=
 jn (S233_7 call kf) fun j93 =>
 call 229 [t0] M nm I ni fun v95 M nm I ni =>
 j93 t0 v95 M nm I ni
def S233_9 (call : CallT) (kf : KF) (t0 M nm I ni : Nat) : Res :=
 jn (S233_8 call kf) fun j97 =>
 call 240 [t0] M nm I ni fun v99 M nm I ni =>
 notK (.k v99) zf I ni fun v100 I ni =>
 jn (fun (v106 : Nat) =>
 pk v100 33 v106 fun v107 =>
 cnd v107 (kf 1 M nm I ni)
 (j97 t0 M nm I ni))
 (fun j102 => gd v100 1 (ln t0 fun v104 =>
 eq 5 v104 295147905179352825861 fun v105 =>
 j102 v105) (j102 0))
def F233 (call : CallT) (t0 M nm I ni : Nat) (kf : KF) : Res :=
 jn (S233_9 call kf) fun j109 =>
 j109 t0 M nm I ni
def g233 (call : CallT) : List Nat → Nat → Nat → Nat → Nat → KF → Res := unS fun t0 => un0 (F233 call t0)
/- slices.insertionSortCmpFunc[int] -/
def S338_1 (call : CallT) (j6 : Nat → Nat → Nat → Nat → Nat → Nat → Nat → Nat → Nat → Res) (n8 : Nat) (j7 : Nat → Nat → Nat → Nat → Nat → Nat → Nat → Nat → Nat → Nat → Res) (t0 t1 t2 t3 t8 t9 M nm I ni : Nat) : Res :=
 lt 5 t1 t9 fun v11 =>
 jn (fun (v26 M nm I ni : Nat) =>
 pk v11 v26 1 fun v27 =>
 cnd v27 (sbt n8 t9 295147905179352825893 fun v32 =>
 sbt n8 t9 295147905179352825893 fun v35 =>
 ia 1 t0 v35 fun v36 =>
 ld v36 M fun v37 =>
 ia 1 t0 t9 fun v40 =>
 ld v40 M fun v41 =>
 ia 1 t0 t9 fun v42 =>
 storeK 1 (.k v42) (.k v37) zf M nm I ni fun _ M nm I ni =>
 ia 1 t0 v32 fun v43 =>
 storeK 1 (.k v43) (.k v41) zf M nm I ni fun _ M nm I ni =>
 sbt n8 t9 295147905179352825893 fun v45 =>
 j7 t0 t1 t2 t3 t8 v45 M nm I ni)
 (j6 t0 t1 t2 t3 t8 M nm I ni))
 (fun j13 => gd v11 33 (ia 1 t0 t9 fun v17 =>
 ld v17 M fun v18 =>
 sbt n8 t9 295147905179352825893 fun v21 =>
 ia 1 t0 v21 fun v22 =>
 ld v22 M fun v23 =>
 callvS call (.k t3) [(.k v18), (.k v23)] zf M nm I ni fun v24 M nm I ni =>
 lt 5 v24 295147905179352825861 fun v25 =>
 j13 v25 M nm I ni) (j13 0 M nm I ni))
def S338_2 (call : CallT) (j6 : Nat → Nat → Nat → Nat → Nat → Nat → Nat → Nat → Nat → Res) (t0 t1 t2 t3 t8 t9 M nm I ni : Nat) : Res :=
 lp (S338_1 call j6) (fun _ _ _ _ _ _ _ _ _ _ => .bad 73 0) t0 t1 t2 t3 t8 t9 M nm I ni
def S338_3 (call : CallT) (n2 : Nat) (j1 : Nat → Nat → Nat → Nat → Nat → Nat → Nat → Nat → Nat → Res) (t0 t1 t2 t3 t8 M nm I ni : Nat) : Res :=
 jn (fun (t0 t1 t2 t3 t8 M nm I ni : Nat) =>
 adt n2 t8 295147905179352825893 fun v4 =>
 j1 t0 t1 t2 t3 v4 M nm I ni) fun j6 =>
 jn (S338_2 call j6) fun j47 =>
 j47 t0 t1 t2 t3 t8 t8 M nm I ni
def S338_4 (call : CallT) (kf : KF) (n2 : Nat) (j1 : Nat → Nat → Nat → Nat → Nat → Nat → Nat → Nat → Nat → Res) (t0 t1 t2 t3 t8 M nm I ni : Nat) : Res :=
 jn (S338_3 call n2 j1) fun j50 =>
 lt 5 t8 t2 fun v53 =>
 cnd v53 (j50 t0 t1 t2 t3 t8 M nm I ni)
 (rtn 0 [] M nm I ni kf)
def S338_5 (call : CallT) (kf : KF) (t0 t1 t2 t3 t8 M nm I ni : Nat) : Res :=
 lp (S338_4 call kf) (fun _ _ _ _ _ _ _ _ _ => .bad 73 0) t0 t1 t2 t3 t8 M nm I ni
def F338 (call : CallT) (t0 t1 t2 t3 M nm I ni : Nat) (kf : KF) : Res :=
 jn (S338_5 call kf) fun j54 =>
 ad t1 295147905179352825893 fun v56 =>
 j54 t0 t1 t2 t3 v56 M nm I ni
def g338 (call : CallT) : List Nat → Nat → Nat → Nat → Nat → KF → Res := unS fun t0 => unS fun t1 => unS fun t2 => unS fun t3 => un0 (F338 call t0 t1 t2 t3)
/- (*fretwork/bough.cut).weigh -/
def S397_1 (j5 : Nat → Nat → Nat → Nat → Nat → Res) (n7 : Nat) (j6 : Nat → Nat → Nat → Nat → Nat → Nat → Nat → Nat → Nat → Res) (t1 t6 t25 t26 t27 M nm I ni : Nat) : Res :=
 lt 5 t27 t26 fun v8 =>
 cnd v8 (ia 1 t25 t27 fun v9 =>
 ld v9 M fun v10 =>
 nilcK (.k t1) zf I ni fun v14 I ni =>
 fa 5 v14 fun v15 =>
 ld v15 M fun v16 =>
 ia 1 v16 v10 fun v18 =>
 ld v18 M fun v19 =>
 bldSK 1 1 295147905179352825861 [(0, 1, (.k v19))] zf M nm I ni fun v20 M nm I ni =>
 appW 1 t6 v20 M nm I ni fun v21 M nm I ni =>
 adt n7 t27 295147905179352825893 fun v23 =>
 j6 t1 v21 t25 t26 v23 M nm I ni)
 (j5 t6 M nm I ni)
def S397_2 (j5 : Nat → Nat → Nat → Nat → Nat → Res) (t1 t6 t25 t26 t27 M nm I ni : Nat) : Res :=
 lp (S397_1 j5) (fun _ _ _ _ _ _ _ _ _ => .bad 73 0) t1 t6 t25 t26 t27 M nm I ni
def S397_3 (call : CallT) (kf : KF) (t0 t1 t6 M nm I ni : Nat) : Res :=
 jn (fun (t6 M nm I ni : Nat) =>
 call 27 [t6] M nm I ni fun v2 M nm I ni =>
 rtn 2 [v2, 295147905179352825861] M nm I ni kf) fun j5 =>
 jn (S397_2 j5) fun j25 =>
 nilcK (.k t0) zf I ni fun v28 I ni =>
 fa 0 v28 fun v29 =>
 ld v29 M fun v30 =>
 call 398 [t1, v30] M nm I ni fun v31 M nm I ni =>
 ln v31 fun v32 =>
 j25 t1 t6 v31 v32 295147905179352825861 M nm I ni
def S397_4 (call : CallT) (kf : KF) (t0 t1 M nm I ni : Nat) : Res :=
 jn (S397_3 call kf) fun j34 =>
 nilcK (.k t1) zf I ni fun v36 I ni =>
 fa 6 v36 fun v37 =>
 ld v37 M fun v38 =>
 nilcK (.k t0) zf I ni fun v40 I ni =>
 fa 1 v40 fun v41 =>
 ld v41 M fun v42 =>
 ia 1 v38 v42 fun v43 =>
 ld v43 M fun v44 =>
 bldSK 1 1 295147905179352825861 [(0, 1, (.k v44))] zf M nm I ni fun v45 M nm I ni =>
 j34 t0 t1 v45 M nm I ni
def F397 (call : CallT) (t0 t1 M nm I ni : Nat) (kf : KF) : Res :=
 jn (S397_4 call kf) fun j47 =>
 j47 t0 t1 M nm I ni
def g397 (call : CallT) : List Nat → Nat → Nat → Nat → Nat → KF → Res := unS fun t0 => unS fun t1 => un0 (F397 call t0 t1)
/- fretwork/walk.Walk -/
def F191 (call : CallT) (t0 t1 M nm I ni : Nat) (kf : KF) : Res :=
 boxK 2 (.k t0) zf M nm I ni fun v1 M nm I ni =>
 loadNK 2 (.k v1) zf M I ni fun v5 I ni =>
 bldSK 1 1 295147905179352825861 [(0, 1, (.k t1))] zf M nm I ni fun v7 M nm I ni =>
 call 53 [v5, v7] M nm I ni fun v8 M nm I ni =>
 f1 19 0 v8 I fun v10 =>
 f1 19 1 v8 I fun v11 =>
 ne 5 v11 295147905179352825861 fun v15 =>
 cnd v15 (rtn 3 [11, 11, v11] M nm I ni kf)
 (call 54 [v10, t1] M nm I ni fun v22 M nm I ni =>
 f1 19 0 v22 I fun v24 =>
 f1 19 1 v22 I fun v25 =>
 rtn 3 [v24, v25, 295147905179352825861] M nm I ni kf)
def g191 (call : CallT) : List Nat → Nat → Nat → Nat → Nat → KF → Res := unS fun t0 => unS fun t1 => un0 (F191 call t0 t1)
end
end Go.Proofs.YtpjhkpmmbeoghaaGreat.Ev

