/- Part 4 of a verified evaluator, and what it reckons of the player. -/
import Derived.Test.YtpjhkpmmbeoghaaGreatDoorK03
set_option linter.unusedVariables false
set_option linter.unusedSimpArgs false
set_option linter.unusedSectionVars false
set_option maxRecDepth 100000
set_option linter.unusedVariables false
namespace Go.Proofs.YtpjhkpmmbeoghaaGreatDoor.Ev
open Go
noncomputable section
def S134_1 (c : Y) (k : KF) (j8 : X6) (n10 : Nat) (j9 : X9) (t0 t1 t9 t10 t11 M m I i : Nat) : Res :=
 lt 5 t11 t10 fun v11 =>
 cnd v11 (ia 1 t9 t11 fun v13 =>
 ld v13 M fun v14 =>
 ln t1 fun v19 =>
 ge 5 t11 v19 fun v20 =>
 cnd v20 (k 295147905179352825893 M m I i)
 (ia 1 t1 t11 fun v24 =>
 ld v24 M fun v25 =>
 c 192 [v14, v25] M m I i fun v29 M m I i =>
 ne 5 v29 295147905179352825861 fun v32 =>
 cnd v32 (k v29 M m I i)
 (adt n10 t11 295147905179352825893 fun v35 =>
 j9 t0 t1 t9 t10 v35 M m I i)))
 (j8 t0 t1 M m I i)
def S134_2 (c : Y) (k : KF) (j8 : X6) (t0 t1 t9 t10 t11 M m I i : Nat) : Res :=
 lp (S134_1 c k j8) (fun _ _ _ _ _ _ _ _ _ => .bad 73 0) t0 t1 t9 t10 t11 M m I i
def S134_3 (c : Y) (k : KF) (t0 t1 M m I i : Nat) : Res :=
 jn (fun (t0 t1 M m I i : Nat) =>
 ln t0 fun v2 =>
 ln t1 fun v4 =>
 lt 5 v2 v4 fun v5 =>
 cnd v5 (k 295147905179352825829 M m I i)
 (k 295147905179352825861 M m I i)) fun j8 =>
 jn (S134_2 c k j8) fun j37 =>
 ln t0 fun v39 =>
 j37 t0 t1 t0 v39 295147905179352825861 M m I i
def F134 (c : Y) (t0 t1 M m I i : Nat) (k : KF) : Res :=
 jn (S134_3 c k) fun j41 =>
 j41 t0 t1 M m I i
def g134 (c : Y) : List Nat → Nat → Nat → Nat → Nat → KF → Res := unS fun t0 => unS fun t1 => un0 (F134 c t0 t1)
def F192 (c : Y) (t0 t1 M m I i : Nat) (k : KF) : Res :=
 c 224 [t0] M m I i fun v3 M m I i =>
 c 224 [t1] M m I i fun v6 M m I i =>
 cnd v3 (cnd v6 (k 295147905179352825861 M m I i)
 (k 295147905179352825829 M m I i))
 (cnd v6 (k 295147905179352825893 M m I i)
 (lt 6 t0 t1 fun v16 =>
 cnd v16 (k 295147905179352825829 M m I i)
 (lt 6 t1 t0 fun v20 =>
 cnd v20 (k 295147905179352825893 M m I i)
 (k 295147905179352825861 M m I i))))
def g192 (c : Y) : List Nat → Nat → Nat → Nat → Nat → KF → Res := unS fun t0 => unS fun t1 => un0 (F192 c t0 t1)
def S37_1 (c : Y) (k : KF) (j2 : X4) (n4 : Nat) (j3 : X8) (t1 t20 t21 t22 M m I i : Nat) : Res :=
 lt 5 t22 t21 fun v5 =>
 cnd v5 (ia 2 t20 t22 fun v7 =>
 loadNK 2 (.k v7) zf M I i fun v8 I i =>
 newK 2 23384026197294446691655098136326997907641993265157 M m I i fun v9 M m I i =>
 storeK 2 (.k v9) (.k v8) zf M m I i fun _ M m I i =>
 iadrAK 2 1 (.k v9) (.k 295147905179352825861) zf I i fun v11 I i =>
 ld v11 M fun v12 =>
 lt 5 v12 295147905179352825861 fun v13 =>
 jn (fun (v21 M m I i : Nat) =>
 pk v13 33 v21 fun v22 =>
 jn (fun (v30 M m I i : Nat) =>
 pk v22 33 v30 fun v31 =>
 cnd v31 (k 1 M m I i)
 (lt 5 295147905179352825861 t22 fun v34 =>
 jn (fun (v46 M m I i : Nat) =>
 pk v34 v46 1 fun v47 =>
 cnd v47 (k 1 M m I i)
 (adt n4 t22 295147905179352825893 fun v49 =>
 j3 t1 t20 t21 v49 M m I i))
 (fun j36 => gd v34 33 (fa 1 t1 fun v37 =>
 ld v37 M fun v38 =>
 sbt n4 t22 295147905179352825893 fun v40 =>
 ia 2 v38 v40 fun v41 =>
 loadNK 2 (.k v41) zf M I i fun v42 I i =>
 loadNK 2 (.k v9) zf M I i fun v43 I i =>
 c 36 [v42, v43] M m I i fun v44 M m I i =>
 ge 5 v44 295147905179352825861 fun v45 =>
 j36 v45 M m I i) (j36 0 M m I i))))
 (fun j24 => gd v22 1 (iadrAK 2 1 (.k v9) (.k 295147905179352825893) zf I i fun v25 I i =>
 ld v25 M fun v26 =>
 fa 0 t1 fun v27 =>
 ld v27 M fun v28 =>
 ge 5 v26 v28 fun v29 =>
 j24 v29 M m I i) (j24 0 M m I i)))
 (fun j15 => gd v13 1 (iadrAK 2 1 (.k v9) (.k 295147905179352825861) zf I i fun v16 I i =>
 ld v16 M fun v17 =>
 iadrAK 2 1 (.k v9) (.k 295147905179352825893) zf I i fun v18 I i =>
 ld v18 M fun v19 =>
 ge 5 v17 v19 fun v20 =>
 j15 v20 M m I i) (j15 0 M m I i)))
 (j2 M m I i)
def S37_2 (c : Y) (k : KF) (j2 : X4) (t1 t20 t21 t22 M m I i : Nat) : Res :=
 lp (S37_1 c k j2) (fun _ _ _ _ _ _ _ _ => .bad 73 0) t1 t20 t21 t22 M m I i
def S37_3 (c : Y) (k : KF) (t1 M m I i : Nat) : Res :=
 jn (fun (M m I i : Nat) =>
 k 33 M m I i) fun j2 =>
 jn (S37_2 c k j2) fun j51 =>
 fa 1 t1 fun v52 =>
 ld v52 M fun v53 =>
 ln v53 fun v54 =>
 j51 t1 v53 v54 295147905179352825861 M m I i
def S37_4 (c : Y) (k : KF) (t1 M m I i : Nat) : Res :=
 jn (S37_3 c k) fun j56 =>
 fa 0 t1 fun v57 =>
 ld v57 M fun v58 =>
 lt 5 v58 295147905179352825861 fun v59 =>
 jn (fun (v65 : Nat) =>
 pk v59 33 v65 fun v66 =>
 jn (fun (v73 : Nat) =>
 pk v66 33 v73 fun v74 =>
 cnd v74 (k 1 M m I i)
 (j56 t1 M m I i))
 (fun j68 => gd v66 1 (fa 1 t1 fun v69 =>
 ld v69 M fun v70 =>
 ln v70 fun v71 =>
 lt 5 295147905179352844869 v71 fun v72 =>
 j68 v72) (j68 0)))
 (fun j61 => gd v59 1 (fa 0 t1 fun v62 =>
 ld v62 M fun v63 =>
 lt 5 295147905179352832261 v63 fun v64 =>
 j61 v64) (j61 0))
def F37 (c : Y) (t0 M m I i : Nat) (k : KF) : Res :=
 jn (S37_4 c k) fun j76 =>
 boxK 2 (.k t0) zf M m I i fun v77 M m I i =>
 j76 v77 M m I i
def g37 (c : Y) : List Nat → Nat → Nat → Nat → Nat → KF → Res := unS fun t0 => un0 (F37 c t0)
def F224 (c : Y) (t0 M m I i : Nat) (k : KF) : Res :=
 ne 6 t0 t0 fun v4 =>
 k v4 M m I i
def g224 (c : Y) : List Nat → Nat → Nat → Nat → Nat → KF → Res := unS fun t0 => un0 (F224 c t0)
def S156_1 (j6 : X10) (n16 : Nat) (j15 : X11) (t0 t6 t7 t8 t9 t10 t11 M m I i : Nat) : Res :=
 ia 1 t0 t11 fun v19 =>
 ld v19 M fun v20 =>
 ia 1 t8 t11 fun v23 =>
 ld v23 M fun v24 =>
 ia 1 v20 v24 fun v25 =>
 ld v25 M fun v26 =>
 ia 1 t8 t11 fun v30 =>
 ld v30 M fun v31 =>
 adt n16 v31 295147905179352825893 fun v32 =>
 ia 1 t8 t11 fun v33 =>
 storeK 1 (.k v33) (.k v32) zf M m I i fun _ M m I i =>
 ia 1 t7 v26 fun v36 =>
 ld v36 M fun v37 =>
 cnd v37 (j15 t0 t6 t7 t8 t9 t10 t11 M m I i)
 (ia 1 t7 v26 fun v43 =>
 storeK 1 (.k v43) (.k 33) zf M m I i fun _ M m I i =>
 ia 1 t6 v26 fun v44 =>
 storeK 1 (.k v44) (.k t11) zf M m I i fun _ M m I i =>
 bldSK 1 1 295147905179352825861 [(0, 1, (.k v26))] zf M m I i fun v47 M m I i =>
 appW 1 t9 v47 M m I i fun v48 M m I i =>
 bldSK 1 1 295147905179352825861 [(0, 1, (.k v26))] zf M m I i fun v51 M m I i =>
 appW 1 t10 v51 M m I i fun v52 M m I i =>
 j6 t0 t6 t7 t8 v48 v52 M m I i)
def S156_2 (j6 : X10) (j14 : X10) (n16 : Nat) (j15 : X11) (t0 t6 t7 t8 t9 t10 t11 M m I i : Nat) : Res :=
 jn (S156_1 j6 n16 j15) fun j55 =>
 ia 1 t8 t11 fun v58 =>
 ld v58 M fun v59 =>
 ia 1 t0 t11 fun v62 =>
 ld v62 M fun v63 =>
 ln v63 fun v64 =>
 lt 5 v59 v64 fun v65 =>
 cnd v65 (j55 t0 t6 t7 t8 t9 t10 t11 M m I i)
 (j14 t0 t6 t7 t8 t9 t10 M m I i)
def S156_3 (n7 : Nat) (j6 : X10) (t0 t6 t7 t8 t9 t10 t11 M m I i : Nat) : Res :=
 jn (fun (t0 t6 t7 t8 t9 t10 M m I i : Nat) =>
 ln t10 fun v10 =>
 sbt n7 v10 295147905179352825893 fun v11 =>
 slcK 1 (.k t10) none (some (.k v11)) none zf I i fun v12 I i =>
 j6 t0 t6 t7 t8 t9 v12 M m I i) fun j14 =>
 lp (S156_2 j6 j14) (fun _ _ _ _ _ _ _ _ _ _ _ => .bad 73 0) t0 t6 t7 t8 t9 t10 t11 M m I i
def S156_4 (n7 : Nat) (j6 : X10) (t0 t6 t7 t8 t9 t10 M m I i : Nat) : Res :=
 jn (S156_3 n7 j6) fun j66 =>
 ln t10 fun v69 =>
 sbt n7 v69 295147905179352825893 fun v70 =>
 ia 1 t10 v70 fun v71 =>
 ld v71 M fun v72 =>
 j66 t0 t6 t7 t8 t9 t10 v72 M m I i
def S156_5 (j5 : X6) (n7 : Nat) (j6 : X10) (t0 t6 t7 t8 t9 t10 M m I i : Nat) : Res :=
 jn (S156_4 n7 j6) fun j74 =>
 ln t10 fun v76 =>
 lt 5 295147905179352825861 v76 fun v77 =>
 cnd v77 (j74 t0 t6 t7 t8 t9 t10 M m I i)
 (j5 t6 t9 M m I i)
def S156_6 (k : KF) (t0 t6 t7 t8 t9 t10 M m I i : Nat) : Res :=
 jn (fun (t6 t9 M m I i : Nat) =>
 rtn 2 [t9, t6] M m I i k) fun j5 =>
 lp (S156_5 j5) (fun _ _ _ _ _ _ _ _ _ _ => .bad 73 0) t0 t6 t7 t8 t9 t10 M m I i
def S156_7 (k : KF) (t0 t6 t7 t8 t9 t10 M m I i : Nat) : Res :=
 jn (S156_6 k) fun j78 =>
 j78 t0 t6 t7 t8 t9 t10 M m I i
def S156_8 (k : KF) (t0 t1 t6 t7 t8 t9 t10 M m I i : Nat) : Res :=
 jn (S156_7 k) fun j79 =>
 ia 1 t7 t1 fun v82 =>
 storeK 1 (.k v82) (.k 33) zf M m I i fun _ M m I i =>
 j79 t0 t6 t7 t8 t9 t10 M m I i
def S156_9 (k : KF) (t0 t1 t6 t7 t8 M m I i : Nat) : Res :=
 jn (S156_8 k) fun j83 =>
 bldSK 1 1 295147905179352825861 [(0, 1, (.k t1))] zf M m I i fun v85 M m I i =>
 bldSK 1 1 295147905179352825861 [(0, 1, (.k t1))] zf M m I i fun v87 M m I i =>
 j83 t0 t1 t6 t7 t8 v85 v87 M m I i
def S156_10 (k : KF) (t0 t1 t6 t7 M m I i : Nat) : Res :=
 jn (S156_9 k) fun j90 =>
 ln t0 fun v92 =>
 mkSlK 1 295147905179352825861 (.k v92) (.k v92) zf M m I i fun v93 M m I i =>
 j90 t0 t1 t6 t7 v93 M m I i
def S156_11 (k : KF) (t0 t1 t6 M m I i : Nat) : Res :=
 jn (S156_10 k) fun j95 =>
 ln t0 fun v97 =>
 mkSlK 1 1 (.k v97) (.k v97) zf M m I i fun v98 M m I i =>
 j95 t0 t1 t6 v98 M m I i
def S156_12 (c : Y) (k : KF) (t0 t1 M m I i : Nat) : Res :=
 jn (S156_11 k) fun j100 =>
 bldSK 1 1 295147905179352825861 [(0, 1, (.k 295147905179352825829))] zf M m I i fun v101 M m I i =>
 ln t0 fun v103 =>
 c 200 [v101, v103] M m I i fun v104 M m I i =>
 j100 t0 t1 v104 M m I i
def F156 (c : Y) (t0 t1 M m I i : Nat) (k : KF) : Res :=
 jn (S156_12 c k) fun j106 =>
 j106 t0 t1 M m I i
def g156 (c : Y) : List Nat → Nat → Nat → Nat → Nat → KF → Res := unS fun t0 => unS fun t1 => un0 (F156 c t0 t1)
def F74 (c : Y) (t0 t1 M m I i : Nat) (k : KF) : Res :=
 c 128 [t0] M m I i fun v3 M m I i =>
 c 128 [t1] M m I i fun v6 M m I i =>
 cnd v3 (cnd v6 (k 295147905179352825861 M m I i)
 (k 295147905179352825829 M m I i))
 (cnd v6 (k 295147905179352825893 M m I i)
 (lt 5 t0 t1 fun v16 =>
 cnd v16 (k 295147905179352825829 M m I i)
 (lt 5 t1 t0 fun v20 =>
 cnd v20 (k 295147905179352825893 M m I i)
 (k 295147905179352825861 M m I i))))
def g74 (c : Y) : List Nat → Nat → Nat → Nat → Nat → KF → Res := unS fun t0 => unS fun t1 => un0 (F74 c t0 t1)
def S144_1 (c : Y) (k : KF) (j8 : X6) (n10 : Nat) (j9 : X9) (t0 t1 t9 t10 t11 M m I i : Nat) : Res :=
 lt 5 t11 t10 fun v11 =>
 cnd v11 (ia 1 t9 t11 fun v13 =>
 ld v13 M fun v14 =>
 ln t1 fun v19 =>
 ge 5 t11 v19 fun v20 =>
 cnd v20 (k 295147905179352825893 M m I i)
 (ia 1 t1 t11 fun v24 =>
 ld v24 M fun v25 =>
 c 74 [v14, v25] M m I i fun v29 M m I i =>
 ne 5 v29 295147905179352825861 fun v32 =>
 cnd v32 (k v29 M m I i)
 (adt n10 t11 295147905179352825893 fun v35 =>
 j9 t0 t1 t9 t10 v35 M m I i)))
 (j8 t0 t1 M m I i)
def S144_2 (c : Y) (k : KF) (j8 : X6) (t0 t1 t9 t10 t11 M m I i : Nat) : Res :=
 lp (S144_1 c k j8) (fun _ _ _ _ _ _ _ _ _ => .bad 73 0) t0 t1 t9 t10 t11 M m I i
def S144_3 (c : Y) (k : KF) (t0 t1 M m I i : Nat) : Res :=
 jn (fun (t0 t1 M m I i : Nat) =>
 ln t0 fun v2 =>
 ln t1 fun v4 =>
 lt 5 v2 v4 fun v5 =>
 cnd v5 (k 295147905179352825829 M m I i)
 (k 295147905179352825861 M m I i)) fun j8 =>
 jn (S144_2 c k j8) fun j37 =>
 ln t0 fun v39 =>
 j37 t0 t1 t0 v39 295147905179352825861 M m I i
def F144 (c : Y) (t0 t1 M m I i : Nat) (k : KF) : Res :=
 jn (S144_3 c k) fun j41 =>
 j41 t0 t1 M m I i
def g144 (c : Y) : List Nat → Nat → Nat → Nat → Nat → KF → Res := unS fun t0 => unS fun t1 => un0 (F144 c t0 t1)
def F128 (c : Y) (t0 M m I i : Nat) (k : KF) : Res :=
 ne 5 t0 t0 fun v4 =>
 k v4 M m I i
def g128 (c : Y) : List Nat → Nat → Nat → Nat → Nat → KF → Res := unS fun t0 => un0 (F128 c t0)
def S226_1 (c : Y) (j6 : X8) (n8 : Nat) (j7 : X9) (t0 t1 t2 t6 t7 M m I i : Nat) : Res :=
 lt 5 t1 t7 fun v11 =>
 jn (fun (v24 M m I i : Nat) =>
 pk v11 v24 1 fun v25 =>
 cnd v25 (sbt n8 t7 295147905179352825893 fun v30 =>
 sbt n8 t7 295147905179352825893 fun v33 =>
 ia 1 t0 v33 fun v34 =>
 ld v34 M fun v35 =>
 ia 1 t0 t7 fun v38 =>
 ld v38 M fun v39 =>
 ia 1 t0 t7 fun v40 =>
 storeK 1 (.k v40) (.k v35) zf M m I i fun _ M m I i =>
 ia 1 t0 v30 fun v41 =>
 storeK 1 (.k v41) (.k v39) zf M m I i fun _ M m I i =>
 sbt n8 t7 295147905179352825893 fun v43 =>
 j7 t0 t1 t2 t6 v43 M m I i)
 (j6 t0 t1 t2 t6 M m I i))
 (fun j13 => gd v11 33 (ia 1 t0 t7 fun v16 =>
 ld v16 M fun v17 =>
 sbt n8 t7 295147905179352825893 fun v20 =>
 ia 1 t0 v20 fun v21 =>
 ld v21 M fun v22 =>
 c 232 [v17, v22] M m I i fun v23 M m I i =>
 j13 v23 M m I i) (j13 0 M m I i))
def S226_2 (c : Y) (j6 : X8) (t0 t1 t2 t6 t7 M m I i : Nat) : Res :=
 lp (S226_1 c j6) (fun _ _ _ _ _ _ _ _ _ => .bad 73 0) t0 t1 t2 t6 t7 M m I i
def S226_3 (c : Y) (n2 : Nat) (j1 : X8) (t0 t1 t2 t6 M m I i : Nat) : Res :=
 jn (fun (t0 t1 t2 t6 M m I i : Nat) =>
 adt n2 t6 295147905179352825893 fun v4 =>
 j1 t0 t1 t2 v4 M m I i) fun j6 =>
 jn (S226_2 c j6) fun j45 =>
 j45 t0 t1 t2 t6 t6 M m I i
def S226_4 (c : Y) (k : KF) (n2 : Nat) (j1 : X8) (t0 t1 t2 t6 M m I i : Nat) : Res :=
 jn (S226_3 c n2 j1) fun j48 =>
 lt 5 t6 t2 fun v51 =>
 cnd v51 (j48 t0 t1 t2 t6 M m I i)
 (rtn 0 [] M m I i k)
def S226_5 (c : Y) (k : KF) (t0 t1 t2 t6 M m I i : Nat) : Res :=
 lp (S226_4 c k) (fun _ _ _ _ _ _ _ _ => .bad 73 0) t0 t1 t2 t6 M m I i
def F226 (c : Y) (t0 t1 t2 M m I i : Nat) (k : KF) : Res :=
 jn (S226_5 c k) fun j52 =>
 ad t1 295147905179352825893 fun v54 =>
 j52 t0 t1 t2 v54 M m I i
def g226 (c : Y) : List Nat → Nat → Nat → Nat → Nat → KF → Res := unS fun t0 => unS fun t1 => unS fun t2 => un0 (F226 c t0 t1 t2)
def S254_1 (c : Y) (k : KF) (t0 t1 t6 t7 M m I i : Nat) : Res :=
 lt 5 t7 t6 fun v4 =>
 jn (fun (v14 : Nat) =>
 jn (fun (v22 M m I i : Nat) =>
 jn (fun (v26 M m I i : Nat) =>
 jn (fun (v29 : Nat) =>
 jn (fun (v32 : Nat) =>
 pk v4 v32 1 fun v33 =>
 rtn 2 [t7, v33] M m I i k)
 (fun j30 => gd v4 33 (pk v14 33 v29 fun v31 =>
 j30 v31) (j30 0)))
 (fun j27 => gd v14 1 (pk v22 v26 1 fun v28 =>
 j27 v28) (j27 0)))
 (fun j23 => gd v22 33 (c 287 [t1] M m I i fun v25 M m I i =>
 j23 v25 M m I i) (j23 0 M m I i)))
 (fun j15 => gd v14 1 (ia 1 t0 t7 fun v18 =>
 ld v18 M fun v19 =>
 c 287 [v19] M m I i fun v20 M m I i =>
 j15 v20 M m I i) (j15 0 M m I i)))
 (fun j6 => gd v4 33 (ia 1 t0 t7 fun v9 =>
 ld v9 M fun v10 =>
 eq 5 v10 t1 fun v12 =>
 j6 v12) (j6 0))
def S254_2 (c : Y) (j36 : X8) (n38 : Nat) (j37 : X9) (t0 t1 t6 t7 t8 M m I i : Nat) : Res :=
 lt 5 t7 t8 fun v41 =>
 cnd v41 (adt n38 t7 t8 fun v44 =>
 convK .i64 .u64 (.k v44) zf I i fun v45 I i =>
 shfK .shr .u64 .u64 (.k v45) (.k 41) zf I i fun v46 I i => tkk n38 v46 fun v47 =>
 convK .u64 .i64 (.k v47) zf I i fun v48 I i =>
 ia 1 t0 v48 fun v52 =>
 ld v52 M fun v53 =>
 c 232 [v53, t1] M m I i fun v55 M m I i =>
 cnd v55 (adt n38 v48 295147905179352825893 fun v57 =>
 j37 t0 t1 t6 v57 t8 M m I i)
 (j37 t0 t1 t6 t7 v48 M m I i))
 (j36 t0 t1 t6 t7 M m I i)
def S254_3 (c : Y) (k : KF) (t0 t1 t6 t7 t8 M m I i : Nat) : Res :=
 jn (S254_1 c k) fun j36 =>
 lp (S254_2 c j36) (fun _ _ _ _ _ _ _ _ _ => .bad 73 0) t0 t1 t6 t7 t8 M m I i
def S254_4 (c : Y) (k : KF) (t0 t1 t6 M m I i : Nat) : Res :=
 jn (S254_3 c k) fun j61 =>
 j61 t0 t1 t6 295147905179352825861 t6 M m I i
def S254_5 (c : Y) (k : KF) (t0 t1 M m I i : Nat) : Res :=
 jn (S254_4 c k) fun j65 =>
 ln t0 fun v67 =>
 j65 t0 t1 v67 M m I i
def F254 (c : Y) (t0 t1 M m I i : Nat) (k : KF) : Res :=
 jn (S254_5 c k) fun j69 =>
 j69 t0 t1 M m I i
def g254 (c : Y) : List Nat → Nat → Nat → Nat → Nat → KF → Res := unS fun t0 => unS fun t1 => un0 (F254 c t0 t1)
def S157_1 (j6 : X6) (t5 t6 t131 M m I i : Nat) : Res :=
 backG 243 t131 M m I i (fun (v7 v8 M m I i : Nat) (k9 : X4) =>
 ld t5 M fun v11 =>
 ia 3 v11 v8 fun v13 =>
 fa 1 v13 fun v14 =>
 ld v14 M fun v15 =>
 ge 5 v15 295147905179352825861 fun v18 =>
 cnd v18 (ld t5 M fun v19 =>
 ld t5 M fun v21 =>
 ia 3 v21 v15 fun v23 =>
 fa 2 v23 fun v24 =>
 ld v24 M fun v25 =>
 ld t5 M fun v26 =>
 ia 3 v26 v8 fun v28 =>
 fa 2 v28 fun v29 =>
 ld v29 M fun v30 =>
 minK false 5 (.k v25) (.k v30) zf I i fun v31 I i =>
 ia 3 v19 v15 fun v32 =>
 fa 2 v32 fun v33 =>
 storeK 1 (.k v33) (.k v31) zf M m I i fun _ M m I i =>
 k9 M m I i)
 (k9 M m I i)) (fun (M m I i : Nat) => j6 t5 t6 M m I i)
def S157_2 (c : Y) (k : KF) (t5 t6 M m I i : Nat) : Res :=
 jn (fun (t5 t6 M m I i : Nat) =>
 ld t5 M fun v1 =>
 rtn 3 [v1, t6, 295147905179352825861] M m I i k) fun j6 =>
 jn (S157_1 j6) fun j34 =>
 c 202 [t6] M m I i fun v36 M m I i =>
 j34 t5 t6 v36 M m I i
def S157_3 (j42 : X9) (t5 t6 t15 t16 t75 t76 t77 M m I i : Nat) : Res :=
 nilcK (.k t15) zf I i fun v45 I i =>
 fa 2 v45 fun v46 =>
 ld v46 M fun v47 =>
 nilcK (.k t16) zf I i fun v49 I i =>
 fa 0 v49 fun v50 =>
 ld v50 M fun v51 =>
 minK false 5 (.k v47) (.k v51) zf I i fun v52 I i =>
 nilcK (.k t15) zf I i fun v53 I i =>
 fa 2 v53 fun v54 =>
 storeK 1 (.k v54) (.k v52) zf M m I i fun _ M m I i =>
 nilcK (.k t16) zf I i fun v57 I i =>
 fa 2 v57 fun v58 =>
 ld v58 M fun v59 =>
 nilcK (.k t15) zf I i fun v61 I i =>
 fa 0 v61 fun v62 =>
 ld v62 M fun v63 =>
 minK false 5 (.k v59) (.k v63) zf I i fun v64 I i =>
 nilcK (.k t16) zf I i fun v65 I i =>
 fa 2 v65 fun v66 =>
 storeK 1 (.k v66) (.k v64) zf M m I i fun _ M m I i =>
 j42 t5 t6 t75 t76 t77 M m I i
def S157_4 (j42 : X9) (t5 t6 t14 t15 t16 t75 t76 t77 M m I i : Nat) : Res :=
 jn (S157_3 j42) fun j67 =>
 nilcK (.k t15) zf I i fun v69 I i =>
 fa 1 v69 fun v70 =>
 ld v70 M fun v71 =>
 iadrAK 2 1 (.k t14) (.k 295147905179352825893) zf I i fun v72 I i =>
 ld v72 M fun v73 =>
 eq 5 v71 v73 fun v74 =>
 jn (fun (v84 M m I i : Nat) =>
 pk v74 33 v84 fun v85 =>
 cnd v85 (j42 t5 t6 t75 t76 t77 M m I i)
 (j67 t5 t6 t15 t16 t75 t76 t77 M m I i))
 (fun j76 => gd v74 1 (nilcK (.k t16) zf I i fun v78 I i =>
 fa 1 v78 fun v79 =>
 ld v79 M fun v80 =>
 iadrAK 2 1 (.k t14) (.k 295147905179352825861) zf I i fun v81 I i =>
 ld v81 M fun v82 =>
 eq 5 v80 v82 fun v83 =>
 j76 v83 M m I i) (j76 0 M m I i))
def S157_5 (j42 : X9) (t5 t6 t14 t75 t76 t77 M m I i : Nat) : Res :=
 jn (S157_4 j42) fun j86 =>
 ld t5 M fun v87 =>
 iadrAK 2 1 (.k t14) (.k 295147905179352825861) zf I i fun v88 I i =>
 ld v88 M fun v89 =>
 ia 3 v87 v89 fun v90 =>
 ld t5 M fun v91 =>
 iadrAK 2 1 (.k t14) (.k 295147905179352825893) zf I i fun v92 I i =>
 ld v92 M fun v93 =>
 ia 3 v91 v93 fun v94 =>
 j86 t5 t6 t14 v90 v94 t75 t76 t77 M m I i
def S157_6 (n39 : Nat) (j38 : X9) (t5 t6 t75 t76 t77 M m I i : Nat) : Res :=
 jn (fun (t5 t6 t75 t76 t77 M m I i : Nat) =>
 adt n39 t77 295147905179352825893 fun v40 =>
 j38 t5 t6 t75 t76 v40 M m I i) fun j42 =>
 jn (S157_5 j42) fun j97 =>
 ia 2 t75 t77 fun v98 =>
 loadNK 2 (.k v98) zf M I i fun v99 I i =>
 newK 2 23384026197294446691655098136326997907641993265157 M m I i fun v100 M m I i =>
 storeK 2 (.k v100) (.k v99) zf M m I i fun _ M m I i =>
 j97 t5 t6 v100 t75 t76 t77 M m I i
def S157_7 (j37 : X6) (n39 : Nat) (j38 : X9) (t5 t6 t75 t76 t77 t78 M m I i : Nat) : Res :=
 jn (S157_6 n39 j38) fun j101 =>
 cnd t78 (j101 t5 t6 t75 t76 t77 M m I i)
 (j37 t5 t6 M m I i)
def S157_8 (j37 : X6) (n39 : Nat) (j38 : X9) (t5 t6 t75 t76 t77 M m I i : Nat) : Res :=
 jn (S157_7 j37 n39 j38) fun j102 =>
 lt 5 t77 t76 fun v103 =>
 j102 t5 t6 t75 t76 t77 v103 M m I i
def S157_9 (j37 : X6) (t5 t6 t75 t76 t77 M m I i : Nat) : Res :=
 lp (S157_8 j37) (fun _ _ _ _ _ _ _ _ _ => .bad 73 0) t5 t6 t75 t76 t77 M m I i
def S157_10 (c : Y) (k : KF) (t1 t5 t6 M m I i : Nat) : Res :=
 jn (S157_2 c k) fun j37 =>
 jn (S157_9 j37) fun j104 =>
 fa 1 t1 fun v105 =>
 ld v105 M fun v106 =>
 ln v106 fun v107 =>
 j104 t5 t6 v106 v107 295147905179352825861 M m I i
def S157_11 (j114 : X9) (n116 : Nat) (j115 : X13) (t1 t5 t6 t9 t30 t31 t50 t51 t52 M m I i : Nat) : Res :=
 lt 5 t52 t51 fun v117 =>
 cnd v117 (ia 1 t50 t52 fun v118 =>
 ld v118 M fun v119 =>
 bldSK 1 1 295147905179352825861 [(0, 1, (.k v119))] zf M m I i fun v123 M m I i =>
 appW 1 t6 v123 M m I i fun v124 M m I i =>
 ld t5 M fun v126 =>
 ln v124 fun v129 =>
 ia 1 t9 v119 fun v132 =>
 ld v132 M fun v133 =>
 ln v124 fun v135 =>
 buildK 3 1852673427797059126808521268839323955668793148457942454848160119256572240068613 [(0, 1, (.k v129)), (1, 1, (.k v133)), (2, 1, (.k v135))] zf I i fun v136 I i =>
 ia 3 v126 v119 fun v137 =>
 storeK 3 (.k v137) (.k v136) zf M m I i fun _ M m I i =>
 adt n116 t52 295147905179352825893 fun v138 =>
 j115 t1 t5 v124 t9 t30 t31 t50 t51 v138 M m I i)
 (j114 t1 t5 t6 t30 t31 M m I i)
def S157_12 (j114 : X9) (t1 t5 t6 t9 t30 t31 t50 t51 t52 M m I i : Nat) : Res :=
 lp (S157_11 j114) (fun _ _ _ _ _ _ _ _ _ _ _ _ _ => .bad 73 0) t1 t5 t6 t9 t30 t31 t50 t51 t52 M m I i
def S157_13 (j114 : X9) (t1 t5 t6 t8 t9 t30 t31 M m I i : Nat) : Res :=
 jn (S157_12 j114) fun j140 =>
 ln t8 fun v142 =>
 j140 t1 t5 t6 t9 t30 t31 t8 v142 295147905179352825861 M m I i
def S157_14 (k : KF) (j114 : X9) (t1 t5 t6 t8 t9 t10 t30 t31 M m I i : Nat) : Res :=
 jn (S157_13 j114) fun j144 =>
 ne 5 t10 295147905179352825861 fun v146 =>
 cnd v146 (rtn 3 [11, 11, t10] M m I i k)
 (j144 t1 t5 t6 t8 t9 t30 t31 M m I i)
def S157_15 (c : Y) (k : KF) (j114 : X9) (t1 t5 t6 t7 t30 t31 M m I i : Nat) : Res :=
 jn (S157_14 k j114) fun j151 =>
 loadNK 2 (.k t1) zf M I i fun v152 I i =>
 c 201 [v152, t7] M m I i fun v154 M m I i =>
 f1 19 0 v154 I fun v156 =>
 f1 19 1 v154 I fun v157 =>
 f1 19 2 v154 I fun v158 =>
 j151 t1 t5 t6 v156 v157 v158 t30 t31 M m I i
def S157_16 (c : Y) (k : KF) (j114 : X9) (t1 t5 t6 t7 t30 t31 M m I i : Nat) : Res :=
 jn (S157_15 c k j114) fun j162 =>
 ld t5 M fun v163 =>
 ia 3 v163 t7 fun v165 =>
 fa 0 v165 fun v166 =>
 ld v166 M fun v167 =>
 ne 5 v167 295147905179352825861 fun v168 =>
 cnd v168 (j114 t1 t5 t6 t30 t31 M m I i)
 (j162 t1 t5 t6 t7 t30 t31 M m I i)
def S157_17 (c : Y) (k : KF) (n111 : Nat) (j110 : X9) (t1 t5 t6 t30 t31 M m I i : Nat) : Res :=
 jn (fun (t1 t5 t6 t30 t31 M m I i : Nat) =>
 adt n111 t31 295147905179352825893 fun v112 =>
 j110 t1 t5 t6 t30 v112 M m I i) fun j114 =>
 jn (S157_16 c k j114) fun j169 =>
 j169 t1 t5 t6 t31 t30 t31 M m I i
def S157_18 (c : Y) (k : KF) (j109 : X7) (n111 : Nat) (j110 : X9) (t1 t5 t6 t30 t31 t32 M m I i : Nat) : Res :=
 jn (S157_17 c k n111 j110) fun j172 =>
 cnd t32 (j172 t1 t5 t6 t30 t31 M m I i)
 (j109 t1 t5 t6 M m I i)
def S157_19 (c : Y) (k : KF) (j109 : X7) (n111 : Nat) (j110 : X9) (t1 t5 t6 t30 t31 M m I i : Nat) : Res :=
 jn (S157_18 c k j109 n111 j110) fun j173 =>
 lt 5 t31 t30 fun v174 =>
 j173 t1 t5 t6 t30 t31 v174 M m I i
def S157_20 (c : Y) (k : KF) (j109 : X7) (t1 t5 t6 t30 t31 M m I i : Nat) : Res :=
 lp (S157_19 c k j109) (fun _ _ _ _ _ _ _ _ _ => .bad 73 0) t1 t5 t6 t30 t31 M m I i
def S157_21 (c : Y) (k : KF) (t1 t5 t6 M m I i : Nat) : Res :=
 jn (S157_10 c k) fun j109 =>
 jn (S157_20 c k j109) fun j175 =>
 fa 0 t1 fun v176 =>
 ld v176 M fun v177 =>
 j175 t1 t5 t6 v177 295147905179352825861 M m I i
def S157_22 (c : Y) (k : KF) (t1 t5 M m I i : Nat) : Res :=
 jn (S157_21 c k) fun j179 =>
 fa 0 t1 fun v180 =>
 ld v180 M fun v181 =>
 mkSlK 1 295147905179352825861 (.k 295147905179352825861) (.k v181) zf M m I i fun v182 M m I i =>
 j179 t1 t5 v182 M m I i
def S157_23 (c : Y) (k : KF) (t1 M m I i : Nat) : Res :=
 jn (S157_22 c k) fun j184 =>
 fa 0 t1 fun v185 =>
 ld v185 M fun v186 =>
 mkSlK 3 1852673427797059126808521268839323955668793148457942454848160119256572240068613 (.k v186) (.k v186) zf M m I i fun v187 M m I i =>
 newK 1 11 M m I i fun v188 M m I i =>
 storeK 1 (.k v188) (.k v187) zf M m I i fun _ M m I i =>
 j184 t1 v188 M m I i
def S157_24 (c : Y) (k : KF) (t1 M m I i : Nat) : Res :=
 jn (S157_23 c k) fun j189 =>
 loadNK 2 (.k t1) zf M I i fun v190 I i =>
 c 37 [v190] M m I i fun v191 M m I i =>
 notK (.k v191) zf I i fun v192 I i =>
 cnd v192 (rtn 3 [11, 11, 295147905179352826501] M m I i k)
 (j189 t1 M m I i)
def F157 (c : Y) (t0 M m I i : Nat) (k : KF) : Res :=
 jn (S157_24 c k) fun j196 =>
 boxK 2 (.k t0) zf M m I i fun v197 M m I i =>
 j196 v197 M m I i
def g157 (c : Y) : List Nat → Nat → Nat → Nat → Nat → KF → Res := unS fun t0 => un0 (F157 c t0)
def S135_1 (j4 : X5) (n6 : Nat) (j5 : X8) (t8 t80 t81 t82 M m I i : Nat) : Res :=
 lt 5 t82 t81 fun v7 =>
 cnd v7 (ia 2 t80 t82 fun v8 =>
 loadNK 2 (.k v8) zf M I i fun v9 I i =>
 newK 2 23384026197294446691655098136326997907641993265157 M m I i fun v10 M m I i =>
 storeK 2 (.k v10) (.k v9) zf M m I i fun _ M m I i =>
 iadrAK 2 1 (.k v10) (.k 295147905179352825861) zf I i fun v12 I i =>
 ld v12 M fun v13 =>
 iadrAK 2 1 (.k v10) (.k 295147905179352825893) zf I i fun v14 I i =>
 ld v14 M fun v15 =>
 bldSK 2 1 295147905179352825861 [(0, 1, (.k v13)), (1, 1, (.k v15))] zf M m I i fun v16 M m I i =>
 appW 1 t8 v16 M m I i fun v17 M m I i =>
 adt n6 t82 295147905179352825893 fun v19 =>
 j5 v17 t80 t81 v19 M m I i)
 (j4 t8 M m I i)
def S135_2 (j4 : X5) (t8 t80 t81 t82 M m I i : Nat) : Res :=
 lp (S135_1 j4) (fun _ _ _ _ _ _ _ _ => .bad 73 0) t8 t80 t81 t82 M m I i
def S135_3 (c : Y) (k : KF) (t8 t11 M m I i : Nat) : Res :=
 jn (fun (t8 M m I i : Nat) =>
 c 173 [t8] M m I i fun v2 M m I i =>
 k v2 M m I i) fun j4 =>
 jn (S135_2 j4) fun j21 =>
 ln t11 fun v23 =>
 j21 t8 t11 v23 295147905179352825861 M m I i
def S135_4 (c : Y) (k : KF) (t8 t11 M m I i : Nat) : Res :=
 jn (S135_3 c k) fun j25 =>
 ln t11 fun v28 =>
 bldSK 1 1 295147905179352825861 [(0, 1, (.k v28))] zf M m I i fun v29 M m I i =>
 appW 1 t8 v29 M m I i fun v30 M m I i =>
 j25 v30 t11 M m I i
def S135_5 (c : Y) (k : KF) (t8 t11 M m I i : Nat) : Res :=
 jn (S135_4 c k) fun j32 =>
 c 35 [t11, 6190] M m I i fun v34 M m I i =>
 j32 t8 t11 M m I i
def S135_6 (j35 : X6) (n37 : Nat) (j36 : X10) (t7 t8 t11 t46 t47 t48 M m I i : Nat) : Res :=
 lt 5 t48 t47 fun v38 =>
 cnd v38 (ia 2 t46 t48 fun v39 =>
 loadNK 2 (.k v39) zf M I i fun v40 I i =>
 newK 2 23384026197294446691655098136326997907641993265157 M m I i fun v41 M m I i =>
 storeK 2 (.k v41) (.k v40) zf M m I i fun _ M m I i =>
 iadrAK 2 1 (.k v41) (.k 295147905179352825861) zf I i fun v43 I i =>
 ld v43 M fun v44 =>
 ia 1 t7 v44 fun v45 =>
 ld v45 M fun v46 =>
 iadrAK 2 1 (.k v41) (.k 295147905179352825893) zf I i fun v48 I i =>
 ld v48 M fun v49 =>
 ia 1 t7 v49 fun v50 =>
 ld v50 M fun v51 =>
 minK false 5 (.k v46) (.k v51) zf I i fun v57 I i =>
 minK true 5 (.k v46) (.k v51) zf I i fun v60 I i =>
 buildK 2 23384026197294446691655098136326997907641993265157 [(0, 1, (.k v57)), (1, 1, (.k v60))] zf I i fun v61 I i =>
 bldSK 1 2 23384026197294446691655098136326997907641993265157 [(0, 2, (.k v61))] zf M m I i fun v62 M m I i =>
 appW 2 t11 v62 M m I i fun v63 M m I i =>
 adt n37 t48 295147905179352825893 fun v65 =>
 j36 t7 t8 v63 t46 t47 v65 M m I i)
 (j35 t8 t11 M m I i)
def S135_7 (j35 : X6) (t7 t8 t11 t46 t47 t48 M m I i : Nat) : Res :=
 lp (S135_6 j35) (fun _ _ _ _ _ _ _ _ _ _ => .bad 73 0) t7 t8 t11 t46 t47 t48 M m I i
def S135_8 (c : Y) (k : KF) (t2 t7 t8 t11 M m I i : Nat) : Res :=
 jn (S135_5 c k) fun j35 =>
 jn (S135_7 j35) fun j67 =>
 ln t2 fun v69 =>
 j67 t7 t8 t11 t2 v69 295147905179352825861 M m I i
def S135_9 (c : Y) (k : KF) (t2 t7 t8 M m I i : Nat) : Res :=
 jn (S135_8 c k) fun j71 =>
 ln t2 fun v73 =>
 mkSlK 2 23384026197294446691655098136326997907641993265157 (.k 295147905179352825861) (.k v73) zf M m I i fun v74 M m I i =>
 j71 t2 t7 t8 v74 M m I i
def S135_10 (j76 : X7) (n78 : Nat) (j77 : X11) (t0 t2 t7 t8 t24 t25 t26 M m I i : Nat) : Res :=
 lt 5 t26 t25 fun v79 =>
 cnd v79 (ia 1 t24 t26 fun v81 =>
 ld v81 M fun v82 =>
 ia 1 t7 v82 fun v88 =>
 storeK 1 (.k v88) (.k t26) zf M m I i fun _ M m I i =>
 ia 1 t0 v82 fun v92 =>
 ld v92 M fun v93 =>
 bldSK 1 1 295147905179352825861 [(0, 1, (.k v93))] zf M m I i fun v94 M m I i =>
 appW 1 t8 v94 M m I i fun v95 M m I i =>
 adt n78 t26 295147905179352825893 fun v97 =>
 j77 t0 t2 t7 v95 t24 t25 v97 M m I i)
 (j76 t2 t7 t8 M m I i)
def S135_11 (j76 : X7) (t0 t2 t7 t8 t24 t25 t26 M m I i : Nat) : Res :=
 lp (S135_10 j76) (fun _ _ _ _ _ _ _ _ _ _ _ => .bad 73 0) t0 t2 t7 t8 t24 t25 t26 M m I i
def S135_12 (c : Y) (k : KF) (t0 t1 t2 t7 t8 M m I i : Nat) : Res :=
 jn (S135_9 c k) fun j76 =>
 jn (S135_11 j76) fun j99 =>
 ln t1 fun v101 =>
 j99 t0 t2 t7 t8 t1 v101 295147905179352825861 M m I i
def S135_13 (c : Y) (k : KF) (t0 t1 t2 t7 M m I i : Nat) : Res :=
 jn (S135_12 c k) fun j103 =>
 ln t1 fun v105 =>
 bldSK 1 1 295147905179352825861 [(0, 1, (.k v105))] zf M m I i fun v106 M m I i =>
 j103 t0 t1 t2 t7 v106 M m I i
def S135_14 (c : Y) (k : KF) (t0 t1 t2 M m I i : Nat) : Res :=
 jn (S135_13 c k) fun j108 =>
 ln t1 fun v110 =>
 mkSlK 1 295147905179352825861 (.k v110) (.k v110) zf M m I i fun v111 M m I i =>
 j108 t0 t1 t2 v111 M m I i
def F135 (c : Y) (t0 t1 t2 M m I i : Nat) (k : KF) : Res :=
 jn (S135_14 c k) fun j113 =>
 j113 t0 t1 t2 M m I i
def g135 (c : Y) : List Nat → Nat → Nat → Nat → Nat → KF → Res := unS fun t0 => unS fun t1 => unS fun t2 => un0 (F135 c t0 t1 t2)
def S127_1 (k : KF) (t0 t2 M m I i : Nat) : Res :=
 jn (fun (t0 t2 M m I i : Nat) =>
 jn (fun (t0 t2 M m I i : Nat) =>
 convK .u64 .u8 (.k t0) zf I i fun v3 I i =>
 idxTK (.str 256 496986003408712215933005303621146343841837811690876167382323004466384420695090407243345123874780946046625255262057845613767806773758184921447759720770971536008171983842311960805720366577116933250839345203839274948261284255908394484732272583221484877694546905335834403051067785895034095251181560891789708940188598129052595634438001880866652824740680664595948164050600812232986714152902334120417949232733424961741260388658846598210939813666227264727603044226856020347194099943897342244906131705541414413428559898943151040826816076322978570758226444464494629814583418847495712557856038296917933182380796641777551368) (.k v3) zf I i fun v4 I i =>
 convK .u8 .i64 (.k v4) zf I i fun v5 I i =>
 ad t2 v5 fun v6 =>
 k v6 M m I i) fun j8 =>
 ge 9 t0 8201 fun v10 =>
 cnd v10 (shfK .shr .u64 .u64 (.k t0) (.k 265) zf I i fun v12 I i =>
 ad t2 295147905179352826117 fun v15 =>
 j8 v12 v15 M m I i)
 (j8 t0 t2 M m I i)) fun j17 =>
 ge 9 t0 2097161 fun v19 =>
 cnd v19 (shfK .shr .u64 .u64 (.k t0) (.k 521) zf I i fun v21 I i =>
 ad t2 295147905179352826373 fun v24 =>
 j17 v21 v24 M m I i)
 (j17 t0 t2 M m I i)
def S127_2 (k : KF) (t0 t2 M m I i : Nat) : Res :=
 jn (S127_1 k) fun j26 =>
 ge 9 t0 137438953481 fun v28 =>
 cnd v28 (shfK .shr .u64 .u64 (.k t0) (.k 1033) zf I i fun v30 I i =>
 j26 v30 295147905179352826885 M m I i)
 (j26 t0 t2 M m I i)
def F127 (c : Y) (t0 M m I i : Nat) (k : KF) : Res :=
 jn (S127_2 k) fun j33 =>
 j33 t0 295147905179352825861 M m I i
def g127 (c : Y) : List Nat → Nat → Nat → Nat → Nat → KF → Res := unS fun t0 => un0 (F127 c t0)
def S173_1 (c : Y) (j3 : X5) (n5 : Nat) (j4 : X8) (t3 t11 t12 t13 M m I i : Nat) : Res :=
 lt 5 t13 t12 fun v6 =>
 cnd v6 (ia 1 t11 t13 fun v7 =>
 ld v7 M fun v8 =>
 c 213 [v8] M m I i fun v11 M m I i =>
 newK 4 2983939418458719852932293488918587651015056989367101041182505228830656700767545723977734 M m I i fun v12 M m I i =>
 storeK 4 (.k v12) (.k v11) zf M m I i fun _ M m I i =>
 slpK 4 1 (.k v12) none none zf I i fun v14 I i =>
 appW 1 t3 v14 M m I i fun v15 M m I i =>
 adt n5 t13 295147905179352825893 fun v17 =>
 j4 v15 t11 t12 v17 M m I i)
 (j3 t3 M m I i)
def S173_2 (c : Y) (j3 : X5) (t3 t11 t12 t13 M m I i : Nat) : Res :=
 lp (S173_1 c j3) (fun _ _ _ _ _ _ _ _ => .bad 73 0) t3 t11 t12 t13 M m I i
def S173_3 (c : Y) (k : KF) (t0 t3 M m I i : Nat) : Res :=
 jn (fun (t3 M m I i : Nat) =>
 k t3 M m I i) fun j3 =>
 jn (S173_2 c j3) fun j19 =>
 ln t0 fun v21 =>
 j19 t3 t0 v21 295147905179352825861 M m I i
def S173_4 (c : Y) (k : KF) (t0 M m I i : Nat) : Res :=
 jn (S173_3 c k) fun j23 =>
 ln t0 fun v25 =>
 iopK .mul .i64 (.k 295147905179352825989) (.k v25) zf I i fun v26 I i =>
 mkSlK 1 6 (.k 295147905179352825861) (.k v26) zf M m I i fun v27 M m I i =>
 j23 t0 v27 M m I i
def F173 (c : Y) (t0 M m I i : Nat) (k : KF) : Res :=
 jn (S173_4 c k) fun j29 =>
 j29 t0 M m I i
def g173 (c : Y) : List Nat → Nat → Nat → Nat → Nat → KF → Res := unS fun t0 => un0 (F173 c t0)
def S79_1 (c : Y) (j12 : X10) (n14 : Nat) (j13 : X13) (t0 t1 t5 t6 t7 t14 t77 t78 t79 M m I i : Nat) : Res :=
 lt 5 t79 t78 fun v15 =>
 cnd v15 (ia 1 t77 t79 fun v17 =>
 ld v17 M fun v18 =>
 c 147 [t14, v18, 4750] M m I i fun v25 M m I i =>
 f1 19 0 v25 I fun v27 =>
 f1 19 1 v25 I fun v28 =>
 ia 1 t1 t79 fun v29 =>
 storeK 1 (.k v29) (.k v27) zf M m I i fun _ M m I i =>
 adt n14 t79 295147905179352825893 fun v30 =>
 j13 t0 t1 t5 t6 t7 t14 t77 t78 v30 M m I i)
 (j12 t0 t1 t5 t6 t7 t14 M m I i)
def S79_2 (c : Y) (j12 : X10) (t0 t1 t5 t6 t7 t14 t77 t78 t79 M m I i : Nat) : Res :=
 lp (S79_1 c j12) (fun _ _ _ _ _ _ _ _ _ _ _ _ _ => .bad 73 0) t0 t1 t5 t6 t7 t14 t77 t78 t79 M m I i
def S79_3 (c : Y) (k : KF) (j1 : X9) (t0 t1 t5 t6 t7 t8 t14 M m I i : Nat) : Res :=
 jn (fun (t0 t1 t5 t6 t7 t14 M m I i : Nat) =>
 ln t14 fun v4 =>
 eq 5 v4 t6 fun v6 =>
 cnd v6 (k t7 M m I i)
 (ln t14 fun v10 =>
 j1 t0 t1 t5 v10 t7 M m I i)) fun j12 =>
 jn (S79_2 c j12) fun j32 =>
 ln t8 fun v34 =>
 j32 t0 t1 t5 t6 t7 t14 t8 v34 295147905179352825861 M m I i
def S79_4 (c : Y) (k : KF) (j1 : X9) (t0 t1 t5 t6 t7 t8 t14 M m I i : Nat) : Res :=
 jn (S79_3 c k j1) fun j36 =>
 c 145 [t14, 4686] M m I i fun v38 M m I i =>
 j36 t0 t1 t5 t6 t7 t8 v38 M m I i
def S79_5 (c : Y) (k : KF) (j1 : X9) (t0 t1 t5 t6 t7 t8 t14 M m I i : Nat) : Res :=
 jn (S79_4 c k j1) fun j40 =>
 jn (fun (t0 t1 t5 t6 t7 t8 t14 t65 t66 t67 M m I i : Nat) =>
 lp (fun (n42 : Nat) (j41 : X14) (t0 t1 t5 t6 t7 t8 t14 t65 t66 t67 M m I i : Nat) =>
 lt 5 t67 t66 fun v43 =>
 cnd v43 (ia 1 t65 t67 fun v44 =>
 ld v44 M fun v45 =>
 appW 1 t7 v45 M m I i fun v49 M m I i =>
 adt n42 t67 295147905179352825893 fun v51 =>
 j41 t0 t1 t5 t6 v49 t8 t14 t65 t66 v51 M m I i)
 (j40 t0 t1 t5 t6 t7 t8 t14 M m I i)) (fun _ _ _ _ _ _ _ _ _ _ _ _ _ _ => .bad 73 0) t0 t1 t5 t6 t7 t8 t14 t65 t66 t67 M m I i) fun j53 =>
 ln t14 fun v55 =>
 j53 t0 t1 t5 t6 t7 t8 t14 t14 v55 295147905179352825861 M m I i
def S79_6 (c : Y) (k : KF) (j1 : X9) (t0 t1 t5 t6 t7 t8 t14 M m I i : Nat) : Res :=
 jn (S79_5 c k j1) fun j57 =>
 c 142 [t14, 4590] M m I i fun v59 M m I i =>
 j57 t0 t1 t5 t6 t7 t8 t14 M m I i
def S79_7 (c : Y) (k : KF) (j1 : X9) (t0 t1 t5 t6 t7 t8 M m I i : Nat) : Res :=
 jn (S79_6 c k j1) fun j60 =>
 c 141 [t8] M m I i fun v62 M m I i =>
 j60 t0 t1 t5 t6 t7 t8 v62 M m I i
def S79_8 (j77 : X15) (n79 : Nat) (j78 : X18) (t0 t1 t5 t6 t7 t8 t9 t11 t25 t26 t27 t39 t40 t41 M m I i : Nat) : Res :=
 lt 5 t41 t40 fun v80 =>
 cnd v80 (ia 1 t39 t41 fun v81 =>
 ld v81 M fun v82 =>
 ia 1 t1 v82 fun v87 =>
 ld v87 M fun v88 =>
 bldSK 1 1 295147905179352825861 [(0, 1, (.k v88))] zf M m I i fun v89 M m I i =>
 appW 1 t11 v89 M m I i fun v90 M m I i =>
 adt n79 t41 295147905179352825893 fun v92 =>
 j78 t0 t1 t5 t6 t7 t8 t9 v90 t25 t26 t27 t39 t40 v92 M m I i)
 (j77 t0 t1 t5 t6 t7 t8 t9 t11 t25 t26 t27 M m I i)
def S79_9 (j77 : X15) (t0 t1 t5 t6 t7 t8 t9 t11 t25 t26 t27 t39 t40 t41 M m I i : Nat) : Res :=
 lp (S79_8 j77) (fun _ _ _ _ _ _ _ _ _ _ _ _ _ _ _ _ _ _ => .bad 73 0) t0 t1 t5 t6 t7 t8 t9 t11 t25 t26 t27 t39 t40 t41 M m I i
def S79_10 (c : Y) (j69 : X13) (t0 t1 t5 t6 t7 t8 t9 t10 t11 t25 t26 t27 M m I i : Nat) : Res :=
 jn (fun (t0 t1 t5 t6 t7 t8 t9 t11 t25 t26 t27 M m I i : Nat) =>
 slcK 1 (.k t11) (some (.k 295147905179352825925)) none none zf I i fun v71 I i =>
 c 140 [v71] M m I i fun v72 M m I i =>
 ia 1 t8 t9 fun v76 =>
 storeK 1 (.k v76) (.k t11) zf M m I i fun _ M m I i =>
 j69 t0 t1 t5 t6 t7 t8 t25 t26 t27 M m I i) fun j77 =>
 jn (S79_9 j77) fun j94 =>
 ln t10 fun v96 =>
 j94 t0 t1 t5 t6 t7 t8 t9 t11 t25 t26 t27 t10 v96 295147905179352825861 M m I i
def S79_11 (c : Y) (j69 : X13) (t0 t1 t5 t6 t7 t8 t9 t10 t25 t26 t27 M m I i : Nat) : Res :=
 jn (S79_10 c j69) fun j98 =>
 ia 1 t1 t9 fun v101 =>
 ld v101 M fun v102 =>
 ln t10 fun v104 =>
 bldSK 2 1 295147905179352825861 [(0, 1, (.k v102)), (1, 1, (.k v104))] zf M m I i fun v105 M m I i =>
 j98 t0 t1 t5 t6 t7 t8 t9 t10 v105 t25 t26 t27 M m I i
def S79_12 (c : Y) (n66 : Nat) (j65 : X13) (t0 t1 t5 t6 t7 t8 t25 t26 t27 M m I i : Nat) : Res :=
 jn (fun (t0 t1 t5 t6 t7 t8 t25 t26 t27 M m I i : Nat) =>
 adt n66 t27 295147905179352825893 fun v67 =>
 j65 t0 t1 t5 t6 t7 t8 t25 t26 v67 M m I i) fun j69 =>
 jn (S79_11 c j69) fun j107 =>
 ia 1 t25 t27 fun v109 =>
 ld v109 M fun v110 =>
 j107 t0 t1 t5 t6 t7 t8 t27 v110 t25 t26 t27 M m I i
def S79_13 (c : Y) (j64 : X10) (n66 : Nat) (j65 : X13) (t0 t1 t5 t6 t7 t8 t25 t26 t27 t28 M m I i : Nat) : Res :=
 jn (S79_12 c n66 j65) fun j113 =>
 cnd t28 (j113 t0 t1 t5 t6 t7 t8 t25 t26 t27 M m I i)
 (j64 t0 t1 t5 t6 t7 t8 M m I i)
def S79_14 (c : Y) (j64 : X10) (n66 : Nat) (j65 : X13) (t0 t1 t5 t6 t7 t8 t25 t26 t27 M m I i : Nat) : Res :=
 jn (S79_13 c j64 n66 j65) fun j114 =>
 lt 5 t27 t26 fun v115 =>
 j114 t0 t1 t5 t6 t7 t8 t25 t26 t27 v115 M m I i
def S79_15 (c : Y) (j64 : X10) (t0 t1 t5 t6 t7 t8 t25 t26 t27 M m I i : Nat) : Res :=
 lp (S79_14 c j64) (fun _ _ _ _ _ _ _ _ _ _ _ _ _ => .bad 73 0) t0 t1 t5 t6 t7 t8 t25 t26 t27 M m I i
def S79_16 (c : Y) (k : KF) (j1 : X9) (t0 t1 t5 t6 t7 t8 M m I i : Nat) : Res :=
 jn (S79_7 c k j1) fun j64 =>
 jn (S79_15 c j64) fun j116 =>
 ln t0 fun v118 =>
 j116 t0 t1 t5 t6 t7 t8 t0 v118 295147905179352825861 M m I i
def S79_17 (c : Y) (k : KF) (n2 : Nat) (j1 : X9) (t0 t1 t5 t6 t7 M m I i : Nat) : Res :=
 jn (S79_16 c k j1) fun j120 =>
 mkSlK 1 11 (.k t5) (.k t5) zf M m I i fun v122 M m I i =>
 j120 t0 t1 t5 t6 t7 v122 M m I i
def S79_18 (c : Y) (k : KF) (t0 t1 t5 t6 t7 M m I i : Nat) : Res :=
 lp (S79_17 c k) (fun _ _ _ _ _ _ _ _ _ => .bad 73 0) t0 t1 t5 t6 t7 M m I i
def S79_19 (c : Y) (k : KF) (t0 t1 t5 t6 M m I i : Nat) : Res :=
 jn (S79_18 c k) fun j124 =>
 j124 t0 t1 t5 t6 11 M m I i
def S79_20 (c : Y) (k : KF) (t0 t1 t5 M m I i : Nat) : Res :=
 jn (S79_19 c k) fun j126 =>
 j126 t0 t1 t5 295147905179352825861 M m I i
def S79_21 (c : Y) (k : KF) (t0 t1 t5 M m I i : Nat) : Res :=
 jn (S79_20 c k) fun j128 =>
 c 139 [t1] M m I i fun v130 M m I i =>
 j128 t0 v130 t5 M m I i
def S79_22 (c : Y) (k : KF) (t0 t1 M m I i : Nat) : Res :=
 jn (S79_21 c k) fun j132 =>
 ln t0 fun v134 =>
 j132 t0 t1 v134 M m I i
def F79 (c : Y) (t0 t1 M m I i : Nat) (k : KF) : Res :=
 jn (S79_22 c k) fun j136 =>
 j136 t0 t1 M m I i
def g79 (c : Y) : List Nat → Nat → Nat → Nat → Nat → KF → Res := unS fun t0 => unS fun t1 => un0 (F79 c t0 t1)
def S162_1 (j3 : X5) (n5 : Nat) (j4 : X8) (t3 t13 t14 t15 M m I i : Nat) : Res :=
 lt 5 t15 t14 fun v6 =>
 cnd v6 (ia 2 t13 t15 fun v7 =>
 loadNK 2 (.k v7) zf M I i fun v8 I i =>
 newK 2 23384026197294446691655098136326997907641993265157 M m I i fun v9 M m I i =>
 storeK 2 (.k v9) (.k v8) zf M m I i fun _ M m I i =>
 iadrAK 2 1 (.k v9) (.k 295147905179352825861) zf I i fun v11 I i =>
 ld v11 M fun v12 =>
 iadrAK 2 1 (.k v9) (.k 295147905179352825861) zf I i fun v14 I i =>
 ld v14 M fun v15 =>
 ia 1 t3 v15 fun v16 =>
 ld v16 M fun v17 =>
 iadrAK 2 1 (.k v9) (.k 295147905179352825893) zf I i fun v18 I i =>
 ld v18 M fun v19 =>
 bldSK 1 1 295147905179352825861 [(0, 1, (.k v19))] zf M m I i fun v20 M m I i =>
 appW 1 v17 v20 M m I i fun v22 M21 m I i =>
 flL v11 1 M M21 <| 
 ia 1 t3 v12 fun v23 =>
 storeK 1 (.k v23) (.k v22) zf M21 m I i fun _ M m I i =>
 iadrAK 2 1 (.k v9) (.k 295147905179352825893) zf I i fun v25 I i =>
 ld v25 M fun v26 =>
 iadrAK 2 1 (.k v9) (.k 295147905179352825893) zf I i fun v28 I i =>
 ld v28 M fun v29 =>
 ia 1 t3 v29 fun v30 =>
 ld v30 M fun v31 =>
 iadrAK 2 1 (.k v9) (.k 295147905179352825861) zf I i fun v32 I i =>
 ld v32 M fun v33 =>
 bldSK 1 1 295147905179352825861 [(0, 1, (.k v33))] zf M m I i fun v34 M m I i =>
 appW 1 v31 v34 M m I i fun v36 M35 m I i =>
 flL v25 1 M M35 <| 
 ia 1 t3 v26 fun v37 =>
 storeK 1 (.k v37) (.k v36) zf M35 m I i fun _ M m I i =>
 adt n5 t15 295147905179352825893 fun v38 =>
 j4 t3 t13 t14 v38 M m I i)
 (j3 t3 M m I i)
def S162_2 (j3 : X5) (t3 t13 t14 t15 M m I i : Nat) : Res :=
 lp (S162_1 j3) (fun _ _ _ _ _ _ _ _ => .bad 73 0) t3 t13 t14 t15 M m I i
def S162_3 (k : KF) (t1 t3 M m I i : Nat) : Res :=
 jn (fun (t3 M m I i : Nat) =>
 k t3 M m I i) fun j3 =>
 jn (S162_2 j3) fun j40 =>
 fa 1 t1 fun v41 =>
 ld v41 M fun v42 =>
 ln v42 fun v43 =>
 j40 t3 v42 v43 295147905179352825861 M m I i
def S162_4 (k : KF) (t1 M m I i : Nat) : Res :=
 jn (S162_3 k) fun j45 =>
 fa 0 t1 fun v46 =>
 ld v46 M fun v47 =>
 mkSlK 1 11 (.k v47) (.k v47) zf M m I i fun v48 M m I i =>
 j45 t1 v48 M m I i
def S162_5 (c : Y) (k : KF) (t1 M m I i : Nat) : Res :=
 jn (S162_4 k) fun j50 =>
 loadNK 2 (.k t1) zf M I i fun v51 I i =>
 c 37 [v51] M m I i fun v52 M m I i =>
 notK (.k v52) zf I i fun v53 I i =>
 cnd v53 (k 11 M m I i)
 (j50 t1 M m I i)
def F162 (c : Y) (t0 M m I i : Nat) (k : KF) : Res :=
 jn (S162_5 c k) fun j55 =>
 boxK 2 (.k t0) zf M m I i fun v56 M m I i =>
 j55 v56 M m I i
def g162 (c : Y) : List Nat → Nat → Nat → Nat → Nat → KF → Res := unS fun t0 => un0 (F162 c t0)
def F232 (c : Y) (t0 t1 M m I i : Nat) (k : KF) : Res :=
 c 128 [t0] M m I i fun v3 M m I i =>
 jn (fun (v9 M m I i : Nat) =>
 pk v3 v9 1 fun v10 =>
 jn (fun (v16 : Nat) =>
 pk v10 33 v16 fun v17 =>
 k v17 M m I i)
 (fun j12 => gd v10 1 (lt 5 t0 t1 fun v15 =>
 j12 v15) (j12 0)))
 (fun j5 => gd v3 33 (c 128 [t1] M m I i fun v7 M m I i =>
 notK (.k v7) zf I i fun v8 I i =>
 j5 v8 M m I i) (j5 0 M m I i))
def g232 (c : Y) : List Nat → Nat → Nat → Nat → Nat → KF → Res := unS fun t0 => unS fun t1 => un0 (F232 c t0 t1)
def S73_1 (k : KF) (t0 t3 M m I i : Nat) : Res :=
 jn (fun (t3 M m I i : Nat) =>
 k t3 M m I i) fun j3 =>
 jn (fun (t3 t6 t7 t8 M m I i : Nat) =>
 lp (fun (n5 : Nat) (j4 : X8) (t3 t6 t7 t8 M m I i : Nat) =>
 lt 5 t8 t7 fun v6 =>
 cnd v6 (ia 1 t6 t8 fun v7 =>
 ld v7 M fun v8 =>
 ne 5 v8 t3 fun v12 =>
 cnd v12 (k v8 M m I i)
 (adt n5 t8 295147905179352825893 fun v15 =>
 j4 t3 t6 t7 v15 M m I i))
 (j3 t3 M m I i)) (fun _ _ _ _ _ _ _ _ => .bad 73 0) t3 t6 t7 t8 M m I i) fun j17 =>
 ln t0 fun v19 =>
 j17 t3 t0 v19 295147905179352825861 M m I i
def S73_2 (k : KF) (t0 M m I i : Nat) : Res :=
 jn (S73_1 k) fun j21 =>
 j21 t0 295147905179352825861 M m I i
def F73 (c : Y) (t0 M m I i : Nat) (k : KF) : Res :=
 jn (S73_2 k) fun j23 =>
 j23 t0 M m I i
def g73 (c : Y) : List Nat → Nat → Nat → Nat → Nat → KF → Res := unS fun t0 => un0 (F73 c t0)
def F213 (c : Y) (t0 M m I i : Nat) (k : KF) : Res :=
 newK 4 2983939418458719852932293488918587651015056989367101041182505228830656700767545723977734 M m I i fun v1 M m I i =>
 shfK .shr .i64 .u64 (.k t0) (.k 777) zf I i fun v3 I i =>
 convK .i64 .u8 (.k v3) zf I i fun v4 I i =>
 shfK .shr .i64 .u64 (.k t0) (.k 521) zf I i fun v6 I i =>
 convK .i64 .u8 (.k v6) zf I i fun v7 I i =>
 shfK .shr .i64 .u64 (.k t0) (.k 265) zf I i fun v9 I i =>
 convK .i64 .u8 (.k v9) zf I i fun v10 I i =>
 convK .i64 .u8 (.k t0) zf I i fun v12 I i =>
 buildK 4 2983939418458719852932293488918587651015056989367101041182505228830656700767545723977734 [(0, 1, (.k v4)), (1, 1, (.k v7)), (2, 1, (.k v10)), (3, 1, (.k v12))] zf I i fun v13 I i =>
 storeK 4 (.k v1) (.k v13) zf M m I i fun _ M m I i =>
 loadNK 4 (.k v1) zf M I i fun v14 I i => k v14 M m I i
def g213 (c : Y) : List Nat → Nat → Nat → Nat → Nat → KF → Res := unS fun t0 => un0 (F213 c t0)
def S220_1 (c : Y) (k : KF) (t2 t6 t23 t24 M m I i : Nat) : Res :=
 jn (fun (t6 t24 M m I i : Nat) =>
 nilcK (.k t6) zf I i fun v3 I i =>
 fa 2 v3 fun v4 =>
 storeK 1 (.k v4) (.k t24) zf M m I i fun _ M m I i =>
 c 256 [t6] M m I i fun v6 M m I i =>
 k t6 M m I i) fun j9 =>
 notK (.k t23) zf I i fun v11 I i =>
 cnd v11 (fa 0 t2 fun v13 =>
 ld v13 M fun v14 =>
 ln v14 fun v15 =>
 ad t24 v15 fun v16 =>
 j9 t6 v16 M m I i)
 (j9 t6 t24 M m I i)
def S220_2 (c : Y) (k : KF) (t2 t6 M m I i : Nat) : Res :=
 jn (S220_1 c k) fun j18 =>
 loadNK 3 (.k t2) zf M I i fun v19 I i =>
 c 255 [v19] M m I i fun v20 M m I i =>
 f1 19 0 v20 I fun v22 =>
 f1 19 1 v20 I fun v23 =>
 j18 t2 t6 v22 v23 M m I i
def S220_3 (j31 : X9) (t2 t6 t21 t22 t195 t196 t197 M m I i : Nat) : Res :=
 nilcK (.k t6) zf I i fun v33 I i =>
 fa 1 v33 fun v34 =>
 ld v34 M fun v35 =>
 nilcK (.k t6) zf I i fun v38 I i =>
 fa 1 v38 fun v39 =>
 ld v39 M fun v40 =>
 ia 1 v40 t21 fun v42 =>
 ld v42 M fun v43 =>
 bldSK 1 1 295147905179352825861 [(0, 1, (.k t22))] zf M m I i fun v45 M m I i =>
 appW 1 v43 v45 M m I i fun v47 M46 m I i =>
 flL v34 1 M M46 <| 
 ia 1 v35 t21 fun v48 =>
 storeK 1 (.k v48) (.k v47) zf M46 m I i fun _ M m I i =>
 nilcK (.k t6) zf I i fun v50 I i =>
 fa 1 v50 fun v51 =>
 ld v51 M fun v52 =>
 nilcK (.k t6) zf I i fun v55 I i =>
 fa 1 v55 fun v56 =>
 ld v56 M fun v57 =>
 ia 1 v57 t22 fun v59 =>
 ld v59 M fun v60 =>
 bldSK 1 1 295147905179352825861 [(0, 1, (.k t21))] zf M m I i fun v62 M m I i =>
 appW 1 v60 v62 M m I i fun v64 M63 m I i =>
 flL v51 1 M M63 <| 
 ia 1 v52 t22 fun v65 =>
 storeK 1 (.k v65) (.k v64) zf M63 m I i fun _ M m I i =>
 j31 t2 t6 t195 t196 t197 M m I i
def S220_4 (n28 : Nat) (j31 : X9) (t2 t6 t20 t195 t196 t197 M m I i : Nat) : Res :=
 jn (S220_3 j31) fun j66 =>
 iadrAK 2 1 (.k t20) (.k 295147905179352825861) zf I i fun v67 I i =>
 ld v67 M fun v68 =>
 fa 0 t2 fun v69 =>
 ld v69 M fun v70 =>
 ln v70 fun v71 =>
 iadrAK 2 1 (.k t20) (.k 295147905179352825893) zf I i fun v72 I i =>
 ld v72 M fun v73 =>
 adt n28 v71 v73 fun v74 =>
 j66 t2 t6 v68 v74 t195 t196 t197 M m I i
def S220_5 (n28 : Nat) (j27 : X9) (t2 t6 t195 t196 t197 M m I i : Nat) : Res :=
 jn (fun (t2 t6 t195 t196 t197 M m I i : Nat) =>
 adt n28 t197 295147905179352825893 fun v29 =>
 j27 t2 t6 t195 t196 v29 M m I i) fun j31 =>
 jn (S220_4 n28 j31) fun j77 =>
 ia 2 t195 t197 fun v78 =>
 loadNK 2 (.k v78) zf M I i fun v79 I i =>
 newK 2 23384026197294446691655098136326997907641993265157 M m I i fun v80 M m I i =>
 storeK 2 (.k v80) (.k v79) zf M m I i fun _ M m I i =>
 j77 t2 t6 v80 t195 t196 t197 M m I i
def S220_6 (j26 : X6) (n28 : Nat) (j27 : X9) (t2 t6 t195 t196 t197 t198 M m I i : Nat) : Res :=
 jn (S220_5 n28 j27) fun j81 =>
 cnd t198 (j81 t2 t6 t195 t196 t197 M m I i)
 (j26 t2 t6 M m I i)
def S220_7 (j26 : X6) (n28 : Nat) (j27 : X9) (t2 t6 t195 t196 t197 M m I i : Nat) : Res :=
 jn (S220_6 j26 n28 j27) fun j82 =>
 lt 5 t197 t196 fun v83 =>
 j82 t2 t6 t195 t196 t197 v83 M m I i
def S220_8 (j26 : X6) (t2 t6 t195 t196 t197 M m I i : Nat) : Res :=
 lp (S220_7 j26) (fun _ _ _ _ _ _ _ _ _ => .bad 73 0) t2 t6 t195 t196 t197 M m I i
def S220_9 (c : Y) (k : KF) (t2 t6 M m I i : Nat) : Res :=
 jn (S220_2 c k) fun j26 =>
 jn (S220_8 j26) fun j84 =>
 fa 2 t2 fun v85 =>
 ld v85 M fun v86 =>
 ln v86 fun v87 =>
 j84 t2 t6 v86 v87 295147905179352825861 M m I i
def S220_10 (c : Y) (k : KF) (t2 t6 t18 M m I i : Nat) : Res :=
 jn (S220_9 c k) fun j89 =>
 mkSlK 1 11 (.k t18) (.k t18) zf M m I i fun v95 M m I i =>
 mkSlK 1 295147905179352825861 (.k t18) (.k t18) zf M m I i fun v97 M m I i =>
 mkSlK 1 295147905179352825861 (.k t18) (.k t18) zf M m I i fun v99 M m I i =>
 mkSlK 1 295147905179352825861 (.k t18) (.k t18) zf M m I i fun v101 M m I i =>
 nilcK (.k t6) zf I i fun v102 I i =>
 fa 1 v102 fun v103 =>
 storeK 1 (.k v103) (.k v95) zf M m I i fun _ M m I i =>
 nilcK (.k t6) zf I i fun v104 I i =>
 fa 3 v104 fun v105 =>
 storeK 1 (.k v105) (.k v97) zf M m I i fun _ M m I i =>
 nilcK (.k t6) zf I i fun v106 I i =>
 fa 4 v106 fun v107 =>
 storeK 1 (.k v107) (.k v99) zf M m I i fun _ M m I i =>
 nilcK (.k t6) zf I i fun v108 I i =>
 fa 5 v108 fun v109 =>
 storeK 1 (.k v109) (.k v101) zf M m I i fun _ M m I i =>
 j89 t2 t6 M m I i
def S220_11 (c : Y) (k : KF) (t2 t6 M m I i : Nat) : Res :=
 jn (S220_10 c k) fun j110 =>
 nilcK (.k t6) zf I i fun v112 I i =>
 fa 0 v112 fun v113 =>
 ld v113 M fun v114 =>
 ln v114 fun v115 =>
 j110 t2 t6 v115 M m I i
def S220_12 (j117 : X6) (n119 : Nat) (j118 : X9) (t2 t6 t133 t134 t135 M m I i : Nat) : Res :=
 lt 5 t135 t134 fun v120 =>
 cnd v120 (ia 1 t133 t135 fun v122 =>
 ld v122 M fun v123 =>
 nilcK (.k t6) zf I i fun v127 I i =>
 fa 8 v127 fun v128 =>
 ld v128 M fun v129 =>
 fa 0 t2 fun v131 =>
 ld v131 M fun v132 =>
 ln v132 fun v133 =>
 adt n119 v133 t135 fun v135 =>
 updW (.word 5) v129 v123 v135 M m I i fun _ M m I i =>
 nilcK (.k t6) zf I i fun v138 I i =>
 fa 0 v138 fun v139 =>
 ld v139 M fun v140 =>
 fa 0 t2 fun v141 =>
 ld v141 M fun v142 =>
 ln v142 fun v143 =>
 adt n119 v143 t135 fun v145 =>
 buildK 2 23384026197294446691655098136326997907641993265157 [(0, 1, (.k v145)), (1, 1, (.k v123))] zf I i fun v147 I i =>
 boxK 2 (.k v147) zf M m I i fun v148 M m I i =>
 mkiK 333 (.k v148) zf I i fun v149 I i =>
 bldSK 1 1 17 [(0, 1, (.k v149))] zf M m I i fun v150 M m I i =>
 appW 1 v140 v150 M m I i fun v151 M m I i =>
 nilcK (.k t6) zf I i fun v152 I i =>
 fa 0 v152 fun v153 =>
 storeK 1 (.k v153) (.k v151) zf M m I i fun _ M m I i =>
 adt n119 t135 295147905179352825893 fun v154 =>
 j118 t2 t6 t133 t134 v154 M m I i)
 (j117 t2 t6 M m I i)
def S220_13 (j117 : X6) (t2 t6 t133 t134 t135 M m I i : Nat) : Res :=
 lp (S220_12 j117) (fun _ _ _ _ _ _ _ _ _ => .bad 73 0) t2 t6 t133 t134 t135 M m I i
def S220_14 (c : Y) (k : KF) (t2 t6 M m I i : Nat) : Res :=
 jn (S220_11 c k) fun j117 =>
 jn (S220_13 j117) fun j156 =>
 fa 1 t2 fun v157 =>
 ld v157 M fun v158 =>
 ln v158 fun v159 =>
 j156 t2 t6 v158 v159 295147905179352825861 M m I i
def S220_15 (c : Y) (j166 : X9) (t2 t6 t13 t63 t64 t65 M m I i : Nat) : Res :=
 nilcK (.k t13) zf I i fun v168 I i =>
 fa 2 v168 fun v169 =>
 ld v169 M fun v170 =>
 c 140 [v170] M m I i fun v171 M m I i =>
 nilcK (.k t13) zf I i fun v174 I i =>
 fa 2 v174 fun v175 =>
 ld v175 M fun v176 =>
 c 203 [v176] M m I i fun v177 M m I i =>
 nilcK (.k t13) zf I i fun v178 I i =>
 fa 2 v178 fun v179 =>
 storeK 1 (.k v179) (.k v177) zf M m I i fun _ M m I i =>
 nilcK (.k t6) zf I i fun v182 I i =>
 fa 0 v182 fun v183 =>
 ld v183 M fun v184 =>
 mkiK 327 (.k t13) zf I i fun v186 I i =>
 bldSK 1 1 17 [(0, 1, (.k v186))] zf M m I i fun v187 M m I i =>
 appW 1 v184 v187 M m I i fun v188 M m I i =>
 nilcK (.k t6) zf I i fun v189 I i =>
 fa 0 v189 fun v190 =>
 storeK 1 (.k v190) (.k v188) zf M m I i fun _ M m I i =>
 j166 t2 t6 t63 t64 t65 M m I i
def S220_16 (j191 : X10) (n193 : Nat) (j192 : X13) (t2 t6 t13 t63 t64 t65 t73 t74 t75 M m I i : Nat) : Res :=
 lt 5 t75 t74 fun v194 =>
 cnd v194 (ia 2 t73 t75 fun v195 =>
 loadNK 2 (.k v195) zf M I i fun v196 I i =>
 newK 2 23384026197294446691655098136326997907641993265157 M m I i fun v197 M m I i =>
 storeK 2 (.k v197) (.k v196) zf M m I i fun _ M m I i =>
 nilcK (.k t13) zf I i fun v200 I i =>
 fa 1 v200 fun v201 =>
 ld v201 M fun v202 =>
 iadrAK 2 1 (.k v197) (.k 295147905179352825861) zf I i fun v203 I i =>
 ld v203 M fun v204 =>
 iadrAK 2 1 (.k v197) (.k 295147905179352825893) zf I i fun v205 I i =>
 ld v205 M fun v206 =>
 buildK 3 1852673427797059126808521268839323955668793148457942454848160119256572240068613 [(0, 1, (.k v204)), (1, 1, (.k v206))] zf I i fun v207 I i =>
 bldSK 1 3 1852673427797059126808521268839323955668793148457942454848160119256572240068613 [(0, 3, (.k v207))] zf M m I i fun v208 M m I i =>
 appW 3 v202 v208 M m I i fun v209 M m I i =>
 nilcK (.k t13) zf I i fun v210 I i =>
 fa 1 v210 fun v211 =>
 storeK 1 (.k v211) (.k v209) zf M m I i fun _ M m I i =>
 nilcK (.k t13) zf I i fun v214 I i =>
 fa 2 v214 fun v215 =>
 ld v215 M fun v216 =>
 iadrAK 2 1 (.k v197) (.k 295147905179352825861) zf I i fun v217 I i =>
 ld v217 M fun v218 =>
 iadrAK 2 1 (.k v197) (.k 295147905179352825893) zf I i fun v219 I i =>
 ld v219 M fun v220 =>
 bldSK 2 1 295147905179352825861 [(0, 1, (.k v218)), (1, 1, (.k v220))] zf M m I i fun v221 M m I i =>
 appW 1 v216 v221 M m I i fun v222 M m I i =>
 nilcK (.k t13) zf I i fun v223 I i =>
 fa 2 v223 fun v224 =>
 storeK 1 (.k v224) (.k v222) zf M m I i fun _ M m I i =>
 adt n193 t75 295147905179352825893 fun v225 =>
 j192 t2 t6 t13 t63 t64 t65 t73 t74 v225 M m I i)
 (j191 t2 t6 t13 t63 t64 t65 M m I i)
def S220_17 (j191 : X10) (t2 t6 t13 t63 t64 t65 t73 t74 t75 M m I i : Nat) : Res :=
 lp (S220_16 j191) (fun _ _ _ _ _ _ _ _ _ _ _ _ _ => .bad 73 0) t2 t6 t13 t63 t64 t65 t73 t74 t75 M m I i
def S220_18 (c : Y) (j166 : X9) (t2 t6 t12 t13 t63 t64 t65 M m I i : Nat) : Res :=
 jn (S220_15 c j166) fun j191 =>
 jn (S220_17 j191) fun j227 =>
 ln t12 fun v229 =>
 j227 t2 t6 t13 t63 t64 t65 t12 v229 295147905179352825861 M m I i
def S220_19 (c : Y) (j166 : X9) (t2 t6 t11 t12 t63 t64 t65 M m I i : Nat) : Res :=
 jn (S220_18 c j166) fun j231 =>
 buildK 5 433422068160339271335069441107050307456384785038829118077115304806897210633642335301058188389923904481518587740160005 [(0, 1, (.k t11))] zf I i fun v233 I i =>
 boxK 5 (.k v233) zf M m I i fun v234 M m I i =>
 j231 t2 t6 t12 v234 t63 t64 t65 M m I i
def S220_20 (c : Y) (n163 : Nat) (j162 : X9) (t2 t6 t63 t64 t65 M m I i : Nat) : Res :=
 jn (fun (t2 t6 t63 t64 t65 M m I i : Nat) =>
 adt n163 t65 295147905179352825893 fun v164 =>
 j162 t2 t6 t63 t64 v164 M m I i) fun j166 =>
 jn (S220_19 c j166) fun j236 =>
 ia 1 t63 t65 fun v238 =>
 ld v238 M fun v239 =>
 j236 t2 t6 t65 v239 t63 t64 t65 M m I i
def S220_21 (c : Y) (j161 : X6) (n163 : Nat) (j162 : X9) (t2 t6 t63 t64 t65 t66 M m I i : Nat) : Res :=
 jn (S220_20 c n163 j162) fun j242 =>
 cnd t66 (j242 t2 t6 t63 t64 t65 M m I i)
 (j161 t2 t6 M m I i)
def S220_22 (c : Y) (j161 : X6) (n163 : Nat) (j162 : X9) (t2 t6 t63 t64 t65 M m I i : Nat) : Res :=
 jn (S220_21 c j161 n163 j162) fun j243 =>
 lt 5 t65 t64 fun v244 =>
 j243 t2 t6 t63 t64 t65 v244 M m I i
def S220_23 (c : Y) (j161 : X6) (t2 t6 t63 t64 t65 M m I i : Nat) : Res :=
 lp (S220_22 c j161) (fun _ _ _ _ _ _ _ _ _ => .bad 73 0) t2 t6 t63 t64 t65 M m I i
def S220_24 (c : Y) (k : KF) (t2 t6 M m I i : Nat) : Res :=
 jn (S220_14 c k) fun j161 =>
 jn (S220_23 c j161) fun j245 =>
 fa 0 t2 fun v246 =>
 ld v246 M fun v247 =>
 ln v247 fun v248 =>
 j245 t2 t6 v247 v248 295147905179352825861 M m I i
def S220_25 (c : Y) (j250 : X6) (n252 : Nat) (j251 : X10) (t2 t5 t6 t39 t40 t41 M m I i : Nat) : Res :=
 lt 5 t41 t40 fun v253 =>
 cnd v253 (ia 1 t39 t41 fun v254 =>
 ld v254 M fun v255 =>
 c 254 [t5, v255] M m I i fun v259 M m I i =>
 f1 19 0 v259 I fun v261 =>
 f1 19 1 v259 I fun v262 =>
 nilcK (.k t6) zf I i fun v267 I i =>
 fa 6 v267 fun v268 =>
 ld v268 M fun v269 =>
 bldSK 1 1 295147905179352825861 [(0, 1, (.k v261))] zf M m I i fun v271 M m I i =>
 appW 1 v269 v271 M m I i fun v272 M m I i =>
 nilcK (.k t6) zf I i fun v273 I i =>
 fa 6 v273 fun v274 =>
 storeK 1 (.k v274) (.k v272) zf M m I i fun _ M m I i =>
 adt n252 t41 295147905179352825893 fun v275 =>
 j251 t2 t5 t6 t39 t40 v275 M m I i)
 (j250 t2 t6 M m I i)
def S220_26 (c : Y) (j250 : X6) (t2 t5 t6 t39 t40 t41 M m I i : Nat) : Res :=
 lp (S220_25 c j250) (fun _ _ _ _ _ _ _ _ _ _ => .bad 73 0) t2 t5 t6 t39 t40 t41 M m I i
def S220_27 (c : Y) (k : KF) (t1 t2 t5 t6 M m I i : Nat) : Res :=
 jn (S220_24 c k) fun j250 =>
 jn (S220_26 c j250) fun j277 =>
 ln t1 fun v279 =>
 j277 t2 t5 t6 t1 v279 295147905179352825861 M m I i
def S220_28 (c : Y) (k : KF) (t1 t2 t5 M m I i : Nat) : Res :=
 jn (S220_27 c k) fun j281 =>
 ln t5 fun v283 =>
 mkMapK M m I i fun v284 M m I i =>
 ln t1 fun v286 =>
 mkSlK 1 1 (.k v286) (.k v286) zf M m I i fun v287 M m I i =>
 buildK 11 107198454125399989883887206267980106132592993727791404720082614073121178956162924015299865750296305105155242079642919866338389429624140633399739290166435169189123271254708874727282303552107766527933389550216969778187387700208926536446166509594013637626145858272307859853711251685761532035083 [(7, 1, (.k v283)), (8, 1, (.k v284)), (9, 1, (.k v287))] zf I i fun v288 I i =>
 boxK 11 (.k v288) zf M m I i fun v289 M m I i =>
 j281 t1 t2 t5 v289 M m I i
def S220_29 (c : Y) (k : KF) (t1 t2 t5 M m I i : Nat) : Res :=
 jn (S220_28 c k) fun j291 =>
 c 203 [t5] M m I i fun v293 M m I i =>
 j291 t1 t2 v293 M m I i
def S220_30 (c : Y) (k : KF) (t1 t2 t5 M m I i : Nat) : Res :=
 jn (S220_29 c k) fun j295 =>
 c 140 [t5] M m I i fun v297 M m I i =>
 j295 t1 t2 t5 M m I i
def S220_31 (c : Y) (k : KF) (t1 t2 M m I i : Nat) : Res :=
 jn (S220_30 c k) fun j298 =>
 c 139 [t1] M m I i fun v300 M m I i =>
 j298 t1 t2 v300 M m I i
def F220 (c : Y) (t0 t1 M m I i : Nat) (k : KF) : Res :=
 jn (S220_31 c k) fun j302 =>
 boxK 3 (.k t0) zf M m I i fun v303 M m I i =>
 j302 t1 v303 M m I i
def g220 (c : Y) : List Nat → Nat → Nat → Nat → Nat → KF → Res := unS fun t0 => unS fun t1 => un0 (F220 c t0 t1)
def S203_1 (j17 : X6) (n19 : Nat) (j18 : X8) (t0 t3 t4 t5 M m I i : Nat) : Res :=
 ln t4 fun v22 =>
 lt 5 t5 v22 fun v23 =>
 cnd v23 (ia 1 t4 t5 fun v26 =>
 ld v26 M fun v27 =>
 sbt n19 t5 295147905179352825893 fun v30 =>
 ia 1 t4 v30 fun v31 =>
 ld v31 M fun v32 =>
 ne 5 v27 v32 fun v33 =>
 cnd v33 (ia 1 t4 t5 fun v38 =>
 ld v38 M fun v39 =>
 ia 1 t0 t3 fun v40 =>
 storeK 1 (.k v40) (.k v39) zf M m I i fun _ M m I i =>
 adt n19 t3 295147905179352825893 fun v42 =>
 adt n19 t5 295147905179352825893 fun v45 =>
 j18 t0 v42 t4 v45 M m I i)
 (adt n19 t5 295147905179352825893 fun v48 =>
 j18 t0 t3 t4 v48 M m I i))
 (j17 t0 t3 M m I i)
def S203_2 (j17 : X6) (t0 t3 t4 t5 M m I i : Nat) : Res :=
 lp (S203_1 j17) (fun _ _ _ _ _ _ _ _ => .bad 73 0) t0 t3 t4 t5 M m I i
def S203_3 (k : KF) (t0 t3 t4 M m I i : Nat) : Res :=
 jn (fun (t0 t3 M m I i : Nat) =>
 slcK 1 (.k t0) (some (.k t3)) none none zf I i fun v12 I i =>
 clearW 1 295147905179352825861 v12 M m I i fun _ M m I i =>
 slcK 1 (.k t0) none (some (.k t3)) none zf I i fun v15 I i =>
 k v15 M m I i) fun j17 =>
 jn (S203_2 j17) fun j50 =>
 j50 t0 t3 t4 295147905179352825893 M m I i
def S203_4 (k : KF) (j9 : X6) (t0 t3 t25 M m I i : Nat) : Res :=
 cnd t25 (jn (S203_3 k) fun j52 =>
 slcK 1 (.k t0) (some (.k t3)) none none zf I i fun v55 I i =>
 j52 t0 t3 v55 M m I i)
 (j9 t0 t3 M m I i)
def S203_5 (k : KF) (n5 : Nat) (j4 : X6) (t0 t3 M m I i : Nat) : Res :=
 jn (fun (t0 t3 M m I i : Nat) =>
 adt n5 t3 295147905179352825893 fun v7 =>
 j4 t0 v7 M m I i) fun j9 =>
 jn (S203_4 k j9) fun j57 =>
 ia 1 t0 t3 fun v60 =>
 ld v60 M fun v61 =>
 sbt n5 t3 295147905179352825893 fun v64 =>
 ia 1 t0 v64 fun v65 =>
 ld v65 M fun v66 =>
 eq 5 v61 v66 fun v67 =>
 j57 t0 t3 v67 M m I i
def S203_6 (k : KF) (j3 : X5) (n5 : Nat) (j4 : X6) (t0 t3 M m I i : Nat) : Res :=
 jn (S203_5 k n5 j4) fun j68 =>
 ln t0 fun v71 =>
 lt 5 t3 v71 fun v72 =>
 cnd v72 (j68 t0 t3 M m I i)
 (j3 t0 M m I i)
def S203_7 (k : KF) (j3 : X5) (t0 t3 M m I i : Nat) : Res :=
 lp (S203_6 k j3) (fun _ _ _ _ _ _ => .bad 73 0) t0 t3 M m I i
def S203_8 (k : KF) (t0 M m I i : Nat) : Res :=
 jn (fun (t0 M m I i : Nat) =>
 k t0 M m I i) fun j3 =>
 jn (S203_7 k j3) fun j73 =>
 j73 t0 295147905179352825893 M m I i
def S203_9 (k : KF) (t0 M m I i : Nat) : Res :=
 jn (S203_8 k) fun j75 =>
 ln t0 fun v77 =>
 lt 5 v77 295147905179352825925 fun v78 =>
 cnd v78 (k t0 M m I i)
 (j75 t0 M m I i)
def F203 (c : Y) (t0 M m I i : Nat) (k : KF) : Res :=
 jn (S203_9 k) fun j81 =>
 j81 t0 M m I i
def g203 (c : Y) : List Nat → Nat → Nat → Nat → Nat → KF → Res := unS fun t0 => un0 (F203 c t0)
def S147_1 (c : Y) (k : KF) (t0 t1 t2 t8 t9 M m I i : Nat) : Res :=
 lt 5 t9 t8 fun v4 =>
 jn (fun (v15 M m I i : Nat) =>
 pk v4 v15 1 fun v16 =>
 rtn 2 [t9, v16] M m I i k)
 (fun j6 => gd v4 33 (ia 1 t0 t9 fun v10 =>
 ld v10 M fun v11 =>
 callvS c (.k t2) [(.k v11), (.k t1)] zf M m I i fun v13 M m I i =>
 eq 5 v13 295147905179352825861 fun v14 =>
 j6 v14 M m I i) (j6 0 M m I i))
def S147_2 (c : Y) (j19 : X9) (n21 : Nat) (j20 : X10) (t0 t1 t2 t8 t9 t10 M m I i : Nat) : Res :=
 lt 5 t9 t10 fun v24 =>
 cnd v24 (adt n21 t9 t10 fun v27 =>
 convK .i64 .u64 (.k v27) zf I i fun v28 I i =>
 shfK .shr .u64 .u64 (.k v28) (.k 41) zf I i fun v29 I i => tkk n21 v29 fun v30 =>
 convK .u64 .i64 (.k v30) zf I i fun v31 I i =>
 ia 1 t0 v31 fun v36 =>
 ld v36 M fun v37 =>
 callvS c (.k t2) [(.k v37), (.k t1)] zf M m I i fun v39 M m I i =>
 lt 5 v39 295147905179352825861 fun v40 =>
 cnd v40 (adt n21 v31 295147905179352825893 fun v42 =>
 j20 t0 t1 t2 t8 v42 t10 M m I i)
 (j20 t0 t1 t2 t8 t9 v31 M m I i))
 (j19 t0 t1 t2 t8 t9 M m I i)
def S147_3 (c : Y) (k : KF) (t0 t1 t2 t8 t9 t10 M m I i : Nat) : Res :=
 jn (S147_1 c k) fun j19 =>
 lp (S147_2 c j19) (fun _ _ _ _ _ _ _ _ _ _ => .bad 73 0) t0 t1 t2 t8 t9 t10 M m I i
def S147_4 (c : Y) (k : KF) (t0 t1 t2 t8 M m I i : Nat) : Res :=
 jn (S147_3 c k) fun j46 =>
 j46 t0 t1 t2 t8 295147905179352825861 t8 M m I i
def S147_5 (c : Y) (k : KF) (t0 t1 t2 M m I i : Nat) : Res :=
 jn (S147_4 c k) fun j50 =>
 ln t0 fun v52 =>
 j50 t0 t1 t2 v52 M m I i
def F147 (c : Y) (t0 t1 t2 M m I i : Nat) (k : KF) : Res :=
 jn (S147_5 c k) fun j54 =>
 j54 t0 t1 t2 M m I i
def g147 (c : Y) : List Nat → Nat → Nat → Nat → Nat → KF → Res := unS fun t0 => unS fun t1 => unS fun t2 => un0 (F147 c t0 t1 t2)
def F36 (c : Y) (t0 t1 M m I i : Nat) (k : KF) : Res :=
 boxK 2 (.k t0) zf M m I i fun v1 M m I i =>
 boxK 2 (.k t1) zf M m I i fun v2 M m I i =>
 iadrAK 2 1 (.k v1) (.k 295147905179352825861) zf I i fun v4 I i =>
 ld v4 M fun v5 =>
 iadrAK 2 1 (.k v2) (.k 295147905179352825861) zf I i fun v6 I i =>
 ld v6 M fun v7 =>
 iadrAK 2 1 (.k v1) (.k 295147905179352825893) zf I i fun v8 I i =>
 ld v8 M fun v9 =>
 iadrAK 2 1 (.k v2) (.k 295147905179352825893) zf I i fun v10 I i =>
 ld v10 M fun v11 =>
 c 74 [v5, v7] M m I i fun v13 M12 m I i =>
 flL v8 1 M M12 <| flL v10 1 M M12 <| 
 c 74 [v9, v11] M12 m I i fun v14 M m I i =>
 bldSK 2 1 295147905179352825861 [(0, 1, (.k v13)), (1, 1, (.k v14))] zf M m I i fun v15 M m I i =>
 c 73 [v15] M m I i fun v16 M m I i =>
 k v16 M m I i
def g36 (c : Y) : List Nat → Nat → Nat → Nat → Nat → KF → Res := unS fun t0 => unS fun t1 => un0 (F36 c t0 t1)
def S288_1 (j14 : X10) (n16 : Nat) (j15 : X14) (t2 t4 t5 t10 t12 t13 t14 t140 t141 t142 M m I i : Nat) : Res :=
 lt 5 t142 t141 fun v17 =>
 cnd v17 (ia 1 t140 t142 fun v18 =>
 ld v18 M fun v19 =>
 fa 0 t14 fun v21 =>
 ld v21 M fun v22 =>
 sbt n16 295147905179352825893 v22 fun v23 =>
 iadrAK 2 1 (.k t10) (.k v23) zf I i fun v24 I i =>
 ld v24 M fun v25 =>
 ia 1 v25 v19 fun v27 =>
 ld v27 M fun v28 =>
 notK (.k v28) zf I i fun v29 I i =>
 cnd v29 (fa 0 t14 fun v30 =>
 ld v30 M fun v31 =>
 sbt n16 295147905179352825893 v31 fun v32 =>
 iadrAK 2 1 (.k t10) (.k v32) zf I i fun v33 I i =>
 ld v33 M fun v34 =>
 ia 1 v34 v19 fun v36 =>
 storeK 1 (.k v36) (.k 33) zf M m I i fun _ M m I i =>
 fa 0 t14 fun v38 =>
 ld v38 M fun v39 =>
 sbt n16 295147905179352825893 v39 fun v40 =>
 buildK 2 23384026197294446691655098136326997907641993265157 [(0, 1, (.k v40)), (1, 1, (.k v19))] zf I i fun v42 I i =>
 bldSK 1 2 23384026197294446691655098136326997907641993265157 [(0, 2, (.k v42))] zf M m I i fun v43 M m I i =>
 appW 2 t12 v43 M m I i fun v44 M m I i =>
 adt n16 t142 295147905179352825893 fun v46 =>
 j15 t2 t4 t5 t10 v44 t13 t14 t140 t141 v46 M m I i)
 (adt n16 t142 295147905179352825893 fun v48 =>
 j15 t2 t4 t5 t10 t12 t13 t14 t140 t141 v48 M m I i))
 (j14 t2 t4 t5 t10 t12 t13 M m I i)
def S288_2 (j14 : X10) (t2 t4 t5 t10 t12 t13 t14 t140 t141 t142 M m I i : Nat) : Res :=
 lp (S288_1 j14) (fun _ _ _ _ _ _ _ _ _ _ _ _ _ _ => .bad 73 0) t2 t4 t5 t10 t12 t13 t14 t140 t141 t142 M m I i
def S288_3 (j14 : X10) (t2 t4 t5 t10 t12 t13 t14 M m I i : Nat) : Res :=
 jn (S288_2 j14) fun j50 =>
 fa 0 t14 fun v51 =>
 ld v51 M fun v52 =>
 iadrAK 2 1 (.k t5) (.k v52) zf I i fun v53 I i =>
 ld v53 M fun v54 =>
 fa 1 t14 fun v55 =>
 ld v55 M fun v56 =>
 ia 1 v54 v56 fun v57 =>
 ld v57 M fun v58 =>
 ln v58 fun v59 =>
 j50 t2 t4 t5 t10 t12 t13 t14 v58 v59 295147905179352825861 M m I i
def S288_4 (n10 : Nat) (j9 : X10) (t2 t4 t5 t10 t12 t13 M m I i : Nat) : Res :=
 jn (fun (t2 t4 t5 t10 t12 t13 M m I i : Nat) =>
 adt n10 t13 295147905179352825893 fun v12 =>
 j9 t2 t4 t5 t10 t12 v12 M m I i) fun j14 =>
 jn (S288_3 j14) fun j61 =>
 ia 2 t12 t13 fun v64 =>
 loadNK 2 (.k v64) zf M I i fun v65 I i =>
 newK 2 23384026197294446691655098136326997907641993265157 M m I i fun v66 M m I i =>
 storeK 2 (.k v66) (.k v65) zf M m I i fun _ M m I i =>
 j61 t2 t4 t5 t10 t12 t13 v66 M m I i
def S288_5 (j8 : X8) (n10 : Nat) (j9 : X10) (t2 t4 t5 t10 t12 t13 M m I i : Nat) : Res :=
 jn (S288_4 n10 j9) fun j67 =>
 ln t12 fun v70 =>
 lt 5 t13 v70 fun v71 =>
 cnd v71 (j67 t2 t4 t5 t10 t12 t13 M m I i)
 (j8 t2 t4 t5 t12 M m I i)
def S288_6 (j8 : X8) (t2 t4 t5 t10 t12 t13 M m I i : Nat) : Res :=
 lp (S288_5 j8) (fun _ _ _ _ _ _ _ _ _ _ => .bad 73 0) t2 t4 t5 t10 t12 t13 M m I i
def S288_7 (k : KF) (t2 t4 t5 t10 t12 M m I i : Nat) : Res :=
 jn (fun (t2 t4 t5 t12 M m I i : Nat) =>
 loadNK 2 (.k t5) zf M I i fun v1 I i =>
 ln t12 fun v3 =>
 eq 5 v3 t4 fun v5 =>
 storeK 2 (.k t2) (.k v1) zf M m I i fun _ M m I i =>
 loadNK 2 (.k t2) zf M I i fun v7 I i => rtn 2 [v7, v5] M m I i k) fun j8 =>
 jn (S288_6 j8) fun j72 =>
 j72 t2 t4 t5 t10 t12 295147905179352825861 M m I i
def S288_8 (k : KF) (t2 t4 t5 t10 t11 M m I i : Nat) : Res :=
 jn (S288_7 k) fun j74 =>
 loadNK 2 (.k t11) zf M I i fun v75 I i =>
 bldSK 1 2 23384026197294446691655098136326997907641993265157 [(0, 2, (.k v75))] zf M m I i fun v76 M m I i =>
 j74 t2 t4 t5 t10 v76 M m I i
def S288_9 (k : KF) (t2 t4 t5 t10 t11 M m I i : Nat) : Res :=
 jn (S288_8 k) fun j78 =>
 fa 0 t11 fun v79 =>
 ld v79 M fun v80 =>
 iadrAK 2 1 (.k t10) (.k v80) zf I i fun v81 I i =>
 ld v81 M fun v82 =>
 ia 1 v82 295147905179352825861 fun v83 =>
 storeK 1 (.k v83) (.k 33) zf M m I i fun _ M m I i =>
 j78 t2 t4 t5 t10 t11 M m I i
def S288_10 (k : KF) (t1 t2 t4 t5 t10 t11 M m I i : Nat) : Res :=
 jn (S288_9 k) fun j84 =>
 fa 0 t1 fun v85 =>
 ld v85 M fun v86 =>
 ln v86 fun v87 =>
 eq 5 v87 295147905179352825861 fun v88 =>
 cnd v88 (buildK 2 23384026197294446691655098136326997907641993265157 [(0, 1, (.k 295147905179352825893)), (1, 1, (.k 295147905179352825861))] zf I i fun v89 I i =>
 storeK 2 (.k t11) (.k v89) zf M m I i fun _ M m I i =>
 j84 t2 t4 t5 t10 t11 M m I i)
 (j84 t2 t4 t5 t10 t11 M m I i)
def S288_11 (k : KF) (t1 t2 t4 t5 t10 M m I i : Nat) : Res :=
 jn (S288_10 k) fun j90 =>
 buildK 2 23384026197294446691655098136326997907641993265157 [(0, 1, (.k 295147905179352825861)), (1, 1, (.k 295147905179352825861))] zf I i fun v91 I i =>
 newK 2 23384026197294446691655098136326997907641993265157 M m I i fun v92 M m I i =>
 storeK 2 (.k v92) (.k v91) zf M m I i fun _ M m I i =>
 j90 t1 t2 t4 t5 t10 v92 M m I i
def S288_12 (k : KF) (t1 t2 t4 t5 M m I i : Nat) : Res :=
 jn (S288_11 k) fun j93 =>
 fa 0 t1 fun v94 =>
 ld v94 M fun v95 =>
 ln v95 fun v96 =>
 mkSlK 1 1 (.k v96) (.k v96) zf M m I i fun v97 M m I i =>
 fa 1 t1 fun v98 =>
 ld v98 M fun v99 =>
 ln v99 fun v100 =>
 mkSlK 1 1 (.k v100) (.k v100) zf M m I i fun v101 M m I i =>
 buildK 2 871509787656907713528983453707 [(0, 1, (.k v97)), (1, 1, (.k v101))] zf I i fun v102 I i =>
 newK 2 871509787656907713528983453707 M m I i fun v103 M m I i =>
 storeK 2 (.k v103) (.k v102) zf M m I i fun _ M m I i =>
 j93 t1 t2 t4 t5 v103 M m I i
def S288_13 (j109 : X11) (t1 t2 t4 t5 t8 t9 t45 t46 t47 M m I i : Nat) : Res :=
 iadrAK 2 1 (.k t5) (.k 295147905179352825861) zf I i fun v110 I i =>
 ld v110 M fun v111 =>
 iadrAK 2 1 (.k t5) (.k 295147905179352825861) zf I i fun v113 I i =>
 ld v113 M fun v114 =>
 ia 1 v114 t8 fun v116 =>
 ld v116 M fun v117 =>
 bldSK 1 1 295147905179352825861 [(0, 1, (.k t9))] zf M m I i fun v119 M m I i =>
 appW 1 v117 v119 M m I i fun v121 M120 m I i =>
 flL v110 1 M M120 <| 
 ia 1 v111 t8 fun v122 =>
 storeK 1 (.k v122) (.k v121) zf M120 m I i fun _ M m I i =>
 iadrAK 2 1 (.k t5) (.k 295147905179352825893) zf I i fun v123 I i =>
 ld v123 M fun v124 =>
 iadrAK 2 1 (.k t5) (.k 295147905179352825893) zf I i fun v126 I i =>
 ld v126 M fun v127 =>
 ia 1 v127 t9 fun v129 =>
 ld v129 M fun v130 =>
 bldSK 1 1 295147905179352825861 [(0, 1, (.k t8))] zf M m I i fun v132 M m I i =>
 appW 1 v130 v132 M m I i fun v134 M133 m I i =>
 flL v123 1 M M133 <| 
 ia 1 v124 t9 fun v135 =>
 storeK 1 (.k v135) (.k v134) zf M133 m I i fun _ M m I i =>
 j109 t1 t2 t4 t5 t45 t46 t47 M m I i
def S288_14 (k : KF) (j109 : X11) (t1 t2 t4 t5 t8 t9 t45 t46 t47 M m I i : Nat) : Res :=
 jn (S288_13 j109) fun j136 =>
 lt 5 t8 295147905179352825861 fun v138 =>
 jn (fun (v146 : Nat) =>
 pk v138 33 v146 fun v147 =>
 jn (fun (v152 : Nat) =>
 pk v147 33 v152 fun v153 =>
 jn (fun (v161 : Nat) =>
 pk v153 33 v161 fun v162 =>
 cnd v162 (buildK 2 871509787656907713528983453707 [] zf I i fun v163 I i =>
 storeK 2 (.k t2) (.k v163) zf M m I i fun _ M m I i =>
 loadNK 2 (.k t2) zf M I i fun v165 I i => rtn 2 [v165, 1] M m I i k)
 (j136 t1 t2 t4 t5 t8 t9 t45 t46 t47 M m I i))
 (fun j155 => gd v153 1 (fa 1 t1 fun v157 =>
 ld v157 M fun v158 =>
 ln v158 fun v159 =>
 ge 5 t9 v159 fun v160 =>
 j155 v160) (j155 0)))
 (fun j149 => gd v147 1 (lt 5 t9 295147905179352825861 fun v151 =>
 j149 v151) (j149 0)))
 (fun j140 => gd v138 1 (fa 0 t1 fun v142 =>
 ld v142 M fun v143 =>
 ln v143 fun v144 =>
 ge 5 t8 v144 fun v145 =>
 j140 v145) (j140 0))
def S288_15 (k : KF) (j109 : X11) (t1 t2 t4 t5 t7 t45 t46 t47 M m I i : Nat) : Res :=
 jn (S288_14 k j109) fun j166 =>
 iadrAK 2 1 (.k t7) (.k 295147905179352825861) zf I i fun v167 I i =>
 ld v167 M fun v168 =>
 iadrAK 2 1 (.k t7) (.k 295147905179352825893) zf I i fun v169 I i =>
 ld v169 M fun v170 =>
 j166 t1 t2 t4 t5 v168 v170 t45 t46 t47 M m I i
def S288_16 (k : KF) (n106 : Nat) (j105 : X11) (t1 t2 t4 t5 t45 t46 t47 M m I i : Nat) : Res :=
 jn (fun (t1 t2 t4 t5 t45 t46 t47 M m I i : Nat) =>
 adt n106 t47 295147905179352825893 fun v107 =>
 j105 t1 t2 t4 t5 t45 t46 v107 M m I i) fun j109 =>
 jn (S288_15 k j109) fun j173 =>
 ia 2 t45 t47 fun v174 =>
 loadNK 2 (.k v174) zf M I i fun v175 I i =>
 newK 2 23384026197294446691655098136326997907641993265157 M m I i fun v176 M m I i =>
 storeK 2 (.k v176) (.k v175) zf M m I i fun _ M m I i =>
 j173 t1 t2 t4 t5 v176 t45 t46 t47 M m I i
def S288_17 (k : KF) (j104 : X8) (n106 : Nat) (j105 : X11) (t1 t2 t4 t5 t45 t46 t47 t48 M m I i : Nat) : Res :=
 jn (S288_16 k n106 j105) fun j177 =>
 cnd t48 (j177 t1 t2 t4 t5 t45 t46 t47 M m I i)
 (j104 t1 t2 t4 t5 M m I i)
def S288_18 (k : KF) (j104 : X8) (n106 : Nat) (j105 : X11) (t1 t2 t4 t5 t45 t46 t47 M m I i : Nat) : Res :=
 jn (S288_17 k j104 n106 j105) fun j178 =>
 lt 5 t47 t46 fun v179 =>
 j178 t1 t2 t4 t5 t45 t46 t47 v179 M m I i
def S288_19 (k : KF) (j104 : X8) (t1 t2 t4 t5 t45 t46 t47 M m I i : Nat) : Res :=
 lp (S288_18 k j104) (fun _ _ _ _ _ _ _ _ _ _ _ => .bad 73 0) t1 t2 t4 t5 t45 t46 t47 M m I i
def S288_20 (k : KF) (t1 t2 t4 t5 M m I i : Nat) : Res :=
 jn (S288_12 k) fun j104 =>
 jn (S288_19 k j104) fun j180 =>
 fa 2 t1 fun v181 =>
 ld v181 M fun v182 =>
 ln v182 fun v183 =>
 j180 t1 t2 t4 t5 v182 v183 295147905179352825861 M m I i
def S288_21 (k : KF) (t1 t2 t4 M m I i : Nat) : Res :=
 jn (S288_20 k) fun j185 =>
 fa 0 t1 fun v186 =>
 ld v186 M fun v187 =>
 ln v187 fun v188 =>
 mkSlK 1 11 (.k v188) (.k v188) zf M m I i fun v189 M m I i =>
 fa 1 t1 fun v190 =>
 ld v190 M fun v191 =>
 ln v191 fun v192 =>
 mkSlK 1 11 (.k v192) (.k v192) zf M m I i fun v193 M m I i =>
 buildK 2 871509787656907713528983453707 [(0, 1, (.k v189)), (1, 1, (.k v193))] zf I i fun v194 I i =>
 newK 2 871509787656907713528983453707 M m I i fun v195 M m I i =>
 storeK 2 (.k v195) (.k v194) zf M m I i fun _ M m I i =>
 j185 t1 t2 t4 v195 M m I i
def S288_22 (k : KF) (t1 t2 t4 M m I i : Nat) : Res :=
 jn (S288_21 k) fun j196 =>
 eq 5 t4 295147905179352825861 fun v198 =>
 jn (fun (v207 : Nat) =>
 pk v198 33 v207 fun v208 =>
 cnd v208 (buildK 2 871509787656907713528983453707 [] zf I i fun v209 I i =>
 storeK 2 (.k t2) (.k v209) zf M m I i fun _ M m I i =>
 loadNK 2 (.k t2) zf M I i fun v211 I i => rtn 2 [v211, 1] M m I i k)
 (j196 t1 t2 t4 M m I i))
 (fun j200 => gd v198 1 (fa 2 t1 fun v201 =>
 ld v201 M fun v202 =>
 ln v202 fun v203 =>
 sb t4 295147905179352825893 fun v205 =>
 ne 5 v203 v205 fun v206 =>
 j200 v206) (j200 0))
def S288_23 (k : KF) (t1 t2 M m I i : Nat) : Res :=
 jn (S288_22 k) fun j212 =>
 fa 0 t1 fun v213 =>
 ld v213 M fun v214 =>
 ln v214 fun v215 =>
 fa 1 t1 fun v216 =>
 ld v216 M fun v217 =>
 ln v217 fun v218 =>
 ad v215 v218 fun v219 =>
 j212 t1 t2 v219 M m I i
def F288 (c : Y) (t0 M m I i : Nat) (k : KF) : Res :=
 jn (S288_23 k) fun j221 =>
 boxK 3 (.k t0) zf M m I i fun v222 M m I i =>
 newK 2 871509787656907713528983453707 M m I i fun v223 M m I i =>
 j221 v222 v223 M m I i
def g288 (c : Y) : List Nat → Nat → Nat → Nat → Nat → KF → Res := unS fun t0 => un0 (F288 c t0)
def S200_1 (j3 : X5) (n5 : Nat) (j4 : X6) (t7 t8 M m I i : Nat) : Res :=
 ln t7 fun v8 =>
 lt 5 t8 v8 fun v9 =>
 cnd v9 (slcK 1 (.k t7) (some (.k t8)) none none zf I i fun v13 I i =>
 slcK 1 (.k t7) none (some (.k t8)) none zf I i fun v16 I i =>
 copyW 1 v13 v16 M m I i fun v17 M m I i =>
 adt n5 t8 v17 fun v18 =>
 j4 t7 v18 M m I i)
 (j3 t7 M m I i)
def S200_2 (k : KF) (t7 t8 M m I i : Nat) : Res :=
 jn (fun (t7 M m I i : Nat) =>
 k t7 M m I i) fun j3 =>
 lp (S200_1 j3) (fun _ _ _ _ _ _ => .bad 73 0) t7 t8 M m I i
def S200_3 (k : KF) (t0 t7 M m I i : Nat) : Res :=
 jn (S200_2 k) fun j20 =>
 copyW 1 t7 t0 M m I i fun v23 M m I i =>
 j20 t7 v23 M m I i
def S200_4 (k : KF) (t0 t6 M m I i : Nat) : Res :=
 jn (S200_3 k) fun j25 =>
 convK .u64 .i64 (.k t6) zf I i fun v27 I i =>
 mkSlK 1 295147905179352825861 (.k v27) (.k v27) zf M m I i fun v28 M m I i =>
 j25 t0 v28 M m I i
def S200_5 (k : KF) (t0 t5 t6 M m I i : Nat) : Res :=
 jn (S200_4 k) fun j30 =>
 lt 9 9 t5 fun v32 =>
 jn (fun (v37 : Nat) =>
 pk v32 33 v37 fun v38 =>
 cnd v38 (mkiK 9 (.str 40 971271628442461262305342622147048840531060285544137864858842745136541560975091858458257159845747) zf I i fun v39 I i =>
 Res.bad 51 99)
 (j30 t0 t6 M m I i))
 (fun j34 => gd v32 1 (lt 9 295147905179352825833 t6 fun v36 =>
 j34 v36) (j34 0))
def S200_6 (c : Y) (k : KF) (t0 t1 M m I i : Nat) : Res :=
 jn (S200_5 k) fun j40 =>
 ln t0 fun v42 =>
 convK .i64 .u64 (.k v42) zf I i fun v43 I i =>
 convK .i64 .u64 (.k t1) zf I i fun v45 I i =>
 c 27 [v43, v45] M m I i fun v46 M m I i =>
 f1 19 0 v46 I fun v48 =>
 f1 19 1 v46 I fun v49 =>
 j40 t0 v48 v49 M m I i
def S200_7 (c : Y) (k : KF) (t0 t1 M m I i : Nat) : Res :=
 jn (S200_6 c k) fun j52 =>
 lt 5 t1 295147905179352825861 fun v54 =>
 cnd v54 (mkiK 9 (.str 18 8657270485328334183878363895755874379593317) zf I i fun v55 I i =>
 Res.bad 51 99)
 (j52 t0 t1 M m I i)
def F200 (c : Y) (t0 t1 M m I i : Nat) (k : KF) : Res :=
 jn (S200_7 c k) fun j56 =>
 j56 t0 t1 M m I i
def g200 (c : Y) : List Nat → Nat → Nat → Nat → Nat → KF → Res := unS fun t0 => unS fun t1 => un0 (F200 c t0 t1)
def S342_1 (j7 : X5) (n9 : Nat) (j8 : X8) (t3 t6 t7 t8 M m I i : Nat) : Res :=
 lt 5 t8 t7 fun v10 =>
 cnd v10 (ia 3 t6 t8 fun v11 =>
 loadNK 3 (.k v11) zf M I i fun v12 I i =>
 newK 3 1852673427797059126808521268839323955668793148457942454848160119256572240068613 M m I i fun v13 M m I i =>
 storeK 3 (.k v13) (.k v12) zf M m I i fun _ M m I i =>
 fa 0 v13 fun v15 =>
 ld v15 M fun v16 =>
 fa 1 v13 fun v17 =>
 ld v17 M fun v18 =>
 bldSK 2 1 295147905179352825861 [(0, 1, (.k v16)), (1, 1, (.k v18))] zf M m I i fun v19 M m I i =>
 appW 1 t3 v19 M m I i fun v20 M m I i =>
 adt n9 t8 295147905179352825893 fun v22 =>
 j8 v20 t6 t7 v22 M m I i)
 (j7 t3 M m I i)
def S342_2 (j7 : X5) (t3 t6 t7 t8 M m I i : Nat) : Res :=
 lp (S342_1 j7) (fun _ _ _ _ _ _ _ _ => .bad 73 0) t3 t6 t7 t8 M m I i
def S342_3 (c : Y) (k : KF) (t0 t3 M m I i : Nat) : Res :=
 jn (fun (t3 M m I i : Nat) =>
 c 140 [t3] M m I i fun v2 M m I i =>
 c 203 [t3] M m I i fun v4 M m I i =>
 c 346 [v4] M m I i fun v5 M m I i =>
 k v5 M m I i) fun j7 =>
 jn (S342_2 j7) fun j24 =>
 ln t0 fun v26 =>
 j24 t3 t0 v26 295147905179352825861 M m I i
def S342_4 (c : Y) (k : KF) (t0 M m I i : Nat) : Res :=
 jn (S342_3 c k) fun j28 =>
 j28 t0 11 M m I i
def F342 (c : Y) (t0 M m I i : Nat) (k : KF) : Res :=
 jn (S342_4 c k) fun j30 =>
 j30 t0 M m I i
def g342 (c : Y) : List Nat → Nat → Nat → Nat → Nat → KF → Res := unS fun t0 => un0 (F342 c t0)
def S95_1 (c : Y) (j8 : X9) (t3 t5 t6 t8 t24 t25 M m I i : Nat) : Res :=
 jn (fun (t3 t5 t6 t8 t24 t25 M m I i : Nat) =>
 c 140 [t8] M m I i fun v10 M m I i =>
 bldSK 1 1 11 [(0, 1, (.k t8))] zf M m I i fun v13 M m I i =>
 appW 1 t5 v13 M m I i fun v14 M m I i =>
 j8 t3 v14 t6 t24 t25 M m I i) fun j16 =>
 jn (fun (t3 t5 t6 t8 t24 t25 t38 t39 t40 M m I i : Nat) =>
 lp (fun (n18 : Nat) (j17 : X13) (t3 t5 t6 t8 t24 t25 t38 t39 t40 M m I i : Nat) =>
 lt 5 t40 t39 fun v19 =>
 cnd v19 (ia 1 t38 t40 fun v20 =>
 ld v20 M fun v21 =>
 ia 1 t6 v21 fun v25 =>
 storeK 1 (.k v25) (.k 33) zf M m I i fun _ M m I i =>
 adt n18 t40 295147905179352825893 fun v26 =>
 j17 t3 t5 t6 t8 t24 t25 t38 t39 v26 M m I i)
 (j16 t3 t5 t6 t8 t24 t25 M m I i)) (fun _ _ _ _ _ _ _ _ _ _ _ _ _ => .bad 73 0) t3 t5 t6 t8 t24 t25 t38 t39 t40 M m I i) fun j28 =>
 ln t8 fun v30 =>
 j28 t3 t5 t6 t8 t24 t25 t8 v30 295147905179352825861 M m I i
def S95_2 (c : Y) (j8 : X9) (t3 t5 t6 t7 t24 t25 M m I i : Nat) : Res :=
 jn (S95_1 c j8) fun j32 =>
 c 156 [t3, t7] M m I i fun v35 M m I i =>
 f1 19 0 v35 I fun v37 =>
 f1 19 1 v35 I fun v38 =>
 j32 t3 t5 t6 v37 t24 t25 M m I i
def S95_3 (c : Y) (j8 : X9) (t3 t5 t6 t7 t24 t25 M m I i : Nat) : Res :=
 jn (S95_2 c j8) fun j41 =>
 ia 1 t6 t7 fun v44 =>
 ld v44 M fun v45 =>
 cnd v45 (j8 t3 t5 t6 t24 t25 M m I i)
 (j41 t3 t5 t6 t7 t24 t25 M m I i)
def S95_4 (c : Y) (n5 : Nat) (j4 : X9) (t3 t5 t6 t24 t25 M m I i : Nat) : Res :=
 jn (fun (t3 t5 t6 t24 t25 M m I i : Nat) =>
 adt n5 t25 295147905179352825893 fun v6 =>
 j4 t3 t5 t6 t24 v6 M m I i) fun j8 =>
 jn (S95_3 c j8) fun j46 =>
 j46 t3 t5 t6 t25 t24 t25 M m I i
def S95_5 (c : Y) (j3 : X5) (n5 : Nat) (j4 : X9) (t3 t5 t6 t24 t25 t26 M m I i : Nat) : Res :=
 jn (S95_4 c n5 j4) fun j49 =>
 cnd t26 (j49 t3 t5 t6 t24 t25 M m I i)
 (j3 t5 M m I i)
def S95_6 (c : Y) (j3 : X5) (n5 : Nat) (j4 : X9) (t3 t5 t6 t24 t25 M m I i : Nat) : Res :=
 jn (S95_5 c j3 n5 j4) fun j50 =>
 lt 5 t25 t24 fun v51 =>
 j50 t3 t5 t6 t24 t25 v51 M m I i
def S95_7 (c : Y) (j3 : X5) (t3 t5 t6 t24 t25 M m I i : Nat) : Res :=
 lp (S95_6 c j3) (fun _ _ _ _ _ _ _ _ _ => .bad 73 0) t3 t5 t6 t24 t25 M m I i
def S95_8 (c : Y) (k : KF) (t1 t3 t5 t6 M m I i : Nat) : Res :=
 jn (fun (t5 M m I i : Nat) =>
 k t5 M m I i) fun j3 =>
 jn (S95_7 c j3) fun j52 =>
 fa 0 t1 fun v53 =>
 ld v53 M fun v54 =>
 j52 t3 t5 t6 v54 295147905179352825861 M m I i
def S95_9 (c : Y) (k : KF) (t1 t3 t5 M m I i : Nat) : Res :=
 jn (S95_8 c k) fun j56 =>
 fa 0 t1 fun v57 =>
 ld v57 M fun v58 =>
 mkSlK 1 1 (.k v58) (.k v58) zf M m I i fun v59 M m I i =>
 j56 t1 t3 t5 v59 M m I i
def S95_10 (c : Y) (k : KF) (t1 t3 M m I i : Nat) : Res :=
 jn (S95_9 c k) fun j61 =>
 bldSK 0 1 11 [] zf M m I i fun v62 M m I i =>
 j61 t1 t3 v62 M m I i
def S95_11 (c : Y) (k : KF) (t1 t3 t4 M m I i : Nat) : Res :=
 jn (S95_10 c k) fun j64 =>
 ne 5 t4 295147905179352825861 fun v66 =>
 cnd v66 (k 11 M m I i)
 (j64 t1 t3 M m I i)
def S95_12 (c : Y) (k : KF) (t1 M m I i : Nat) : Res :=
 jn (S95_11 c k) fun j68 =>
 loadNK 2 (.k t1) zf M I i fun v69 I i =>
 c 155 [v69, 11] M m I i fun v70 M m I i =>
 f1 19 0 v70 I fun v72 =>
 f1 19 1 v70 I fun v73 =>
 j68 t1 v72 v73 M m I i
def F95 (c : Y) (t0 M m I i : Nat) (k : KF) : Res :=
 jn (S95_12 c k) fun j76 =>
 boxK 2 (.k t0) zf M m I i fun v77 M m I i =>
 j76 v77 M m I i
def g95 (c : Y) : List Nat → Nat → Nat → Nat → Nat → KF → Res := unS fun t0 => un0 (F95 c t0)
def S221_1 (c : Y) (j8 : X6) (n10 : Nat) (j9 : X12) (t0 t3 t5 t10 t11 t68 t69 t70 M m I i : Nat) : Res :=
 lt 5 t70 t69 fun v11 =>
 cnd v11 (ia 1 t68 t70 fun v13 =>
 ld v13 M fun v14 =>
 nilcK (.k t0) zf I i fun v18 I i =>
 fa 5 v18 fun v19 =>
 ld v19 M fun v20 =>
 ia 1 t5 t70 fun v25 =>
 ld v25 M fun v26 =>
 ld t10 M fun v27 =>
 c 263 [t11, v26, v27] M m I i fun v29 M28 m I i =>
 flL v19 1 M M28 <| 
 f1 19 0 v29 I fun v31 =>
 f1 19 1 v29 I fun v32 =>
 ia 1 v20 v14 fun v33 =>
 storeK 1 (.k v33) (.k v31) zf M28 m I i fun _ M m I i =>
 adt n10 t70 295147905179352825893 fun v34 =>
 j9 t0 t3 t5 t10 t11 t68 t69 v34 M m I i)
 (j8 t0 t3 M m I i)
def S221_2 (c : Y) (j8 : X6) (t0 t3 t5 t10 t11 t68 t69 t70 M m I i : Nat) : Res :=
 lp (S221_1 c j8) (fun _ _ _ _ _ _ _ _ _ _ _ _ => .bad 73 0) t0 t3 t5 t10 t11 t68 t69 t70 M m I i
def S221_3 (c : Y) (j8 : X6) (t0 t3 t4 t5 t10 t11 M m I i : Nat) : Res :=
 jn (S221_2 c j8) fun j36 =>
 ln t4 fun v38 =>
 j36 t0 t3 t5 t10 t11 t4 v38 295147905179352825861 M m I i
def S221_4 (c : Y) (j8 : X6) (t0 t3 t4 t5 t10 t11 M m I i : Nat) : Res :=
 jn (S221_3 c j8) fun j40 =>
 mkfK 262 1 [(.k t10)] zf I i fun v42 I i =>
 c 261 [t11, v42] M m I i fun v43 M m I i =>
 j40 t0 t3 t4 t5 t10 v43 M m I i
def S221_5 (c : Y) (j8 : X6) (t0 t3 t4 t5 t10 t11 M m I i : Nat) : Res :=
 jn (S221_4 c j8) fun j45 =>
 ld t10 M fun v47 =>
 c 260 [t11, v47] M m I i fun v48 M m I i =>
 j45 t0 t3 t4 t5 t10 t11 M m I i
def S221_6 (c : Y) (j8 : X6) (t0 t3 t4 t5 t10 M m I i : Nat) : Res :=
 jn (S221_5 c j8) fun j49 =>
 c 259 [t5] M m I i fun v51 M m I i =>
 j49 t0 t3 t4 t5 t10 v51 M m I i
def S221_7 (c : Y) (j8 : X6) (t0 t3 t4 t5 M m I i : Nat) : Res :=
 jn (S221_6 c j8) fun j53 =>
 newK 1 15 M m I i fun v54 M m I i =>
 storeK 1 (.k v54) (.k 8270) zf M m I i fun _ M m I i =>
 j53 t0 t3 t4 t5 v54 M m I i
def S221_8 (c : Y) (k : KF) (j55 : X8) (n57 : Nat) (j56 : X11) (t0 t3 t4 t5 t26 t27 t28 M m I i : Nat) : Res :=
 lt 5 t28 t27 fun v58 =>
 cnd v58 (ia 1 t26 t28 fun v60 =>
 ld v60 M fun v61 =>
 nilcK (.k t0) zf I i fun v65 I i =>
 fa 4 v65 fun v66 =>
 ld v66 M fun v67 =>
 ia 1 v67 t28 fun v69 =>
 ld v69 M fun v70 =>
 ne 5 v70 t3 fun v72 =>
 cnd v72 (adt n57 t28 295147905179352825893 fun v73 =>
 j56 t0 t3 t4 t5 t26 t27 v73 M m I i)
 (invS Go.Proofs.Tryz.prog c "fretwork/bough.weigh" (.k v61) [(.k t0)] zf M m I i fun v77 M m I i =>
 f1 19 0 v77 I fun v79 =>
 f1 19 1 v77 I fun v80 =>
 ne 5 v80 295147905179352825861 fun v84 =>
 cnd v84 (k v80 M m I i)
 (bldSK 1 1 295147905179352825861 [(0, 1, (.k t28))] zf M m I i fun v89 M m I i =>
 appW 1 t4 v89 M m I i fun v90 M m I i =>
 bldSK 1 1 11 [(0, 1, (.k v79))] zf M m I i fun v93 M m I i =>
 appW 1 t5 v93 M m I i fun v94 M m I i =>
 adt n57 t28 295147905179352825893 fun v97 =>
 j56 t0 t3 v90 v94 t26 t27 v97 M m I i)))
 (j55 t0 t3 t4 t5 M m I i)
def S221_9 (c : Y) (k : KF) (j55 : X8) (t0 t3 t4 t5 t26 t27 t28 M m I i : Nat) : Res :=
 lp (S221_8 c k j55) (fun _ _ _ _ _ _ _ _ _ _ _ => .bad 73 0) t0 t3 t4 t5 t26 t27 t28 M m I i
def S221_10 (c : Y) (k : KF) (j8 : X6) (t0 t3 t4 t5 M m I i : Nat) : Res :=
 jn (S221_7 c j8) fun j55 =>
 jn (S221_9 c k j55) fun j99 =>
 nilcK (.k t0) zf I i fun v101 I i =>
 fa 0 v101 fun v102 =>
 ld v102 M fun v103 =>
 ln v103 fun v104 =>
 j99 t0 t3 t4 t5 v103 v104 295147905179352825861 M m I i
def S221_11 (c : Y) (k : KF) (j8 : X6) (t0 t3 t4 M m I i : Nat) : Res :=
 jn (S221_10 c k j8) fun j106 =>
 j106 t0 t3 t4 11 M m I i
def S221_12 (c : Y) (k : KF) (n4 : Nat) (j3 : X6) (t0 t3 M m I i : Nat) : Res :=
 jn (fun (t0 t3 M m I i : Nat) =>
 sbt n4 t3 295147905179352825893 fun v6 =>
 j3 t0 v6 M m I i) fun j8 =>
 jn (S221_11 c k j8) fun j108 =>
 j108 t0 t3 11 M m I i
def S221_13 (c : Y) (k : KF) (j2 : X4) (n4 : Nat) (j3 : X6) (t0 t3 M m I i : Nat) : Res :=
 jn (S221_12 c k n4 j3) fun j110 =>
 ge 5 t3 295147905179352825861 fun v112 =>
 cnd v112 (j110 t0 t3 M m I i)
 (j2 M m I i)
def S221_14 (c : Y) (k : KF) (j2 : X4) (t0 t3 M m I i : Nat) : Res :=
 lp (S221_13 c k j2) (fun _ _ _ _ _ _ => .bad 73 0) t0 t3 M m I i
def S221_15 (c : Y) (k : KF) (t0 M m I i : Nat) : Res :=
 jn (fun (M m I i : Nat) =>
 k 295147905179352825861 M m I i) fun j2 =>
 jn (S221_14 c k j2) fun j113 =>
 nilcK (.k t0) zf I i fun v115 I i =>
 fa 4 v115 fun v116 =>
 ld v116 M fun v117 =>
 c 257 [v117] M m I i fun v118 M m I i =>
 j113 t0 v118 M m I i
def F221 (c : Y) (t0 M m I i : Nat) (k : KF) : Res :=
 jn (S221_15 c k) fun j120 =>
 j120 t0 M m I i
def g221 (c : Y) : List Nat → Nat → Nat → Nat → Nat → KF → Res := unS fun t0 => un0 (F221 c t0)
def S197_1 (c : Y) (n2 : Nat) (j1 : X10) (t0 t1 t2 t3 t8 t9 t10 t11 M m I i : Nat) : Res :=
 lt 5 295147905179352825861 t1 fun v4 =>
 jn (fun (v18 M m I i : Nat) =>
 pk v4 v18 1 fun v19 =>
 cnd v19 (c 233 [t0, t1, t2, t11] M m I i fun v24 M m I i =>
 j1 t0 v24 t2 t3 t8 t9 M m I i)
 (c 234 [t0, t1, t2, t11] M m I i fun v32 M m I i =>
 f1 19 0 v32 I fun v34 =>
 f1 19 1 v32 I fun v35 =>
 sbt n2 v34 t1 fun v42 =>
 sbt n2 t2 v34 fun v45 =>
 iopK .quo .i64 (.k t10) (.k 295147905179352826117) zf I i fun v49 I i => tkk n2 v49 fun v50 =>
 lt 5 v42 v45 fun v54 =>
 cnd v54 (ge 5 v42 v50 fun v57 =>
 c 197 [t0, t1, v34, t3] M m I i fun v63 M m I i =>
 adt n2 v34 295147905179352825893 fun v65 =>
 j1 t0 v65 t2 t3 v57 v35 M m I i)
 (ge 5 v45 v50 fun v69 =>
 adt n2 v34 295147905179352825893 fun v73 =>
 c 197 [t0, v73, t2, t3] M m I i fun v76 M m I i =>
 j1 t0 t1 v34 t3 v69 v35 M m I i)))
 (fun j6 => gd v4 33 (sbt n2 t1 295147905179352825893 fun v9 =>
 ia 1 t0 v9 fun v10 =>
 ld v10 M fun v11 =>
 ia 1 t0 t11 fun v14 =>
 ld v14 M fun v15 =>
 c 232 [v11, v15] M m I i fun v16 M m I i =>
 notK (.k v16) zf I i fun v17 I i =>
 j6 v17 M m I i) (j6 0 M m I i))
def S197_2 (c : Y) (k : KF) (n2 : Nat) (j1 : X10) (t0 t1 t2 t3 t8 t9 t10 t11 t12 M m I i : Nat) : Res :=
 jn (S197_1 c n2 j1) fun j79 =>
 jn (fun (v84 : Nat) =>
 pk t8 v84 1 fun v85 =>
 jn (fun (v90 : Nat) =>
 pk v85 v90 1 fun v91 =>
 cnd v91 (c 231 [t0, t1, t2] M m I i fun v95 M m I i =>
 cnd v95 (rtn 0 [] M m I i k)
 (j79 t0 t1 t2 t3 t8 t9 t10 t11 M m I i))
 (j79 t0 t1 t2 t3 t8 t9 t10 t11 M m I i))
 (fun j87 => gd v85 33 (eq 5 t12 295147905179352825893 fun v89 =>
 j87 v89) (j87 0)))
 (fun j82 => gd t8 33 (j82 t9) (j82 0))
def S197_3 (c : Y) (k : KF) (n2 : Nat) (j1 : X10) (t0 t1 t2 t3 t8 t9 t10 t11 t12 M m I i : Nat) : Res :=
 jn (S197_2 c k n2 j1) fun j96 =>
 eq 5 t12 295147905179352825925 fun v98 =>
 cnd v98 (c 230 [t0, t1, t2] M m I i fun v102 M m I i =>
 sbt n2 t2 295147905179352825893 fun v104 =>
 sbt n2 t11 t1 fun v107 =>
 sbt n2 v104 v107 fun v108 =>
 j96 t0 t1 t2 t3 t8 t9 t10 v108 295147905179352825893 M m I i)
 (j96 t0 t1 t2 t3 t8 t9 t10 t11 t12 M m I i)
def S197_4 (c : Y) (k : KF) (n2 : Nat) (j1 : X10) (t0 t1 t2 t3 t8 t9 t10 M m I i : Nat) : Res :=
 jn (S197_3 c k n2 j1) fun j111 =>
 c 229 [t0, t1, t2] M m I i fun v115 M m I i =>
 f1 19 0 v115 I fun v117 =>
 f1 19 1 v115 I fun v118 =>
 j111 t0 t1 t2 t3 t8 t9 t10 v117 v118 M m I i
def S197_5 (c : Y) (k : KF) (n2 : Nat) (j1 : X10) (t0 t1 t2 t3 t8 t9 t10 M m I i : Nat) : Res :=
 jn (S197_4 c k n2 j1) fun j121 =>
 notK (.k t8) zf I i fun v123 I i =>
 cnd v123 (c 228 [t0, t1, t2] M m I i fun v127 M m I i =>
 sbt n2 t3 295147905179352825893 fun v129 =>
 j121 t0 t1 t2 v129 t8 t9 t10 M m I i)
 (j121 t0 t1 t2 t3 t8 t9 t10 M m I i)
def S197_6 (c : Y) (k : KF) (n2 : Nat) (j1 : X10) (t0 t1 t2 t3 t8 t9 t10 M m I i : Nat) : Res :=
 jn (S197_5 c k n2 j1) fun j131 =>
 eq 5 t3 295147905179352825861 fun v133 =>
 cnd v133 (c 227 [t0, t1, t2] M m I i fun v137 M m I i =>
 rtn 0 [] M m I i k)
 (j131 t0 t1 t2 t3 t8 t9 t10 M m I i)
def S197_7 (c : Y) (k : KF) (n2 : Nat) (j1 : X10) (t0 t1 t2 t3 t8 t9 t10 M m I i : Nat) : Res :=
 jn (S197_6 c k n2 j1) fun j138 =>
 ge 5 295147905179352826245 t10 fun v140 =>
 cnd v140 (c 226 [t0, t1, t2] M m I i fun v144 M m I i =>
 rtn 0 [] M m I i k)
 (j138 t0 t1 t2 t3 t8 t9 t10 M m I i)
def S197_8 (c : Y) (k : KF) (n2 : Nat) (j1 : X10) (t0 t1 t2 t3 t8 t9 M m I i : Nat) : Res :=
 jn (S197_7 c k n2 j1) fun j145 =>
 sbt n2 t2 t1 fun v148 =>
 j145 t0 t1 t2 t3 t8 t9 v148 M m I i
def S197_9 (c : Y) (k : KF) (t0 t1 t2 t3 t8 t9 M m I i : Nat) : Res :=
 lp (S197_8 c k) (fun _ _ _ _ _ _ _ _ _ _ => .bad 73 0) t0 t1 t2 t3 t8 t9 M m I i
def S197_10 (c : Y) (k : KF) (t0 t1 t2 t3 t8 M m I i : Nat) : Res :=
 jn (S197_9 c k) fun j150 =>
 j150 t0 t1 t2 t3 t8 33 M m I i
def F197 (c : Y) (t0 t1 t2 t3 M m I i : Nat) (k : KF) : Res :=
 jn (S197_10 c k) fun j152 =>
 j152 t0 t1 t2 t3 33 M m I i
def g197 (c : Y) : List Nat → Nat → Nat → Nat → Nat → KF → Res := unS fun t0 => unS fun t1 => unS fun t2 => unS fun t3 => un0 (F197 c t0 t1 t2 t3)
def F67 (c : Y) (t0 t1 M m I i : Nat) (k : KF) : Res :=
 iopK .and .u64 (.k t0) (.k 137438953449) zf I i fun v4 I i =>
 shfK .shr .u64 .u64 (.k t0) (.k 1033) zf I i fun v7 I i =>
 iopK .and .u64 (.k t1) (.k 137438953449) zf I i fun v10 I i =>
 shfK .shr .u64 .u64 (.k t1) (.k 1033) zf I i fun v13 I i =>
 iopK .mul .u64 (.k v4) (.k v10) zf I i fun v17 I i =>
 iopK .mul .u64 (.k v7) (.k v10) zf I i fun v21 I i =>
 shfK .shr .u64 .u64 (.k v17) (.k 1033) zf I i fun v23 I i =>
 iopK .add .u64 (.k v21) (.k v23) zf I i fun v24 I i =>
 iopK .and .u64 (.k v24) (.k 137438953449) zf I i fun v27 I i =>
 shfK .shr .u64 .u64 (.k v24) (.k 1033) zf I i fun v30 I i =>
 iopK .mul .u64 (.k v4) (.k v13) zf I i fun v35 I i =>
 iopK .add .u64 (.k v27) (.k v35) zf I i fun v36 I i =>
 iopK .mul .u64 (.k v7) (.k v13) zf I i fun v40 I i =>
 iopK .add .u64 (.k v40) (.k v30) zf I i fun v42 I i =>
 shfK .shr .u64 .u64 (.k v36) (.k 1033) zf I i fun v44 I i =>
 iopK .add .u64 (.k v42) (.k v44) zf I i fun v45 I i =>
 iopK .mul .u64 (.k t0) (.k t1) zf I i fun v49 I i =>
 rtn 2 [v45, v49] M m I i k
def g67 (c : Y) : List Nat → Nat → Nat → Nat → Nat → KF → Res := unS fun t0 => unS fun t1 => un0 (F67 c t0 t1)
def S255_1 (c : Y) (k : KF) (t7 t17 M m I i : Nat) : Res :=
 jn (fun (t17 M m I i : Nat) =>
 fa 0 t17 fun v1 =>
 ld v1 M fun v2 =>
 eq 5 v2 295147905179352825861 fun v3 =>
 fa 1 t17 fun v4 =>
 ld v4 M fun v5 =>
 rtn 2 [v3, v5] M m I i k) fun j8 =>
 c 289 [t7, 9294] M m I i fun v10 M m I i =>
 ge 5 v10 295147905179352825861 fun v13 =>
 cnd v13 (ia 2 t7 v10 fun v16 =>
 loadNK 2 (.k v16) zf M I i fun v17 I i =>
 storeK 2 (.k t17) (.k v17) zf M m I i fun _ M m I i =>
 j8 t17 M m I i)
 (j8 t17 M m I i)
def S255_2 (c : Y) (k : KF) (t7 M m I i : Nat) : Res :=
 jn (S255_1 c k) fun j18 =>
 ia 2 t7 295147905179352825861 fun v20 =>
 loadNK 2 (.k v20) zf M I i fun v21 I i =>
 newK 2 23384026197294446691655098136326997907641993265157 M m I i fun v22 M m I i =>
 storeK 2 (.k v22) (.k v21) zf M m I i fun _ M m I i =>
 j18 t7 v22 M m I i
def S255_3 (j33 : X11) (n35 : Nat) (j34 : X15) (t4 t6 t11 t12 t14 t80 t81 t82 t93 t94 t95 M m I i : Nat) : Res :=
 lt 5 t95 t94 fun v36 =>
 cnd v36 (ia 1 t93 t95 fun v37 =>
 ld v37 M fun v38 =>
 fa 0 t14 fun v40 =>
 ld v40 M fun v41 =>
 sbt n35 295147905179352825893 v41 fun v42 =>
 iadrAK 2 1 (.k t6) (.k v42) zf I i fun v43 I i =>
 ld v43 M fun v44 =>
 ia 1 v44 v38 fun v46 =>
 ld v46 M fun v47 =>
 sbt n35 v47 295147905179352825893 fun v48 =>
 ia 1 v44 v38 fun v49 =>
 storeK 1 (.k v49) (.k v48) zf M m I i fun _ M m I i =>
 fa 0 t14 fun v50 =>
 ld v50 M fun v51 =>
 sbt n35 295147905179352825893 v51 fun v52 =>
 iadrAK 2 1 (.k t6) (.k v52) zf I i fun v53 I i =>
 ld v53 M fun v54 =>
 ia 1 v54 v38 fun v56 =>
 ld v56 M fun v57 =>
 eq 5 v57 295147905179352825893 fun v58 =>
 cnd v58 (fa 0 t14 fun v60 =>
 ld v60 M fun v61 =>
 sbt n35 295147905179352825893 v61 fun v62 =>
 buildK 2 23384026197294446691655098136326997907641993265157 [(0, 1, (.k v62)), (1, 1, (.k v38))] zf I i fun v64 I i =>
 bldSK 1 2 23384026197294446691655098136326997907641993265157 [(0, 2, (.k v64))] zf M m I i fun v65 M m I i =>
 appW 2 t12 v65 M m I i fun v66 M m I i =>
 adt n35 t95 295147905179352825893 fun v68 =>
 j34 t4 t6 t11 v66 t14 t80 t81 t82 t93 t94 v68 M m I i)
 (adt n35 t95 295147905179352825893 fun v70 =>
 j34 t4 t6 t11 t12 t14 t80 t81 t82 t93 t94 v70 M m I i))
 (j33 t4 t6 t11 t12 t80 t81 t82 M m I i)
def S255_4 (j33 : X11) (t4 t6 t11 t12 t14 t80 t81 t82 t93 t94 t95 M m I i : Nat) : Res :=
 lp (S255_3 j33) (fun _ _ _ _ _ _ _ _ _ _ _ _ _ _ _ => .bad 73 0) t4 t6 t11 t12 t14 t80 t81 t82 t93 t94 t95 M m I i
def S255_5 (j33 : X11) (t4 t6 t11 t12 t14 t80 t81 t82 M m I i : Nat) : Res :=
 jn (S255_4 j33) fun j72 =>
 fa 0 t14 fun v73 =>
 ld v73 M fun v74 =>
 iadrAK 2 1 (.k t4) (.k v74) zf I i fun v75 I i =>
 ld v75 M fun v76 =>
 fa 1 t14 fun v77 =>
 ld v77 M fun v78 =>
 ia 1 v76 v78 fun v79 =>
 ld v79 M fun v80 =>
 ln v80 fun v81 =>
 j72 t4 t6 t11 t12 t14 t80 t81 t82 v80 v81 295147905179352825861 M m I i
def S255_6 (n30 : Nat) (j29 : X11) (t4 t6 t11 t12 t80 t81 t82 M m I i : Nat) : Res :=
 jn (fun (t4 t6 t11 t12 t80 t81 t82 M m I i : Nat) =>
 adt n30 t82 295147905179352825893 fun v31 =>
 j29 t4 t6 t11 t12 t80 t81 v31 M m I i) fun j33 =>
 jn (S255_5 j33) fun j83 =>
 ia 2 t80 t82 fun v84 =>
 loadNK 2 (.k v84) zf M I i fun v85 I i =>
 newK 2 23384026197294446691655098136326997907641993265157 M m I i fun v86 M m I i =>
 storeK 2 (.k v86) (.k v85) zf M m I i fun _ M m I i =>
 j83 t4 t6 t11 t12 v86 t80 t81 t82 M m I i
def S255_7 (j28 : X8) (n30 : Nat) (j29 : X11) (t4 t6 t11 t12 t80 t81 t82 t83 M m I i : Nat) : Res :=
 jn (S255_6 n30 j29) fun j87 =>
 cnd t83 (j87 t4 t6 t11 t12 t80 t81 t82 M m I i)
 (j28 t4 t6 t11 t12 M m I i)
def S255_8 (j28 : X8) (n30 : Nat) (j29 : X11) (t4 t6 t11 t12 t80 t81 t82 M m I i : Nat) : Res :=
 jn (S255_7 j28 n30 j29) fun j88 =>
 lt 5 t82 t81 fun v89 =>
 j88 t4 t6 t11 t12 t80 t81 t82 v89 M m I i
def S255_9 (j28 : X8) (t4 t6 t11 t12 t80 t81 t82 M m I i : Nat) : Res :=
 lp (S255_8 j28) (fun _ _ _ _ _ _ _ _ _ _ _ => .bad 73 0) t4 t6 t11 t12 t80 t81 t82 M m I i
def S255_10 (j24 : X8) (t4 t6 t7 t11 t12 M m I i : Nat) : Res :=
 jn (fun (t4 t6 t11 t12 M m I i : Nat) =>
 j24 t4 t6 t12 t11 M m I i) fun j28 =>
 jn (S255_9 j28) fun j90 =>
 ln t7 fun v92 =>
 j90 t4 t6 t11 t12 t7 v92 295147905179352825861 M m I i
def S255_11 (j24 : X8) (t4 t6 t7 t11 M m I i : Nat) : Res :=
 jn (S255_10 j24) fun j94 =>
 bldSK 0 2 23384026197294446691655098136326997907641993265157 [] zf M m I i fun v95 M m I i =>
 j94 t4 t6 t7 t11 v95 M m I i
def S255_12 (n25 : Nat) (j24 : X8) (t4 t6 t7 t11 M m I i : Nat) : Res :=
 jn (S255_11 j24) fun j97 =>
 ln t7 fun v100 =>
 sbt n25 t11 v100 fun v101 =>
 j97 t4 t6 t7 v101 M m I i
def S255_13 (j23 : X5) (n25 : Nat) (j24 : X8) (t4 t6 t7 t11 M m I i : Nat) : Res :=
 jn (S255_12 n25 j24) fun j103 =>
 lt 5 295147905179352825925 t11 fun v105 =>
 cnd v105 (j103 t4 t6 t7 t11 M m I i)
 (j23 t7 M m I i)
def S255_14 (j23 : X5) (t4 t6 t7 t11 M m I i : Nat) : Res :=
 lp (S255_13 j23) (fun _ _ _ _ _ _ _ _ => .bad 73 0) t4 t6 t7 t11 M m I i
def S255_15 (c : Y) (k : KF) (t1 t4 t6 t7 M m I i : Nat) : Res :=
 jn (S255_2 c k) fun j23 =>
 jn (S255_14 j23) fun j106 =>
 fa 0 t1 fun v107 =>
 ld v107 M fun v108 =>
 ln v108 fun v109 =>
 fa 1 t1 fun v110 =>
 ld v110 M fun v111 =>
 ln v111 fun v112 =>
 ad v109 v112 fun v113 =>
 j106 t4 t6 t7 v113 M m I i
def S255_16 (j120 : X9) (n122 : Nat) (j121 : X13) (t1 t4 t6 t7 t8 t36 t41 t42 t43 M m I i : Nat) : Res :=
 lt 5 t43 t42 fun v123 =>
 cnd v123 (ia 1 t41 t43 fun v125 =>
 ld v125 M fun v126 =>
 iadrAK 2 1 (.k t6) (.k t8) zf I i fun v130 I i =>
 ld v130 M fun v131 =>
 ln v126 fun v134 =>
 ia 1 v131 t43 fun v135 =>
 storeK 1 (.k v135) (.k v134) zf M m I i fun _ M m I i =>
 ln v126 fun v137 =>
 ge 5 295147905179352825893 v137 fun v138 =>
 cnd v138 (buildK 2 23384026197294446691655098136326997907641993265157 [(0, 1, (.k t8)), (1, 1, (.k t43))] zf I i fun v142 I i =>
 bldSK 1 2 23384026197294446691655098136326997907641993265157 [(0, 2, (.k v142))] zf M m I i fun v143 M m I i =>
 appW 2 t7 v143 M m I i fun v144 M m I i =>
 adt n122 t43 295147905179352825893 fun v146 =>
 j121 t1 t4 t6 v144 t8 t36 t41 t42 v146 M m I i)
 (adt n122 t43 295147905179352825893 fun v148 =>
 j121 t1 t4 t6 t7 t8 t36 t41 t42 v148 M m I i))
 (j120 t1 t4 t6 t7 t36 M m I i)
def S255_17 (j120 : X9) (t1 t4 t6 t7 t8 t36 t41 t42 t43 M m I i : Nat) : Res :=
 lp (S255_16 j120) (fun _ _ _ _ _ _ _ _ _ _ _ _ _ => .bad 73 0) t1 t4 t6 t7 t8 t36 t41 t42 t43 M m I i
def S255_18 (j120 : X9) (t1 t4 t6 t7 t8 t36 M m I i : Nat) : Res :=
 jn (S255_17 j120) fun j150 =>
 iadrAK 2 1 (.k t4) (.k t8) zf I i fun v152 I i =>
 ld v152 M fun v153 =>
 ln v153 fun v154 =>
 j150 t1 t4 t6 t7 t8 t36 v153 v154 295147905179352825861 M m I i
def S255_19 (n117 : Nat) (j116 : X9) (t1 t4 t6 t7 t36 M m I i : Nat) : Res :=
 jn (fun (t1 t4 t6 t7 t36 M m I i : Nat) =>
 adt n117 t36 295147905179352825893 fun v118 =>
 j116 t1 t4 t6 t7 v118 M m I i) fun j120 =>
 jn (S255_18 j120) fun j156 =>
 j156 t1 t4 t6 t7 t36 t36 M m I i
def S255_20 (j115 : X8) (n117 : Nat) (j116 : X9) (t1 t4 t6 t7 t36 t37 M m I i : Nat) : Res :=
 jn (S255_19 n117 j116) fun j159 =>
 cnd t37 (j159 t1 t4 t6 t7 t36 M m I i)
 (j115 t1 t4 t6 t7 M m I i)
def S255_21 (j115 : X8) (n117 : Nat) (j116 : X9) (t1 t4 t6 t7 t36 M m I i : Nat) : Res :=
 jn (S255_20 j115 n117 j116) fun j160 =>
 lt 5 t36 295147905179352825925 fun v161 =>
 j160 t1 t4 t6 t7 t36 v161 M m I i
def S255_22 (j115 : X8) (t1 t4 t6 t7 t36 M m I i : Nat) : Res :=
 lp (S255_21 j115) (fun _ _ _ _ _ _ _ _ _ => .bad 73 0) t1 t4 t6 t7 t36 M m I i
def S255_23 (c : Y) (k : KF) (t1 t4 t6 t7 M m I i : Nat) : Res :=
 jn (S255_15 c k) fun j115 =>
 jn (S255_22 j115) fun j162 =>
 j162 t1 t4 t6 t7 295147905179352825861 M m I i
def S255_24 (c : Y) (k : KF) (t1 t4 t6 M m I i : Nat) : Res :=
 jn (S255_23 c k) fun j164 =>
 bldSK 0 2 23384026197294446691655098136326997907641993265157 [] zf M m I i fun v165 M m I i =>
 j164 t1 t4 t6 v165 M m I i
def S255_25 (c : Y) (k : KF) (t1 t4 M m I i : Nat) : Res :=
 jn (S255_24 c k) fun j167 =>
 fa 0 t1 fun v168 =>
 ld v168 M fun v169 =>
 ln v169 fun v170 =>
 mkSlK 1 295147905179352825861 (.k v170) (.k v170) zf M m I i fun v171 M m I i =>
 fa 1 t1 fun v172 =>
 ld v172 M fun v173 =>
 ln v173 fun v174 =>
 mkSlK 1 295147905179352825861 (.k v174) (.k v174) zf M m I i fun v175 M m I i =>
 buildK 2 871509787656907713528983453707 [(0, 1, (.k v171)), (1, 1, (.k v175))] zf I i fun v176 I i =>
 newK 2 871509787656907713528983453707 M m I i fun v177 M m I i =>
 storeK 2 (.k v177) (.k v176) zf M m I i fun _ M m I i =>
 j167 t1 t4 v177 M m I i
def S255_26 (c : Y) (k : KF) (t1 t4 t5 M m I i : Nat) : Res :=
 jn (S255_25 c k) fun j178 =>
 notK (.k t5) zf I i fun v180 I i =>
 cnd v180 (rtn 2 [1, 295147905179352825829] M m I i k)
 (j178 t1 t4 M m I i)
def S255_27 (c : Y) (k : KF) (t1 M m I i : Nat) : Res :=
 jn (S255_26 c k) fun j183 =>
 loadNK 3 (.k t1) zf M I i fun v184 I i =>
 c 288 [v184] M m I i fun v185 M m I i =>
 f1 19 0 v185 I fun v187 =>
 f1 19 1 v185 I fun v188 =>
 newK 2 871509787656907713528983453707 M m I i fun v189 M m I i =>
 storeK 2 (.k v189) (.k v187) zf M m I i fun _ M m I i =>
 j183 t1 v189 v188 M m I i
def F255 (c : Y) (t0 M m I i : Nat) (k : KF) : Res :=
 jn (S255_27 c k) fun j191 =>
 boxK 3 (.k t0) zf M m I i fun v192 M m I i =>
 j191 v192 M m I i
def g255 (c : Y) : List Nat → Nat → Nat → Nat → Nat → KF → Res := unS fun t0 => un0 (F255 c t0)
def S98_1 (k : KF) (t12 t13 t17 M m I i : Nat) : Res :=
 jn (fun (t17 M m I i : Nat) =>
 rtn 2 [t17, 295147905179352825861] M m I i k) fun j4 =>
 jn (fun (t12 t17 t107 t108 t109 M m I i : Nat) =>
 lp (fun (n6 : Nat) (j5 : X9) (t12 t17 t107 t108 t109 M m I i : Nat) =>
 lt 5 t109 t108 fun v7 =>
 cnd v7 (ia 1 t107 t109 fun v9 =>
 ld v9 M fun v10 =>
 lookW (.word 5) false false 1 11 t12 v10 M I i fun v17 I i =>
 ia 1 t17 t109 fun v18 =>
 storeK 1 (.k v18) (.k v17) zf M m I i fun _ M m I i =>
 adt n6 t109 295147905179352825893 fun v19 =>
 j5 t12 t17 t107 t108 v19 M m I i)
 (j4 t17 M m I i)) (fun _ _ _ _ _ _ _ _ _ => .bad 73 0) t12 t17 t107 t108 t109 M m I i) fun j21 =>
 ln t13 fun v23 =>
 j21 t12 t17 t13 v23 295147905179352825861 M m I i
def S98_2 (k : KF) (t12 t13 M m I i : Nat) : Res :=
 jn (S98_1 k) fun j25 =>
 ln t13 fun v27 =>
 mkSlK 1 11 (.k v27) (.k v27) zf M m I i fun v28 M m I i =>
 j25 t12 t13 v28 M m I i
def S98_3 (j35 : X11) (t7 t11 t12 t13 t15 t16 t74 t75 t76 M m I i : Nat) : Res :=
 jn (fun (t7 t11 t12 t13 t15 t16 t74 t75 t76 M m I i : Nat) =>
 lookW (.word 5) false false 1 11 t12 t16 M I i fun v40 I i =>
 loadNK 2 (.k t15) zf M I i fun v41 I i =>
 bldSK 1 2 23384026197294446691655098136326997907641993265157 [(0, 2, (.k v41))] zf M m I i fun v42 M m I i =>
 appW 2 v40 v42 M m I i fun v43 M m I i =>
 updW (.word 5) t12 t16 v43 M m I i fun _ M m I i =>
 j35 t7 t11 t12 t13 t74 t75 t76 M m I i) fun j44 =>
 lookW (.word 5) false false 1 11 t12 t16 M I i fun v47 I i =>
 ln v47 fun v48 =>
 eq 5 v48 295147905179352825861 fun v49 =>
 cnd v49 (bldSK 1 1 295147905179352825861 [(0, 1, (.k t16))] zf M m I i fun v52 M m I i =>
 appW 1 t13 v52 M m I i fun v53 M m I i =>
 j44 t7 t11 t12 v53 t15 t16 t74 t75 t76 M m I i)
 (j44 t7 t11 t12 t13 t15 t16 t74 t75 t76 M m I i)
def S98_4 (c : Y) (j35 : X11) (t7 t11 t12 t13 t15 t74 t75 t76 M m I i : Nat) : Res :=
 jn (S98_3 j35) fun j55 =>
 loadNK 2 (.k t15) zf M I i fun v58 I i =>
 callvS c (.k t11) [(.k v58)] zf M m I i fun v59 M m I i =>
 ia 1 t7 v59 fun v60 =>
 ld v60 M fun v61 =>
 j55 t7 t11 t12 t13 t15 v61 t74 t75 t76 M m I i
def S98_5 (c : Y) (n32 : Nat) (j31 : X11) (t7 t11 t12 t13 t74 t75 t76 M m I i : Nat) : Res :=
 jn (fun (t7 t11 t12 t13 t74 t75 t76 M m I i : Nat) =>
 adt n32 t76 295147905179352825893 fun v33 =>
 j31 t7 t11 t12 t13 t74 t75 v33 M m I i) fun j35 =>
 jn (S98_4 c j35) fun j63 =>
 ia 2 t74 t76 fun v64 =>
 loadNK 2 (.k v64) zf M I i fun v65 I i =>
 newK 2 23384026197294446691655098136326997907641993265157 M m I i fun v66 M m I i =>
 storeK 2 (.k v66) (.k v65) zf M m I i fun _ M m I i =>
 j63 t7 t11 t12 t13 v66 t74 t75 t76 M m I i
def S98_6 (c : Y) (j30 : X6) (n32 : Nat) (j31 : X11) (t7 t11 t12 t13 t74 t75 t76 t77 M m I i : Nat) : Res :=
 jn (S98_5 c n32 j31) fun j67 =>
 cnd t77 (j67 t7 t11 t12 t13 t74 t75 t76 M m I i)
 (j30 t12 t13 M m I i)
def S98_7 (c : Y) (j30 : X6) (n32 : Nat) (j31 : X11) (t7 t11 t12 t13 t74 t75 t76 M m I i : Nat) : Res :=
 jn (S98_6 c j30 n32 j31) fun j68 =>
 lt 5 t76 t75 fun v69 =>
 j68 t7 t11 t12 t13 t74 t75 t76 v69 M m I i
def S98_8 (c : Y) (j30 : X6) (t7 t11 t12 t13 t74 t75 t76 M m I i : Nat) : Res :=
 lp (S98_7 c j30) (fun _ _ _ _ _ _ _ _ _ _ _ => .bad 73 0) t7 t11 t12 t13 t74 t75 t76 M m I i
def S98_9 (c : Y) (k : KF) (t1 t7 t11 t12 t13 M m I i : Nat) : Res :=
 jn (S98_2 k) fun j30 =>
 jn (S98_8 c j30) fun j70 =>
 fa 1 t1 fun v71 =>
 ld v71 M fun v72 =>
 ln v72 fun v73 =>
 j70 t7 t11 t12 t13 v72 v73 295147905179352825861 M m I i
def S98_10 (c : Y) (k : KF) (t1 t7 t11 t12 M m I i : Nat) : Res :=
 jn (S98_9 c k) fun j75 =>
 bldSK 0 1 295147905179352825861 [] zf M m I i fun v76 M m I i =>
 j75 t1 t7 t11 t12 v76 M m I i
def S98_11 (c : Y) (k : KF) (t1 t7 t11 M m I i : Nat) : Res :=
 jn (S98_10 c k) fun j78 =>
 mkMapK M m I i fun v79 M m I i =>
 j78 t1 t7 t11 v79 M m I i
def S98_12 (c : Y) (k : KF) (t1 t4 t7 M m I i : Nat) : Res :=
 jn (S98_11 c k) fun j81 =>
 mkfK 158 1 [(.k t4)] zf I i fun v82 I i =>
 j81 t1 t7 v82 M m I i
def S98_13 (j84 : X7) (n86 : Nat) (j85 : X10) (t1 t4 t7 t32 t33 t34 M m I i : Nat) : Res :=
 lt 5 t34 t33 fun v87 =>
 cnd v87 (ia 1 t32 t34 fun v88 =>
 ld v88 M fun v89 =>
 ia 1 t7 v89 fun v94 =>
 storeK 1 (.k v94) (.k v89) zf M m I i fun _ M m I i =>
 ld t4 M fun v95 =>
 ia 3 v95 v89 fun v97 =>
 fa 1 v97 fun v98 =>
 ld v98 M fun v99 =>
 ge 5 v99 295147905179352825861 fun v102 =>
 jn (fun (v116 : Nat) =>
 pk v102 v116 1 fun v117 =>
 cnd v117 (ia 1 t7 v99 fun v122 =>
 ld v122 M fun v123 =>
 ia 1 t7 v89 fun v124 =>
 storeK 1 (.k v124) (.k v123) zf M m I i fun _ M m I i =>
 adt n86 t34 295147905179352825893 fun v125 =>
 j85 t1 t4 t7 t32 t33 v125 M m I i)
 (adt n86 t34 295147905179352825893 fun v127 =>
 j85 t1 t4 t7 t32 t33 v127 M m I i))
 (fun j104 => gd v102 33 (ld t4 M fun v105 =>
 ia 3 v105 v89 fun v107 =>
 fa 2 v107 fun v108 =>
 ld v108 M fun v109 =>
 ld t4 M fun v110 =>
 ia 3 v110 v99 fun v112 =>
 fa 0 v112 fun v113 =>
 ld v113 M fun v114 =>
 lt 5 v109 v114 fun v115 =>
 j104 v115) (j104 0)))
 (j84 t1 t4 t7 M m I i)
def S98_14 (j84 : X7) (t1 t4 t7 t32 t33 t34 M m I i : Nat) : Res :=
 lp (S98_13 j84) (fun _ _ _ _ _ _ _ _ _ _ => .bad 73 0) t1 t4 t7 t32 t33 t34 M m I i
def S98_15 (c : Y) (k : KF) (t1 t4 t5 t7 M m I i : Nat) : Res :=
 jn (S98_12 c k) fun j84 =>
 jn (S98_14 j84) fun j129 =>
 ln t5 fun v131 =>
 j129 t1 t4 t7 t5 v131 295147905179352825861 M m I i
def S98_16 (c : Y) (k : KF) (t1 t4 t5 M m I i : Nat) : Res :=
 jn (S98_15 c k) fun j133 =>
 fa 0 t1 fun v134 =>
 ld v134 M fun v135 =>
 mkSlK 1 295147905179352825861 (.k v135) (.k v135) zf M m I i fun v136 M m I i =>
 j133 t1 t4 t5 v136 M m I i
def S98_17 (c : Y) (k : KF) (t1 t4 t5 t6 M m I i : Nat) : Res :=
 jn (S98_16 c k) fun j138 =>
 ne 5 t6 295147905179352825861 fun v140 =>
 cnd v140 (rtn 2 [11, t6] M m I i k)
 (j138 t1 t4 t5 M m I i)
def S98_18 (c : Y) (k : KF) (t1 M m I i : Nat) : Res :=
 jn (S98_17 c k) fun j144 =>
 loadNK 2 (.k t1) zf M I i fun v145 I i =>
 c 157 [v145] M m I i fun v146 M m I i =>
 f1 19 0 v146 I fun v148 =>
 f1 19 1 v146 I fun v149 =>
 f1 19 2 v146 I fun v150 =>
 newK 1 11 M m I i fun v151 M m I i =>
 storeK 1 (.k v151) (.k v148) zf M m I i fun _ M m I i =>
 j144 t1 v151 v149 v150 M m I i
def F98 (c : Y) (t0 M m I i : Nat) (k : KF) : Res :=
 jn (S98_18 c k) fun j154 =>
 boxK 2 (.k t0) zf M m I i fun v155 M m I i =>
 j154 v155 M m I i
def g98 (c : Y) : List Nat → Nat → Nat → Nat → Nat → KF → Res := unS fun t0 => un0 (F98 c t0)
def S338_1 (c : Y) (k : KF) (t0 t6 M m I i : Nat) : Res :=
 nilcK (.k t0) zf I i fun v2 I i =>
 fa 1 v2 fun v3 =>
 ld v3 M fun v4 =>
 c 340 [v4, t6] M m I i fun v6 M m I i =>
 f1 19 0 v6 I fun v8 =>
 f1 19 1 v6 I fun v9 =>
 newK 2 871509787656907713528983453707 M m I i fun v10 M m I i =>
 storeK 2 (.k v10) (.k v8) zf M m I i fun _ M m I i =>
 loadNK 2 (.k v10) zf M I i fun v13 I i =>
 nilcK (.k t0) zf I i fun v14 I i =>
 fa 3 v14 fun v15 =>
 storeK 2 (.k v15) (.k v13) zf M m I i fun _ M m I i =>
 fa 0 v10 fun v16 =>
 ld v16 M fun v17 =>
 rtn 2 [v17, v9] M m I i k
def S338_2 (n23 : Nat) (j26 : X10) (t0 t1 t6 t8 t9 t23 t24 t25 M m I i : Nat) : Res :=
 jn (fun (t0 t1 t6 t9 t23 t24 t25 M m I i : Nat) =>
 bldSK 1 1 295147905179352825861 [(0, 1, (.k t9))] zf M m I i fun v29 M m I i =>
 appW 1 t6 v29 M m I i fun v30 M m I i =>
 j26 t0 t1 v30 t23 t24 t25 M m I i) fun j32 =>
 nilcK (.k t1) zf I i fun v34 I i =>
 fa 8 v34 fun v35 =>
 ld v35 M fun v36 =>
 lookW (.word 5) true false 1 295147905179352825861 v36 t8 M I i fun v38 I i =>
 f1 19 0 v38 I fun v40 =>
 f1 19 1 v38 I fun v41 =>
 cnd v41 (nilcK (.k t1) zf I i fun v46 I i =>
 fa 7 v46 fun v47 =>
 ld v47 M fun v48 =>
 adt n23 295147905179352825893 v48 fun v49 =>
 nilcK (.k t1) zf I i fun v51 I i =>
 fa 5 v51 fun v52 =>
 ld v52 M fun v53 =>
 ia 1 v53 v40 fun v55 =>
 ld v55 M fun v56 =>
 adt n23 v49 v56 fun v57 =>
 nilcK (.k t1) zf I i fun v61 I i =>
 fa 3 v61 fun v62 =>
 ld v62 M fun v63 =>
 nilcK (.k t0) zf I i fun v65 I i =>
 fa 0 v65 fun v66 =>
 ld v66 M fun v67 =>
 ia 1 v63 v67 fun v68 =>
 ld v68 M fun v69 =>
 eq 5 v40 v69 fun v70 =>
 cnd v70 (j32 t0 t1 t6 295147905179352825861 t23 t24 t25 M m I i)
 (j32 t0 t1 t6 v57 t23 t24 t25 M m I i))
 (j32 t0 t1 t6 t9 t23 t24 t25 M m I i)
def S338_3 (n23 : Nat) (j26 : X10) (t0 t1 t6 t8 t23 t24 t25 M m I i : Nat) : Res :=
 jn (S338_2 n23 j26) fun j72 =>
 nilcK (.k t1) zf I i fun v74 I i =>
 fa 6 v74 fun v75 =>
 ld v75 M fun v76 =>
 ia 1 v76 t8 fun v78 =>
 ld v78 M fun v79 =>
 adt n23 295147905179352825893 v79 fun v80 =>
 j72 t0 t1 t6 t8 v80 t23 t24 t25 M m I i
def S338_4 (n23 : Nat) (j22 : X10) (t0 t1 t6 t23 t24 t25 M m I i : Nat) : Res :=
 jn (fun (t0 t1 t6 t23 t24 t25 M m I i : Nat) =>
 adt n23 t25 295147905179352825893 fun v24 =>
 j22 t0 t1 t6 t23 t24 v24 M m I i) fun j26 =>
 jn (S338_3 n23 j26) fun j82 =>
 ia 1 t23 t25 fun v83 =>
 ld v83 M fun v84 =>
 j82 t0 t1 t6 v84 t23 t24 t25 M m I i
def S338_5 (j21 : X6) (n23 : Nat) (j22 : X10) (t0 t1 t6 t23 t24 t25 t26 M m I i : Nat) : Res :=
 jn (S338_4 n23 j22) fun j86 =>
 cnd t26 (j86 t0 t1 t6 t23 t24 t25 M m I i)
 (j21 t0 t6 M m I i)
def S338_6 (j21 : X6) (n23 : Nat) (j22 : X10) (t0 t1 t6 t23 t24 t25 M m I i : Nat) : Res :=
 jn (S338_5 j21 n23 j22) fun j87 =>
 lt 5 t25 t24 fun v88 =>
 j87 t0 t1 t6 t23 t24 t25 v88 M m I i
def S338_7 (j21 : X6) (t0 t1 t6 t23 t24 t25 M m I i : Nat) : Res :=
 lp (S338_6 j21) (fun _ _ _ _ _ _ _ _ _ _ => .bad 73 0) t0 t1 t6 t23 t24 t25 M m I i
def S338_8 (c : Y) (k : KF) (t0 t1 t6 M m I i : Nat) : Res :=
 jn (S338_1 c k) fun j21 =>
 jn (S338_7 j21) fun j89 =>
 nilcK (.k t0) zf I i fun v91 I i =>
 fa 2 v91 fun v92 =>
 ld v92 M fun v93 =>
 ln v93 fun v94 =>
 j89 t0 t1 t6 v93 v94 295147905179352825861 M m I i
def S338_9 (c : Y) (k : KF) (t0 t1 M m I i : Nat) : Res :=
 jn (S338_8 c k) fun j96 =>
 nilcK (.k t0) zf I i fun v98 I i =>
 fa 2 v98 fun v99 =>
 ld v99 M fun v100 =>
 ln v100 fun v101 =>
 mkSlK 1 295147905179352825861 (.k 295147905179352825861) (.k v101) zf M m I i fun v102 M m I i =>
 j96 t0 t1 v102 M m I i
def F338 (c : Y) (t0 t1 M m I i : Nat) (k : KF) : Res :=
 jn (S338_9 c k) fun j104 =>
 j104 t0 t1 M m I i
def g338 (c : Y) : List Nat → Nat → Nat → Nat → Nat → KF → Res := unS fun t0 => unS fun t1 => un0 (F338 c t0 t1)
def S188_1 (k : KF) (j2 : X4) (n4 : Nat) (j3 : X7) (t11 t12 t13 M m I i : Nat) : Res :=
 lt 5 t13 t12 fun v5 =>
 cnd v5 (ia 1 t11 t13 fun v6 =>
 ld v6 M fun v7 =>
 lt 5 v7 295147905179352825861 fun v10 =>
 jn (fun (v15 : Nat) =>
 pk v10 33 v15 fun v16 =>
 cnd v16 (k 1 M m I i)
 (adt n4 t13 295147905179352825893 fun v18 =>
 j3 t11 t12 v18 M m I i))
 (fun j12 => gd v10 1 (ge 5 v7 295147905213712564229 fun v14 =>
 j12 v14) (j12 0)))
 (j2 M m I i)
def S188_2 (k : KF) (j2 : X4) (t11 t12 t13 M m I i : Nat) : Res :=
 lp (S188_1 k j2) (fun _ _ _ _ _ _ _ => .bad 73 0) t11 t12 t13 M m I i
def S188_3 (k : KF) (t0 M m I i : Nat) : Res :=
 jn (fun (M m I i : Nat) =>
 k 33 M m I i) fun j2 =>
 jn (S188_2 k j2) fun j20 =>
 ln t0 fun v22 =>
 j20 t0 v22 295147905179352825861 M m I i
def S188_4 (k : KF) (t0 t1 M m I i : Nat) : Res :=
 jn (S188_3 k) fun j24 =>
 ln t0 fun v26 =>
 ne 5 v26 t1 fun v28 =>
 cnd v28 (k 1 M m I i)
 (j24 t0 M m I i)
def F188 (c : Y) (t0 t1 M m I i : Nat) (k : KF) : Res :=
 jn (S188_4 k) fun j30 =>
 j30 t0 t1 M m I i
def g188 (c : Y) : List Nat → Nat → Nat → Nat → Nat → KF → Res := unS fun t0 => unS fun t1 => un0 (F188 c t0 t1)
def F140 (c : Y) (t0 M m I i : Nat) (k : KF) : Res :=
 ln t0 fun v2 =>
 convK .i64 .u64 (.k v2) zf I i fun v7 I i =>
 c 72 [v7] M m I i fun v8 M m I i =>
 c 197 [t0, 295147905179352825861, v2, v8] M m I i fun v9 M m I i =>
 rtn 0 [] M m I i k
def g140 (c : Y) : List Nat → Nat → Nat → Nat → Nat → KF → Res := unS fun t0 => un0 (F140 c t0)
def S344_1 (c : Y) (j7 : X7) (n9 : Nat) (j8 : X11) (t1 t8 t9 t14 t57 t58 t59 M m I i : Nat) : Res :=
 lt 5 t59 t58 fun v10 =>
 cnd v10 (ia 3 t57 t59 fun v11 =>
 loadNK 3 (.k v11) zf M I i fun v12 I i =>
 newK 3 1852673427797059126808521268839323955668793148457942454848160119256572240068613 M m I i fun v13 M m I i =>
 storeK 3 (.k v13) (.k v12) zf M m I i fun _ M m I i =>
 fa 0 v13 fun v15 =>
 ld v15 M fun v16 =>
 c 254 [t8, v16] M m I i fun v17 M m I i =>
 f1 19 0 v17 I fun v19 =>
 f1 19 1 v17 I fun v20 =>
 fa 1 v13 fun v24 =>
 ld v24 M fun v25 =>
 c 254 [t8, v25] M m I i fun v26 M m I i =>
 f1 19 0 v26 I fun v28 =>
 f1 19 1 v26 I fun v29 =>
 buildK 2 23384026197294446691655098136326997907641993265157 [(0, 1, (.k v19)), (1, 1, (.k v28))] zf I i fun v35 I i =>
 bldSK 1 2 23384026197294446691655098136326997907641993265157 [(0, 2, (.k v35))] zf M m I i fun v36 M m I i =>
 appW 2 t14 v36 M m I i fun v37 M m I i =>
 adt n9 t59 295147905179352825893 fun v39 =>
 j8 t1 t8 t9 v37 t57 t58 v39 M m I i)
 (j7 t1 t9 t14 M m I i)
def S344_2 (c : Y) (j7 : X7) (t1 t8 t9 t14 t57 t58 t59 M m I i : Nat) : Res :=
 lp (S344_1 c j7) (fun _ _ _ _ _ _ _ _ _ _ _ => .bad 73 0) t1 t8 t9 t14 t57 t58 t59 M m I i
def S344_3 (c : Y) (k : KF) (t0 t1 t8 t9 t14 M m I i : Nat) : Res :=
 jn (fun (t1 t9 t14 M m I i : Nat) =>
 c 135 [t1, t9, t14] M m I i fun v4 M m I i =>
 rtn 2 [v4, 295147905179352825861] M m I i k) fun j7 =>
 jn (S344_2 c j7) fun j41 =>
 ln t0 fun v43 =>
 j41 t1 t8 t9 t14 t0 v43 295147905179352825861 M m I i
def S344_4 (c : Y) (k : KF) (t0 t1 t8 t9 M m I i : Nat) : Res :=
 jn (S344_3 c k) fun j45 =>
 ln t0 fun v47 =>
 mkSlK 2 23384026197294446691655098136326997907641993265157 (.k 295147905179352825861) (.k v47) zf M m I i fun v48 M m I i =>
 j45 t0 t1 t8 t9 v48 M m I i
def S344_5 (c : Y) (k : KF) (t0 t1 t8 t9 M m I i : Nat) : Res :=
 jn (S344_4 c k) fun j50 =>
 ln t8 fun v53 =>
 c 351 [t9, v53] M m I i fun v54 M m I i =>
 notK (.k v54) zf I i fun v55 I i =>
 cnd v55 (rtn 2 [11, 295147905179352831941] M m I i k)
 (j50 t0 t1 t8 t9 M m I i)
def S344_6 (c : Y) (k : KF) (j58 : X8) (n60 : Nat) (j59 : X11) (t0 t1 t8 t9 t30 t31 t32 M m I i : Nat) : Res :=
 lt 5 t32 t31 fun v61 =>
 cnd v61 (ia 1 t30 t32 fun v62 =>
 ld v62 M fun v63 =>
 c 254 [t8, v63] M m I i fun v67 M m I i =>
 f1 19 0 v67 I fun v69 =>
 f1 19 1 v67 I fun v70 =>
 notK (.k v70) zf I i fun v74 I i =>
 cnd v74 (rtn 2 [11, 295147905179352831941] M m I i k)
 (bldSK 1 1 295147905179352825861 [(0, 1, (.k v69))] zf M m I i fun v79 M m I i =>
 appW 1 t9 v79 M m I i fun v80 M m I i =>
 adt n60 t32 295147905179352825893 fun v82 =>
 j59 t0 t1 t8 v80 t30 t31 v82 M m I i))
 (j58 t0 t1 t8 t9 M m I i)
def S344_7 (c : Y) (k : KF) (j58 : X8) (t0 t1 t8 t9 t30 t31 t32 M m I i : Nat) : Res :=
 lp (S344_6 c k j58) (fun _ _ _ _ _ _ _ _ _ _ _ => .bad 73 0) t0 t1 t8 t9 t30 t31 t32 M m I i
def S344_8 (c : Y) (k : KF) (t0 t1 t2 t8 t9 M m I i : Nat) : Res :=
 jn (S344_5 c k) fun j58 =>
 jn (S344_7 c k j58) fun j84 =>
 ln t2 fun v86 =>
 j84 t0 t1 t8 t9 t2 v86 295147905179352825861 M m I i
def S344_9 (c : Y) (k : KF) (t0 t1 t2 t8 M m I i : Nat) : Res :=
 jn (S344_8 c k) fun j88 =>
 ln t2 fun v90 =>
 mkSlK 1 295147905179352825861 (.k 295147905179352825861) (.k v90) zf M m I i fun v91 M m I i =>
 j88 t0 t1 t2 t8 v91 M m I i
def S344_10 (c : Y) (k : KF) (t0 t1 t2 M m I i : Nat) : Res :=
 jn (S344_9 c k) fun j93 =>
 c 342 [t0] M m I i fun v95 M m I i =>
 j93 t0 t1 t2 v95 M m I i
def S344_11 (c : Y) (k : KF) (t0 t1 t2 M m I i : Nat) : Res :=
 jn (S344_10 c k) fun j97 =>
 c 341 [t0, t1] M m I i fun v100 M m I i =>
 notK (.k v100) zf I i fun v101 I i =>
 cnd v101 (rtn 2 [11, 295147905179352831941] M m I i k)
 (j97 t0 t1 t2 M m I i)
def F344 (c : Y) (t0 t1 t2 M m I i : Nat) (k : KF) : Res :=
 jn (S344_11 c k) fun j104 =>
 j104 t0 t1 t2 M m I i
def g344 (c : Y) : List Nat → Nat → Nat → Nat → Nat → KF → Res := unS fun t0 => unS fun t1 => unS fun t2 => un0 (F344 c t0 t1 t2)
def S96_1 (j4 : X5) (n6 : Nat) (j5 : X9) (t4 t7 t11 t60 t61 M m I i : Nat) : Res :=
 lt 5 t61 t60 fun v7 =>
 cnd v7 (ia 1 t7 t61 fun v12 =>
 ld v12 M fun v13 =>
 lt 5 295147905179352825893 v13 fun v14 =>
 jn (fun (v23 : Nat) =>
 jn (fun (v31 : Nat) =>
 jn (fun (v34 : Nat) =>
 pk v14 33 v34 fun v35 =>
 cnd v35 (bldSK 1 1 295147905179352825861 [(0, 1, (.k t61))] zf M m I i fun v38 M m I i =>
 appW 1 t11 v38 M m I i fun v39 M m I i =>
 adt n6 t61 295147905179352825893 fun v41 =>
 j5 t4 t7 v39 t60 v41 M m I i)
 (adt n6 t61 295147905179352825893 fun v43 =>
 j5 t4 t7 t11 t60 v43 M m I i))
 (fun j32 => gd v14 1 (pk v23 v31 1 fun v33 =>
 j32 v33) (j32 0)))
 (fun j24 => gd v23 33 (ia 3 t4 t61 fun v27 =>
 fa 1 v27 fun v28 =>
 ld v28 M fun v29 =>
 ge 5 v29 295147905179352825861 fun v30 =>
 j24 v30) (j24 0)))
 (fun j16 => gd v14 1 (ia 1 t7 t61 fun v19 =>
 ld v19 M fun v20 =>
 eq 5 v20 295147905179352825893 fun v21 =>
 j16 v21) (j16 0)))
 (j4 t11 M m I i)
def S96_2 (j4 : X5) (t4 t7 t11 t60 t61 M m I i : Nat) : Res :=
 lp (S96_1 j4) (fun _ _ _ _ _ _ _ _ _ => .bad 73 0) t4 t7 t11 t60 t61 M m I i
def S96_3 (k : KF) (t1 t4 t7 t11 M m I i : Nat) : Res :=
 jn (fun (t11 M m I i : Nat) =>
 rtn 2 [t11, 295147905179352825861] M m I i k) fun j4 =>
 jn (S96_2 j4) fun j45 =>
 fa 0 t1 fun v46 =>
 ld v46 M fun v47 =>
 j45 t4 t7 t11 v47 295147905179352825861 M m I i
def S96_4 (k : KF) (t1 t4 t7 M m I i : Nat) : Res :=
 jn (S96_3 k) fun j49 =>
 bldSK 0 1 295147905179352825861 [] zf M m I i fun v50 M m I i =>
 j49 t1 t4 t7 v50 M m I i
def S96_5 (j52 : X7) (n54 : Nat) (j53 : X10) (t1 t4 t7 t25 t26 t27 M m I i : Nat) : Res :=
 lt 5 t27 t26 fun v55 =>
 cnd v55 (ia 1 t25 t27 fun v56 =>
 ld v56 M fun v57 =>
 ia 3 t4 v57 fun v61 =>
 fa 1 v61 fun v62 =>
 ld v62 M fun v63 =>
 ge 5 v63 295147905179352825861 fun v66 =>
 jn (fun (v80 : Nat) =>
 pk v66 v80 1 fun v81 =>
 cnd v81 (ia 1 t7 v63 fun v84 =>
 ld v84 M fun v85 =>
 adt n54 v85 295147905179352825893 fun v86 =>
 ia 1 t7 v63 fun v87 =>
 storeK 1 (.k v87) (.k v86) zf M m I i fun _ M m I i =>
 adt n54 t27 295147905179352825893 fun v88 =>
 j53 t1 t4 t7 t25 t26 v88 M m I i)
 (adt n54 t27 295147905179352825893 fun v90 =>
 j53 t1 t4 t7 t25 t26 v90 M m I i))
 (fun j68 => gd v66 33 (ia 3 t4 v57 fun v71 =>
 fa 2 v71 fun v72 =>
 ld v72 M fun v73 =>
 ia 3 t4 v63 fun v76 =>
 fa 0 v76 fun v77 =>
 ld v77 M fun v78 =>
 ge 5 v73 v78 fun v79 =>
 j68 v79) (j68 0)))
 (j52 t1 t4 t7 M m I i)
def S96_6 (j52 : X7) (t1 t4 t7 t25 t26 t27 M m I i : Nat) : Res :=
 lp (S96_5 j52) (fun _ _ _ _ _ _ _ _ _ _ => .bad 73 0) t1 t4 t7 t25 t26 t27 M m I i
def S96_7 (k : KF) (t1 t4 t5 t7 M m I i : Nat) : Res :=
 jn (S96_4 k) fun j52 =>
 jn (S96_6 j52) fun j92 =>
 ln t5 fun v94 =>
 j92 t1 t4 t7 t5 v94 295147905179352825861 M m I i
def S96_8 (k : KF) (t1 t4 t5 M m I i : Nat) : Res :=
 jn (S96_7 k) fun j96 =>
 fa 0 t1 fun v97 =>
 ld v97 M fun v98 =>
 mkSlK 1 295147905179352825861 (.k v98) (.k v98) zf M m I i fun v99 M m I i =>
 j96 t1 t4 t5 v99 M m I i
def S96_9 (k : KF) (t1 t4 t5 t6 M m I i : Nat) : Res :=
 jn (S96_8 k) fun j101 =>
 ne 5 t6 295147905179352825861 fun v103 =>
 cnd v103 (rtn 2 [11, t6] M m I i k)
 (j101 t1 t4 t5 M m I i)
def S96_10 (c : Y) (k : KF) (t1 M m I i : Nat) : Res :=
 jn (S96_9 k) fun j107 =>
 loadNK 2 (.k t1) zf M I i fun v108 I i =>
 c 157 [v108] M m I i fun v109 M m I i =>
 f1 19 0 v109 I fun v111 =>
 f1 19 1 v109 I fun v112 =>
 f1 19 2 v109 I fun v113 =>
 j107 t1 v111 v112 v113 M m I i
def F96 (c : Y) (t0 M m I i : Nat) (k : KF) : Res :=
 jn (S96_10 c k) fun j117 =>
 boxK 2 (.k t0) zf M m I i fun v118 M m I i =>
 j117 v118 M m I i
def g96 (c : Y) : List Nat → Nat → Nat → Nat → Nat → KF → Res := unS fun t0 => un0 (F96 c t0)
def S256_1 (j6 : X7) (n8 : Nat) (j7 : X11) (t0 t2 t3 t4 t37 t38 t39 M m I i : Nat) : Res :=
 lt 5 t39 t38 fun v9 =>
 cnd v9 (ia 1 t37 t39 fun v10 =>
 ld v10 M fun v11 =>
 nilcK (.k t0) zf I i fun v15 I i =>
 fa 3 v15 fun v16 =>
 ld v16 M fun v17 =>
 ia 1 v17 t4 fun v19 =>
 ld v19 M fun v20 =>
 ne 5 v11 v20 fun v21 =>
 cnd v21 (nilcK (.k t0) zf I i fun v23 I i =>
 fa 3 v23 fun v24 =>
 ld v24 M fun v25 =>
 nilcK (.k t0) zf I i fun v28 I i =>
 fa 4 v28 fun v29 =>
 ld v29 M fun v30 =>
 nilcK (.k t0) zf I i fun v34 I i =>
 fa 4 v34 fun v35 =>
 ld v35 M fun v36 =>
 ia 1 v36 t4 fun v38 =>
 ld v38 M fun v39 =>
 adt n8 v39 295147905179352825893 fun v40 =>
 ia 1 v25 v11 fun v41 =>
 storeK 1 (.k v41) (.k t4) zf M m I i fun _ M m I i =>
 ia 1 v30 v11 fun v42 =>
 storeK 1 (.k v42) (.k v40) zf M m I i fun _ M m I i =>
 bldSK 1 1 295147905179352825861 [(0, 1, (.k v11))] zf M m I i fun v45 M m I i =>
 appW 1 t2 v45 M m I i fun v46 M m I i =>
 adt n8 t39 295147905179352825893 fun v48 =>
 j7 t0 v46 t3 t4 t37 t38 v48 M m I i)
 (adt n8 t39 295147905179352825893 fun v50 =>
 j7 t0 t2 t3 t4 t37 t38 v50 M m I i))
 (j6 t0 t2 t3 M m I i)
def S256_2 (j6 : X7) (t0 t2 t3 t4 t37 t38 t39 M m I i : Nat) : Res :=
 lp (S256_1 j6) (fun _ _ _ _ _ _ _ _ _ _ _ => .bad 73 0) t0 t2 t3 t4 t37 t38 t39 M m I i
def S256_3 (j6 : X7) (t0 t2 t3 t4 M m I i : Nat) : Res :=
 jn (S256_2 j6) fun j52 =>
 nilcK (.k t0) zf I i fun v54 I i =>
 fa 1 v54 fun v55 =>
 ld v55 M fun v56 =>
 ia 1 v56 t4 fun v58 =>
 ld v58 M fun v59 =>
 ln v59 fun v60 =>
 j52 t0 t2 t3 t4 v59 v60 295147905179352825861 M m I i
def S256_4 (n2 : Nat) (j1 : X7) (t0 t2 t3 M m I i : Nat) : Res :=
 jn (fun (t0 t2 t3 M m I i : Nat) =>
 adt n2 t3 295147905179352825893 fun v4 =>
 j1 t0 t2 v4 M m I i) fun j6 =>
 jn (S256_3 j6) fun j62 =>
 ia 1 t2 t3 fun v65 =>
 ld v65 M fun v66 =>
 j62 t0 t2 t3 v66 M m I i
def S256_5 (k : KF) (n2 : Nat) (j1 : X7) (t0 t2 t3 M m I i : Nat) : Res :=
 jn (S256_4 n2 j1) fun j68 =>
 ln t2 fun v71 =>
 lt 5 t3 v71 fun v72 =>
 cnd v72 (j68 t0 t2 t3 M m I i)
 (rtn 0 [] M m I i k)
def S256_6 (k : KF) (t0 t2 t3 M m I i : Nat) : Res :=
 lp (S256_5 k) (fun _ _ _ _ _ _ _ => .bad 73 0) t0 t2 t3 M m I i
def S256_7 (k : KF) (t0 t2 M m I i : Nat) : Res :=
 jn (S256_6 k) fun j73 =>
 j73 t0 t2 295147905179352825861 M m I i
def S256_8 (k : KF) (t0 M m I i : Nat) : Res :=
 jn (S256_7 k) fun j75 =>
 nilcK (.k t0) zf I i fun v77 I i =>
 fa 2 v77 fun v78 =>
 ld v78 M fun v79 =>
 bldSK 1 1 295147905179352825861 [(0, 1, (.k v79))] zf M m I i fun v80 M m I i =>
 j75 t0 v80 M m I i
def F256 (c : Y) (t0 M m I i : Nat) (k : KF) : Res :=
 jn (S256_8 k) fun j82 =>
 nilcK (.k t0) zf I i fun v84 I i =>
 fa 3 v84 fun v85 =>
 ld v85 M fun v86 =>
 nilcK (.k t0) zf I i fun v88 I i =>
 fa 2 v88 fun v89 =>
 ld v89 M fun v90 =>
 ia 1 v86 v90 fun v91 =>
 storeK 1 (.k v91) (.k 295147905179352825829) zf M m I i fun _ M m I i =>
 j82 t0 M m I i
def g256 (c : Y) : List Nat → Nat → Nat → Nat → Nat → KF → Res := unS fun t0 => un0 (F256 c t0)
def S196_1 (k : KF) (n2 : Nat) (j1 : X10) (t1 t2 t3 t4 t9 t10 M m I i : Nat) : Res :=
 lt 5 t10 t9 fun v3 =>
 cnd v3 (sbt n2 t3 295147905179352825893 fun v8 =>
 sbt n2 v8 t10 fun v10 =>
 shfK .shr .u64 .i64 (.k t2) (.k v10) zf I i fun v11 I i => tkk n2 v11 fun v12 =>
 iopK .and .u64 (.k v12) (.k 41) zf I i fun v13 I i => tkk n2 v13 fun v14 =>
 eq 9 v14 41 fun v15 =>
 cnd v15 (fa 0 t4 fun v16 =>
 ld v16 M fun v17 =>
 adt n2 t1 t10 fun v20 =>
 iopK .quo .i64 (.k v20) (.k 295147905179352826117) zf I i fun v21 I i => tkk n2 v21 fun v22 =>
 ia 1 v17 v22 fun v23 =>
 ld v23 M fun v24 =>
 adt n2 t1 t10 fun v27 =>
 iopK .rem .i64 (.k v27) (.k 295147905179352826117) zf I i fun v28 I i => tkk n2 v28 fun v29 =>
 sbt n2 295147905179352826085 v29 fun v30 =>
 shfK .shl .u8 .i64 (.k 38) (.k v30) zf I i fun v31 I i => tkk n2 v31 fun v32 =>
 iopK .or .u8 (.k v24) (.k v32) zf I i fun v33 I i => tkk n2 v33 fun v34 =>
 ia 1 v17 v22 fun v35 =>
 storeK 1 (.k v35) (.k v34) zf M m I i fun _ M m I i =>
 adt n2 t10 295147905179352825893 fun v36 =>
 j1 t1 t2 t3 t4 t9 v36 M m I i)
 (adt n2 t10 295147905179352825893 fun v38 =>
 j1 t1 t2 t3 t4 t9 v38 M m I i))
 (rtn 0 [] M m I i k)
def S196_2 (k : KF) (t1 t2 t3 t4 t9 t10 M m I i : Nat) : Res :=
 lp (S196_1 k) (fun _ _ _ _ _ _ _ _ _ _ => .bad 73 0) t1 t2 t3 t4 t9 t10 M m I i
def S196_3 (k : KF) (t1 t2 t3 t4 M m I i : Nat) : Res :=
 jn (S196_2 k) fun j40 =>
 j40 t1 t2 t3 t4 t3 295147905179352825861 M m I i
def F196 (c : Y) (t0 t1 t2 t3 M m I i : Nat) (k : KF) : Res :=
 jn (S196_3 k) fun j43 =>
 boxK 2 (.k t0) zf M m I i fun v44 M m I i =>
 j43 t1 t2 t3 v44 M m I i
def g196 (c : Y) : List Nat → Nat → Nat → Nat → Nat → KF → Res := unS fun t0 => unS fun t1 => unS fun t2 => unS fun t3 => un0 (F196 c t0 t1 t2 t3)
def S9_1 (c : Y) (k : KF) (t0 t6 t7 t9 M m I i : Nat) : Res :=
 jn (fun (t0 t6 t7 M m I i : Nat) =>
 fa 1 t7 fun v1 =>
 ld v1 M fun v2 =>
 callvS c (.k v2) [(.k t0), (.k t6)] zf M m I i fun v5 M m I i =>
 f1 19 0 v5 I fun v6 =>
 f1 19 1 v5 I fun v7 =>
 rtn 2 [v6, v7] M m I i k) fun j10 =>
 callS c 25 [(.k t9), (.str 1 110)] zf M m I i fun v12 M m I i =>
 cnd v12 (nilcK (.k t0) zf I i fun v14 I i =>
 fa 1 v14 fun v15 =>
 ld v15 M fun v16 =>
 ia 1 t6 295147905179352825861 fun v18 =>
 ld v18 M fun v19 =>
 lookK .str true true 2 871509787952055618708336279557 (.k v16) (.k v19) zf M I i fun v20 I i =>
 f1 19 0 v20 I fun v22 =>
 f1 19 1 v20 I fun v23 =>
 newK 2 871509787952055618708336279557 M m I i fun v24 M m I i =>
 storeK 2 (.k v24) (.k v22) zf M m I i fun _ M m I i =>
 notK (.k v23) zf I i fun v27 I i =>
 jn (fun (v36 M m I i : Nat) =>
 pk v27 v36 1 fun v37 =>
 cnd v37 (rtn 2 [12, 295147905179352826021] M m I i k)
 (j10 t0 t6 t7 M m I i))
 (fun j29 => gd v27 33 (nilcK (.k t0) zf I i fun v31 I i =>
 fa 1 v31 fun v32 =>
 ld v32 M fun v33 =>
 lenMW v33 M I i fun v34 I i =>
 ge 5 v34 295147905179352826821 fun v35 =>
 j29 v35 M m I i) (j29 0 M m I i)))
 (j10 t0 t6 t7 M m I i)
def S9_2 (k : KF) (j40 : X8) (n42 : Nat) (j41 : X11) (t0 t6 t7 t9 t66 t67 t68 M m I i : Nat) : Res :=
 lt 5 t68 t67 fun v43 =>
 cnd v43 (ia 1 t66 t68 fun v45 =>
 ld v45 M fun v46 =>
 nilcK (.k t0) zf I i fun v50 I i =>
 fa 1 v50 fun v51 =>
 ld v51 M fun v52 =>
 lookK .str true true 2 871509787952055618708336279557 (.k v52) (.k v46) zf M I i fun v54 I i =>
 f1 19 0 v54 I fun v56 =>
 f1 19 1 v54 I fun v57 =>
 newK 2 871509787952055618708336279557 M m I i fun v58 M m I i =>
 storeK 2 (.k v58) (.k v56) zf M m I i fun _ M m I i =>
 idxTK (.k t9) (.k t68) zf I i fun v62 I i =>
 eq 6 v62 3302 fun v63 =>
 jn (fun (v68 M m I i : Nat) =>
 pk v63 v68 1 fun v69 =>
 cnd v69 (rtn 2 [12, 295147905179352834213] M m I i k)
 (adt n42 t68 295147905179352825893 fun v72 =>
 j41 t0 t6 t7 t9 t66 t67 v72 M m I i))
 (fun j65 => gd v63 33 (notK (.k v57) zf I i fun v67 I i =>
 j65 v67 M m I i) (j65 0 M m I i)))
 (j40 t0 t6 t7 t9 M m I i)
def S9_3 (k : KF) (j40 : X8) (t0 t6 t7 t9 t66 t67 t68 M m I i : Nat) : Res :=
 lp (S9_2 k j40) (fun _ _ _ _ _ _ _ _ _ _ _ => .bad 73 0) t0 t6 t7 t9 t66 t67 t68 M m I i
def S9_4 (c : Y) (k : KF) (t0 t6 t7 t9 M m I i : Nat) : Res :=
 jn (S9_1 c k) fun j40 =>
 jn (S9_3 k j40) fun j74 =>
 ln t6 fun v76 =>
 j74 t0 t6 t7 t9 t6 v76 295147905179352825861 M m I i
def S9_5 (c : Y) (k : KF) (j78 : X8) (n80 : Nat) (j79 : X11) (t0 t6 t7 t9 t52 t53 t54 M m I i : Nat) : Res :=
 lt 5 t54 t53 fun v81 =>
 cnd v81 (ia 1 t52 t54 fun v83 =>
 ld v83 M fun v84 =>
 idxTK (.k t9) (.k t54) zf I i fun v89 I i =>
 c 24 [v89, v84] M m I i fun v91 M m I i =>
 notK (.k v91) zf I i fun v92 I i =>
 cnd v92 (rtn 2 [12, 295147905179352834181] M m I i k)
 (adt n80 t54 295147905179352825893 fun v95 =>
 j79 t0 t6 t7 t9 t52 t53 v95 M m I i))
 (j78 t0 t6 t7 t9 M m I i)
def S9_6 (c : Y) (k : KF) (j78 : X8) (t0 t6 t7 t9 t52 t53 t54 M m I i : Nat) : Res :=
 lp (S9_5 c k j78) (fun _ _ _ _ _ _ _ _ _ _ _ => .bad 73 0) t0 t6 t7 t9 t52 t53 t54 M m I i
def S9_7 (c : Y) (k : KF) (t0 t6 t7 t9 M m I i : Nat) : Res :=
 jn (S9_4 c k) fun j78 =>
 jn (S9_6 c k j78) fun j97 =>
 ln t6 fun v99 =>
 j97 t0 t6 t7 t9 t6 v99 295147905179352825861 M m I i
def S9_8 (c : Y) (k : KF) (t0 t6 t7 t9 M m I i : Nat) : Res :=
 jn (S9_7 c k) fun j101 =>
 lenTK (.k t9) zf I i fun v103 I i =>
 ln t6 fun v105 =>
 ne 5 v103 v105 fun v106 =>
 cnd v106 (rtn 2 [12, 295147905179352834181] M m I i k)
 (j101 t0 t6 t7 t9 M m I i)
def S9_9 (c : Y) (k : KF) (t0 t6 t7 M m I i : Nat) : Res :=
 jn (S9_8 c k) fun j109 =>
 fa 0 t7 fun v110 =>
 ld v110 M fun v111 =>
 ln t6 fun v113 =>
 c 23 [v111, v113] M m I i fun v114 M m I i =>
 j109 t0 t6 t7 v114 M m I i
def S9_10 (c : Y) (k : KF) (t0 t6 t7 t8 M m I i : Nat) : Res :=
 jn (S9_9 c k) fun j116 =>
 notK (.k t8) zf I i fun v118 I i =>
 cnd v118 (rtn 2 [12, 295147905179352834181] M m I i k)
 (j116 t0 t6 t7 M m I i)
def S9_11 (c : Y) (k : KF) (t0 t6 t7 t8 M m I i : Nat) : Res :=
 jn (S9_10 c k) fun j121 =>
 slcK 1 (.k t6) (some (.k 295147905179352825893)) none none zf I i fun v123 I i =>
 j121 t0 v123 t7 t8 M m I i
def S9_12 (c : Y) (k : KF) (t0 t6 M m I i : Nat) : Res :=
 jn (S9_11 c k) fun j125 =>
 ia 1 t6 295147905179352825861 fun v127 =>
 ld v127 M fun v128 =>
 newK 2 1188422437713965063903159255052 M m I i fun v129 M m I i =>
 c 22 [] M m I i fun v131 M130 m I i =>
 flL v127 1 M M130 <| 
 lookK .str true true 2 1188422437713965063903159255052 (.k v131) (.k v128) zf M130 I i fun v132 I i =>
 f1 19 0 v132 I fun v134 =>
 f1 19 1 v132 I fun v135 =>
 storeK 2 (.k v129) (.k v134) zf M130 m I i fun _ M m I i =>
 j125 t0 t6 v129 v135 M m I i
def S9_13 (c : Y) (k : KF) (t0 t1 M m I i : Nat) : Res :=
 jn (S9_12 c k) fun j137 =>
 callS c 21 [(.k t1), (.str 1 32)] zf M m I i fun v139 M m I i =>
 j137 t0 v139 M m I i
def S9_14 (c : Y) (k : KF) (t0 t1 M m I i : Nat) : Res :=
 jn (S9_13 c k) fun j141 =>
 nilqK false 10 10 (.k t0) zf I i fun v143 I i =>
 jn (fun (v152 M m I i : Nat) =>
 pk v143 33 v152 fun v153 =>
 cnd v153 (rtn 2 [12, 295147905179352825893] M m I i k)
 (j141 t0 t1 M m I i))
 (fun j145 => gd v143 1 (nilcK (.k t0) zf I i fun v147 I i =>
 fa 0 v147 fun v148 =>
 ld v148 M fun v149 =>
 peqK true (.k v149) (.k t0) zf I i fun v151 I i =>
 j145 v151 M m I i) (j145 0 M m I i))
def F9 (c : Y) (t0 t1 M m I i : Nat) (k : KF) : Res :=
 jn (S9_14 c k) fun j156 =>
 j156 t0 t1 M m I i
def g9 (c : Y) : List Nat → Nat → Nat → Nat → Nat → KF → Res := unS fun t0 => unS fun t1 => un0 (F9 c t0 t1)
def S130_1 (j3 : X5) (n5 : Nat) (j4 : X10) (t5 t6 t7 t65 t66 t67 M m I i : Nat) : Res :=
 lt 5 t67 t66 fun v6 =>
 cnd v6 (ia 2 t65 t67 fun v7 =>
 loadNK 2 (.k v7) zf M I i fun v8 I i =>
 newK 2 23384026197294446691655098136326997907641993265157 M m I i fun v9 M m I i =>
 storeK 2 (.k v9) (.k v8) zf M m I i fun _ M m I i =>
 iadrAK 2 1 (.k v9) (.k 295147905179352825861) zf I i fun v12 I i =>
 ld v12 M fun v13 =>
 ia 1 t6 v13 fun v14 =>
 ld v14 M fun v15 =>
 ia 4 t5 v15 fun v16 =>
 nilcK (.k v16) zf I i fun v20 I i =>
 fa 1 v20 fun v21 =>
 fa 1 v21 fun v22 =>
 ld v22 M fun v23 =>
 iadrAK 2 1 (.k v9) (.k 295147905179352825861) zf I i fun v25 I i =>
 ld v25 M fun v26 =>
 lookW (.word 5) false false 1 295147905179352825861 t7 v26 M I i fun v27 I i =>
 iadrAK 2 1 (.k v9) (.k 295147905179352825893) zf I i fun v29 I i =>
 ld v29 M fun v30 =>
 lookW (.word 5) false false 1 295147905179352825861 t7 v30 M I i fun v31 I i =>
 buildK 2 23384026197294446691655098136326997907641993265157 [(0, 1, (.k v27)), (1, 1, (.k v31))] zf I i fun v32 I i =>
 bldSK 1 2 23384026197294446691655098136326997907641993265157 [(0, 2, (.k v32))] zf M m I i fun v33 M m I i =>
 appW 2 v23 v33 M m I i fun v34 M m I i =>
 nilcK (.k v16) zf I i fun v35 I i =>
 fa 1 v35 fun v36 =>
 fa 1 v36 fun v37 =>
 storeK 1 (.k v37) (.k v34) zf M m I i fun _ M m I i =>
 adt n5 t67 295147905179352825893 fun v38 =>
 j4 t5 t6 t7 t65 t66 v38 M m I i)
 (j3 t5 M m I i)
def S130_2 (j3 : X5) (t5 t6 t7 t65 t66 t67 M m I i : Nat) : Res :=
 lp (S130_1 j3) (fun _ _ _ _ _ _ _ _ _ _ => .bad 73 0) t5 t6 t7 t65 t66 t67 M m I i
def S130_3 (k : KF) (t2 t5 t6 t7 M m I i : Nat) : Res :=
 jn (fun (t5 M m I i : Nat) =>
 k t5 M m I i) fun j3 =>
 jn (S130_2 j3) fun j40 =>
 fa 1 t2 fun v41 =>
 ld v41 M fun v42 =>
 ln v42 fun v43 =>
 j40 t5 t6 t7 v42 v43 295147905179352825861 M m I i
def S130_4 (j56 : X13) (n58 : Nat) (j57 : X17) (t1 t2 t5 t6 t7 t8 t10 t23 t24 t25 t35 t36 t37 M m I i : Nat) : Res :=
 lt 5 t37 t36 fun v59 =>
 cnd v59 (ia 1 t35 t37 fun v61 =>
 ld v61 M fun v62 =>
 ia 1 t6 v62 fun v71 =>
 storeK 1 (.k v71) (.k t8) zf M m I i fun _ M m I i =>
 updW (.word 5) t7 v62 t37 M m I i fun _ M m I i =>
 fa 3 t10 fun v72 =>
 ld v72 M fun v73 =>
 ia 1 t1 v62 fun v76 =>
 ld v76 M fun v77 =>
 bldSK 1 1 295147905179352825861 [(0, 1, (.k v77))] zf M m I i fun v78 M m I i =>
 appW 1 v73 v78 M m I i fun v79 M m I i =>
 fa 3 t10 fun v80 =>
 storeK 1 (.k v80) (.k v79) zf M m I i fun _ M m I i =>
 adt n58 t37 295147905179352825893 fun v81 =>
 j57 t1 t2 t5 t6 t7 t8 t10 t23 t24 t25 t35 t36 v81 M m I i)
 (j56 t1 t2 t5 t6 t7 t10 t23 t24 t25 M m I i)
def S130_5 (j56 : X13) (t1 t2 t5 t6 t7 t8 t10 t23 t24 t25 t35 t36 t37 M m I i : Nat) : Res :=
 lp (S130_4 j56) (fun _ _ _ _ _ _ _ _ _ _ _ _ _ _ _ _ _ => .bad 73 0) t1 t2 t5 t6 t7 t8 t10 t23 t24 t25 t35 t36 t37 M m I i
def S130_6 (j50 : X12) (t1 t2 t5 t6 t7 t8 t9 t10 t23 t24 t25 M m I i : Nat) : Res :=
 jn (fun (t1 t2 t5 t6 t7 t10 t23 t24 t25 M m I i : Nat) =>
 loadNK 4 (.k t10) zf M I i fun v52 I i =>
 bldSK 1 4 5470555600507653063709204729684077360217655173370313022192043174537912227029434150944779 [(0, 4, (.k v52))] zf M m I i fun v53 M m I i =>
 appW 4 t5 v53 M m I i fun v54 M m I i =>
 j50 t1 t2 v54 t6 t7 t23 t24 t25 M m I i) fun j56 =>
 jn (S130_5 j56) fun j83 =>
 ln t9 fun v85 =>
 j83 t1 t2 t5 t6 t7 t8 t10 t23 t24 t25 t9 v85 295147905179352825861 M m I i
def S130_7 (j50 : X12) (t1 t2 t5 t6 t7 t8 t9 t23 t24 t25 M m I i : Nat) : Res :=
 jn (S130_6 j50) fun j87 =>
 ln t9 fun v90 =>
 buildK 2 871509787952055618708336279557 [(0, 1, (.k v90))] zf I i fun v91 I i =>
 buildK 4 5470555600507653063709204729684077360217655173370313022192043174537912227029434150944779 [(0, 1, (.k t9)), (1, 2, (.k v91))] zf I i fun v92 I i =>
 newK 4 5470555600507653063709204729684077360217655173370313022192043174537912227029434150944779 M m I i fun v93 M m I i =>
 storeK 4 (.k v93) (.k v92) zf M m I i fun _ M m I i =>
 j87 t1 t2 t5 t6 t7 t8 t9 v93 t23 t24 t25 M m I i
def S130_8 (n47 : Nat) (j46 : X12) (t1 t2 t5 t6 t7 t23 t24 t25 M m I i : Nat) : Res :=
 jn (fun (t1 t2 t5 t6 t7 t23 t24 t25 M m I i : Nat) =>
 adt n47 t25 295147905179352825893 fun v48 =>
 j46 t1 t2 t5 t6 t7 t23 t24 v48 M m I i) fun j50 =>
 jn (S130_7 j50) fun j94 =>
 ia 1 t23 t25 fun v96 =>
 ld v96 M fun v97 =>
 j94 t1 t2 t5 t6 t7 t25 v97 t23 t24 t25 M m I i
def S130_9 (j45 : X8) (n47 : Nat) (j46 : X12) (t1 t2 t5 t6 t7 t23 t24 t25 t26 M m I i : Nat) : Res :=
 jn (S130_8 n47 j46) fun j100 =>
 cnd t26 (j100 t1 t2 t5 t6 t7 t23 t24 t25 M m I i)
 (j45 t2 t5 t6 t7 M m I i)
def S130_10 (j45 : X8) (n47 : Nat) (j46 : X12) (t1 t2 t5 t6 t7 t23 t24 t25 M m I i : Nat) : Res :=
 jn (S130_9 j45 n47 j46) fun j101 =>
 lt 5 t25 t24 fun v102 =>
 j101 t1 t2 t5 t6 t7 t23 t24 t25 v102 M m I i
def S130_11 (j45 : X8) (t1 t2 t5 t6 t7 t23 t24 t25 M m I i : Nat) : Res :=
 lp (S130_10 j45) (fun _ _ _ _ _ _ _ _ _ _ _ _ => .bad 73 0) t1 t2 t5 t6 t7 t23 t24 t25 M m I i
def S130_12 (c : Y) (k : KF) (t1 t2 t5 t6 t7 M m I i : Nat) : Res :=
 jn (S130_3 k) fun j45 =>
 jn (S130_11 j45) fun j103 =>
 loadNK 2 (.k t2) zf M I i fun v104 I i =>
 c 95 [v104] M m I i fun v105 M m I i =>
 ln v105 fun v106 =>
 j103 t1 t2 t5 t6 t7 v105 v106 295147905179352825861 M m I i
def S130_13 (c : Y) (k : KF) (t1 t2 t5 t6 M m I i : Nat) : Res :=
 jn (S130_12 c k) fun j108 =>
 fa 0 t2 fun v109 =>
 ld v109 M fun v110 =>
 mkMapHK (.k v110) zf M m I i fun v111 M m I i =>
 j108 t1 t2 t5 t6 v111 M m I i
def S130_14 (c : Y) (k : KF) (t1 t2 t5 M m I i : Nat) : Res :=
 jn (S130_13 c k) fun j113 =>
 fa 0 t2 fun v114 =>
 ld v114 M fun v115 =>
 mkSlK 1 295147905179352825861 (.k v115) (.k v115) zf M m I i fun v116 M m I i =>
 j113 t1 t2 t5 v116 M m I i
def S130_15 (c : Y) (k : KF) (t1 t2 M m I i : Nat) : Res :=
 jn (S130_14 c k) fun j118 =>
 j118 t1 t2 11 M m I i
def F130 (c : Y) (t0 t1 M m I i : Nat) (k : KF) : Res :=
 jn (S130_15 c k) fun j120 =>
 boxK 2 (.k t0) zf M m I i fun v121 M m I i =>
 j120 t1 v121 M m I i
def g130 (c : Y) : List Nat → Nat → Nat → Nat → Nat → KF → Res := unS fun t0 => unS fun t1 => un0 (F130 c t0 t1)
def S352_1 (c : Y) (k : KF) (n4 : Nat) (j7 : X8) (t0 t3 t4 t8 t9 t10 M m I i : Nat) : Res :=
 fa 0 t4 fun v8 =>
 ld v8 M fun v9 =>
 lt 5 v9 295147905179352825861 fun v10 =>
 jn (fun (v18 : Nat) =>
 pk v10 33 v18 fun v19 =>
 jn (fun (v25 : Nat) =>
 pk v19 33 v25 fun v26 =>
 jn (fun (v32 : Nat) =>
 pk v26 33 v32 fun v33 =>
 jn (fun (v39 : Nat) =>
 pk v33 33 v39 fun v40 =>
 cnd v40 (k 1 M m I i)
 (lt 5 295147905179352825861 t3 fun v43 =>
 jn (fun (v54 M m I i : Nat) =>
 pk v43 v54 1 fun v55 =>
 cnd v55 (k 1 M m I i)
 (j7 t0 t8 t9 t10 M m I i))
 (fun j45 => gd v43 33 (sbt n4 t3 295147905179352825893 fun v48 =>
 ia 3 t0 v48 fun v49 =>
 loadNK 3 (.k v49) zf M I i fun v50 I i =>
 loadNK 3 (.k t4) zf M I i fun v51 I i =>
 c 374 [v50, v51] M m I i fun v52 M m I i =>
 ge 5 v52 295147905179352825861 fun v53 =>
 j45 v53 M m I i) (j45 0 M m I i))))
 (fun j35 => gd v33 1 (fa 2 t4 fun v36 =>
 ld v36 M fun v37 =>
 lt 5 295147905179386380293 v37 fun v38 =>
 j35 v38) (j35 0)))
 (fun j28 => gd v26 1 (fa 2 t4 fun v29 =>
 ld v29 M fun v30 =>
 lt 5 v30 295147905179352825861 fun v31 =>
 j28 v31) (j28 0)))
 (fun j21 => gd v19 1 (fa 1 t4 fun v22 =>
 ld v22 M fun v23 =>
 ge 5 v23 295147905179386380293 fun v24 =>
 j21 v24) (j21 0)))
 (fun j12 => gd v10 1 (fa 0 t4 fun v13 =>
 ld v13 M fun v14 =>
 fa 1 t4 fun v15 =>
 ld v15 M fun v16 =>
 ge 5 v14 v16 fun v17 =>
 j12 v17) (j12 0))
def S352_2 (c : Y) (k : KF) (n4 : Nat) (j3 : X8) (t0 t8 t9 t10 M m I i : Nat) : Res :=
 jn (fun (t0 t8 t9 t10 M m I i : Nat) =>
 adt n4 t10 295147905179352825893 fun v5 =>
 j3 t0 t8 t9 v5 M m I i) fun j7 =>
 jn (S352_1 c k n4 j7) fun j57 =>
 ia 3 t8 t10 fun v59 =>
 loadNK 3 (.k v59) zf M I i fun v60 I i =>
 newK 3 1852673427797059126808521268839323955668793148457942454848160119256572240068613 M m I i fun v61 M m I i =>
 storeK 3 (.k v61) (.k v60) zf M m I i fun _ M m I i =>
 j57 t0 t10 v61 t8 t9 t10 M m I i
def S352_3 (c : Y) (k : KF) (j2 : X4) (n4 : Nat) (j3 : X8) (t0 t8 t9 t10 t11 M m I i : Nat) : Res :=
 jn (S352_2 c k n4 j3) fun j63 =>
 cnd t11 (j63 t0 t8 t9 t10 M m I i)
 (j2 M m I i)
def S352_4 (c : Y) (k : KF) (j2 : X4) (n4 : Nat) (j3 : X8) (t0 t8 t9 t10 M m I i : Nat) : Res :=
 jn (S352_3 c k j2 n4 j3) fun j64 =>
 lt 5 t10 t9 fun v65 =>
 j64 t0 t8 t9 t10 v65 M m I i
def S352_5 (c : Y) (k : KF) (j2 : X4) (t0 t8 t9 t10 M m I i : Nat) : Res :=
 lp (S352_4 c k j2) (fun _ _ _ _ _ _ _ _ => .bad 73 0) t0 t8 t9 t10 M m I i
def S352_6 (c : Y) (k : KF) (t0 M m I i : Nat) : Res :=
 jn (fun (M m I i : Nat) =>
 k 33 M m I i) fun j2 =>
 jn (S352_5 c k j2) fun j66 =>
 ln t0 fun v68 =>
 j66 t0 t0 v68 295147905179352825861 M m I i
def S352_7 (c : Y) (k : KF) (t0 M m I i : Nat) : Res :=
 jn (S352_6 c k) fun j70 =>
 ln t0 fun v72 =>
 lt 5 295147905179352857861 v72 fun v73 =>
 cnd v73 (k 1 M m I i)
 (j70 t0 M m I i)
def F352 (c : Y) (t0 M m I i : Nat) (k : KF) : Res :=
 jn (S352_7 c k) fun j75 =>
 j75 t0 M m I i
def g352 (c : Y) : List Nat → Nat → Nat → Nat → Nat → KF → Res := unS fun t0 => un0 (F352 c t0)
def S235_1 (c : Y) (j6 : X9) (n8 : Nat) (j7 : X10) (t0 t1 t2 t3 t8 t9 M m I i : Nat) : Res :=
 lt 5 t1 t9 fun v11 =>
 jn (fun (v26 M m I i : Nat) =>
 pk v11 v26 1 fun v27 =>
 cnd v27 (sbt n8 t9 295147905179352825893 fun v32 =>
 sbt n8 t9 295147905179352825893 fun v35 =>
 ia 1 t0 v35 fun v36 =>
 ld v36 M fun v37 =>
 ia 1 t0 t9 fun v40 =>
 ld v40 M fun v41 =>
 ia 1 t0 t9 fun v42 =>
 storeK 1 (.k v42) (.k v37) zf M m I i fun _ M m I i =>
 ia 1 t0 v32 fun v43 =>
 storeK 1 (.k v43) (.k v41) zf M m I i fun _ M m I i =>
 sbt n8 t9 295147905179352825893 fun v45 =>
 j7 t0 t1 t2 t3 t8 v45 M m I i)
 (j6 t0 t1 t2 t3 t8 M m I i))
 (fun j13 => gd v11 33 (ia 1 t0 t9 fun v17 =>
 ld v17 M fun v18 =>
 sbt n8 t9 295147905179352825893 fun v21 =>
 ia 1 t0 v21 fun v22 =>
 ld v22 M fun v23 =>
 callvS c (.k t3) [(.k v18), (.k v23)] zf M m I i fun v24 M m I i =>
 lt 5 v24 295147905179352825861 fun v25 =>
 j13 v25 M m I i) (j13 0 M m I i))
def S235_2 (c : Y) (j6 : X9) (t0 t1 t2 t3 t8 t9 M m I i : Nat) : Res :=
 lp (S235_1 c j6) (fun _ _ _ _ _ _ _ _ _ _ => .bad 73 0) t0 t1 t2 t3 t8 t9 M m I i
def S235_3 (c : Y) (n2 : Nat) (j1 : X9) (t0 t1 t2 t3 t8 M m I i : Nat) : Res :=
 jn (fun (t0 t1 t2 t3 t8 M m I i : Nat) =>
 adt n2 t8 295147905179352825893 fun v4 =>
 j1 t0 t1 t2 t3 v4 M m I i) fun j6 =>
 jn (S235_2 c j6) fun j47 =>
 j47 t0 t1 t2 t3 t8 t8 M m I i
def S235_4 (c : Y) (k : KF) (n2 : Nat) (j1 : X9) (t0 t1 t2 t3 t8 M m I i : Nat) : Res :=
 jn (S235_3 c n2 j1) fun j50 =>
 lt 5 t8 t2 fun v53 =>
 cnd v53 (j50 t0 t1 t2 t3 t8 M m I i)
 (rtn 0 [] M m I i k)
def S235_5 (c : Y) (k : KF) (t0 t1 t2 t3 t8 M m I i : Nat) : Res :=
 lp (S235_4 c k) (fun _ _ _ _ _ _ _ _ _ => .bad 73 0) t0 t1 t2 t3 t8 M m I i
def F235 (c : Y) (t0 t1 t2 t3 M m I i : Nat) (k : KF) : Res :=
 jn (S235_5 c k) fun j54 =>
 ad t1 295147905179352825893 fun v56 =>
 j54 t0 t1 t2 t3 v56 M m I i
def g235 (c : Y) : List Nat → Nat → Nat → Nat → Nat → KF → Res := unS fun t0 => unS fun t1 => unS fun t2 => unS fun t3 => un0 (F235 c t0 t1 t2 t3)
def F194 (c : Y) (t0 M m I i : Nat) (k : KF) : Res :=
 boxK 2 (.k t0) zf M m I i fun v1 M m I i =>
 fa 1 v1 fun v3 =>
 ld v3 M fun v4 =>
 lt 5 v4 295147905179352825861 fun v5 =>
 jn (fun (v11 : Nat) =>
 pk v5 33 v11 fun v12 =>
 jn (fun (v20 v21 v22 : Nat) =>
 jn (fun (v26 M25 m I i : Nat) =>
 flG v12 1 (flL v20 1 M M25) <| 
 jn (fun (v29 : Nat) =>
 pk v12 33 v29 fun v30 =>
 cnd v30 (k 1 M25 m I i)
 (fa 1 v1 fun v32 =>
 ld v32 M25 fun v33 =>
 iopK .rem .i64 (.k v33) (.k 295147905179352826117) zf I i fun v34 I i =>
 ne 5 v34 295147905179352825861 fun v37 =>
 cnd v37 (fa 0 v1 fun v38 =>
 ld v38 M25 fun v39 =>
 fa 0 v1 fun v40 =>
 ld v40 M25 fun v41 =>
 ln v41 fun v42 =>
 sb v42 295147905179352825893 fun v43 =>
 ia 1 v39 v43 fun v44 =>
 ld v44 M25 fun v45 =>
 shfK .shl .u8 .i64 (.k v45) (.k v34) zf I i fun v47 I i =>
 eq 6 v47 6 fun v48 =>
 k v48 M25 m I i)
 (k 33 M25 m I i)))
 (fun j27 => gd v12 1 (ne 5 v21 v26 fun v28 =>
 j27 v28) (j27 0)))
 (fun j23 => gd v12 1 (c 225 [v22] M m I i fun v24 M m I i => j23 v24 M m I i) (j23 0 M m I i)))
 (fun j14 => gd v12 1 (fa 0 v1 fun v15 =>
 ld v15 M fun v16 =>
 ln v16 fun v17 =>
 fa 1 v1 fun v18 =>
 ld v18 M fun v19 =>
 j14 v15 v17 v19) (j14 0 0 0)))
 (fun j7 => gd v5 1 (fa 1 v1 fun v8 =>
 ld v8 M fun v9 =>
 lt 5 295147905179487043589 v9 fun v10 =>
 j7 v10) (j7 0))
def g194 (c : Y) : List Nat → Nat → Nat → Nat → Nat → KF → Res := unS fun t0 => un0 (F194 c t0)
def S337_1 (c : Y) (k : KF) (n2 : Nat) (j1 : X9) (t0 t1 t28 t29 t30 M m I i : Nat) : Res :=
 lt 5 t30 t29 fun v3 =>
 cnd v3 (ia 1 t28 t30 fun v4 =>
 ld v4 M fun v5 =>
 nilcK (.k t1) zf I i fun v8 I i =>
 fa 8 v8 fun v9 =>
 ld v9 M fun v10 =>
 lookW (.word 5) true false 1 295147905179352825861 v10 v5 M I i fun v12 I i =>
 f1 19 0 v12 I fun v14 =>
 f1 19 1 v12 I fun v15 =>
 jn (fun (v33 M m I i : Nat) =>
 pk v15 v33 1 fun v34 =>
 cnd v34 (nilcK (.k t1) zf I i fun v36 I i =>
 fa 0 v36 fun v37 =>
 ld v37 M fun v38 =>
 ia 1 v38 v14 fun v40 =>
 ld v40 M fun v41 =>
 invS Go.Proofs.Tryz.prog c "fretwork/bough.visit" (.k v41) [(.k t1)] zf M m I i fun v43 M m I i =>
 adt n2 t30 295147905179352825893 fun v44 =>
 j1 t0 t1 t28 t29 v44 M m I i)
 (adt n2 t30 295147905179352825893 fun v46 =>
 j1 t0 t1 t28 t29 v46 M m I i))
 (fun j20 => gd v15 33 (nilcK (.k t1) zf I i fun v23 I i =>
 fa 3 v23 fun v24 =>
 ld v24 M fun v25 =>
 nilcK (.k t0) zf I i fun v27 I i =>
 fa 0 v27 fun v28 =>
 ld v28 M fun v29 =>
 ia 1 v25 v29 fun v30 =>
 ld v30 M fun v31 =>
 ne 5 v14 v31 fun v32 =>
 j20 v32 M m I i) (j20 0 M m I i)))
 (rtn 0 [] M m I i k)
def S337_2 (c : Y) (k : KF) (t0 t1 t28 t29 t30 M m I i : Nat) : Res :=
 lp (S337_1 c k) (fun _ _ _ _ _ _ _ _ _ => .bad 73 0) t0 t1 t28 t29 t30 M m I i
def S337_3 (c : Y) (k : KF) (t0 t1 M m I i : Nat) : Res :=
 jn (S337_2 c k) fun j48 =>
 nilcK (.k t0) zf I i fun v50 I i =>
 fa 3 v50 fun v51 =>
 fa 1 v51 fun v52 =>
 ld v52 M fun v53 =>
 ln v53 fun v54 =>
 j48 t0 t1 v53 v54 295147905179352825861 M m I i
def F337 (c : Y) (t0 t1 M m I i : Nat) (k : KF) : Res :=
 jn (S337_3 c k) fun j56 =>
 jn (fun (t0 t1 t14 t15 t16 M m I i : Nat) =>
 lp (fun (n58 : Nat) (j57 : X9) (t0 t1 t14 t15 t16 M m I i : Nat) =>
 lt 5 t16 t15 fun v59 =>
 cnd v59 (ia 1 t14 t16 fun v60 =>
 ld v60 M fun v61 =>
 c 339 [t1, v61] M m I i fun v65 M m I i =>
 adt n58 t16 295147905179352825893 fun v66 =>
 j57 t0 t1 t14 t15 v66 M m I i)
 (j56 t0 t1 M m I i)) (fun _ _ _ _ _ _ _ _ _ => .bad 73 0) t0 t1 t14 t15 t16 M m I i) fun j68 =>
 nilcK (.k t0) zf I i fun v70 I i =>
 fa 3 v70 fun v71 =>
 fa 1 v71 fun v72 =>
 ld v72 M fun v73 =>
 ln v73 fun v74 =>
 j68 t0 t1 v73 v74 295147905179352825861 M m I i
def g337 (c : Y) : List Nat → Nat → Nat → Nat → Nat → KF → Res := unS fun t0 => unS fun t1 => un0 (F337 c t0 t1)
def S14_1 (k : KF) (j13 : X11) (t0 t4 t6 t7 t8 t10 t28 t29 t30 M m I i : Nat) : Res :=
 iadrAK 2 1 (.k t10) (.k 295147905179352825861) zf I i fun v14 I i =>
 ld v14 M fun v15 =>
 lt 5 v15 295147905179352825861 fun v16 =>
 jn (fun (v24 M m I i : Nat) =>
 pk v16 33 v24 fun v25 =>
 jn (fun (v32 M m I i : Nat) =>
 pk v25 33 v32 fun v33 =>
 cnd v33 (buildK 2 871509787952055618708336279557 [] zf I i fun v34 I i =>
 storeK 2 (.k t4) (.k v34) zf M m I i fun _ M m I i =>
 loadNK 2 (.k t4) zf M I i fun v36 I i => rtn 2 [v36, 295147905179352826501] M m I i k)
 (loadNK 2 (.k t10) zf M I i fun v38 I i =>
 lookW (.row 2 5) true false 1 295147905179352825861 t6 v38 M I i fun v39 I i =>
 f1 19 0 v39 I fun v41 =>
 f1 19 1 v39 I fun v42 =>
 cnd v42 (buildK 2 871509787952055618708336279557 [] zf I i fun v46 I i =>
 storeK 2 (.k t4) (.k v46) zf M m I i fun _ M m I i =>
 loadNK 2 (.k t4) zf M I i fun v48 I i => rtn 2 [v48, 295147905179352826501] M m I i k)
 (loadNK 2 (.k t10) zf M I i fun v50 I i =>
 updW (.row 2 5) t6 v50 t8 M m I i fun _ M m I i =>
 loadNK 2 (.k t10) zf M I i fun v53 I i =>
 bldSK 1 2 23384026197294446691655098136326997907641993265157 [(0, 2, (.k v53))] zf M m I i fun v54 M m I i =>
 appW 2 t7 v54 M m I i fun v55 M m I i =>
 j13 t0 t4 t6 v55 t28 t29 t30 M m I i)))
 (fun j27 => gd v25 1 (iadrAK 2 1 (.k t10) (.k 295147905179352825893) zf I i fun v28 I i =>
 ld v28 M fun v29 =>
 ge 5 v29 t0 fun v31 =>
 j27 v31 M m I i) (j27 0 M m I i)))
 (fun j18 => gd v16 1 (iadrAK 2 1 (.k t10) (.k 295147905179352825861) zf I i fun v19 I i =>
 ld v19 M fun v20 =>
 iadrAK 2 1 (.k t10) (.k 295147905179352825893) zf I i fun v21 I i =>
 ld v21 M fun v22 =>
 eq 5 v20 v22 fun v23 =>
 j18 v23 M m I i) (j18 0 M m I i))
def S14_2 (k : KF) (j13 : X11) (t0 t4 t6 t7 t8 t9 t28 t29 t30 M m I i : Nat) : Res :=
 jn (S14_1 k j13) fun j57 =>
 iadrAK 2 1 (.k t9) (.k 295147905179352825861) zf I i fun v58 I i =>
 ld v58 M fun v59 =>
 iadrAK 2 1 (.k t9) (.k 295147905179352825893) zf I i fun v60 I i =>
 ld v60 M fun v61 =>
 minK false 5 (.k v59) (.k v61) zf I i fun v62 I i =>
 iadrAK 2 1 (.k t9) (.k 295147905179352825861) zf I i fun v63 I i =>
 ld v63 M fun v64 =>
 iadrAK 2 1 (.k t9) (.k 295147905179352825893) zf I i fun v65 I i =>
 ld v65 M fun v66 =>
 minK true 5 (.k v64) (.k v66) zf I i fun v67 I i =>
 buildK 2 23384026197294446691655098136326997907641993265157 [(0, 1, (.k v62)), (1, 1, (.k v67))] zf I i fun v68 I i =>
 newK 2 23384026197294446691655098136326997907641993265157 M m I i fun v69 M m I i =>
 storeK 2 (.k v69) (.k v68) zf M m I i fun _ M m I i =>
 j57 t0 t4 t6 t7 t8 v69 t28 t29 t30 M m I i
def S14_3 (k : KF) (n10 : Nat) (j9 : X11) (t0 t4 t6 t7 t28 t29 t30 M m I i : Nat) : Res :=
 jn (fun (t0 t4 t6 t7 t28 t29 t30 M m I i : Nat) =>
 adt n10 t30 295147905179352825893 fun v11 =>
 j9 t0 t4 t6 t7 t28 t29 v11 M m I i) fun j13 =>
 jn (S14_2 k j13) fun j70 =>
 ia 2 t28 t30 fun v72 =>
 loadNK 2 (.k v72) zf M I i fun v73 I i =>
 newK 2 23384026197294446691655098136326997907641993265157 M m I i fun v74 M m I i =>
 storeK 2 (.k v74) (.k v73) zf M m I i fun _ M m I i =>
 j70 t0 t4 t6 t7 t30 v74 t28 t29 t30 M m I i
def S14_4 (k : KF) (j8 : X7) (n10 : Nat) (j9 : X11) (t0 t4 t6 t7 t28 t29 t30 t31 M m I i : Nat) : Res :=
 jn (S14_3 k n10 j9) fun j76 =>
 cnd t31 (j76 t0 t4 t6 t7 t28 t29 t30 M m I i)
 (j8 t0 t4 t7 M m I i)
def S14_5 (k : KF) (j8 : X7) (n10 : Nat) (j9 : X11) (t0 t4 t6 t7 t28 t29 t30 M m I i : Nat) : Res :=
 jn (S14_4 k j8 n10 j9) fun j77 =>
 lt 5 t30 t29 fun v78 =>
 j77 t0 t4 t6 t7 t28 t29 t30 v78 M m I i
def S14_6 (k : KF) (j8 : X7) (t0 t4 t6 t7 t28 t29 t30 M m I i : Nat) : Res :=
 lp (S14_5 k j8) (fun _ _ _ _ _ _ _ _ _ _ _ => .bad 73 0) t0 t4 t6 t7 t28 t29 t30 M m I i
def S14_7 (c : Y) (k : KF) (t0 t1 t4 t6 t7 M m I i : Nat) : Res :=
 jn (fun (t0 t4 t7 M m I i : Nat) =>
 c 35 [t7, 1166] M m I i fun v2 M m I i =>
 buildK 2 871509787952055618708336279557 [(0, 1, (.k t0)), (1, 1, (.k t7))] zf I i fun v5 I i =>
 storeK 2 (.k t4) (.k v5) zf M m I i fun _ M m I i =>
 loadNK 2 (.k t4) zf M I i fun v7 I i => rtn 2 [v7, 295147905179352825861] M m I i k) fun j8 =>
 jn (S14_6 k j8) fun j79 =>
 ln t1 fun v81 =>
 j79 t0 t4 t6 t7 t1 v81 295147905179352825861 M m I i
def S14_8 (c : Y) (k : KF) (t0 t1 t4 t6 M m I i : Nat) : Res :=
 jn (S14_7 c k) fun j83 =>
 ln t1 fun v85 =>
 mkSlK 2 23384026197294446691655098136326997907641993265157 (.k 295147905179352825861) (.k v85) zf M m I i fun v86 M m I i =>
 j83 t0 t1 t4 t6 v86 M m I i
def S14_9 (c : Y) (k : KF) (t0 t1 t4 M m I i : Nat) : Res :=
 jn (S14_8 c k) fun j88 =>
 mkMapK M m I i fun v89 M m I i =>
 j88 t0 t1 t4 v89 M m I i
def S14_10 (c : Y) (k : KF) (t0 t1 t4 M m I i : Nat) : Res :=
 jn (S14_9 c k) fun j91 =>
 lt 5 t0 295147905179352825861 fun v93 =>
 cnd v93 (buildK 2 871509787952055618708336279557 [] zf I i fun v94 I i =>
 storeK 2 (.k t4) (.k v94) zf M m I i fun _ M m I i =>
 loadNK 2 (.k t4) zf M I i fun v96 I i => rtn 2 [v96, 295147905179352826501] M m I i k)
 (j91 t0 t1 t4 M m I i)
def S14_11 (c : Y) (k : KF) (t0 t1 t4 M m I i : Nat) : Res :=
 jn (S14_10 c k) fun j97 =>
 lt 5 295147905179352832261 t0 fun v99 =>
 jn (fun (v105 : Nat) =>
 pk v99 33 v105 fun v106 =>
 cnd v106 (buildK 2 871509787952055618708336279557 [] zf I i fun v107 I i =>
 storeK 2 (.k t4) (.k v107) zf M m I i fun _ M m I i =>
 loadNK 2 (.k t4) zf M I i fun v109 I i => rtn 2 [v109, 295147905179352826533] M m I i k)
 (j97 t0 t1 t4 M m I i))
 (fun j101 => gd v99 1 (ln t1 fun v103 =>
 lt 5 295147905179352844869 v103 fun v104 =>
 j101 v104) (j101 0))
def F14 (c : Y) (t0 t1 M m I i : Nat) (k : KF) : Res :=
 jn (S14_11 c k) fun j110 =>
 newK 2 871509787952055618708336279557 M m I i fun v111 M m I i =>
 j110 t0 t1 v111 M m I i
def g14 (c : Y) : List Nat → Nat → Nat → Nat → Nat → KF → Res := unS fun t0 => unS fun t1 => un0 (F14 c t0 t1)
def S219_1 (j12 : X12) (n14 : Nat) (j13 : X17) (t1 t2 t4 t6 t7 t8 t10 t49 t50 t51 t74 t75 t76 M m I i : Nat) : Res :=
 lt 5 t76 t75 fun v15 =>
 cnd v15 (ia 1 t74 t76 fun v17 =>
 ld v17 M fun v18 =>
 ia 1 t10 v18 fun v23 =>
 ld v23 M fun v24 =>
 cnd v24 (buildK 2 23384026197294446691655098136326997907641993265157 [(0, 1, (.k t8)), (1, 1, (.k t76))] zf I i fun v28 I i =>
 bldSK 1 2 23384026197294446691655098136326997907641993265157 [(0, 2, (.k v28))] zf M m I i fun v29 M m I i =>
 appW 2 t7 v29 M m I i fun v30 M m I i =>
 adt n14 t76 295147905179352825893 fun v32 =>
 j13 t1 t2 t4 t6 v30 t8 t10 t49 t50 t51 t74 t75 v32 M m I i)
 (adt n14 t76 295147905179352825893 fun v34 =>
 j13 t1 t2 t4 t6 t7 t8 t10 t49 t50 t51 t74 t75 v34 M m I i))
 (j12 t1 t2 t4 t6 t7 t49 t50 t51 M m I i)
def S219_2 (j12 : X12) (t1 t2 t4 t6 t7 t8 t10 t49 t50 t51 t74 t75 t76 M m I i : Nat) : Res :=
 lp (S219_1 j12) (fun _ _ _ _ _ _ _ _ _ _ _ _ _ _ _ _ _ => .bad 73 0) t1 t2 t4 t6 t7 t8 t10 t49 t50 t51 t74 t75 t76 M m I i
def S219_3 (j12 : X12) (t1 t2 t4 t6 t7 t8 t10 t49 t50 t51 M m I i : Nat) : Res :=
 jn (S219_2 j12) fun j36 =>
 ln t6 fun v38 =>
 j36 t1 t2 t4 t6 t7 t8 t10 t49 t50 t51 t6 v38 295147905179352825861 M m I i
def S219_4 (j40 : X14) (n42 : Nat) (j41 : X17) (t1 t2 t4 t6 t7 t8 t10 t49 t50 t51 t59 t60 t61 M m I i : Nat) : Res :=
 lt 5 t61 t60 fun v43 =>
 cnd v43 (ia 2 t59 t61 fun v44 =>
 loadNK 2 (.k v44) zf M I i fun v45 I i =>
 newK 2 23384026197294446691655098136326997907641993265157 M m I i fun v46 M m I i =>
 storeK 2 (.k v46) (.k v45) zf M m I i fun _ M m I i =>
 iadrAK 2 1 (.k v46) (.k 295147905179352825861) zf I i fun v48 I i =>
 ld v48 M fun v49 =>
 iadrAK 2 1 (.k v46) (.k 295147905179352825893) zf I i fun v51 I i =>
 ld v51 M fun v52 =>
 ia 1 t10 v49 fun v53 =>
 storeK 1 (.k v53) (.k 33) zf M m I i fun _ M54 m I i =>
 flL v51 1 M M54 <| 
 ia 1 t10 v52 fun v55 =>
 storeK 1 (.k v55) (.k 33) zf M54 m I i fun _ M m I i =>
 adt n42 t61 295147905179352825893 fun v56 =>
 j41 t1 t2 t4 t6 t7 t8 t10 t49 t50 t51 t59 t60 v56 M m I i)
 (j40 t1 t2 t4 t6 t7 t8 t10 t49 t50 t51 M m I i)
def S219_5 (j40 : X14) (t1 t2 t4 t6 t7 t8 t10 t49 t50 t51 t59 t60 t61 M m I i : Nat) : Res :=
 lp (S219_4 j40) (fun _ _ _ _ _ _ _ _ _ _ _ _ _ _ _ _ _ => .bad 73 0) t1 t2 t4 t6 t7 t8 t10 t49 t50 t51 t59 t60 t61 M m I i
def S219_6 (j12 : X12) (t1 t2 t4 t6 t7 t8 t9 t10 t49 t50 t51 M m I i : Nat) : Res :=
 jn (S219_3 j12) fun j40 =>
 jn (S219_5 j40) fun j58 =>
 ln t9 fun v60 =>
 j58 t1 t2 t4 t6 t7 t8 t10 t49 t50 t51 t9 v60 295147905179352825861 M m I i
def S219_7 (j12 : X12) (t1 t2 t4 t6 t7 t8 t9 t49 t50 t51 M m I i : Nat) : Res :=
 jn (S219_6 j12) fun j62 =>
 fa 0 t1 fun v63 =>
 ld v63 M fun v64 =>
 mkSlK 1 1 (.k v64) (.k v64) zf M m I i fun v65 M m I i =>
 j62 t1 t2 t4 t6 t7 t8 t9 v65 t49 t50 t51 M m I i
def S219_8 (n9 : Nat) (j8 : X12) (t1 t2 t4 t6 t7 t49 t50 t51 M m I i : Nat) : Res :=
 jn (fun (t1 t2 t4 t6 t7 t49 t50 t51 M m I i : Nat) =>
 adt n9 t51 295147905179352825893 fun v10 =>
 j8 t1 t2 t4 t6 t7 t49 t50 v10 M m I i) fun j12 =>
 jn (S219_7 j12) fun j67 =>
 ia 1 t49 t51 fun v69 =>
 ld v69 M fun v70 =>
 j67 t1 t2 t4 t6 t7 t51 v70 t49 t50 t51 M m I i
def S219_9 (j7 : X8) (n9 : Nat) (j8 : X12) (t1 t2 t4 t6 t7 t49 t50 t51 t52 M m I i : Nat) : Res :=
 jn (S219_8 n9 j8) fun j73 =>
 cnd t52 (j73 t1 t2 t4 t6 t7 t49 t50 t51 M m I i)
 (j7 t2 t4 t6 t7 M m I i)
def S219_10 (j7 : X8) (n9 : Nat) (j8 : X12) (t1 t2 t4 t6 t7 t49 t50 t51 M m I i : Nat) : Res :=
 jn (S219_9 j7 n9 j8) fun j74 =>
 lt 5 t51 t50 fun v75 =>
 j74 t1 t2 t4 t6 t7 t49 t50 t51 v75 M m I i
def S219_11 (j7 : X8) (t1 t2 t4 t6 t7 t49 t50 t51 M m I i : Nat) : Res :=
 lp (S219_10 j7) (fun _ _ _ _ _ _ _ _ _ _ _ _ => .bad 73 0) t1 t2 t4 t6 t7 t49 t50 t51 M m I i
def S219_12 (k : KF) (t1 t2 t4 t6 t7 M m I i : Nat) : Res :=
 jn (fun (t2 t4 t6 t7 M m I i : Nat) =>
 buildK 3 69048119089253488402193683656155840364782817602633363095563 [(0, 1, (.k t4)), (1, 1, (.k t6)), (2, 1, (.k t7))] zf I i fun v4 I i =>
 storeK 3 (.k t2) (.k v4) zf M m I i fun _ M m I i =>
 loadNK 3 (.k t2) zf M I i fun v6 I i => rtn 2 [v6, 295147905179352825861] M m I i k) fun j7 =>
 jn (S219_11 j7) fun j76 =>
 ln t4 fun v78 =>
 j76 t1 t2 t4 t6 t7 t4 v78 295147905179352825861 M m I i
def S219_13 (k : KF) (t1 t2 t4 t6 M m I i : Nat) : Res :=
 jn (S219_12 k) fun j80 =>
 bldSK 0 2 23384026197294446691655098136326997907641993265157 [] zf M m I i fun v81 M m I i =>
 j80 t1 t2 t4 t6 v81 M m I i
def S219_14 (k : KF) (t1 t2 t4 t5 t6 M m I i : Nat) : Res :=
 jn (S219_13 k) fun j83 =>
 ne 5 t5 295147905179352825861 fun v85 =>
 cnd v85 (buildK 3 69048119089253488402193683656155840364782817602633363095563 [] zf I i fun v86 I i =>
 storeK 3 (.k t2) (.k v86) zf M m I i fun _ M m I i =>
 loadNK 3 (.k t2) zf M I i fun v89 I i => rtn 2 [v89, t5] M m I i k)
 (j83 t1 t2 t4 t6 M m I i)
def S219_15 (c : Y) (k : KF) (t1 t2 t4 M m I i : Nat) : Res :=
 jn (S219_14 k) fun j90 =>
 loadNK 2 (.k t1) zf M I i fun v91 I i =>
 c 96 [v91] M m I i fun v92 M m I i =>
 f1 19 0 v92 I fun v94 =>
 f1 19 1 v92 I fun v95 =>
 j90 t1 t2 t4 v95 v94 M m I i
def S219_16 (c : Y) (k : KF) (t1 t2 t4 t5 M m I i : Nat) : Res :=
 jn (S219_15 c k) fun j98 =>
 ne 5 t5 295147905179352825861 fun v100 =>
 cnd v100 (buildK 3 69048119089253488402193683656155840364782817602633363095563 [] zf I i fun v101 I i =>
 storeK 3 (.k t2) (.k v101) zf M m I i fun _ M m I i =>
 loadNK 3 (.k t2) zf M I i fun v104 I i => rtn 2 [v104, t5] M m I i k)
 (j98 t1 t2 t4 M m I i)
def S219_17 (c : Y) (k : KF) (t1 t2 M m I i : Nat) : Res :=
 jn (S219_16 c k) fun j105 =>
 loadNK 2 (.k t1) zf M I i fun v106 I i =>
 c 98 [v106] M m I i fun v107 M m I i =>
 f1 19 0 v107 I fun v109 =>
 f1 19 1 v107 I fun v110 =>
 j105 t1 t2 v109 v110 M m I i
def S219_18 (c : Y) (k : KF) (t1 t2 M m I i : Nat) : Res :=
 jn (S219_17 c k) fun j113 =>
 fa 1 t1 fun v114 =>
 ld v114 M fun v115 =>
 ln v115 fun v116 =>
 eq 5 v116 295147905179352825861 fun v117 =>
 jn (fun (v124 M m I i : Nat) =>
 pk v117 33 v124 fun v125 =>
 cnd v125 (buildK 3 69048119089253488402193683656155840364782817602633363095563 [] zf I i fun v126 I i =>
 storeK 3 (.k t2) (.k v126) zf M m I i fun _ M m I i =>
 loadNK 3 (.k t2) zf M I i fun v128 I i => rtn 2 [v128, 295147905179352827781] M m I i k)
 (j113 t1 t2 M m I i))
 (fun j119 => gd v117 1 (loadNK 2 (.k t1) zf M I i fun v120 I i =>
 c 95 [v120] M m I i fun v121 M m I i =>
 ln v121 fun v122 =>
 ne 5 v122 295147905179352825893 fun v123 =>
 j119 v123 M m I i) (j119 0 M m I i))
def S219_19 (c : Y) (k : KF) (t1 t2 M m I i : Nat) : Res :=
 jn (S219_18 c k) fun j129 =>
 loadNK 2 (.k t1) zf M I i fun v130 I i =>
 c 37 [v130] M m I i fun v131 M m I i =>
 notK (.k v131) zf I i fun v132 I i =>
 cnd v132 (buildK 3 69048119089253488402193683656155840364782817602633363095563 [] zf I i fun v133 I i =>
 storeK 3 (.k t2) (.k v133) zf M m I i fun _ M m I i =>
 loadNK 3 (.k t2) zf M I i fun v135 I i => rtn 2 [v135, 295147905179352826501] M m I i k)
 (j129 t1 t2 M m I i)
def F219 (c : Y) (t0 M m I i : Nat) (k : KF) : Res :=
 jn (S219_19 c k) fun j136 =>
 boxK 2 (.k t0) zf M m I i fun v137 M m I i =>
 newK 3 69048119089253488402193683656155840364782817602633363095563 M m I i fun v138 M m I i =>
 j136 v137 v138 M m I i
def g219 (c : Y) : List Nat → Nat → Nat → Nat → Nat → KF → Res := unS fun t0 => un0 (F219 c t0)
def S137_1 (c : Y) (k : KF) (t1 t2 t4 M m I i : Nat) : Res :=
 loadNK 2 (.k t2) zf M I i fun v1 I i =>
 c 194 [v1] M m I i fun v2 M m I i =>
 notK (.k v2) zf I i fun v3 I i =>
 cnd v3 (buildK 2 23384026197294446691655098136031850002462640439307 [] zf I i fun v4 I i =>
 storeK 2 (.k t4) (.k v4) zf M m I i fun _ M m I i =>
 loadNK 2 (.k t4) zf M I i fun v6 I i => rtn 2 [v6, 295147905179352826213] M m I i k)
 (eq 9 t1 590295810358705651689 fun v8 =>
 cnd v8 (buildK 2 23384026197294446691655098136031850002462640439307 [] zf I i fun v9 I i =>
 storeK 2 (.k t4) (.k v9) zf M m I i fun _ M m I i =>
 loadNK 2 (.k t4) zf M I i fun v11 I i => rtn 2 [v11, 295147905179352825925] M m I i k)
 (iopK .add .u64 (.k t1) (.k 41) zf I i fun v13 I i =>
 c 127 [v13] M m I i fun v14 M m I i =>
 fa 1 t2 fun v16 =>
 ld v16 M fun v17 =>
 iopK .mul .i64 (.k 295147905179352825925) (.k v14) zf I i fun v19 I i =>
 ad v17 v19 fun v20 =>
 sb v20 295147905179352825893 fun v21 =>
 lt 5 295147905179487043589 v21 fun v22 =>
 cnd v22 (buildK 2 23384026197294446691655098136031850002462640439307 [] zf I i fun v23 I i =>
 storeK 2 (.k t4) (.k v23) zf M m I i fun _ M m I i =>
 loadNK 2 (.k t4) zf M I i fun v25 I i => rtn 2 [v25, 295147905179352825957] M m I i k)
 (loadNK 2 (.k t2) zf M I i fun v26 I i =>
 iopK .mul .i64 (.k 295147905179352825925) (.k v14) zf I i fun v28 I i =>
 sb v28 295147905179352825893 fun v29 =>
 c 195 [v26, v29] M m I i fun v30 M m I i =>
 newK 2 23384026197294446691655098136031850002462640439307 M m I i fun v31 M m I i =>
 storeK 2 (.k v31) (.k v30) zf M m I i fun _ M m I i =>
 loadNK 2 (.k v31) zf M I i fun v32 I i =>
 fa 1 t2 fun v33 =>
 ld v33 M fun v34 =>
 ad v34 v14 fun v36 =>
 sb v36 295147905179352825893 fun v37 =>
 iopK .add .u64 (.k t1) (.k 41) zf I i fun v39 I i =>
 c 196 [v32, v37, v39, v14] M m I i fun v41 M m I i =>
 loadNK 2 (.k v31) zf M I i fun v42 I i =>
 storeK 2 (.k t4) (.k v42) zf M m I i fun _ M m I i =>
 loadNK 2 (.k t4) zf M I i fun v44 I i => rtn 2 [v44, 295147905179352825861] M m I i k)))
def F137 (c : Y) (t0 t1 M m I i : Nat) (k : KF) : Res :=
 jn (S137_1 c k) fun j45 =>
 boxK 2 (.k t0) zf M m I i fun v46 M m I i =>
 newK 2 23384026197294446691655098136031850002462640439307 M m I i fun v47 M m I i =>
 j45 t1 v46 v47 M m I i
def g137 (c : Y) : List Nat → Nat → Nat → Nat → Nat → KF → Res := unS fun t0 => unS fun t1 => un0 (F137 c t0 t1)
def S263_1 (c : Y) (k : KF) (t0 t1 t2 t8 t9 M m I i : Nat) : Res :=
 lt 5 t9 t8 fun v4 =>
 jn (fun (v15 M m I i : Nat) =>
 pk v4 v15 1 fun v16 =>
 rtn 2 [t9, v16] M m I i k)
 (fun j6 => gd v4 33 (ia 1 t0 t9 fun v10 =>
 ld v10 M fun v11 =>
 callvS c (.k t2) [(.k v11), (.k t1)] zf M m I i fun v13 M m I i =>
 eq 5 v13 295147905179352825861 fun v14 =>
 j6 v14 M m I i) (j6 0 M m I i))
def S263_2 (c : Y) (j19 : X9) (n21 : Nat) (j20 : X10) (t0 t1 t2 t8 t9 t10 M m I i : Nat) : Res :=
 lt 5 t9 t10 fun v24 =>
 cnd v24 (adt n21 t9 t10 fun v27 =>
 convK .i64 .u64 (.k v27) zf I i fun v28 I i =>
 shfK .shr .u64 .u64 (.k v28) (.k 41) zf I i fun v29 I i => tkk n21 v29 fun v30 =>
 convK .u64 .i64 (.k v30) zf I i fun v31 I i =>
 ia 1 t0 v31 fun v36 =>
 ld v36 M fun v37 =>
 callvS c (.k t2) [(.k v37), (.k t1)] zf M m I i fun v39 M m I i =>
 lt 5 v39 295147905179352825861 fun v40 =>
 cnd v40 (adt n21 v31 295147905179352825893 fun v42 =>
 j20 t0 t1 t2 t8 v42 t10 M m I i)
 (j20 t0 t1 t2 t8 t9 v31 M m I i))
 (j19 t0 t1 t2 t8 t9 M m I i)
def S263_3 (c : Y) (k : KF) (t0 t1 t2 t8 t9 t10 M m I i : Nat) : Res :=
 jn (S263_1 c k) fun j19 =>
 lp (S263_2 c j19) (fun _ _ _ _ _ _ _ _ _ _ => .bad 73 0) t0 t1 t2 t8 t9 t10 M m I i
def S263_4 (c : Y) (k : KF) (t0 t1 t2 t8 M m I i : Nat) : Res :=
 jn (S263_3 c k) fun j46 =>
 j46 t0 t1 t2 t8 295147905179352825861 t8 M m I i
def S263_5 (c : Y) (k : KF) (t0 t1 t2 M m I i : Nat) : Res :=
 jn (S263_4 c k) fun j50 =>
 ln t0 fun v52 =>
 j50 t0 t1 t2 v52 M m I i
def F263 (c : Y) (t0 t1 t2 M m I i : Nat) (k : KF) : Res :=
 jn (S263_5 c k) fun j54 =>
 j54 t0 t1 t2 M m I i
def g263 (c : Y) : List Nat → Nat → Nat → Nat → Nat → KF → Res := unS fun t0 => unS fun t1 => unS fun t2 => un0 (F263 c t0 t1 t2)
def F72 (c : Y) (t0 M m I i : Nat) (k : KF) : Res :=
 cnd 1 (convK .u64 .u32 (.k t0) zf I i fun v3 I i =>
 c 126 [v3] M m I i fun v4 M m I i =>
 k v4 M m I i)
 (c 127 [t0] M m I i fun v7 M m I i =>
 k v7 M m I i)
def g72 (c : Y) : List Nat → Nat → Nat → Nat → Nat → KF → Res := unS fun t0 => un0 (F72 c t0)
def S341_1 (c : Y) (k : KF) (t0 t1 M m I i : Nat) : Res :=
 c 342 [t0] M m I i fun v2 M m I i =>
 ln v2 fun v5 =>
 ge 5 295147905179352832261 v5 fun v6 =>
 jn (fun (v13 M m I i : Nat) =>
 pk v6 v13 1 fun v14 =>
 jn (fun (v19 M m I i : Nat) =>
 pk v14 v19 1 fun v20 =>
 k v20 M m I i)
 (fun j16 => gd v14 33 (c 345 [t0] M m I i fun v18 M m I i =>
 j16 v18 M m I i) (j16 0 M m I i)))
 (fun j8 => gd v6 33 (ln v2 fun v11 =>
 c 188 [t1, v11] M m I i fun v12 M m I i =>
 j8 v12 M m I i) (j8 0 M m I i))
def S341_2 (k : KF) (j22 : X6) (n24 : Nat) (j23 : X9) (t0 t1 t11 t12 t13 M m I i : Nat) : Res :=
 lt 5 t13 t12 fun v25 =>
 cnd v25 (ia 3 t11 t13 fun v26 =>
 loadNK 3 (.k v26) zf M I i fun v27 I i =>
 newK 3 1852673427797059126808521268839323955668793148457942454848160119256572240068613 M m I i fun v28 M m I i =>
 storeK 3 (.k v28) (.k v27) zf M m I i fun _ M m I i =>
 fa 2 v28 fun v29 =>
 ld v29 M fun v30 =>
 ne 5 v30 295147905179352825861 fun v31 =>
 cnd v31 (k 1 M m I i)
 (adt n24 t13 295147905179352825893 fun v33 =>
 j23 t0 t1 t11 t12 v33 M m I i))
 (j22 t0 t1 M m I i)
def S341_3 (k : KF) (j22 : X6) (t0 t1 t11 t12 t13 M m I i : Nat) : Res :=
 lp (S341_2 k j22) (fun _ _ _ _ _ _ _ _ _ => .bad 73 0) t0 t1 t11 t12 t13 M m I i
def S341_4 (c : Y) (k : KF) (t0 t1 M m I i : Nat) : Res :=
 jn (S341_1 c k) fun j22 =>
 jn (S341_3 k j22) fun j35 =>
 ln t0 fun v37 =>
 j35 t0 t1 t0 v37 295147905179352825861 M m I i
def S341_5 (c : Y) (k : KF) (t0 t1 M m I i : Nat) : Res :=
 jn (S341_4 c k) fun j39 =>
 ln t0 fun v41 =>
 lt 5 295147905179352857861 v41 fun v42 =>
 cnd v42 (k 1 M m I i)
 (j39 t0 t1 M m I i)
def F341 (c : Y) (t0 t1 M m I i : Nat) (k : KF) : Res :=
 jn (S341_5 c k) fun j44 =>
 j44 t0 t1 M m I i
def g341 (c : Y) : List Nat → Nat → Nat → Nat → Nat → KF → Res := unS fun t0 => unS fun t1 => un0 (F341 c t0 t1)
def S75_1 (j10 : X8) (n12 : Nat) (j11 : X11) (t1 t2 t4 t14 t75 t76 t77 M m I i : Nat) : Res :=
 lt 5 t77 t76 fun v13 =>
 cnd v13 (ia 2 t75 t77 fun v14 =>
 loadNK 2 (.k v14) zf M I i fun v15 I i =>
 newK 2 871509787656907713528983453707 M m I i fun v16 M m I i =>
 storeK 2 (.k v16) (.k v15) zf M m I i fun _ M m I i =>
 fa 1 v16 fun v18 =>
 ld v18 M fun v19 =>
 appW 1 t14 v19 M m I i fun v20 M m I i =>
 adt n12 t77 295147905179352825893 fun v22 =>
 j11 t1 t2 t4 v20 t75 t76 v22 M m I i)
 (j10 t1 t2 t4 t14 M m I i)
def S75_2 (j10 : X8) (t1 t2 t4 t14 t75 t76 t77 M m I i : Nat) : Res :=
 lp (S75_1 j10) (fun _ _ _ _ _ _ _ _ _ _ _ => .bad 73 0) t1 t2 t4 t14 t75 t76 t77 M m I i
def S75_3 (c : Y) (k : KF) (t1 t2 t4 t7 t14 M m I i : Nat) : Res :=
 jn (fun (t1 t2 t4 t14 M m I i : Nat) =>
 fa 1 t2 fun v3 =>
 ld v3 M fun v4 =>
 c 135 [t1, t14, v4] M m I i fun v5 M m I i =>
 buildK 2 871509787656907713528983453707 [(0, 1, (.k v5)), (1, 1, (.k t14))] zf I i fun v7 I i =>
 storeK 2 (.k t4) (.k v7) zf M m I i fun _ M m I i =>
 loadNK 2 (.k t4) zf M I i fun v9 I i => rtn 2 [v9, 295147905179352825861] M m I i k) fun j10 =>
 jn (S75_2 j10) fun j24 =>
 ln t7 fun v26 =>
 j24 t1 t2 t4 t14 t7 v26 295147905179352825861 M m I i
def S75_4 (c : Y) (k : KF) (t1 t2 t4 t7 M m I i : Nat) : Res :=
 jn (S75_3 c k) fun j28 =>
 fa 0 t2 fun v29 =>
 ld v29 M fun v30 =>
 mkSlK 1 295147905179352825861 (.k 295147905179352825861) (.k v30) zf M m I i fun v31 M m I i =>
 j28 t1 t2 t4 t7 v31 M m I i
def S75_5 (c : Y) (k : KF) (t1 t2 t4 t7 M m I i : Nat) : Res :=
 jn (S75_4 c k) fun j33 =>
 c 132 [t7, 4270] M m I i fun v35 M m I i =>
 j33 t1 t2 t4 t7 M m I i
def S75_6 (j46 : X13) (n48 : Nat) (j47 : X17) (t1 t2 t4 t7 t8 t9 t10 t28 t29 t30 t48 t49 t50 M m I i : Nat) : Res :=
 lt 5 t50 t49 fun v49 =>
 cnd v49 (ia 1 t48 t50 fun v51 =>
 ld v51 M fun v52 =>
 fa 1 t10 fun v55 =>
 ld v55 M fun v56 =>
 fa 0 t9 fun v58 =>
 ld v58 M fun v59 =>
 ia 1 v59 v52 fun v61 =>
 ld v61 M fun v62 =>
 ia 1 v56 t50 fun v63 =>
 storeK 1 (.k v63) (.k v62) zf M m I i fun _ M m I i =>
 adt n48 t50 295147905179352825893 fun v64 =>
 j47 t1 t2 t4 t7 t8 t9 t10 t28 t29 t30 t48 t49 v64 M m I i)
 (j46 t1 t2 t4 t7 t8 t10 t28 t29 t30 M m I i)
def S75_7 (j46 : X13) (t1 t2 t4 t7 t8 t9 t10 t28 t29 t30 t48 t49 t50 M m I i : Nat) : Res :=
 lp (S75_6 j46) (fun _ _ _ _ _ _ _ _ _ _ _ _ _ _ _ _ _ => .bad 73 0) t1 t2 t4 t7 t8 t9 t10 t28 t29 t30 t48 t49 t50 M m I i
def S75_8 (j41 : X11) (t1 t2 t4 t7 t8 t9 t10 t28 t29 t30 M m I i : Nat) : Res :=
 jn (fun (t1 t2 t4 t7 t8 t10 t28 t29 t30 M m I i : Nat) =>
 loadNK 2 (.k t10) zf M I i fun v44 I i =>
 ia 2 t7 t8 fun v45 =>
 storeK 2 (.k v45) (.k v44) zf M m I i fun _ M m I i =>
 j41 t1 t2 t4 t7 t28 t29 t30 M m I i) fun j46 =>
 jn (S75_7 j46) fun j66 =>
 fa 1 t10 fun v67 =>
 ld v67 M fun v68 =>
 ln v68 fun v69 =>
 j66 t1 t2 t4 t7 t8 t9 t10 t28 t29 t30 v68 v69 295147905179352825861 M m I i
def S75_9 (k : KF) (j41 : X11) (t1 t2 t4 t7 t8 t9 t10 t11 t28 t29 t30 M m I i : Nat) : Res :=
 jn (S75_8 j41) fun j71 =>
 ne 5 t11 295147905179352825861 fun v73 =>
 cnd v73 (buildK 2 871509787656907713528983453707 [] zf I i fun v74 I i =>
 storeK 2 (.k t4) (.k v74) zf M m I i fun _ M m I i =>
 loadNK 2 (.k t4) zf M I i fun v77 I i => rtn 2 [v77, t11] M m I i k)
 (j71 t1 t2 t4 t7 t8 t9 t10 t28 t29 t30 M m I i)
def S75_10 (c : Y) (k : KF) (j41 : X11) (t1 t2 t4 t7 t8 t9 t28 t29 t30 M m I i : Nat) : Res :=
 jn (S75_9 k j41) fun j78 =>
 fa 1 t9 fun v79 =>
 loadNK 2 (.k v79) zf M I i fun v80 I i =>
 fa 3 t9 fun v81 =>
 ld v81 M fun v82 =>
 c 131 [v80, v82] M m I i fun v83 M m I i =>
 f1 19 0 v83 I fun v85 =>
 f1 19 1 v83 I fun v86 =>
 newK 2 871509787656907713528983453707 M m I i fun v87 M m I i =>
 storeK 2 (.k v87) (.k v85) zf M m I i fun _ M m I i =>
 j78 t1 t2 t4 t7 t8 t9 v87 v86 t28 t29 t30 M m I i
def S75_11 (c : Y) (k : KF) (n38 : Nat) (j37 : X11) (t1 t2 t4 t7 t28 t29 t30 M m I i : Nat) : Res :=
 jn (fun (t1 t2 t4 t7 t28 t29 t30 M m I i : Nat) =>
 adt n38 t30 295147905179352825893 fun v39 =>
 j37 t1 t2 t4 t7 t28 t29 v39 M m I i) fun j41 =>
 jn (S75_10 c k j41) fun j89 =>
 ia 4 t28 t30 fun v91 =>
 loadNK 4 (.k v91) zf M I i fun v92 I i =>
 newK 4 5470555600507653063709204729684077360217655173370313022192043174537912227029434150944779 M m I i fun v93 M m I i =>
 storeK 4 (.k v93) (.k v92) zf M m I i fun _ M m I i =>
 j89 t1 t2 t4 t7 t30 v93 t28 t29 t30 M m I i
def S75_12 (c : Y) (k : KF) (j36 : X8) (n38 : Nat) (j37 : X11) (t1 t2 t4 t7 t28 t29 t30 t31 M m I i : Nat) : Res :=
 jn (S75_11 c k n38 j37) fun j95 =>
 cnd t31 (j95 t1 t2 t4 t7 t28 t29 t30 M m I i)
 (j36 t1 t2 t4 t7 M m I i)
def S75_13 (c : Y) (k : KF) (j36 : X8) (n38 : Nat) (j37 : X11) (t1 t2 t4 t7 t28 t29 t30 M m I i : Nat) : Res :=
 jn (S75_12 c k j36 n38 j37) fun j96 =>
 lt 5 t30 t29 fun v97 =>
 j96 t1 t2 t4 t7 t28 t29 t30 v97 M m I i
def S75_14 (c : Y) (k : KF) (j36 : X8) (t1 t2 t4 t7 t28 t29 t30 M m I i : Nat) : Res :=
 lp (S75_13 c k j36) (fun _ _ _ _ _ _ _ _ _ _ _ => .bad 73 0) t1 t2 t4 t7 t28 t29 t30 M m I i
def S75_15 (c : Y) (k : KF) (t1 t2 t4 t6 t7 M m I i : Nat) : Res :=
 jn (S75_5 c k) fun j36 =>
 jn (S75_14 c k j36) fun j98 =>
 ln t6 fun v100 =>
 j98 t1 t2 t4 t7 t6 v100 295147905179352825861 M m I i
def S75_16 (c : Y) (k : KF) (t1 t2 t4 t6 M m I i : Nat) : Res :=
 jn (S75_15 c k) fun j102 =>
 ln t6 fun v104 =>
 mkSlK 2 871509787656907713528983453707 (.k v104) (.k v104) zf M m I i fun v105 M m I i =>
 j102 t1 t2 t4 t6 v105 M m I i
def S75_17 (c : Y) (k : KF) (t1 t2 t4 M m I i : Nat) : Res :=
 jn (S75_16 c k) fun j107 =>
 loadNK 2 (.k t2) zf M I i fun v108 I i =>
 c 130 [v108, t1] M m I i fun v110 M m I i =>
 j107 t1 t2 t4 v110 M m I i
def S75_18 (c : Y) (k : KF) (t1 t2 t4 M m I i : Nat) : Res :=
 jn (S75_17 c k) fun j112 =>
 loadNK 2 (.k t2) zf M I i fun v113 I i =>
 c 129 [v113, t1] M m I i fun v115 M m I i =>
 notK (.k v115) zf I i fun v116 I i =>
 cnd v116 (buildK 2 871509787656907713528983453707 [] zf I i fun v117 I i =>
 storeK 2 (.k t4) (.k v117) zf M m I i fun _ M m I i =>
 loadNK 2 (.k t4) zf M I i fun v119 I i => rtn 2 [v119, 295147905179352832581] M m I i k)
 (j112 t1 t2 t4 M m I i)
def F75 (c : Y) (t0 t1 M m I i : Nat) (k : KF) : Res :=
 jn (S75_18 c k) fun j120 =>
 boxK 2 (.k t0) zf M m I i fun v121 M m I i =>
 newK 2 871509787656907713528983453707 M m I i fun v122 M m I i =>
 j120 t1 v121 v122 M m I i
def g75 (c : Y) : List Nat → Nat → Nat → Nat → Nat → KF → Res := unS fun t0 => unS fun t1 => un0 (F75 c t0 t1)
def S83_1 (k : KF) (j2 : X4) (n4 : Nat) (j3 : X8) (t0 t1 t12 t13 M m I i : Nat) : Res :=
 lt 5 t13 t12 fun v5 =>
 cnd v5 (ia 1 t0 t13 fun v10 =>
 ld v10 M fun v11 =>
 ia 1 t1 t13 fun v14 =>
 ld v14 M fun v15 =>
 ne 5 v11 v15 fun v16 =>
 cnd v16 (k 1 M m I i)
 (adt n4 t13 295147905179352825893 fun v18 =>
 j3 t0 t1 t12 v18 M m I i))
 (j2 M m I i)
def S83_2 (k : KF) (j2 : X4) (t0 t1 t12 t13 M m I i : Nat) : Res :=
 lp (S83_1 k j2) (fun _ _ _ _ _ _ _ _ => .bad 73 0) t0 t1 t12 t13 M m I i
def S83_3 (k : KF) (t0 t1 M m I i : Nat) : Res :=
 jn (fun (M m I i : Nat) =>
 k 33 M m I i) fun j2 =>
 jn (S83_2 k j2) fun j20 =>
 ln t0 fun v22 =>
 j20 t0 t1 v22 295147905179352825861 M m I i
def S83_4 (k : KF) (t0 t1 M m I i : Nat) : Res :=
 jn (S83_3 k) fun j24 =>
 ln t0 fun v26 =>
 ln t1 fun v28 =>
 ne 5 v26 v28 fun v29 =>
 cnd v29 (k 1 M m I i)
 (j24 t0 t1 M m I i)
def F83 (c : Y) (t0 t1 M m I i : Nat) (k : KF) : Res :=
 jn (S83_4 k) fun j31 =>
 j31 t0 t1 M m I i
def g83 (c : Y) : List Nat → Nat → Nat → Nat → Nat → KF → Res := unS fun t0 => unS fun t1 => un0 (F83 c t0 t1)
def S45_1 (c : Y) (j10 : X7) (n12 : Nat) (j11 : X10) (t0 t1 t2 t3 t9 t10 M m I i : Nat) : Res :=
 lt 5 t10 t3 fun v15 =>
 cnd v15 (c 91 [t0, t1] M m I i fun v18 M m I i =>
 lt 5 v18 295147905179352825861 fun v21 =>
 cnd v21 (j10 t0 t9 t10 M m I i)
 (adt n12 v18 t2 fun v27 =>
 slcTK (.k t0) none (some (.k v27)) zf I i fun v28 I i =>
 ia 1 t9 t10 fun v29 =>
 storeK 1 (.k v29) (.k v28) zf M m I i fun _ M m I i =>
 lenTK (.k t1) zf I i fun v33 I i =>
 adt n12 v18 v33 fun v34 =>
 slcTK (.k t0) (some (.k v34)) none zf I i fun v35 I i =>
 adt n12 t10 295147905179352825893 fun v38 =>
 j11 v35 t1 t2 t3 t9 v38 M m I i))
 (j10 t0 t9 t10 M m I i)
def S45_2 (c : Y) (k : KF) (t0 t1 t2 t3 t9 t10 M m I i : Nat) : Res :=
 jn (fun (t0 t9 t10 M m I i : Nat) =>
 ia 1 t9 t10 fun v4 =>
 storeK 1 (.k v4) (.k t0) zf M m I i fun _ M m I i =>
 ad t10 295147905179352825893 fun v7 =>
 slcK 1 (.k t9) none (some (.k v7)) none zf I i fun v8 I i =>
 k v8 M m I i) fun j10 =>
 lp (S45_1 c j10) (fun _ _ _ _ _ _ _ _ _ _ => .bad 73 0) t0 t1 t2 t3 t9 t10 M m I i
def S45_3 (c : Y) (k : KF) (t0 t1 t2 t3 t9 M m I i : Nat) : Res :=
 jn (S45_2 c k) fun j40 =>
 j40 t0 t1 t2 t3 t9 295147905179352825861 M m I i
def S45_4 (c : Y) (k : KF) (t0 t1 t2 t3 t9 M m I i : Nat) : Res :=
 jn (S45_3 c k) fun j42 =>
 sb t3 295147905179352825893 fun v44 =>
 j42 t0 t1 t2 v44 t9 M m I i
def S45_5 (c : Y) (k : KF) (t0 t1 t2 t3 M m I i : Nat) : Res :=
 jn (S45_4 c k) fun j46 =>
 mkSlK 1 12 (.k t3) (.k t3) zf M m I i fun v48 M m I i =>
 j46 t0 t1 t2 t3 v48 M m I i
def S45_6 (c : Y) (k : KF) (t0 t1 t2 t3 M m I i : Nat) : Res :=
 jn (S45_5 c k) fun j50 =>
 lenTK (.k t0) zf I i fun v53 I i =>
 ad v53 295147905179352825893 fun v54 =>
 minK false 5 (.k t3) (.k v54) zf I i fun v55 I i =>
 j50 t0 t1 t2 v55 M m I i
def S45_7 (c : Y) (k : KF) (t0 t1 t2 t3 M m I i : Nat) : Res :=
 jn (S45_6 c k) fun j57 =>
 lt 5 t3 295147905179352825861 fun v59 =>
 cnd v59 (c 90 [t0, t1] M m I i fun v62 M m I i =>
 ad v62 295147905179352825893 fun v63 =>
 j57 t0 t1 t2 v63 M m I i)
 (j57 t0 t1 t2 t3 M m I i)
def S45_8 (c : Y) (k : KF) (t0 t1 t2 t3 M m I i : Nat) : Res :=
 jn (S45_7 c k) fun j65 =>
 seqK false (.k t1) (.k 12) zf I i fun v67 I i =>
 cnd v67 (c 89 [t0, t3] M m I i fun v70 M m I i =>
 k v70 M m I i)
 (j65 t0 t1 t2 t3 M m I i)
def S45_9 (c : Y) (k : KF) (t0 t1 t2 t3 M m I i : Nat) : Res :=
 jn (S45_8 c k) fun j72 =>
 eq 5 t3 295147905179352825861 fun v74 =>
 cnd v74 (k 11 M m I i)
 (j72 t0 t1 t2 t3 M m I i)
def F45 (c : Y) (t0 t1 t2 t3 M m I i : Nat) (k : KF) : Res :=
 jn (S45_9 c k) fun j76 =>
 j76 t0 t1 t2 t3 M m I i
def g45 (c : Y) : List Nat → Nat → Nat → Nat → Nat → KF → Res := unS fun t0 => unS fun t1 => unS fun t2 => unS fun t3 => un0 (F45 c t0 t1 t2 t3)
def S77_1 (c : Y) (k : KF) (j15 : X5) (n17 : Nat) (j16 : X8) (t7 t39 t40 t41 M m I i : Nat) : Res :=
 lt 5 t41 t40 fun v18 =>
 cnd v18 (ia 1 t39 t41 fun v19 =>
 ld v19 M fun v20 =>
 loadNK 2 (.k t7) zf M I i fun v22 I i =>
 convK .i64 .u64 (.k v20) zf I i fun v24 I i =>
 c 137 [v22, v24] M m I i fun v25 M m I i =>
 f1 19 0 v25 I fun v27 =>
 f1 19 1 v25 I fun v28 =>
 newK 2 23384026197294446691655098136031850002462640439307 M m I i fun v29 M m I i =>
 storeK 2 (.k v29) (.k v27) zf M m I i fun _ M m I i =>
 ne 5 v28 295147905179352825861 fun v32 =>
 cnd v32 (rtn 2 [11, 295147905179352826501] M m I i k)
 (loadNK 2 (.k v29) zf M I i fun v35 I i =>
 storeK 2 (.k t7) (.k v35) zf M m I i fun _ M m I i =>
 adt n17 t41 295147905179352825893 fun v36 =>
 j16 t7 t39 t40 v36 M m I i))
 (j15 t7 M m I i)
def S77_2 (c : Y) (k : KF) (j15 : X5) (t7 t39 t40 t41 M m I i : Nat) : Res :=
 lp (S77_1 c k j15) (fun _ _ _ _ _ _ _ _ => .bad 73 0) t7 t39 t40 t41 M m I i
def S77_3 (c : Y) (k : KF) (t4 t7 M m I i : Nat) : Res :=
 jn (fun (t7 M m I i : Nat) =>
 loadNK 2 (.k t7) zf M I i fun v1 I i =>
 c 138 [v1] M m I i fun v2 M m I i =>
 f1 19 0 v2 I fun v4 =>
 f1 19 1 v2 I fun v5 =>
 ne 5 v5 295147905179352825861 fun v9 =>
 cnd v9 (rtn 2 [11, 295147905179352826501] M m I i k)
 (rtn 2 [v4, 295147905179352825861] M m I i k)) fun j15 =>
 jn (S77_2 c k j15) fun j38 =>
 ln t4 fun v40 =>
 j38 t7 t4 v40 295147905179352825861 M m I i
def S77_4 (c : Y) (k : KF) (t4 M m I i : Nat) : Res :=
 jn (S77_3 c k) fun j42 =>
 buildK 2 23384026197294446691655098136031850002462640439307 [] zf I i fun v43 I i =>
 newK 2 23384026197294446691655098136031850002462640439307 M m I i fun v44 M m I i =>
 storeK 2 (.k v44) (.k v43) zf M m I i fun _ M m I i =>
 j42 t4 v44 M m I i
def S77_5 (j45 : X5) (n47 : Nat) (j46 : X8) (t4 t24 t25 t26 M m I i : Nat) : Res :=
 lt 5 t26 t25 fun v48 =>
 cnd v48 (ia 2 t24 t26 fun v49 =>
 loadNK 2 (.k v49) zf M I i fun v50 I i =>
 newK 2 23384026197294446691655098136326997907641993265157 M m I i fun v51 M m I i =>
 storeK 2 (.k v51) (.k v50) zf M m I i fun _ M m I i =>
 iadrAK 2 1 (.k v51) (.k 295147905179352825861) zf I i fun v53 I i =>
 ld v53 M fun v54 =>
 iadrAK 2 1 (.k v51) (.k 295147905179352825893) zf I i fun v55 I i =>
 ld v55 M fun v56 =>
 bldSK 2 1 295147905179352825861 [(0, 1, (.k v54)), (1, 1, (.k v56))] zf M m I i fun v57 M m I i =>
 appW 1 t4 v57 M m I i fun v58 M m I i =>
 adt n47 t26 295147905179352825893 fun v60 =>
 j46 v58 t24 t25 v60 M m I i)
 (j45 t4 M m I i)
def S77_6 (j45 : X5) (t4 t24 t25 t26 M m I i : Nat) : Res :=
 lp (S77_5 j45) (fun _ _ _ _ _ _ _ _ => .bad 73 0) t4 t24 t25 t26 M m I i
def S77_7 (c : Y) (k : KF) (t1 t4 M m I i : Nat) : Res :=
 jn (S77_4 c k) fun j45 =>
 jn (S77_6 j45) fun j62 =>
 fa 1 t1 fun v63 =>
 ld v63 M fun v64 =>
 ln v64 fun v65 =>
 j62 t4 v64 v65 295147905179352825861 M m I i
def S77_8 (c : Y) (k : KF) (t1 M m I i : Nat) : Res :=
 jn (S77_7 c k) fun j67 =>
 fa 0 t1 fun v68 =>
 ld v68 M fun v69 =>
 fa 1 t1 fun v70 =>
 ld v70 M fun v71 =>
 ln v71 fun v72 =>
 bldSK 2 1 295147905179352825861 [(0, 1, (.k v69)), (1, 1, (.k v72))] zf M m I i fun v73 M m I i =>
 j67 t1 v73 M m I i
def S77_9 (c : Y) (k : KF) (t1 M m I i : Nat) : Res :=
 jn (S77_8 c k) fun j75 =>
 loadNK 2 (.k t1) zf M I i fun v76 I i =>
 c 37 [v76] M m I i fun v77 M m I i =>
 notK (.k v77) zf I i fun v78 I i =>
 cnd v78 (rtn 2 [11, 295147905179352826501] M m I i k)
 (j75 t1 M m I i)
def F77 (c : Y) (t0 M m I i : Nat) (k : KF) : Res :=
 jn (S77_9 c k) fun j81 =>
 boxK 2 (.k t0) zf M m I i fun v82 M m I i =>
 j81 v82 M m I i
def g77 (c : Y) : List Nat → Nat → Nat → Nat → Nat → KF → Res := unS fun t0 => un0 (F77 c t0)
def S118_1 (c : Y) (j6 : X9) (n8 : Nat) (j7 : X10) (t0 t1 t2 t3 t8 t9 M m I i : Nat) : Res :=
 lt 5 t1 t9 fun v11 =>
 jn (fun (v26 M m I i : Nat) =>
 pk v11 v26 1 fun v27 =>
 cnd v27 (sbt n8 t9 295147905179352825893 fun v32 =>
 sbt n8 t9 295147905179352825893 fun v35 =>
 ia 2 t0 v35 fun v36 =>
 loadNK 2 (.k v36) zf M I i fun v37 I i =>
 ia 2 t0 t9 fun v40 =>
 loadNK 2 (.k v40) zf M I i fun v41 I i =>
 ia 2 t0 t9 fun v42 =>
 storeK 2 (.k v42) (.k v37) zf M m I i fun _ M m I i =>
 ia 2 t0 v32 fun v43 =>
 storeK 2 (.k v43) (.k v41) zf M m I i fun _ M m I i =>
 sbt n8 t9 295147905179352825893 fun v45 =>
 j7 t0 t1 t2 t3 t8 v45 M m I i)
 (j6 t0 t1 t2 t3 t8 M m I i))
 (fun j13 => gd v11 33 (ia 2 t0 t9 fun v17 =>
 loadNK 2 (.k v17) zf M I i fun v18 I i =>
 sbt n8 t9 295147905179352825893 fun v21 =>
 ia 2 t0 v21 fun v22 =>
 loadNK 2 (.k v22) zf M I i fun v23 I i =>
 callvS c (.k t3) [(.k v18), (.k v23)] zf M m I i fun v24 M m I i =>
 lt 5 v24 295147905179352825861 fun v25 =>
 j13 v25 M m I i) (j13 0 M m I i))
def S118_2 (c : Y) (j6 : X9) (t0 t1 t2 t3 t8 t9 M m I i : Nat) : Res :=
 lp (S118_1 c j6) (fun _ _ _ _ _ _ _ _ _ _ => .bad 73 0) t0 t1 t2 t3 t8 t9 M m I i
def S118_3 (c : Y) (n2 : Nat) (j1 : X9) (t0 t1 t2 t3 t8 M m I i : Nat) : Res :=
 jn (fun (t0 t1 t2 t3 t8 M m I i : Nat) =>
 adt n2 t8 295147905179352825893 fun v4 =>
 j1 t0 t1 t2 t3 v4 M m I i) fun j6 =>
 jn (S118_2 c j6) fun j47 =>
 j47 t0 t1 t2 t3 t8 t8 M m I i
def S118_4 (c : Y) (k : KF) (n2 : Nat) (j1 : X9) (t0 t1 t2 t3 t8 M m I i : Nat) : Res :=
 jn (S118_3 c n2 j1) fun j50 =>
 lt 5 t8 t2 fun v53 =>
 cnd v53 (j50 t0 t1 t2 t3 t8 M m I i)
 (rtn 0 [] M m I i k)
def S118_5 (c : Y) (k : KF) (t0 t1 t2 t3 t8 M m I i : Nat) : Res :=
 lp (S118_4 c k) (fun _ _ _ _ _ _ _ _ _ => .bad 73 0) t0 t1 t2 t3 t8 M m I i
def F118 (c : Y) (t0 t1 t2 t3 M m I i : Nat) (k : KF) : Res :=
 jn (S118_5 c k) fun j54 =>
 ad t1 295147905179352825893 fun v56 =>
 j54 t0 t1 t2 t3 v56 M m I i
def g118 (c : Y) : List Nat → Nat → Nat → Nat → Nat → KF → Res := unS fun t0 => unS fun t1 => unS fun t2 => unS fun t3 => un0 (F118 c t0 t1 t2 t3)
def S351_1 (k : KF) (j2 : X4) (n4 : Nat) (j3 : X9) (t1 t5 t14 t15 t16 M m I i : Nat) : Res :=
 lt 5 t16 t15 fun v5 =>
 cnd v5 (ia 1 t14 t16 fun v6 =>
 ld v6 M fun v7 =>
 lt 5 v7 295147905179352825861 fun v10 =>
 jn (fun (v16 : Nat) =>
 pk v10 33 v16 fun v17 =>
 jn (fun (v24 : Nat) =>
 pk v17 33 v24 fun v25 =>
 cnd v25 (k 1 M m I i)
 (ia 1 t5 v7 fun v29 =>
 storeK 1 (.k v29) (.k 33) zf M m I i fun _ M m I i =>
 adt n4 t16 295147905179352825893 fun v30 =>
 j3 t1 t5 t14 t15 v30 M m I i))
 (fun j19 => gd v17 1 (ia 1 t5 v7 fun v22 =>
 ld v22 M fun v23 =>
 j19 v23) (j19 0)))
 (fun j12 => gd v10 1 (ge 5 v7 t1 fun v15 =>
 j12 v15) (j12 0)))
 (j2 M m I i)
def S351_2 (k : KF) (j2 : X4) (t1 t5 t14 t15 t16 M m I i : Nat) : Res :=
 lp (S351_1 k j2) (fun _ _ _ _ _ _ _ _ _ => .bad 73 0) t1 t5 t14 t15 t16 M m I i
def S351_3 (k : KF) (t0 t1 t5 M m I i : Nat) : Res :=
 jn (fun (M m I i : Nat) =>
 k 33 M m I i) fun j2 =>
 jn (S351_2 k j2) fun j32 =>
 ln t0 fun v34 =>
 j32 t1 t5 t0 v34 295147905179352825861 M m I i
def S351_4 (k : KF) (t0 t1 M m I i : Nat) : Res :=
 jn (S351_3 k) fun j36 =>
 mkSlK 1 1 (.k t1) (.k t1) zf M m I i fun v38 M m I i =>
 j36 t0 t1 v38 M m I i
def S351_5 (k : KF) (t0 t1 M m I i : Nat) : Res :=
 jn (S351_4 k) fun j40 =>
 ln t0 fun v42 =>
 ne 5 v42 t1 fun v44 =>
 cnd v44 (k 1 M m I i)
 (j40 t0 t1 M m I i)
def F351 (c : Y) (t0 t1 M m I i : Nat) (k : KF) : Res :=
 jn (S351_5 k) fun j46 =>
 j46 t0 t1 M m I i
def g351 (c : Y) : List Nat → Nat → Nat → Nat → Nat → KF → Res := unS fun t0 => unS fun t1 => un0 (F351 c t0 t1)
def S479_1 (j6 : X6) (n8 : Nat) (j7 : X10) (t1 t2 t5 t14 t15 t16 M m I i : Nat) : Res :=
 lt 5 t16 t15 fun v9 =>
 cnd v9 (ia 1 t14 t16 fun v10 =>
 ld v10 M fun v11 =>
 ld t2 M fun v14 =>
 nilcK (.k v14) zf I i fun v15 I i =>
 fa 3 v15 fun v16 =>
 ld v16 M fun v17 =>
 ia 1 v17 t1 fun v19 =>
 ld v19 M fun v20 =>
 ne 5 v11 v20 fun v21 =>
 cnd v21 (bldSK 1 1 295147905179352825861 [(0, 1, (.k v11))] zf M m I i fun v24 M m I i =>
 appW 1 t5 v24 M m I i fun v25 M m I i =>
 adt n8 t16 295147905179352825893 fun v27 =>
 j7 t1 t2 v25 t14 t15 v27 M m I i)
 (adt n8 t16 295147905179352825893 fun v29 =>
 j7 t1 t2 t5 t14 t15 v29 M m I i))
 (j6 t2 t5 M m I i)
def S479_2 (j6 : X6) (t1 t2 t5 t14 t15 t16 M m I i : Nat) : Res :=
 lp (S479_1 j6) (fun _ _ _ _ _ _ _ _ _ _ => .bad 73 0) t1 t2 t5 t14 t15 t16 M m I i
def S479_3 (c : Y) (k : KF) (t1 t2 t5 M m I i : Nat) : Res :=
 jn (fun (t2 t5 M m I i : Nat) =>
 mkfK 480 1 [(.k t2)] zf I i fun v2 I i =>
 c 416 [t5, v2] M m I i fun v3 M m I i =>
 k t5 M m I i) fun j6 =>
 jn (S479_2 j6) fun j31 =>
 ld t2 M fun v32 =>
 nilcK (.k v32) zf I i fun v33 I i =>
 fa 1 v33 fun v34 =>
 ld v34 M fun v35 =>
 ia 1 v35 t1 fun v37 =>
 ld v37 M fun v38 =>
 ln v38 fun v39 =>
 j31 t1 t2 t5 v38 v39 295147905179352825861 M m I i
def S479_4 (c : Y) (k : KF) (t1 t2 M m I i : Nat) : Res :=
 jn (S479_3 c k) fun j41 =>
 j41 t1 t2 11 M m I i
def F479 (c : Y) (t0 t1 M m I i : Nat) (k : KF) : Res :=
 jn (S479_4 c k) fun j43 =>
 boxK 1 (.k t0) zf M m I i fun v44 M m I i =>
 j43 t1 v44 M m I i
def g479 (c : Y) : List Nat → Nat → Nat → Nat → Nat → KF → Res := unS fun t0 => unS fun t1 => un0 (F479 c t0 t1)
def S155_1 (k : KF) (j5 : X5) (n7 : Nat) (j6 : X8) (t2 t11 t12 t13 M m I i : Nat) : Res :=
 lt 5 t13 t12 fun v8 =>
 cnd v8 (ia 1 t11 t13 fun v9 =>
 ld v9 M fun v10 =>
 lt 5 v10 295147905179352825861 fun v13 =>
 jn (fun (v20 : Nat) =>
 pk v13 33 v20 fun v21 =>
 cnd v21 (rtn 2 [11, 295147905179352825925] M m I i k)
 (adt n7 t13 295147905179352825893 fun v24 =>
 j6 t2 t11 t12 v24 M m I i))
 (fun j15 => gd v13 1 (fa 0 t2 fun v17 =>
 ld v17 M fun v18 =>
 ge 5 v10 v18 fun v19 =>
 j15 v19) (j15 0)))
 (j5 t2 M m I i)
def S155_2 (k : KF) (j5 : X5) (t2 t11 t12 t13 M m I i : Nat) : Res :=
 lp (S155_1 k j5) (fun _ _ _ _ _ _ _ _ => .bad 73 0) t2 t11 t12 t13 M m I i
def S155_3 (c : Y) (k : KF) (t1 t2 M m I i : Nat) : Res :=
 jn (fun (t2 M m I i : Nat) =>
 loadNK 2 (.k t2) zf M I i fun v1 I i =>
 c 162 [v1] M m I i fun v2 M m I i =>
 rtn 2 [v2, 295147905179352825861] M m I i k) fun j5 =>
 jn (S155_2 k j5) fun j26 =>
 ln t1 fun v28 =>
 j26 t2 t1 v28 295147905179352825861 M m I i
def S155_4 (c : Y) (k : KF) (t1 t2 M m I i : Nat) : Res :=
 jn (S155_3 c k) fun j30 =>
 loadNK 2 (.k t2) zf M I i fun v31 I i =>
 c 37 [v31] M m I i fun v32 M m I i =>
 notK (.k v32) zf I i fun v33 I i =>
 cnd v33 (rtn 2 [11, 295147905179352826501] M m I i k)
 (j30 t1 t2 M m I i)
def F155 (c : Y) (t0 t1 M m I i : Nat) (k : KF) : Res :=
 jn (S155_4 c k) fun j36 =>
 boxK 2 (.k t0) zf M m I i fun v37 M m I i =>
 j36 t1 v37 M m I i
def g155 (c : Y) : List Nat → Nat → Nat → Nat → Nat → KF → Res := unS fun t0 => unS fun t1 => un0 (F155 c t0 t1)
def S62_1 (k : KF) (j4 : X5) (n6 : Nat) (j5 : X8) (t0 t4 t25 t26 M m I i : Nat) : Res :=
 lt 5 t26 t25 fun v7 =>
 cnd v7 (idxTK (.k t0) (.k t26) zf I i fun v12 I i =>
 lt 6 v12 1542 fun v13 =>
 jn (fun (v20 M m I i : Nat) =>
 pk v13 33 v20 fun v21 =>
 cnd v21 (rtn 2 [295147905179352825861, 1] M m I i k)
 (iopK .mul .i64 (.k 295147905179352826181) (.k t4) zf I i fun v25 I i => tkk n6 v25 fun v26 =>
 idxTK (.k t0) (.k t26) zf I i fun v29 I i =>
 iopK .sub .u8 (.k v29) (.k 1542) zf I i fun v30 I i => tkk n6 v30 fun v31 =>
 convK .u8 .i64 (.k v31) zf I i fun v32 I i =>
 adt n6 v26 v32 fun v33 =>
 adt n6 t26 295147905179352825893 fun v35 =>
 j5 t0 v33 t25 v35 M m I i))
 (fun j15 => gd v13 1 (idxTK (.k t0) (.k t26) zf I i fun v18 I i =>
 lt 6 1830 v18 fun v19 =>
 j15 v19 M m I i) (j15 0 M m I i)))
 (j4 t4 M m I i)
def S62_2 (k : KF) (j4 : X5) (t0 t4 t25 t26 M m I i : Nat) : Res :=
 lp (S62_1 k j4) (fun _ _ _ _ _ _ _ _ => .bad 73 0) t0 t4 t25 t26 M m I i
def S62_3 (k : KF) (t0 t4 M m I i : Nat) : Res :=
 jn (fun (t4 M m I i : Nat) =>
 rtn 2 [t4, 33] M m I i k) fun j4 =>
 jn (S62_2 k j4) fun j37 =>
 lenTK (.k t0) zf I i fun v39 I i =>
 j37 t0 t4 v39 295147905179352825861 M m I i
def S62_4 (k : KF) (t0 M m I i : Nat) : Res :=
 jn (S62_3 k) fun j41 =>
 j41 t0 295147905179352825861 M m I i
def S62_5 (k : KF) (t0 M m I i : Nat) : Res :=
 jn (S62_4 k) fun j43 =>
 lenTK (.k t0) zf I i fun v45 I i =>
 lt 5 v45 295147905179352825893 fun v46 =>
 jn (fun (v52 M m I i : Nat) =>
 pk v46 33 v52 fun v53 =>
 jn (fun (v60 M m I i : Nat) =>
 jn (fun (v65 M m I i : Nat) =>
 jn (fun (v68 : Nat) =>
 pk v53 33 v68 fun v69 =>
 cnd v69 (rtn 2 [295147905179352825861, 1] M m I i k)
 (j43 t0 M m I i))
 (fun j66 => gd v53 1 (pk v60 v65 1 fun v67 =>
 j66 v67) (j66 0)))
 (fun j61 => gd v60 33 (idxTK (.k t0) (.k 295147905179352825861) zf I i fun v63 I i =>
 eq 6 v63 1542 fun v64 =>
 j61 v64 M m I i) (j61 0 M m I i)))
 (fun j55 => gd v53 1 (lenTK (.k t0) zf I i fun v57 I i =>
 lt 5 295147905179352825893 v57 fun v58 =>
 j55 v58 M m I i) (j55 0 M m I i)))
 (fun j48 => gd v46 1 (lenTK (.k t0) zf I i fun v50 I i =>
 lt 5 295147905179352826149 v50 fun v51 =>
 j48 v51 M m I i) (j48 0 M m I i))
def F62 (c : Y) (t0 M m I i : Nat) (k : KF) : Res :=
 jn (S62_5 k) fun j72 =>
 j72 t0 M m I i
def g62 (c : Y) : List Nat → Nat → Nat → Nat → Nat → KF → Res := unS fun t0 => un0 (F62 c t0)
def S145_1 (c : Y) (j17 : X6) (n19 : Nat) (j18 : X9) (t0 t1 t5 t6 t7 M m I i : Nat) : Res :=
 ln t6 fun v22 =>
 lt 5 t7 v22 fun v23 =>
 cnd v23 (ia 1 t6 t7 fun v27 =>
 ld v27 M fun v28 =>
 sbt n19 t7 295147905179352825893 fun v31 =>
 ia 1 t6 v31 fun v32 =>
 ld v32 M fun v33 =>
 callvS c (.k t1) [(.k v28), (.k v33)] zf M m I i fun v34 M m I i =>
 notK (.k v34) zf I i fun v35 I i =>
 cnd v35 (ia 1 t6 t7 fun v40 =>
 ld v40 M fun v41 =>
 ia 1 t0 t5 fun v42 =>
 storeK 1 (.k v42) (.k v41) zf M m I i fun _ M m I i =>
 adt n19 t5 295147905179352825893 fun v44 =>
 adt n19 t7 295147905179352825893 fun v47 =>
 j18 t0 t1 v44 t6 v47 M m I i)
 (adt n19 t7 295147905179352825893 fun v50 =>
 j18 t0 t1 t5 t6 v50 M m I i))
 (j17 t0 t5 M m I i)
def S145_2 (c : Y) (j17 : X6) (t0 t1 t5 t6 t7 M m I i : Nat) : Res :=
 lp (S145_1 c j17) (fun _ _ _ _ _ _ _ _ _ => .bad 73 0) t0 t1 t5 t6 t7 M m I i
def S145_3 (c : Y) (k : KF) (t0 t1 t5 t6 M m I i : Nat) : Res :=
 jn (fun (t0 t5 M m I i : Nat) =>
 slcK 1 (.k t0) (some (.k t5)) none none zf I i fun v12 I i =>
 clearW 1 11 v12 M m I i fun _ M m I i =>
 slcK 1 (.k t0) none (some (.k t5)) none zf I i fun v15 I i =>
 k v15 M m I i) fun j17 =>
 jn (S145_2 c j17) fun j52 =>
 j52 t0 t1 t5 t6 295147905179352825893 M m I i
def S145_4 (c : Y) (k : KF) (j9 : X7) (t0 t1 t5 t28 M m I i : Nat) : Res :=
 cnd t28 (jn (S145_3 c k) fun j54 =>
 slcK 1 (.k t0) (some (.k t5)) none none zf I i fun v57 I i =>
 j54 t0 t1 t5 v57 M m I i)
 (j9 t0 t1 t5 M m I i)
def S145_5 (c : Y) (k : KF) (n5 : Nat) (j4 : X7) (t0 t1 t5 M m I i : Nat) : Res :=
 jn (fun (t0 t1 t5 M m I i : Nat) =>
 adt n5 t5 295147905179352825893 fun v7 =>
 j4 t0 t1 v7 M m I i) fun j9 =>
 jn (S145_4 c k j9) fun j59 =>
 ia 1 t0 t5 fun v63 =>
 ld v63 M fun v64 =>
 sbt n5 t5 295147905179352825893 fun v67 =>
 ia 1 t0 v67 fun v68 =>
 ld v68 M fun v69 =>
 callvS c (.k t1) [(.k v64), (.k v69)] zf M m I i fun v70 M m I i =>
 j59 t0 t1 t5 v70 M m I i
def S145_6 (c : Y) (k : KF) (j3 : X5) (n5 : Nat) (j4 : X7) (t0 t1 t5 M m I i : Nat) : Res :=
 jn (S145_5 c k n5 j4) fun j71 =>
 ln t0 fun v74 =>
 lt 5 t5 v74 fun v75 =>
 cnd v75 (j71 t0 t1 t5 M m I i)
 (j3 t0 M m I i)
def S145_7 (c : Y) (k : KF) (j3 : X5) (t0 t1 t5 M m I i : Nat) : Res :=
 lp (S145_6 c k j3) (fun _ _ _ _ _ _ _ => .bad 73 0) t0 t1 t5 M m I i
def S145_8 (c : Y) (k : KF) (t0 t1 M m I i : Nat) : Res :=
 jn (fun (t0 M m I i : Nat) =>
 k t0 M m I i) fun j3 =>
 jn (S145_7 c k j3) fun j76 =>
 j76 t0 t1 295147905179352825893 M m I i
def S145_9 (c : Y) (k : KF) (t0 t1 M m I i : Nat) : Res :=
 jn (S145_8 c k) fun j78 =>
 ln t0 fun v80 =>
 lt 5 v80 295147905179352825925 fun v81 =>
 cnd v81 (k t0 M m I i)
 (j78 t0 t1 M m I i)
def F145 (c : Y) (t0 t1 M m I i : Nat) (k : KF) : Res :=
 jn (S145_9 c k) fun j84 =>
 j84 t0 t1 M m I i
def g145 (c : Y) : List Nat → Nat → Nat → Nat → Nat → KF → Res := unS fun t0 => unS fun t1 => un0 (F145 c t0 t1)
def S84_1 (k : KF) (j2 : X4) (n4 : Nat) (j3 : X8) (t0 t1 t12 t13 M m I i : Nat) : Res :=
 lt 5 t13 t12 fun v5 =>
 cnd v5 (ia 1 t0 t13 fun v10 =>
 ld v10 M fun v11 =>
 ia 1 t1 t13 fun v14 =>
 ld v14 M fun v15 =>
 ne 6 v11 v15 fun v16 =>
 cnd v16 (k 1 M m I i)
 (adt n4 t13 295147905179352825893 fun v18 =>
 j3 t0 t1 t12 v18 M m I i))
 (j2 M m I i)
def S84_2 (k : KF) (j2 : X4) (t0 t1 t12 t13 M m I i : Nat) : Res :=
 lp (S84_1 k j2) (fun _ _ _ _ _ _ _ _ => .bad 73 0) t0 t1 t12 t13 M m I i
def S84_3 (k : KF) (t0 t1 M m I i : Nat) : Res :=
 jn (fun (M m I i : Nat) =>
 k 33 M m I i) fun j2 =>
 jn (S84_2 k j2) fun j20 =>
 ln t0 fun v22 =>
 j20 t0 t1 v22 295147905179352825861 M m I i
def S84_4 (k : KF) (t0 t1 M m I i : Nat) : Res :=
 jn (S84_3 k) fun j24 =>
 ln t0 fun v26 =>
 ln t1 fun v28 =>
 ne 5 v26 v28 fun v29 =>
 cnd v29 (k 1 M m I i)
 (j24 t0 t1 M m I i)
def F84 (c : Y) (t0 t1 M m I i : Nat) (k : KF) : Res :=
 jn (S84_4 k) fun j31 =>
 j31 t0 t1 M m I i
def g84 (c : Y) : List Nat → Nat → Nat → Nat → Nat → KF → Res := unS fun t0 => unS fun t1 => un0 (F84 c t0 t1)
def F346 (c : Y) (t0 M m I i : Nat) (k : KF) : Res :=
 ln t0 fun v4 =>
 ln t0 fun v6 =>
 slcK 1 (.k t0) none (some (.k v4)) (some (.k v6)) zf I i fun v7 I i =>
 k v7 M m I i
def g346 (c : Y) : List Nat → Nat → Nat → Nat → Nat → KF → Res := unS fun t0 => un0 (F346 c t0)
def S40_1 (c : Y) (j8 : X9) (n10 : Nat) (j9 : X12) (t5 t7 t27 t28 t29 t33 t34 t35 M m I i : Nat) : Res :=
 lt 5 t35 t34 fun v11 =>
 cnd v11 (ia 1 t33 t35 fun v13 =>
 ld v13 M fun v14 =>
 callvS c (.k t7) [(.k t35)] zf M m I i fun v19 M m I i =>
 callvS c (.k t7) [(.k v14)] zf M m I i fun v22 M m I i =>
 ld t5 M fun v25 =>
 minK true 5 (.k v19) (.k v22) zf I i fun v28 I i =>
 minK false 5 (.k v19) (.k v22) zf I i fun v31 I i =>
 ia 1 v25 v28 fun v32 =>
 storeK 1 (.k v32) (.k v31) zf M m I i fun _ M m I i =>
 adt n10 t35 295147905179352825893 fun v33 =>
 j9 t5 t7 t27 t28 t29 t33 t34 v33 M m I i)
 (j8 t5 t7 t27 t28 t29 M m I i)
def S40_2 (c : Y) (j8 : X9) (t5 t7 t27 t28 t29 t33 t34 t35 M m I i : Nat) : Res :=
 lp (S40_1 c j8) (fun _ _ _ _ _ _ _ _ _ _ _ _ => .bad 73 0) t5 t7 t27 t28 t29 t33 t34 t35 M m I i
def S40_3 (c : Y) (j8 : X9) (t5 t7 t9 t27 t28 t29 M m I i : Nat) : Res :=
 jn (S40_2 c j8) fun j35 =>
 ln t9 fun v37 =>
 j35 t5 t7 t27 t28 t29 t9 v37 295147905179352825861 M m I i
def S40_4 (c : Y) (n5 : Nat) (j4 : X9) (t5 t7 t27 t28 t29 M m I i : Nat) : Res :=
 jn (fun (t5 t7 t27 t28 t29 M m I i : Nat) =>
 adt n5 t29 295147905179352825893 fun v6 =>
 j4 t5 t7 t27 t28 v6 M m I i) fun j8 =>
 jn (S40_3 c j8) fun j39 =>
 ia 1 t27 t29 fun v40 =>
 ld v40 M fun v41 =>
 j39 t5 t7 v41 t27 t28 t29 M m I i
def S40_5 (c : Y) (j3 : X5) (n5 : Nat) (j4 : X9) (t5 t7 t27 t28 t29 t30 M m I i : Nat) : Res :=
 jn (S40_4 c n5 j4) fun j43 =>
 cnd t30 (j43 t5 t7 t27 t28 t29 M m I i)
 (j3 t7 M m I i)
def S40_6 (c : Y) (j3 : X5) (n5 : Nat) (j4 : X9) (t5 t7 t27 t28 t29 M m I i : Nat) : Res :=
 jn (S40_5 c j3 n5 j4) fun j44 =>
 lt 5 t29 t28 fun v45 =>
 j44 t5 t7 t27 t28 t29 v45 M m I i
def S40_7 (c : Y) (j3 : X5) (t5 t7 t27 t28 t29 M m I i : Nat) : Res :=
 lp (S40_6 c j3) (fun _ _ _ _ _ _ _ _ _ => .bad 73 0) t5 t7 t27 t28 t29 M m I i
def S40_8 (c : Y) (k : KF) (t1 t5 t7 M m I i : Nat) : Res :=
 jn (fun (t7 M m I i : Nat) =>
 k t7 M m I i) fun j3 =>
 jn (S40_7 c j3) fun j46 =>
 ln t1 fun v48 =>
 j46 t5 t7 t1 v48 295147905179352825861 M m I i
def S40_9 (c : Y) (k : KF) (t1 t5 M m I i : Nat) : Res :=
 jn (S40_8 c k) fun j50 =>
 mkfK 86 1 [(.k t5)] zf I i fun v51 I i =>
 j50 t1 t5 v51 M m I i
def S40_10 (c : Y) (k : KF) (t1 t5 M m I i : Nat) : Res :=
 jn (S40_9 c k) fun j53 =>
 jn (fun (t1 t5 t17 t18 M m I i : Nat) =>
 lp (fun (n55 : Nat) (j54 : X8) (t1 t5 t17 t18 M m I i : Nat) =>
 lt 5 t18 t17 fun v56 =>
 cnd v56 (ld t5 M fun v59 =>
 ia 1 v59 t18 fun v62 =>
 storeK 1 (.k v62) (.k t18) zf M m I i fun _ M m I i =>
 adt n55 t18 295147905179352825893 fun v63 =>
 j54 t1 t5 t17 v63 M m I i)
 (j53 t1 t5 M m I i)) (fun _ _ _ _ _ _ _ _ => .bad 73 0) t1 t5 t17 t18 M m I i) fun j65 =>
 ld t5 M fun v66 =>
 ln v66 fun v67 =>
 j65 t1 t5 v67 295147905179352825861 M m I i
def S40_11 (c : Y) (k : KF) (t0 t1 M m I i : Nat) : Res :=
 jn (S40_10 c k) fun j69 =>
 mkSlK 1 295147905179352825861 (.k t0) (.k t0) zf M m I i fun v71 M m I i =>
 newK 1 11 M m I i fun v72 M m I i =>
 storeK 1 (.k v72) (.k v71) zf M m I i fun _ M m I i =>
 j69 t1 v72 M m I i
def F40 (c : Y) (t0 t1 M m I i : Nat) (k : KF) : Res :=
 jn (S40_11 c k) fun j73 =>
 j73 t0 t1 M m I i
def g40 (c : Y) : List Nat → Nat → Nat → Nat → Nat → KF → Res := unS fun t0 => unS fun t1 => un0 (F40 c t0 t1)
def F339 (c : Y) (t0 t1 M m I i : Nat) (k : KF) : Res :=
 nilcK (.k t0) zf I i fun v2 I i =>
 fa 9 v2 fun v3 =>
 ld v3 M fun v4 =>
 ia 1 v4 t1 fun v6 =>
 ld v6 M fun v7 =>
 notK (.k v7) zf I i fun v8 I i =>
 cnd v8 (nilcK (.k t0) zf I i fun v10 I i =>
 fa 9 v10 fun v11 =>
 ld v11 M fun v12 =>
 ia 1 v12 t1 fun v14 =>
 storeK 1 (.k v14) (.k 33) zf M m I i fun _ M m I i =>
 nilcK (.k t0) zf I i fun v17 I i =>
 fa 10 v17 fun v18 =>
 ld v18 M fun v19 =>
 bldSK 1 1 295147905179352825861 [(0, 1, (.k t1))] zf M m I i fun v21 M m I i =>
 appW 1 v19 v21 M m I i fun v22 M m I i =>
 nilcK (.k t0) zf I i fun v23 I i =>
 fa 10 v23 fun v24 =>
 storeK 1 (.k v24) (.k v22) zf M m I i fun _ M m I i =>
 rtn 0 [] M m I i k)
 (rtn 0 [] M m I i k)
def g339 (c : Y) : List Nat → Nat → Nat → Nat → Nat → KF → Res := unS fun t0 => unS fun t1 => un0 (F339 c t0 t1)
def F148 (c : Y) (t0 t1 M m I i : Nat) (k : KF) : Res :=
 c 144 [t0, t1] M m I i fun v4 M m I i =>
 k v4 M m I i
def g148 (c : Y) : List Nat → Nat → Nat → Nat → Nat → KF → Res := unS fun t0 => unS fun t1 => un0 (F148 c t0 t1)
def F195 (c : Y) (t0 t1 M m I i : Nat) (k : KF) : Res :=
 boxK 2 (.k t0) zf M m I i fun v1 M m I i =>
 newK 2 23384026197294446691655098136031850002462640439307 M m I i fun v2 M m I i =>
 fa 1 v1 fun v3 =>
 ld v3 M fun v4 =>
 ad v4 t1 fun v6 =>
 fa 1 v1 fun v7 =>
 ld v7 M fun v8 =>
 ad v8 t1 fun v10 =>
 newK 2 23384026197294446691655098136031850002462640439307 M m I i fun v11 M m I i =>
 c 225 [v6] M m I i fun v13 M12 m I i =>
 flL v7 1 M M12 <| 
 mkSlK 1 6 (.k v13) (.k v13) zf M12 m I i fun v14 M m I i =>
 buildK 2 23384026197294446691655098136031850002462640439307 [(0, 1, (.k v14)), (1, 1, (.k v10))] zf I i fun v15 I i =>
 storeK 2 (.k v11) (.k v15) zf M m I i fun _ M m I i =>
 fa 0 v11 fun v16 =>
 ld v16 M fun v17 =>
 fa 0 v1 fun v18 =>
 ld v18 M fun v19 =>
 copyW 1 v17 v19 M m I i fun v20 M m I i =>
 loadNK 2 (.k v11) zf M I i fun v21 I i =>
 storeK 2 (.k v2) (.k v21) zf M m I i fun _ M m I i =>
 loadNK 2 (.k v2) zf M I i fun v22 I i => k v22 M m I i
def g195 (c : Y) : List Nat → Nat → Nat → Nat → Nat → KF → Res := unS fun t0 => unS fun t1 => un0 (F195 c t0 t1)
def S136_1 (k : KF) (j2 : X4) (n4 : Nat) (j3 : X9) (t0 t3 t12 t13 t14 M m I i : Nat) : Res :=
 lt 5 t14 t13 fun v5 =>
 cnd v5 (ia 1 t12 t14 fun v6 =>
 ld v6 M fun v7 =>
 lt 5 v7 295147905179352825861 fun v10 =>
 jn (fun (v17 : Nat) =>
 pk v10 33 v17 fun v18 =>
 jn (fun (v25 : Nat) =>
 pk v18 33 v25 fun v26 =>
 cnd v26 (k 1 M m I i)
 (ia 1 t3 v7 fun v30 =>
 storeK 1 (.k v30) (.k 33) zf M m I i fun _ M m I i =>
 adt n4 t14 295147905179352825893 fun v31 =>
 j3 t0 t3 t12 t13 v31 M m I i))
 (fun j20 => gd v18 1 (ia 1 t3 v7 fun v23 =>
 ld v23 M fun v24 =>
 j20 v24) (j20 0)))
 (fun j12 => gd v10 1 (ln t0 fun v15 =>
 ge 5 v7 v15 fun v16 =>
 j12 v16) (j12 0)))
 (j2 M m I i)
def S136_2 (k : KF) (j2 : X4) (t0 t3 t12 t13 t14 M m I i : Nat) : Res :=
 lp (S136_1 k j2) (fun _ _ _ _ _ _ _ _ _ => .bad 73 0) t0 t3 t12 t13 t14 M m I i
def S136_3 (k : KF) (t0 t3 M m I i : Nat) : Res :=
 jn (fun (M m I i : Nat) =>
 k 33 M m I i) fun j2 =>
 jn (S136_2 k j2) fun j33 =>
 ln t0 fun v35 =>
 j33 t0 t3 t0 v35 295147905179352825861 M m I i
def S136_4 (k : KF) (t0 M m I i : Nat) : Res :=
 jn (S136_3 k) fun j37 =>
 ln t0 fun v39 =>
 mkSlK 1 1 (.k v39) (.k v39) zf M m I i fun v40 M m I i =>
 j37 t0 v40 M m I i
def S136_5 (k : KF) (t0 M m I i : Nat) : Res :=
 jn (S136_4 k) fun j42 =>
 ln t0 fun v44 =>
 lt 5 295147905179352832261 v44 fun v45 =>
 cnd v45 (k 1 M m I i)
 (j42 t0 M m I i)
def F136 (c : Y) (t0 M m I i : Nat) (k : KF) : Res :=
 jn (S136_5 k) fun j47 =>
 j47 t0 M m I i
def g136 (c : Y) : List Nat → Nat → Nat → Nat → Nat → KF → Res := unS fun t0 => un0 (F136 c t0)
def S340_1 (c : Y) (k : KF) (t0 t1 t4 t7 M m I i : Nat) : Res :=
 c 344 [t0, t1, t7] M m I i fun v4 M m I i =>
 f1 19 0 v4 I fun v6 =>
 f1 19 1 v4 I fun v7 =>
 ne 5 v7 295147905179352825861 fun v11 =>
 cnd v11 (buildK 2 871509787656907713528983453707 [] zf I i fun v12 I i =>
 storeK 2 (.k t4) (.k v12) zf M m I i fun _ M m I i =>
 loadNK 2 (.k t4) zf M I i fun v15 I i => rtn 2 [v15, v7] M m I i k)
 (buildK 2 871509787656907713528983453707 [(0, 1, (.k v6)), (1, 1, (.k t7))] zf I i fun v18 I i =>
 storeK 2 (.k t4) (.k v18) zf M m I i fun _ M m I i =>
 loadNK 2 (.k t4) zf M I i fun v20 I i => rtn 2 [v20, 295147905179352825861] M m I i k)
def S340_2 (c : Y) (k : KF) (t0 t1 t4 t6 t7 M m I i : Nat) : Res :=
 jn (S340_1 c k) fun j21 =>
 ln t6 fun v23 =>
 eq 5 v23 295147905179352825925 fun v24 =>
 cnd v24 (ia 1 t1 295147905179352825893 fun v26 =>
 ld v26 M fun v27 =>
 ia 1 t1 295147905179352825861 fun v29 =>
 ld v29 M fun v30 =>
 lt 5 v27 v30 fun v31 =>
 cnd v31 (c 274 [t7] M m I i fun v33 M m I i =>
 j21 t0 t1 t4 t7 M m I i)
 (j21 t0 t1 t4 t7 M m I i))
 (c 343 [t0, t6, t1] M m I i fun v37 M m I i =>
 f1 19 0 v37 I fun v39 =>
 f1 19 1 v37 I fun v40 =>
 ne 5 v40 295147905179352825861 fun v44 =>
 cnd v44 (buildK 2 871509787656907713528983453707 [] zf I i fun v45 I i =>
 storeK 2 (.k t4) (.k v45) zf M m I i fun _ M m I i =>
 loadNK 2 (.k t4) zf M I i fun v48 I i => rtn 2 [v48, v40] M m I i k)
 (j21 t0 t1 t4 v39 M m I i))
def S340_3 (c : Y) (k : KF) (t0 t1 t4 t6 M m I i : Nat) : Res :=
 jn (S340_2 c k) fun j51 =>
 c 139 [t6] M m I i fun v53 M m I i =>
 j51 t0 t1 t4 t6 v53 M m I i
def S340_4 (c : Y) (k : KF) (t0 t1 t4 M m I i : Nat) : Res :=
 jn (S340_3 c k) fun j55 =>
 c 342 [t0] M m I i fun v57 M m I i =>
 j55 t0 t1 t4 v57 M m I i
def S340_5 (c : Y) (k : KF) (t0 t1 t4 M m I i : Nat) : Res :=
 jn (S340_4 c k) fun j59 =>
 c 341 [t0, t1] M m I i fun v62 M m I i =>
 notK (.k v62) zf I i fun v63 I i =>
 cnd v63 (buildK 2 871509787656907713528983453707 [] zf I i fun v64 I i =>
 storeK 2 (.k t4) (.k v64) zf M m I i fun _ M m I i =>
 loadNK 2 (.k t4) zf M I i fun v66 I i => rtn 2 [v66, 295147905179352831941] M m I i k)
 (j59 t0 t1 t4 M m I i)
def F340 (c : Y) (t0 t1 M m I i : Nat) (k : KF) : Res :=
 jn (S340_5 c k) fun j67 =>
 newK 2 871509787656907713528983453707 M m I i fun v68 M m I i =>
 j67 t0 t1 v68 M m I i
def g340 (c : Y) : List Nat → Nat → Nat → Nat → Nat → KF → Res := unS fun t0 => unS fun t1 => un0 (F340 c t0 t1)
end
end Go.Proofs.YtpjhkpmmbeoghaaGreatDoor.Ev
