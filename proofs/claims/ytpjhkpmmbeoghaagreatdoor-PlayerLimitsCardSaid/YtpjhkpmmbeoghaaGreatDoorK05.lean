/- Part 5 of a verified evaluator, and what it reckons of the player. -/
import Derived.Test.YtpjhkpmmbeoghaaGreatDoorK04
set_option linter.unusedVariables false
set_option linter.unusedSimpArgs false
set_option linter.unusedSectionVars false
set_option maxRecDepth 100000
set_option linter.unusedVariables false
namespace Go.Proofs.YtpjhkpmmbeoghaaGreatDoor.Ev
open Go
noncomputable section
def F27 (c : Y) (t0 t1 M m I i : Nat) (k : KF) : Res :=
 cnd 1 (convK .u64 .u32 (.k t0) zf I i fun v4 I i =>
 convK .u64 .u32 (.k t1) zf I i fun v6 I i =>
 c 66 [v4, v6] M m I i fun v7 M m I i =>
 f1 19 0 v7 I fun v9 =>
 f1 19 1 v7 I fun v10 =>
 convK .u32 .u64 (.k v9) zf I i fun v14 I i =>
 convK .u32 .u64 (.k v10) zf I i fun v16 I i =>
 rtn 2 [v14, v16] M m I i k)
 (c 67 [t0, t1] M m I i fun v21 M m I i =>
 f1 19 0 v21 I fun v23 =>
 f1 19 1 v21 I fun v24 =>
 rtn 2 [v23, v24] M m I i k)
def g27 (c : Y) : List Nat → Nat → Nat → Nat → Nat → KF → Res := unS fun t0 => unS fun t1 => un0 (F27 c t0 t1)
def S86_1 (k : KF) (t0 t1 M m I i : Nat) : Res :=
 jn (fun (t0 M m I i : Nat) =>
 k t0 M m I i) fun j3 =>
 lp (fun (n5 : Nat) (j4 : X6) (t0 t1 M m I i : Nat) =>
 ld t1 M fun v6 =>
 ia 1 v6 t0 fun v8 =>
 ld v8 M fun v9 =>
 ne 5 v9 t0 fun v11 =>
 cnd v11 (ld t1 M fun v12 =>
 ia 1 v12 t0 fun v14 =>
 ld v14 M fun v15 =>
 j4 v15 t1 M m I i)
 (j3 t0 M m I i)) (fun _ _ _ _ _ _ => .bad 73 0) t0 t1 M m I i
def F86 (c : Y) (t0 t1 M m I i : Nat) (k : KF) : Res :=
 jn (S86_1 k) fun j17 =>
 j17 t0 t1 M m I i
def g86 (c : Y) : List Nat → Nat → Nat → Nat → Nat → KF → Res := unS fun t0 => unS fun t1 => un0 (F86 c t0 t1)
def S444_1 (c : Y) (j6 : X9) (n8 : Nat) (j7 : X10) (t0 t1 t2 t3 t8 t9 M m I i : Nat) : Res :=
 lt 5 t1 t9 fun v11 =>
 jn (fun (v26 M m I i : Nat) =>
 pk v11 v26 1 fun v27 =>
 cnd v27 (sbt n8 t9 295147905179352825893 fun v32 =>
 sbt n8 t9 295147905179352825893 fun v35 =>
 ia 1 t0 v35 fun v36 =>
 ld v36 M fun v37 =>
 ia 1 t0 t9 fun v40 =>
 ld v40 M fun v41 =>
 ia 1 t0 t9 fun v42 =>
 storeK 1 (.k v42) (.k v37) zf M m I i fun _ M m I i =>
 ia 1 t0 v32 fun v43 =>
 storeK 1 (.k v43) (.k v41) zf M m I i fun _ M m I i =>
 sbt n8 t9 295147905179352825893 fun v45 =>
 j7 t0 t1 t2 t3 t8 v45 M m I i)
 (j6 t0 t1 t2 t3 t8 M m I i))
 (fun j13 => gd v11 33 (ia 1 t0 t9 fun v17 =>
 ld v17 M fun v18 =>
 sbt n8 t9 295147905179352825893 fun v21 =>
 ia 1 t0 v21 fun v22 =>
 ld v22 M fun v23 =>
 callvS c (.k t3) [(.k v18), (.k v23)] zf M m I i fun v24 M m I i =>
 lt 5 v24 295147905179352825861 fun v25 =>
 j13 v25 M m I i) (j13 0 M m I i))
def S444_2 (c : Y) (j6 : X9) (t0 t1 t2 t3 t8 t9 M m I i : Nat) : Res :=
 lp (S444_1 c j6) (fun _ _ _ _ _ _ _ _ _ _ => .bad 73 0) t0 t1 t2 t3 t8 t9 M m I i
def S444_3 (c : Y) (n2 : Nat) (j1 : X9) (t0 t1 t2 t3 t8 M m I i : Nat) : Res :=
 jn (fun (t0 t1 t2 t3 t8 M m I i : Nat) =>
 adt n2 t8 295147905179352825893 fun v4 =>
 j1 t0 t1 t2 t3 v4 M m I i) fun j6 =>
 jn (S444_2 c j6) fun j47 =>
 j47 t0 t1 t2 t3 t8 t8 M m I i
def S444_4 (c : Y) (k : KF) (n2 : Nat) (j1 : X9) (t0 t1 t2 t3 t8 M m I i : Nat) : Res :=
 jn (S444_3 c n2 j1) fun j50 =>
 lt 5 t8 t2 fun v53 =>
 cnd v53 (j50 t0 t1 t2 t3 t8 M m I i)
 (rtn 0 [] M m I i k)
def S444_5 (c : Y) (k : KF) (t0 t1 t2 t3 t8 M m I i : Nat) : Res :=
 lp (S444_4 c k) (fun _ _ _ _ _ _ _ _ _ => .bad 73 0) t0 t1 t2 t3 t8 M m I i
def F444 (c : Y) (t0 t1 t2 t3 M m I i : Nat) (k : KF) : Res :=
 jn (S444_5 c k) fun j54 =>
 ad t1 295147905179352825893 fun v56 =>
 j54 t0 t1 t2 t3 v56 M m I i
def g444 (c : Y) : List Nat → Nat → Nat → Nat → Nat → KF → Res := unS fun t0 => unS fun t1 => unS fun t2 => unS fun t3 => un0 (F444 c t0 t1 t2 t3)
def S24_1 (k : KF) (j12 : X5) (n14 : Nat) (j13 : X7) (t1 t28 t29 M m I i : Nat) : Res :=
 lt 5 t29 t28 fun v15 =>
 cnd v15 (idxTK (.k t1) (.k t29) zf I i fun v20 I i =>
 lt 6 v20 3110 fun v21 =>
 jn (fun (v28 M m I i : Nat) =>
 pk v21 33 v28 fun v29 =>
 cnd v29 (k 1 M m I i)
 (adt n14 t29 295147905179352825893 fun v31 =>
 j13 t1 t28 v31 M m I i))
 (fun j23 => gd v21 1 (idxTK (.k t1) (.k t29) zf I i fun v26 I i =>
 lt 6 3910 v26 fun v27 =>
 j23 v27 M m I i) (j23 0 M m I i)))
 (j12 t1 M m I i)
def S24_2 (k : KF) (j12 : X5) (t1 t28 t29 M m I i : Nat) : Res :=
 lp (S24_1 k j12) (fun _ _ _ _ _ _ _ => .bad 73 0) t1 t28 t29 M m I i
def S24_3 (k : KF) (t1 M m I i : Nat) : Res :=
 jn (fun (t1 M m I i : Nat) =>
 lenTK (.k t1) zf I i fun v2 I i =>
 ge 5 v2 295147905179352825893 fun v3 =>
 jn (fun (v9 M m I i : Nat) =>
 pk v3 v9 1 fun v10 =>
 k v10 M m I i)
 (fun j5 => gd v3 33 (lenTK (.k t1) zf I i fun v7 I i =>
 ge 5 295147905179352826117 v7 fun v8 =>
 j5 v8 M m I i) (j5 0 M m I i))) fun j12 =>
 jn (S24_2 k j12) fun j33 =>
 lenTK (.k t1) zf I i fun v35 I i =>
 j33 t1 v35 295147905179352825861 M m I i
def S24_4 (c : Y) (k : KF) (t0 t1 M m I i : Nat) : Res :=
 jn (S24_3 k) fun j37 =>
 eq 6 t0 3206 fun v39 =>
 cnd v39 (c 62 [t1] M m I i fun v42 M m I i =>
 f1 19 0 v42 I fun v44 =>
 f1 19 1 v42 I fun v45 =>
 k v45 M m I i)
 (eq 6 t0 3238 fun v50 =>
 cnd v50 (c 63 [t1] M m I i fun v53 M m I i =>
 f1 19 0 v53 I fun v55 =>
 f1 19 1 v53 I fun v56 =>
 newK 2 23384026197294446691655098136326997907641993265157 M m I i fun v57 M m I i =>
 storeK 2 (.k v57) (.k v55) zf M m I i fun _ M m I i =>
 k v56 M m I i)
 (j37 t1 M m I i))
def F24 (c : Y) (t0 t1 M m I i : Nat) (k : KF) : Res :=
 jn (S24_4 c k) fun j61 =>
 j61 t0 t1 M m I i
def g24 (c : Y) : List Nat → Nat → Nat → Nat → Nat → KF → Res := unS fun t0 => unS fun t1 => un0 (F24 c t0 t1)
def S286_1 (c : Y) (k : KF) (t1 t2 t7 M m I i : Nat) : Res :=
 eq 5 t7 295147905179352827909 fun v2 =>
 cnd v2 (rtn 3 [9, 295147905179352825861, 295147905179352826245] M m I i k)
 (iopK .mul .i64 (.k 295147905179352825925) (.k t7) zf I i fun v8 I i =>
 ad t1 v8 fun v9 =>
 ad v9 295147905179352825893 fun v10 =>
 fa 1 t2 fun v13 =>
 ld v13 M fun v14 =>
 lt 5 v14 v10 fun v15 =>
 cnd v15 (rtn 3 [9, 295147905179352825861, 295147905179352826181] M m I i k)
 (loadNK 2 (.k t2) zf M I i fun v19 I i =>
 ad t1 t7 fun v22 =>
 ad t7 295147905179352825893 fun v24 =>
 c 307 [v19, v22, v24] M m I i fun v25 M m I i =>
 iopK .sub .u64 (.k v25) (.k 41) zf I i fun v26 I i =>
 rtn 3 [v26, v10, 295147905179352825861] M m I i k))
def S286_2 (c : Y) (j31 : X7) (n33 : Nat) (j32 : X9) (t1 t2 t7 t26 t27 M m I i : Nat) : Res :=
 lt 5 t27 t26 fun v34 =>
 cnd v34 (loadNK 2 (.k t2) zf M I i fun v37 I i =>
 adt n33 t1 t27 fun v40 =>
 c 306 [v37, v40] M m I i fun v41 M m I i =>
 eq 6 v41 38 fun v42 =>
 cnd v42 (j31 t1 t2 t27 M m I i)
 (adt n33 t27 295147905179352825893 fun v45 =>
 j32 t1 t2 t7 t26 v45 M m I i))
 (j31 t1 t2 t7 M m I i)
def S286_3 (c : Y) (j31 : X7) (t1 t2 t7 t26 t27 M m I i : Nat) : Res :=
 lp (S286_2 c j31) (fun _ _ _ _ _ _ _ _ _ => .bad 73 0) t1 t2 t7 t26 t27 M m I i
def S286_4 (c : Y) (k : KF) (t1 t2 t7 M m I i : Nat) : Res :=
 jn (S286_1 c k) fun j31 =>
 jn (S286_3 c j31) fun j47 =>
 j47 t1 t2 t7 t7 295147905179352825861 M m I i
def S286_5 (c : Y) (k : KF) (t1 t2 M m I i : Nat) : Res :=
 jn (S286_4 c k) fun j50 =>
 fa 1 t2 fun v51 =>
 ld v51 M fun v52 =>
 sb v52 t1 fun v54 =>
 minK false 5 (.k 295147905179352827909) (.k v54) zf I i fun v55 I i =>
 j50 t1 t2 v55 M m I i
def S286_6 (c : Y) (k : KF) (t1 t2 M m I i : Nat) : Res :=
 jn (S286_5 c k) fun j57 =>
 lt 5 t1 295147905179352825861 fun v59 =>
 jn (fun (v66 : Nat) =>
 pk v59 33 v66 fun v67 =>
 cnd v67 (rtn 3 [9, 295147905179352825861, 295147905179352825925] M m I i k)
 (j57 t1 t2 M m I i))
 (fun j61 => gd v59 1 (fa 1 t2 fun v63 =>
 ld v63 M fun v64 =>
 lt 5 v64 t1 fun v65 =>
 j61 v65) (j61 0))
def S286_7 (c : Y) (k : KF) (t1 t2 M m I i : Nat) : Res :=
 jn (S286_6 c k) fun j71 =>
 loadNK 2 (.k t2) zf M I i fun v72 I i =>
 c 194 [v72] M m I i fun v73 M m I i =>
 notK (.k v73) zf I i fun v74 I i =>
 cnd v74 (rtn 3 [9, 295147905179352825861, 295147905179352826213] M m I i k)
 (j71 t1 t2 M m I i)
def F286 (c : Y) (t0 t1 M m I i : Nat) (k : KF) : Res :=
 jn (S286_7 c k) fun j78 =>
 boxK 2 (.k t0) zf M m I i fun v79 M m I i =>
 j78 t1 v79 M m I i
def g286 (c : Y) : List Nat → Nat → Nat → Nat → Nat → KF → Res := unS fun t0 => unS fun t1 => un0 (F286 c t0 t1)
def S117_1 (c : Y) (k : KF) (n4 : Nat) (j3 : X12) (t0 t1 t5 t6 t7 t8 t9 t10 M m I i : Nat) : Res :=
 adt n4 t8 295147905179352825893 fun v6 =>
 adt n4 t10 295147905179352825893 fun v9 =>
 load1K .bad zf M I i fun v12 I i =>
 ge 5 v12 t5 fun v13 =>
 jn (fun (v20 M m I i : Nat) =>
 pk v13 v20 1 fun v21 =>
 cnd v21 (slcTK (.k t0) (some (.k v6)) none zf I i fun v24 I i =>
 Res.bad 51 10)
 (load1K .bad zf M I i fun v28 I i =>
 lt 5 v28 t5 fun v29 =>
 jn (fun (v38 M m I i : Nat) =>
 pk v29 v38 1 fun v39 =>
 jn (fun (v45 : Nat) =>
 pk v39 v45 1 fun v46 =>
 cnd v46 (slcTK (.k t0) (some (.k v6)) none zf I i fun v49 I i =>
 c 182 [v49, t1] M m I i fun v51 M m I i =>
 lt 5 v51 295147905179352825861 fun v54 =>
 cnd v54 (k 295147905179352825829 M m I i)
 (adt n4 v6 v51 fun v58 =>
 k v58 M m I i))
 (j3 t0 t1 t5 t6 t7 v6 t9 v9 M m I i))
 (fun j41 => gd v39 33 (lt 5 v6 t9 fun v44 =>
 j41 v44) (j41 0)))
 (fun j31 => gd v29 33 (shfK .shr .i64 .u64 (.k v6) (.k 137) zf I i fun v34 I i => tkk n4 v34 fun v35 =>
 adt n4 295147905179352825989 v35 fun v36 =>
 ge 5 v9 v36 fun v37 =>
 j31 v37 M m I i) (j31 0 M m I i))))
 (fun j15 => gd v13 33 (c 181 [v6] M m I i fun v18 M m I i =>
 lt 5 v18 v9 fun v19 =>
 j15 v19 M m I i) (j15 0 M m I i))
def S117_2 (c : Y) (k : KF) (n4 : Nat) (j3 : X12) (t0 t1 t5 t6 t7 t8 t9 t10 M m I i : Nat) : Res :=
 jn (S117_1 c k n4 j3) fun j60 =>
 adt n4 t8 295147905179352825893 fun v63 =>
 idxTK (.k t0) (.k v63) zf I i fun v64 I i =>
 eq 6 v64 t7 fun v66 =>
 jn (fun (v77 M m I i : Nat) =>
 pk v66 v77 1 fun v78 =>
 cnd v78 (k t8 M m I i)
 (j60 t0 t1 t5 t6 t7 t8 t9 t10 M m I i))
 (fun j68 => gd v66 33 (adt n4 t8 t5 fun v73 =>
 slcTK (.k t0) (some (.k t8)) (some (.k v73)) zf I i fun v74 I i =>
 seqK false (.k v74) (.k t1) zf I i fun v76 I i =>
 j68 v76 M m I i) (j68 0 M m I i))
def S117_3 (c : Y) (k : KF) (n4 : Nat) (j3 : X12) (t0 t1 t5 t6 t7 t8 t9 t10 M m I i : Nat) : Res :=
 jn (S117_2 c k n4 j3) fun j81 =>
 idxTK (.k t0) (.k t8) zf I i fun v84 I i =>
 ne 6 v84 t6 fun v86 =>
 cnd v86 (adt n4 t8 295147905179352825893 fun v89 =>
 slcTK (.k t0) (some (.k v89)) (some (.k t9)) zf I i fun v91 I i =>
 c 179 [v91, t6] M m I i fun v93 M m I i =>
 lt 5 v93 295147905179352825861 fun v96 =>
 cnd v96 (k 295147905179352825829 M m I i)
 (adt n4 v93 295147905179352825893 fun v100 =>
 adt n4 t8 v100 fun v101 =>
 j81 t0 t1 t5 t6 t7 v101 t9 t10 M m I i))
 (j81 t0 t1 t5 t6 t7 t8 t9 t10 M m I i)
def S117_4 (c : Y) (k : KF) (j2 : X4) (n4 : Nat) (j3 : X12) (t0 t1 t5 t6 t7 t8 t9 t10 M m I i : Nat) : Res :=
 jn (S117_3 c k n4 j3) fun j103 =>
 lt 5 t8 t9 fun v106 =>
 cnd v106 (j103 t0 t1 t5 t6 t7 t8 t9 t10 M m I i)
 (j2 M m I i)
def S117_5 (c : Y) (k : KF) (t0 t1 t5 t6 t7 t8 t9 t10 M m I i : Nat) : Res :=
 jn (fun (M m I i : Nat) =>
 k 295147905179352825829 M m I i) fun j2 =>
 lp (S117_4 c k j2) (fun _ _ _ _ _ _ _ _ _ _ _ _ => .bad 73 0) t0 t1 t5 t6 t7 t8 t9 t10 M m I i
def S117_6 (c : Y) (k : KF) (t0 t1 t5 t6 t7 t8 t9 M m I i : Nat) : Res :=
 jn (S117_5 c k) fun j107 =>
 j107 t0 t1 t5 t6 t7 t8 t9 295147905179352825861 M m I i
def S117_7 (c : Y) (k : KF) (t0 t1 t5 t6 t7 t8 M m I i : Nat) : Res :=
 jn (S117_6 c k) fun j109 =>
 lenTK (.k t0) zf I i fun v111 I i =>
 sb v111 t5 fun v113 =>
 ad v113 295147905179352825893 fun v114 =>
 j109 t0 t1 t5 t6 t7 t8 v114 M m I i
def S117_8 (c : Y) (k : KF) (t0 t1 t5 t6 t7 M m I i : Nat) : Res :=
 jn (S117_7 c k) fun j116 =>
 j116 t0 t1 t5 t6 t7 295147905179352825861 M m I i
def S117_9 (c : Y) (k : KF) (t0 t1 t5 t6 M m I i : Nat) : Res :=
 jn (S117_8 c k) fun j118 =>
 idxTK (.k t1) (.k 295147905179352825893) zf I i fun v120 I i =>
 j118 t0 t1 t5 t6 v120 M m I i
def S117_10 (c : Y) (k : KF) (t0 t1 t5 M m I i : Nat) : Res :=
 jn (S117_9 c k) fun j122 =>
 idxTK (.k t1) (.k 295147905179352825861) zf I i fun v124 I i =>
 j122 t0 t1 t5 v124 M m I i
def S117_11 (c : Y) (k : KF) (t0 t1 t5 M m I i : Nat) : Res :=
 jn (S117_10 c k) fun j126 =>
 eq 5 t5 295147905179352825861 fun v128 =>
 jn (fun (v134 M m I i : Nat) =>
 pk v128 33 v134 fun v135 =>
 cnd v135 (k 295147905179352825861 M m I i)
 (eq 5 t5 295147905179352825893 fun v139 =>
 cnd v139 (idxTK (.k t1) (.k 295147905179352825861) zf I i fun v143 I i =>
 c 179 [t0, v143] M m I i fun v144 M m I i =>
 k v144 M m I i)
 (lenTK (.k t0) zf I i fun v148 I i =>
 ge 5 t5 v148 fun v149 =>
 cnd v149 (k 295147905179352825829 M m I i)
 (load1K .bad zf M I i fun v153 I i =>
 ge 5 v153 t5 fun v154 =>
 jn (fun (v160 M m I i : Nat) =>
 pk v154 v160 1 fun v161 =>
 cnd v161 (Res.bad 51 10)
 (j126 t0 t1 t5 M m I i))
 (fun j156 => gd v154 33 (lenTK (.k t0) zf I i fun v158 I i =>
 ge 5 295147905179352827909 v158 fun v159 =>
 j156 v159 M m I i) (j156 0 M m I i))))))
 (fun j130 => gd v128 1 (seqK false (.k t1) (.k t0) zf I i fun v133 I i =>
 j130 v133 M m I i) (j130 0 M m I i))
def S117_12 (c : Y) (k : KF) (t0 t1 M m I i : Nat) : Res :=
 jn (S117_11 c k) fun j166 =>
 lenTK (.k t1) zf I i fun v168 I i =>
 j166 t0 t1 v168 M m I i
def F117 (c : Y) (t0 t1 M m I i : Nat) (k : KF) : Res :=
 jn (S117_12 c k) fun j170 =>
 j170 t0 t1 M m I i
def g117 (c : Y) : List Nat → Nat → Nat → Nat → Nat → KF → Res := unS fun t0 => unS fun t1 => un0 (F117 c t0 t1)
def F201 (c : Y) (t0 t1 M m I i : Nat) (k : KF) : Res :=
 boxK 2 (.k t0) zf M m I i fun v1 M m I i =>
 loadNK 2 (.k v1) zf M I i fun v5 I i =>
 bldSK 1 1 295147905179352825861 [(0, 1, (.k t1))] zf M m I i fun v7 M m I i =>
 c 155 [v5, v7] M m I i fun v8 M m I i =>
 f1 19 0 v8 I fun v10 =>
 f1 19 1 v8 I fun v11 =>
 ne 5 v11 295147905179352825861 fun v15 =>
 cnd v15 (rtn 3 [11, 11, v11] M m I i k)
 (c 156 [v10, t1] M m I i fun v22 M m I i =>
 f1 19 0 v22 I fun v24 =>
 f1 19 1 v22 I fun v25 =>
 rtn 3 [v24, v25, 295147905179352825861] M m I i k)
def g201 (c : Y) : List Nat → Nat → Nat → Nat → Nat → KF → Res := unS fun t0 => unS fun t1 => un0 (F201 c t0 t1)
def S71_1 (c : Y) (n2 : Nat) (j1 : X11) (t0 t1 t2 t3 t4 t10 t11 t12 t13 M m I i : Nat) : Res :=
 lt 5 295147905179352825861 t1 fun v4 =>
 jn (fun (v20 M m I i : Nat) =>
 pk v4 v20 1 fun v21 =>
 cnd v21 (c 124 [t0, t1, t2, t13, t4] M m I i fun v27 M m I i =>
 j1 t0 v27 t2 t3 t4 t10 t11 M m I i)
 (c 125 [t0, t1, t2, t13, t4] M m I i fun v36 M m I i =>
 f1 19 0 v36 I fun v38 =>
 f1 19 1 v36 I fun v39 =>
 sbt n2 v38 t1 fun v46 =>
 sbt n2 t2 v38 fun v49 =>
 iopK .quo .i64 (.k t12) (.k 295147905179352826117) zf I i fun v53 I i => tkk n2 v53 fun v54 =>
 lt 5 v46 v49 fun v58 =>
 cnd v58 (ge 5 v46 v54 fun v61 =>
 c 71 [t0, t1, v38, t3, t4] M m I i fun v68 M m I i =>
 adt n2 v38 295147905179352825893 fun v70 =>
 j1 t0 v70 t2 t3 t4 v61 v39 M m I i)
 (ge 5 v49 v54 fun v74 =>
 adt n2 v38 295147905179352825893 fun v78 =>
 c 71 [t0, v78, t2, t3, t4] M m I i fun v82 M m I i =>
 j1 t0 t1 v38 t3 t4 v74 v39 M m I i)))
 (fun j6 => gd v4 33 (sbt n2 t1 295147905179352825893 fun v10 =>
 ia 2 t0 v10 fun v11 =>
 loadNK 2 (.k v11) zf M I i fun v12 I i =>
 ia 2 t0 t13 fun v15 =>
 loadNK 2 (.k v15) zf M I i fun v16 I i =>
 callvS c (.k t4) [(.k v12), (.k v16)] zf M m I i fun v17 M m I i =>
 lt 5 v17 295147905179352825861 fun v18 =>
 notK (.k v18) zf I i fun v19 I i =>
 j6 v19 M m I i) (j6 0 M m I i))
def S71_2 (c : Y) (k : KF) (n2 : Nat) (j1 : X11) (t0 t1 t2 t3 t4 t10 t11 t12 t13 t14 M m I i : Nat) : Res :=
 jn (S71_1 c n2 j1) fun j85 =>
 jn (fun (v90 : Nat) =>
 pk t10 v90 1 fun v91 =>
 jn (fun (v96 : Nat) =>
 pk v91 v96 1 fun v97 =>
 cnd v97 (c 123 [t0, t1, t2, t4] M m I i fun v102 M m I i =>
 cnd v102 (rtn 0 [] M m I i k)
 (j85 t0 t1 t2 t3 t4 t10 t11 t12 t13 M m I i))
 (j85 t0 t1 t2 t3 t4 t10 t11 t12 t13 M m I i))
 (fun j93 => gd v91 33 (eq 5 t14 295147905179352825893 fun v95 =>
 j93 v95) (j93 0)))
 (fun j88 => gd t10 33 (j88 t11) (j88 0))
def S71_3 (c : Y) (k : KF) (n2 : Nat) (j1 : X11) (t0 t1 t2 t3 t4 t10 t11 t12 t13 t14 M m I i : Nat) : Res :=
 jn (S71_2 c k n2 j1) fun j103 =>
 eq 5 t14 295147905179352825925 fun v105 =>
 cnd v105 (c 122 [t0, t1, t2, t4] M m I i fun v110 M m I i =>
 sbt n2 t2 295147905179352825893 fun v112 =>
 sbt n2 t13 t1 fun v115 =>
 sbt n2 v112 v115 fun v116 =>
 j103 t0 t1 t2 t3 t4 t10 t11 t12 v116 295147905179352825893 M m I i)
 (j103 t0 t1 t2 t3 t4 t10 t11 t12 t13 t14 M m I i)
def S71_4 (c : Y) (k : KF) (n2 : Nat) (j1 : X11) (t0 t1 t2 t3 t4 t10 t11 t12 M m I i : Nat) : Res :=
 jn (S71_3 c k n2 j1) fun j119 =>
 c 121 [t0, t1, t2, t4] M m I i fun v124 M m I i =>
 f1 19 0 v124 I fun v126 =>
 f1 19 1 v124 I fun v127 =>
 j119 t0 t1 t2 t3 t4 t10 t11 t12 v126 v127 M m I i
def S71_5 (c : Y) (k : KF) (n2 : Nat) (j1 : X11) (t0 t1 t2 t3 t4 t10 t11 t12 M m I i : Nat) : Res :=
 jn (S71_4 c k n2 j1) fun j130 =>
 notK (.k t10) zf I i fun v132 I i =>
 cnd v132 (c 120 [t0, t1, t2, t4] M m I i fun v137 M m I i =>
 sbt n2 t3 295147905179352825893 fun v139 =>
 j130 t0 t1 t2 v139 t4 t10 t11 t12 M m I i)
 (j130 t0 t1 t2 t3 t4 t10 t11 t12 M m I i)
def S71_6 (c : Y) (k : KF) (n2 : Nat) (j1 : X11) (t0 t1 t2 t3 t4 t10 t11 t12 M m I i : Nat) : Res :=
 jn (S71_5 c k n2 j1) fun j141 =>
 eq 5 t3 295147905179352825861 fun v143 =>
 cnd v143 (c 119 [t0, t1, t2, t4] M m I i fun v148 M m I i =>
 rtn 0 [] M m I i k)
 (j141 t0 t1 t2 t3 t4 t10 t11 t12 M m I i)
def S71_7 (c : Y) (k : KF) (n2 : Nat) (j1 : X11) (t0 t1 t2 t3 t4 t10 t11 t12 M m I i : Nat) : Res :=
 jn (S71_6 c k n2 j1) fun j149 =>
 ge 5 295147905179352826245 t12 fun v151 =>
 cnd v151 (c 118 [t0, t1, t2, t4] M m I i fun v156 M m I i =>
 rtn 0 [] M m I i k)
 (j149 t0 t1 t2 t3 t4 t10 t11 t12 M m I i)
def S71_8 (c : Y) (k : KF) (n2 : Nat) (j1 : X11) (t0 t1 t2 t3 t4 t10 t11 M m I i : Nat) : Res :=
 jn (S71_7 c k n2 j1) fun j157 =>
 sbt n2 t2 t1 fun v160 =>
 j157 t0 t1 t2 t3 t4 t10 t11 v160 M m I i
def S71_9 (c : Y) (k : KF) (t0 t1 t2 t3 t4 t10 t11 M m I i : Nat) : Res :=
 lp (S71_8 c k) (fun _ _ _ _ _ _ _ _ _ _ _ => .bad 73 0) t0 t1 t2 t3 t4 t10 t11 M m I i
def S71_10 (c : Y) (k : KF) (t0 t1 t2 t3 t4 t10 M m I i : Nat) : Res :=
 jn (S71_9 c k) fun j162 =>
 j162 t0 t1 t2 t3 t4 t10 33 M m I i
def F71 (c : Y) (t0 t1 t2 t3 t4 M m I i : Nat) (k : KF) : Res :=
 jn (S71_10 c k) fun j164 =>
 j164 t0 t1 t2 t3 t4 33 M m I i
def g71 (c : Y) : List Nat → Nat → Nat → Nat → Nat → KF → Res := unS fun t0 => unS fun t1 => unS fun t2 => unS fun t3 => unS fun t4 => un0 (F71 c t0 t1 t2 t3 t4)
def S345_1 (j17 : X5) (n19 : Nat) (j18 : X9) (t4 t7 t44 t45 t46 M m I i : Nat) : Res :=
 lt 5 t46 t45 fun v20 =>
 cnd v20 (ia 3 t44 t46 fun v21 =>
 loadNK 3 (.k v21) zf M I i fun v22 I i =>
 newK 3 1852673427797059126808521268839323955668793148457942454848160119256572240068613 M m I i fun v23 M m I i =>
 storeK 3 (.k v23) (.k v22) zf M m I i fun _ M m I i =>
 fa 0 v23 fun v25 =>
 ld v25 M fun v26 =>
 lookW (.word 5) false false 1 295147905179352825861 t4 v26 M I i fun v27 I i =>
 fa 1 v23 fun v29 =>
 ld v29 M fun v30 =>
 lookW (.word 5) false false 1 295147905179352825861 t4 v30 M I i fun v31 I i =>
 ia 1 t7 v27 fun v38 =>
 ld v38 M fun v39 =>
 bldSK 1 1 295147905179352825861 [(0, 1, (.k v31))] zf M m I i fun v41 M m I i =>
 appW 1 v39 v41 M m I i fun v42 M m I i =>
 ia 1 t7 v27 fun v43 =>
 storeK 1 (.k v43) (.k v42) zf M m I i fun _ M m I i =>
 ia 1 t7 v31 fun v48 =>
 ld v48 M fun v49 =>
 bldSK 1 1 295147905179352825861 [(0, 1, (.k v27))] zf M m I i fun v51 M m I i =>
 appW 1 v49 v51 M m I i fun v52 M m I i =>
 ia 1 t7 v31 fun v53 =>
 storeK 1 (.k v53) (.k v52) zf M m I i fun _ M m I i =>
 adt n19 t46 295147905179352825893 fun v54 =>
 j18 t4 t7 t44 t45 v54 M m I i)
 (j17 t7 M m I i)
def S345_2 (j17 : X5) (t4 t7 t44 t45 t46 M m I i : Nat) : Res :=
 lp (S345_1 j17) (fun _ _ _ _ _ _ _ _ _ => .bad 73 0) t4 t7 t44 t45 t46 M m I i
def S345_3 (c : Y) (k : KF) (t0 t4 t7 M m I i : Nat) : Res :=
 jn (fun (t7 M m I i : Nat) =>
 c 353 [t7, 295147905179352825829] M m I i fun v2 M m I i =>
 f1 19 0 v2 I fun v4 =>
 f1 19 1 v2 I fun v5 =>
 jn (fun (v14 M m I i : Nat) =>
 pk v4 v14 1 fun v15 =>
 k v15 M m I i)
 (fun j10 => gd v4 33 (c 354 [v5, 33] M m I i fun v12 M m I i =>
 notK (.k v12) zf I i fun v13 I i =>
 j10 v13 M m I i) (j10 0 M m I i))) fun j17 =>
 jn (S345_2 j17) fun j56 =>
 ln t0 fun v58 =>
 j56 t4 t7 t0 v58 295147905179352825861 M m I i
def S345_4 (c : Y) (k : KF) (t0 t3 t4 M m I i : Nat) : Res :=
 jn (S345_3 c k) fun j60 =>
 ln t3 fun v62 =>
 mkSlK 1 11 (.k v62) (.k v62) zf M m I i fun v63 M m I i =>
 j60 t0 t4 v63 M m I i
def S345_5 (c : Y) (k : KF) (t0 t3 t4 M m I i : Nat) : Res :=
 jn (S345_4 c k) fun j65 =>
 jn (fun (t0 t3 t4 t30 t31 t32 M m I i : Nat) =>
 lp (fun (n67 : Nat) (j66 : X10) (t0 t3 t4 t30 t31 t32 M m I i : Nat) =>
 lt 5 t32 t31 fun v68 =>
 cnd v68 (ia 1 t30 t32 fun v70 =>
 ld v70 M fun v71 =>
 updW (.word 5) t4 v71 t32 M m I i fun _ M m I i =>
 adt n67 t32 295147905179352825893 fun v77 =>
 j66 t0 t3 t4 t30 t31 v77 M m I i)
 (j65 t0 t3 t4 M m I i)) (fun _ _ _ _ _ _ _ _ _ _ => .bad 73 0) t0 t3 t4 t30 t31 t32 M m I i) fun j79 =>
 ln t3 fun v81 =>
 j79 t0 t3 t4 t3 v81 295147905179352825861 M m I i
def S345_6 (c : Y) (k : KF) (t0 t3 M m I i : Nat) : Res :=
 jn (S345_5 c k) fun j83 =>
 ln t3 fun v85 =>
 mkMapHK (.k v85) zf M m I i fun v86 M m I i =>
 j83 t0 t3 v86 M m I i
def S345_7 (c : Y) (k : KF) (t0 t3 M m I i : Nat) : Res :=
 jn (S345_6 c k) fun j88 =>
 ln t3 fun v90 =>
 lt 5 v90 295147905179352825957 fun v91 =>
 cnd v91 (k 33 M m I i)
 (j88 t0 t3 M m I i)
def S345_8 (c : Y) (k : KF) (t0 M m I i : Nat) : Res :=
 jn (S345_7 c k) fun j93 =>
 c 342 [t0] M m I i fun v95 M m I i =>
 j93 t0 v95 M m I i
def S345_9 (c : Y) (k : KF) (t0 M m I i : Nat) : Res :=
 jn (S345_8 c k) fun j97 =>
 c 352 [t0] M m I i fun v99 M m I i =>
 notK (.k v99) zf I i fun v100 I i =>
 jn (fun (v106 : Nat) =>
 pk v100 33 v106 fun v107 =>
 cnd v107 (k 1 M m I i)
 (j97 t0 M m I i))
 (fun j102 => gd v100 1 (ln t0 fun v104 =>
 eq 5 v104 295147905179352825861 fun v105 =>
 j102 v105) (j102 0))
def F345 (c : Y) (t0 M m I i : Nat) (k : KF) : Res :=
 jn (S345_9 c k) fun j109 =>
 j109 t0 M m I i
def g345 (c : Y) : List Nat → Nat → Nat → Nat → Nat → KF → Res := unS fun t0 => un0 (F345 c t0)
def S76_1 (j9 : X7) (n11 : Nat) (j10 : X11) (t1 t2 t4 t6 t29 t30 t31 M m I i : Nat) : Res :=
 lt 5 t31 t30 fun v12 =>
 cnd v12 (ia 2 t29 t31 fun v14 =>
 loadNK 2 (.k v14) zf M I i fun v15 I i =>
 newK 2 23384026197294446691655098136326997907641993265157 M m I i fun v16 M m I i =>
 storeK 2 (.k v16) (.k v15) zf M m I i fun _ M m I i =>
 iadrAK 2 1 (.k v16) (.k 295147905179352825861) zf I i fun v21 I i =>
 ld v21 M fun v22 =>
 ia 1 t1 v22 fun v23 =>
 ld v23 M fun v24 =>
 iadrAK 2 1 (.k v16) (.k 295147905179352825893) zf I i fun v26 I i =>
 ld v26 M fun v27 =>
 ia 1 t1 v27 fun v28 =>
 ld v28 M fun v29 =>
 buildK 2 23384026197294446691655098136326997907641993265157 [(0, 1, (.k v24)), (1, 1, (.k v29))] zf I i fun v30 I i =>
 ia 2 t6 t31 fun v31 =>
 storeK 2 (.k v31) (.k v30) zf M m I i fun _ M m I i =>
 adt n11 t31 295147905179352825893 fun v32 =>
 j10 t1 t2 t4 t6 t29 t30 v32 M m I i)
 (j9 t2 t4 t6 M m I i)
def S76_2 (j9 : X7) (t1 t2 t4 t6 t29 t30 t31 M m I i : Nat) : Res :=
 lp (S76_1 j9) (fun _ _ _ _ _ _ _ _ _ _ _ => .bad 73 0) t1 t2 t4 t6 t29 t30 t31 M m I i
def S76_3 (c : Y) (k : KF) (t1 t2 t4 t6 M m I i : Nat) : Res :=
 jn (fun (t2 t4 t6 M m I i : Nat) =>
 fa 0 t2 fun v1 =>
 ld v1 M fun v2 =>
 c 14 [v2, t6] M m I i fun v4 M m I i =>
 f1 19 0 v4 I fun v5 =>
 f1 19 1 v4 I fun v6 =>
 storeK 2 (.k t4) (.k v5) zf M m I i fun _ M m I i =>
 loadNK 2 (.k t4) zf M I i fun v8 I i => rtn 2 [v8, v6] M m I i k) fun j9 =>
 jn (S76_2 j9) fun j34 =>
 fa 1 t2 fun v35 =>
 ld v35 M fun v36 =>
 ln v36 fun v37 =>
 j34 t1 t2 t4 t6 v36 v37 295147905179352825861 M m I i
def S76_4 (c : Y) (k : KF) (t1 t2 t4 M m I i : Nat) : Res :=
 jn (S76_3 c k) fun j39 =>
 fa 1 t2 fun v40 =>
 ld v40 M fun v41 =>
 ln v41 fun v42 =>
 mkSlK 2 23384026197294446691655098136326997907641993265157 (.k v42) (.k v42) zf M m I i fun v43 M m I i =>
 j39 t1 t2 t4 v43 M m I i
def S76_5 (c : Y) (k : KF) (t1 t2 t4 M m I i : Nat) : Res :=
 jn (S76_4 c k) fun j45 =>
 c 136 [t1] M m I i fun v47 M m I i =>
 notK (.k v47) zf I i fun v48 I i =>
 jn (fun (v56 : Nat) =>
 pk v48 33 v56 fun v57 =>
 cnd v57 (buildK 2 871509787952055618708336279557 [] zf I i fun v58 I i =>
 storeK 2 (.k t4) (.k v58) zf M m I i fun _ M m I i =>
 loadNK 2 (.k t4) zf M I i fun v60 I i => rtn 2 [v60, 295147905179352826821] M m I i k)
 (j45 t1 t2 t4 M m I i))
 (fun j50 => gd v48 1 (ln t1 fun v52 =>
 fa 0 t2 fun v53 =>
 ld v53 M fun v54 =>
 ne 5 v52 v54 fun v55 =>
 j50 v55) (j50 0))
def S76_6 (c : Y) (k : KF) (t1 t2 t4 M m I i : Nat) : Res :=
 jn (S76_5 c k) fun j61 =>
 loadNK 2 (.k t2) zf M I i fun v62 I i =>
 c 37 [v62] M m I i fun v63 M m I i =>
 notK (.k v63) zf I i fun v64 I i =>
 cnd v64 (buildK 2 871509787952055618708336279557 [] zf I i fun v65 I i =>
 storeK 2 (.k t4) (.k v65) zf M m I i fun _ M m I i =>
 loadNK 2 (.k t4) zf M I i fun v67 I i => rtn 2 [v67, 295147905179352826501] M m I i k)
 (j61 t1 t2 t4 M m I i)
def F76 (c : Y) (t0 t1 M m I i : Nat) (k : KF) : Res :=
 jn (S76_6 c k) fun j68 =>
 boxK 2 (.k t0) zf M m I i fun v69 M m I i =>
 newK 2 871509787952055618708336279557 M m I i fun v70 M m I i =>
 j68 t1 v69 v70 M m I i
def g76 (c : Y) : List Nat → Nat → Nat → Nat → Nat → KF → Res := unS fun t0 => unS fun t1 => un0 (F76 c t0 t1)
def S38_1 (c : Y) (k : KF) (t1 t2 t6 M m I i : Nat) : Res :=
 loadNK 2 (.k t1) zf M I i fun v1 I i =>
 c 76 [v1, t6] M m I i fun v3 M m I i =>
 f1 19 0 v3 I fun v5 =>
 f1 19 1 v3 I fun v6 =>
 newK 2 871509787952055618708336279557 M m I i fun v7 M m I i =>
 storeK 2 (.k v7) (.k v5) zf M m I i fun _ M m I i =>
 ne 5 v6 295147905179352825861 fun v10 =>
 cnd v10 (buildK 2 871509787656907713528983453707 [] zf I i fun v11 I i =>
 storeK 2 (.k t2) (.k v11) zf M m I i fun _ M m I i =>
 loadNK 2 (.k t2) zf M I i fun v14 I i => rtn 2 [v14, v6] M m I i k)
 (loadNK 2 (.k v7) zf M I i fun v15 I i =>
 c 77 [v15] M m I i fun v16 M m I i =>
 f1 19 0 v16 I fun v18 =>
 f1 19 1 v16 I fun v19 =>
 ne 5 v19 295147905179352825861 fun v23 =>
 cnd v23 (buildK 2 871509787656907713528983453707 [] zf I i fun v24 I i =>
 storeK 2 (.k t2) (.k v24) zf M m I i fun _ M m I i =>
 loadNK 2 (.k t2) zf M I i fun v27 I i => rtn 2 [v27, v19] M m I i k)
 (buildK 2 871509787656907713528983453707 [(0, 1, (.k v18)), (1, 1, (.k t6))] zf I i fun v30 I i =>
 storeK 2 (.k t2) (.k v30) zf M m I i fun _ M m I i =>
 loadNK 2 (.k t2) zf M I i fun v32 I i => rtn 2 [v32, 295147905179352825861] M m I i k))
def S38_2 (c : Y) (k : KF) (t1 t2 t4 t6 M m I i : Nat) : Res :=
 jn (S38_1 c k) fun j33 =>
 jn (fun (t1 t2 t6 t31 t32 t33 M m I i : Nat) =>
 lp (fun (n35 : Nat) (j34 : X10) (t1 t2 t6 t31 t32 t33 M m I i : Nat) =>
 lt 5 t33 t32 fun v36 =>
 cnd v36 (ia 1 t31 t33 fun v38 =>
 ld v38 M fun v39 =>
 ia 1 t6 v39 fun v45 =>
 storeK 1 (.k v45) (.k t33) zf M m I i fun _ M m I i =>
 adt n35 t33 295147905179352825893 fun v46 =>
 j34 t1 t2 t6 t31 t32 v46 M m I i)
 (j33 t1 t2 t6 M m I i)) (fun _ _ _ _ _ _ _ _ _ _ => .bad 73 0) t1 t2 t6 t31 t32 t33 M m I i) fun j48 =>
 fa 1 t4 fun v49 =>
 ld v49 M fun v50 =>
 ln v50 fun v51 =>
 j48 t1 t2 t6 v50 v51 295147905179352825861 M m I i
def S38_3 (c : Y) (k : KF) (t1 t2 t4 M m I i : Nat) : Res :=
 jn (S38_2 c k) fun j53 =>
 fa 0 t1 fun v54 =>
 ld v54 M fun v55 =>
 mkSlK 1 295147905179352825861 (.k v55) (.k v55) zf M m I i fun v56 M m I i =>
 j53 t1 t2 t4 v56 M m I i
def S38_4 (c : Y) (k : KF) (t1 t2 t4 t5 M m I i : Nat) : Res :=
 jn (S38_3 c k) fun j58 =>
 ne 5 t5 295147905179352825861 fun v60 =>
 cnd v60 (buildK 2 871509787656907713528983453707 [] zf I i fun v61 I i =>
 storeK 2 (.k t2) (.k v61) zf M m I i fun _ M m I i =>
 loadNK 2 (.k t2) zf M I i fun v64 I i => rtn 2 [v64, t5] M m I i k)
 (j58 t1 t2 t4 M m I i)
def S38_5 (c : Y) (k : KF) (t1 t2 M m I i : Nat) : Res :=
 jn (S38_4 c k) fun j65 =>
 loadNK 2 (.k t1) zf M I i fun v66 I i =>
 fa 0 t1 fun v67 =>
 ld v67 M fun v68 =>
 mkSlK 1 295147905179352825861 (.k v68) (.k v68) zf M m I i fun v69 M m I i =>
 newK 2 871509787656907713528983453707 M m I i fun v70 M m I i =>
 c 75 [v66, v69] M m I i fun v71 M m I i =>
 f1 19 0 v71 I fun v73 =>
 f1 19 1 v71 I fun v74 =>
 storeK 2 (.k v70) (.k v73) zf M m I i fun _ M m I i =>
 j65 t1 t2 v70 v74 M m I i
def S38_6 (c : Y) (k : KF) (t1 t2 M m I i : Nat) : Res :=
 jn (S38_5 c k) fun j76 =>
 loadNK 2 (.k t1) zf M I i fun v77 I i =>
 c 37 [v77] M m I i fun v78 M m I i =>
 notK (.k v78) zf I i fun v79 I i =>
 cnd v79 (buildK 2 871509787656907713528983453707 [] zf I i fun v80 I i =>
 storeK 2 (.k t2) (.k v80) zf M m I i fun _ M m I i =>
 loadNK 2 (.k t2) zf M I i fun v82 I i => rtn 2 [v82, 295147905179352826501] M m I i k)
 (j76 t1 t2 M m I i)
def F38 (c : Y) (t0 M m I i : Nat) (k : KF) : Res :=
 jn (S38_6 c k) fun j83 =>
 boxK 2 (.k t0) zf M m I i fun v84 M m I i =>
 newK 2 871509787656907713528983453707 M m I i fun v85 M m I i =>
 j83 v84 v85 M m I i
def g38 (c : Y) : List Nat → Nat → Nat → Nat → Nat → KF → Res := unS fun t0 => un0 (F38 c t0)
def S478_1 (j5 : X5) (n7 : Nat) (j6 : X9) (t1 t6 t25 t26 t27 M m I i : Nat) : Res :=
 lt 5 t27 t26 fun v8 =>
 cnd v8 (ia 1 t25 t27 fun v9 =>
 ld v9 M fun v10 =>
 nilcK (.k t1) zf I i fun v14 I i =>
 fa 5 v14 fun v15 =>
 ld v15 M fun v16 =>
 ia 1 v16 v10 fun v18 =>
 ld v18 M fun v19 =>
 bldSK 1 1 295147905179352825861 [(0, 1, (.k v19))] zf M m I i fun v20 M m I i =>
 appW 1 t6 v20 M m I i fun v21 M m I i =>
 adt n7 t27 295147905179352825893 fun v23 =>
 j6 t1 v21 t25 t26 v23 M m I i)
 (j5 t6 M m I i)
def S478_2 (j5 : X5) (t1 t6 t25 t26 t27 M m I i : Nat) : Res :=
 lp (S478_1 j5) (fun _ _ _ _ _ _ _ _ _ => .bad 73 0) t1 t6 t25 t26 t27 M m I i
def S478_3 (c : Y) (k : KF) (t0 t1 t6 M m I i : Nat) : Res :=
 jn (fun (t6 M m I i : Nat) =>
 c 173 [t6] M m I i fun v2 M m I i =>
 rtn 2 [v2, 295147905179352825861] M m I i k) fun j5 =>
 jn (S478_2 j5) fun j25 =>
 nilcK (.k t0) zf I i fun v28 I i =>
 fa 0 v28 fun v29 =>
 ld v29 M fun v30 =>
 c 479 [t1, v30] M m I i fun v31 M m I i =>
 ln v31 fun v32 =>
 j25 t1 t6 v31 v32 295147905179352825861 M m I i
def S478_4 (c : Y) (k : KF) (t0 t1 M m I i : Nat) : Res :=
 jn (S478_3 c k) fun j34 =>
 nilcK (.k t1) zf I i fun v36 I i =>
 fa 6 v36 fun v37 =>
 ld v37 M fun v38 =>
 nilcK (.k t0) zf I i fun v40 I i =>
 fa 1 v40 fun v41 =>
 ld v41 M fun v42 =>
 ia 1 v38 v42 fun v43 =>
 ld v43 M fun v44 =>
 bldSK 1 1 295147905179352825861 [(0, 1, (.k v44))] zf M m I i fun v45 M m I i =>
 j34 t0 t1 v45 M m I i
def F478 (c : Y) (t0 t1 M m I i : Nat) (k : KF) : Res :=
 jn (S478_4 c k) fun j47 =>
 j47 t0 t1 M m I i
def g478 (c : Y) : List Nat → Nat → Nat → Nat → Nat → KF → Res := unS fun t0 => unS fun t1 => un0 (F478 c t0 t1)
def S100_1 (j20 : X15) (n22 : Nat) (j21 : X16) (t6 t11 t12 t13 t18 t19 t61 t62 t63 t68 t69 t70 M m I i : Nat) : Res :=
 loadNK 2 (.k t19) zf M I i fun v24 I i =>
 lookW (.row 2 5) false false 1 295147905179352825861 t12 v24 M I i fun v25 I i =>
 eq 5 v25 295147905179352825861 fun v26 =>
 cnd v26 (loadNK 2 (.k t19) zf M I i fun v28 I i =>
 ln t11 fun v30 =>
 adt n22 v30 295147905179352825893 fun v31 =>
 updW (.row 2 5) t12 v28 v31 M m I i fun _ M m I i =>
 iadrAK 2 1 (.k t19) (.k 295147905179352825861) zf I i fun v33 I i =>
 ld v33 M fun v34 =>
 bldSK 1 1 295147905179352825861 [(0, 1, (.k v34))] zf M m I i fun v35 M m I i =>
 appW 1 t18 v35 M m I i fun v36 M m I i =>
 loadNK 2 (.k t19) zf M I i fun v38 I i =>
 newK 2 23384026197294446691655098136326997907641993265157 M m I i fun v39 M m I i =>
 storeK 2 (.k v39) (.k v38) zf M m I i fun _ M m I i =>
 loadNK 2 (.k v39) zf M I i fun v41 I i =>
 lookW (.row 2 5) false true 2 23384026197294446691655098136326997907641993265157 t6 v41 M I i fun v42 I i =>
 storeK 2 (.k v39) (.k v42) zf M m I i fun _ M m I i =>
 j21 t6 t11 t12 t13 v36 v39 t61 t62 t63 t68 t69 t70 M m I i)
 (j20 t6 t11 t12 t13 t18 t61 t62 t63 t68 t69 t70 M m I i)
def S100_2 (j20 : X15) (t6 t11 t12 t13 t18 t19 t61 t62 t63 t68 t69 t70 M m I i : Nat) : Res :=
 lp (S100_1 j20) (fun _ _ _ _ _ _ _ _ _ _ _ _ _ _ _ _ => .bad 73 0) t6 t11 t12 t13 t18 t19 t61 t62 t63 t68 t69 t70 M m I i
def S100_3 (j14 : X14) (t6 t11 t12 t13 t17 t18 t61 t62 t63 t68 t69 t70 M m I i : Nat) : Res :=
 jn (fun (t6 t11 t12 t13 t18 t61 t62 t63 t68 t69 t70 M m I i : Nat) =>
 bldSK 1 1 11 [(0, 1, (.k t18))] zf M m I i fun v17 M m I i =>
 appW 1 t11 v17 M m I i fun v18 M m I i =>
 j14 t6 v18 t12 t13 t61 t62 t63 t68 t69 t70 M m I i) fun j20 =>
 jn (S100_2 j20) fun j43 =>
 loadNK 2 (.k t17) zf M I i fun v44 I i =>
 newK 2 23384026197294446691655098136326997907641993265157 M m I i fun v45 M m I i =>
 storeK 2 (.k v45) (.k v44) zf M m I i fun _ M m I i =>
 j43 t6 t11 t12 t13 t18 v45 t61 t62 t63 t68 t69 t70 M m I i
def S100_4 (j14 : X14) (t6 t11 t12 t13 t17 t61 t62 t63 t68 t69 t70 M m I i : Nat) : Res :=
 jn (S100_3 j14) fun j46 =>
 bldSK 0 1 295147905179352825861 [] zf M m I i fun v47 M m I i =>
 j46 t6 t11 t12 t13 t17 v47 t61 t62 t63 t68 t69 t70 M m I i
def S100_5 (j14 : X14) (t6 t11 t12 t13 t17 t61 t62 t63 t68 t69 t70 M m I i : Nat) : Res :=
 jn (S100_4 j14) fun j49 =>
 loadNK 2 (.k t17) zf M I i fun v51 I i =>
 lookW (.row 2 5) false false 1 295147905179352825861 t12 v51 M I i fun v52 I i =>
 ne 5 v52 295147905179352825861 fun v53 =>
 cnd v53 (j14 t6 t11 t12 t13 t61 t62 t63 t68 t69 t70 M m I i)
 (j49 t6 t11 t12 t13 t17 t61 t62 t63 t68 t69 t70 M m I i)
def S100_6 (j14 : X14) (t6 t11 t12 t13 t16 t61 t62 t63 t68 t69 t70 M m I i : Nat) : Res :=
 jn (S100_5 j14) fun j54 =>
 buildK 2 23384026197294446691655098136326997907641993265157 [(0, 1, (.k t13)), (1, 1, (.k t16))] zf I i fun v57 I i =>
 newK 2 23384026197294446691655098136326997907641993265157 M m I i fun v58 M m I i =>
 storeK 2 (.k v58) (.k v57) zf M m I i fun _ M m I i =>
 j54 t6 t11 t12 t13 v58 t61 t62 t63 t68 t69 t70 M m I i
def S100_7 (n11 : Nat) (j10 : X14) (t6 t11 t12 t13 t61 t62 t63 t68 t69 t70 M m I i : Nat) : Res :=
 jn (fun (t6 t11 t12 t13 t61 t62 t63 t68 t69 t70 M m I i : Nat) =>
 adt n11 t70 295147905179352825893 fun v12 =>
 j10 t6 t11 t12 t13 t61 t62 t63 t68 t69 v12 M m I i) fun j14 =>
 jn (S100_6 j14) fun j59 =>
 ia 1 t68 t70 fun v60 =>
 ld v60 M fun v61 =>
 j59 t6 t11 t12 t13 v61 t61 t62 t63 t68 t69 t70 M m I i
def S100_8 (j9 : X10) (n11 : Nat) (j10 : X14) (t6 t11 t12 t13 t61 t62 t63 t68 t69 t70 t71 M m I i : Nat) : Res :=
 jn (S100_7 n11 j10) fun j63 =>
 cnd t71 (j63 t6 t11 t12 t13 t61 t62 t63 t68 t69 t70 M m I i)
 (j9 t6 t11 t12 t61 t62 t63 M m I i)
def S100_9 (j9 : X10) (n11 : Nat) (j10 : X14) (t6 t11 t12 t13 t61 t62 t63 t68 t69 t70 M m I i : Nat) : Res :=
 jn (S100_8 j9 n11 j10) fun j64 =>
 lt 5 t70 t69 fun v65 =>
 j64 t6 t11 t12 t13 t61 t62 t63 t68 t69 t70 v65 M m I i
def S100_10 (j9 : X10) (t6 t11 t12 t13 t61 t62 t63 t68 t69 t70 M m I i : Nat) : Res :=
 lp (S100_9 j9) (fun _ _ _ _ _ _ _ _ _ _ _ _ _ _ => .bad 73 0) t6 t11 t12 t13 t61 t62 t63 t68 t69 t70 M m I i
def S100_11 (j9 : X10) (t6 t11 t12 t13 t14 t61 t62 t63 M m I i : Nat) : Res :=
 jn (S100_10 j9) fun j66 =>
 ln t14 fun v68 =>
 j66 t6 t11 t12 t13 t61 t62 t63 t14 v68 295147905179352825861 M m I i
def S100_12 (n6 : Nat) (j5 : X10) (t6 t11 t12 t61 t62 t63 M m I i : Nat) : Res :=
 jn (fun (t6 t11 t12 t61 t62 t63 M m I i : Nat) =>
 adt n6 t63 295147905179352825893 fun v7 =>
 j5 t6 t11 t12 t61 t62 v7 M m I i) fun j9 =>
 jn (S100_11 j9) fun j70 =>
 ia 1 t61 t63 fun v72 =>
 ld v72 M fun v73 =>
 j70 t6 t11 t12 t63 v73 t61 t62 t63 M m I i
def S100_13 (j4 : X5) (n6 : Nat) (j5 : X10) (t6 t11 t12 t61 t62 t63 t64 M m I i : Nat) : Res :=
 jn (S100_12 n6 j5) fun j76 =>
 cnd t64 (j76 t6 t11 t12 t61 t62 t63 M m I i)
 (j4 t11 M m I i)
def S100_14 (j4 : X5) (n6 : Nat) (j5 : X10) (t6 t11 t12 t61 t62 t63 M m I i : Nat) : Res :=
 jn (S100_13 j4 n6 j5) fun j77 =>
 lt 5 t63 t62 fun v78 =>
 j77 t6 t11 t12 t61 t62 t63 v78 M m I i
def S100_15 (j4 : X5) (t6 t11 t12 t61 t62 t63 M m I i : Nat) : Res :=
 lp (S100_14 j4) (fun _ _ _ _ _ _ _ _ _ _ => .bad 73 0) t6 t11 t12 t61 t62 t63 M m I i
def S100_16 (c : Y) (k : KF) (t4 t6 t11 t12 M m I i : Nat) : Res :=
 jn (fun (t11 M m I i : Nat) =>
 rtn 2 [t11, 295147905179352825861] M m I i k) fun j4 =>
 jn (S100_15 j4) fun j79 =>
 loadNK 2 (.k t4) zf M I i fun v80 I i =>
 c 162 [v80] M m I i fun v81 M m I i =>
 ln v81 fun v82 =>
 j79 t6 t11 t12 v81 v82 295147905179352825861 M m I i
def S100_17 (c : Y) (k : KF) (t4 t6 t11 M m I i : Nat) : Res :=
 jn (S100_16 c k) fun j84 =>
 mkMapK M m I i fun v85 M m I i =>
 j84 t4 t6 t11 v85 M m I i
def S100_18 (c : Y) (k : KF) (t4 t6 M m I i : Nat) : Res :=
 jn (S100_17 c k) fun j87 =>
 bldSK 0 1 11 [] zf M m I i fun v88 M m I i =>
 j87 t4 t6 v88 M m I i
def S100_19 (j95 : X9) (n97 : Nat) (j96 : X14) (t4 t6 t7 t8 t28 t29 t30 t35 t36 t37 M m I i : Nat) : Res :=
 lt 5 t37 t36 fun v98 =>
 cnd v98 (ia 1 t35 t37 fun v100 =>
 ld v100 M fun v101 =>
 buildK 2 23384026197294446691655098136326997907641993265157 [(0, 1, (.k v101)), (1, 1, (.k t7))] zf I i fun v107 I i =>
 adt n97 t37 295147905179352825893 fun v111 =>
 ln t8 fun v113 =>
 iopK .rem .i64 (.k v111) (.k v113) zf I i fun v114 I i => tkk n97 v114 fun v115 =>
 ia 1 t8 v115 fun v116 =>
 ld v116 M fun v117 =>
 buildK 2 23384026197294446691655098136326997907641993265157 [(0, 1, (.k t7)), (1, 1, (.k v117))] zf I i fun v118 I i =>
 updW (.row 2 5) t6 v107 v118 M m I i fun _ M m I i =>
 adt n97 t37 295147905179352825893 fun v119 =>
 j96 t4 t6 t7 t8 t28 t29 t30 t35 t36 v119 M m I i)
 (j95 t4 t6 t28 t29 t30 M m I i)
def S100_20 (j95 : X9) (t4 t6 t7 t8 t28 t29 t30 t35 t36 t37 M m I i : Nat) : Res :=
 lp (S100_19 j95) (fun _ _ _ _ _ _ _ _ _ _ _ _ _ _ => .bad 73 0) t4 t6 t7 t8 t28 t29 t30 t35 t36 t37 M m I i
def S100_21 (j95 : X9) (t4 t6 t7 t8 t28 t29 t30 M m I i : Nat) : Res :=
 jn (S100_20 j95) fun j121 =>
 ln t8 fun v123 =>
 j121 t4 t6 t7 t8 t28 t29 t30 t8 v123 295147905179352825861 M m I i
def S100_22 (n92 : Nat) (j91 : X9) (t4 t6 t28 t29 t30 M m I i : Nat) : Res :=
 jn (fun (t4 t6 t28 t29 t30 M m I i : Nat) =>
 adt n92 t30 295147905179352825893 fun v93 =>
 j91 t4 t6 t28 t29 v93 M m I i) fun j95 =>
 jn (S100_21 j95) fun j125 =>
 ia 1 t28 t30 fun v127 =>
 ld v127 M fun v128 =>
 j125 t4 t6 t30 v128 t28 t29 t30 M m I i
def S100_23 (j90 : X6) (n92 : Nat) (j91 : X9) (t4 t6 t28 t29 t30 t31 M m I i : Nat) : Res :=
 jn (S100_22 n92 j91) fun j131 =>
 cnd t31 (j131 t4 t6 t28 t29 t30 M m I i)
 (j90 t4 t6 M m I i)
def S100_24 (j90 : X6) (n92 : Nat) (j91 : X9) (t4 t6 t28 t29 t30 M m I i : Nat) : Res :=
 jn (S100_23 j90 n92 j91) fun j132 =>
 lt 5 t30 t29 fun v133 =>
 j132 t4 t6 t28 t29 t30 v133 M m I i
def S100_25 (j90 : X6) (t4 t6 t28 t29 t30 M m I i : Nat) : Res :=
 lp (S100_24 j90) (fun _ _ _ _ _ _ _ _ _ => .bad 73 0) t4 t6 t28 t29 t30 M m I i
def S100_26 (c : Y) (k : KF) (t0 t4 t6 M m I i : Nat) : Res :=
 jn (S100_18 c k) fun j90 =>
 jn (S100_25 j90) fun j134 =>
 ln t0 fun v136 =>
 j134 t4 t6 t0 v136 295147905179352825861 M m I i
def S100_27 (c : Y) (k : KF) (t0 t4 M m I i : Nat) : Res :=
 jn (S100_26 c k) fun j138 =>
 mkMapK M m I i fun v139 M m I i =>
 j138 t0 t4 v139 M m I i
def S100_28 (c : Y) (k : KF) (t0 t4 t5 M m I i : Nat) : Res :=
 jn (S100_27 c k) fun j141 =>
 notK (.k t5) zf I i fun v143 I i =>
 cnd v143 (rtn 2 [11, 295147905179352828101] M m I i k)
 (j141 t0 t4 M m I i)
def S100_29 (c : Y) (k : KF) (t0 M m I i : Nat) : Res :=
 jn (S100_28 c k) fun j146 =>
 c 161 [t0] M m I i fun v148 M m I i =>
 f1 19 0 v148 I fun v150 =>
 f1 19 1 v148 I fun v151 =>
 newK 2 871509787952055618708336279557 M m I i fun v152 M m I i =>
 storeK 2 (.k v152) (.k v150) zf M m I i fun _ M m I i =>
 j146 t0 v152 v151 M m I i
def F100 (c : Y) (t0 M m I i : Nat) (k : KF) : Res :=
 jn (S100_29 c k) fun j154 =>
 j154 t0 M m I i
def g100 (c : Y) : List Nat → Nat → Nat → Nat → Nat → KF → Res := unS fun t0 => un0 (F100 c t0)
def S39_1 (c : Y) (j11 : X14) (t1 t2 t3 t8 t9 t10 t11 t12 t13 t14 t19 M m I i : Nat) : Res :=
 bldSK 1 1 11 [(0, 1, (.k t19))] zf M m I i fun v14 M m I i =>
 appW 1 t8 v14 M m I i fun v15 M m I i =>
 fa 0 t3 fun v17 =>
 ld v17 M fun v18 =>
 bldSK 2 1 11 [(0, 1, (.k t2)), (1, 1, (.k v15))] zf M m I i fun v21 M m I i =>
 c 85 [v21] M m I i fun v23 M22 m I i =>
 flL v17 1 M M22 <| 
 c 40 [v18, v23] M22 m I i fun v24 M m I i =>
 storeK 1 (.k t12) (.k v24) zf M m I i fun _ M m I i =>
 j11 t1 t2 t3 v15 t9 t10 t11 t12 t13 t14 M m I i
def S39_2 (j25 : X15) (n27 : Nat) (j26 : X19) (t1 t2 t3 t8 t9 t10 t11 t12 t13 t14 t17 t19 t113 t114 t115 M m I i : Nat) : Res :=
 lt 5 t115 t114 fun v28 =>
 cnd v28 (ia 1 t113 t115 fun v30 =>
 ld v30 M fun v31 =>
 fa 1 t17 fun v36 =>
 ld v36 M fun v37 =>
 ia 1 v37 t115 fun v39 =>
 ld v39 M fun v40 =>
 ia 1 t19 v31 fun v41 =>
 storeK 1 (.k v41) (.k v40) zf M m I i fun _ M m I i =>
 adt n27 t115 295147905179352825893 fun v42 =>
 j26 t1 t2 t3 t8 t9 t10 t11 t12 t13 t14 t17 t19 t113 t114 v42 M m I i)
 (j25 t1 t2 t3 t8 t9 t10 t11 t12 t13 t14 t19 M m I i)
def S39_3 (j25 : X15) (t1 t2 t3 t8 t9 t10 t11 t12 t13 t14 t17 t19 t113 t114 t115 M m I i : Nat) : Res :=
 lp (S39_2 j25) (fun _ _ _ _ _ _ _ _ _ _ _ _ _ _ _ _ _ _ _ => .bad 73 0) t1 t2 t3 t8 t9 t10 t11 t12 t13 t14 t17 t19 t113 t114 t115 M m I i
def S39_4 (c : Y) (j11 : X14) (t1 t2 t3 t8 t9 t10 t11 t12 t13 t14 t17 t19 M m I i : Nat) : Res :=
 jn (S39_1 c j11) fun j25 =>
 jn (S39_3 j25) fun j44 =>
 fa 1 t11 fun v45 =>
 ld v45 M fun v46 =>
 ln v46 fun v47 =>
 j44 t1 t2 t3 t8 t9 t10 t11 t12 t13 t14 t17 t19 v46 v47 295147905179352825861 M m I i
def S39_5 (c : Y) (j11 : X14) (t1 t2 t3 t8 t9 t10 t11 t12 t13 t14 t17 M m I i : Nat) : Res :=
 jn (S39_4 c j11) fun j49 =>
 fa 0 t3 fun v50 =>
 ld v50 M fun v51 =>
 mkSlK 1 295147905179352825861 (.k v51) (.k v51) zf M m I i fun v52 M m I i =>
 j49 t1 t2 t3 t8 t9 t10 t11 t12 t13 t14 t17 v52 M m I i
def S39_6 (c : Y) (j11 : X14) (t1 t2 t3 t8 t9 t10 t11 t12 t13 t14 t17 M m I i : Nat) : Res :=
 jn (S39_5 c j11) fun j54 =>
 fa 0 t11 fun v55 =>
 ld v55 M fun v56 =>
 fa 0 t17 fun v57 =>
 ld v57 M fun v58 =>
 c 84 [v56, v58] M m I i fun v59 M m I i =>
 notK (.k v59) zf I i fun v60 I i =>
 cnd v60 (ld t14 M fun v62 =>
 bldSK 1 1 295147905179352825861 [(0, 1, (.k v62))] zf M m I i fun v63 M m I i =>
 appW 1 t13 v63 M m I i fun v64 M m I i =>
 j11 t1 t2 t3 t8 t9 t10 t11 t12 v64 t14 M m I i)
 (j54 t1 t2 t3 t8 t9 t10 t11 t12 t13 t14 t17 M m I i)
def S39_7 (c : Y) (k : KF) (j11 : X14) (t1 t2 t3 t8 t9 t10 t11 t12 t13 t14 t17 t18 M m I i : Nat) : Res :=
 jn (S39_6 c j11) fun j66 =>
 ne 5 t18 295147905179352825861 fun v68 =>
 cnd v68 (rtn 2 [11, t18] M m I i k)
 (j66 t1 t2 t3 t8 t9 t10 t11 t12 t13 t14 t17 M m I i)
def S39_8 (c : Y) (k : KF) (j11 : X14) (t1 t2 t3 t8 t9 t10 t11 t12 t13 t14 M m I i : Nat) : Res :=
 jn (S39_7 c k j11) fun j72 =>
 loadNK 2 (.k t3) zf M I i fun v73 I i =>
 fa 0 t3 fun v74 =>
 ld v74 M fun v75 =>
 ld t14 M fun v77 =>
 newK 2 871509787656907713528983453707 M m I i fun v78 M m I i =>
 c 80 [v75, t1, v77] M m I i fun v80 M79 m I i =>
 flL t3 2 M M79 <| 
 c 75 [v73, v80] M79 m I i fun v81 M m I i =>
 f1 19 0 v81 I fun v83 =>
 f1 19 1 v81 I fun v84 =>
 storeK 2 (.k v78) (.k v83) zf M m I i fun _ M m I i =>
 j72 t1 t2 t3 t8 t9 t10 t11 t12 t13 t14 v78 v84 M m I i
def S39_9 (c : Y) (k : KF) (j11 : X14) (t1 t2 t3 t8 t9 t10 t11 t12 t13 t14 M m I i : Nat) : Res :=
 jn (S39_8 c k j11) fun j86 =>
 fa 1 t11 fun v87 =>
 ld v87 M fun v88 =>
 nilqK false 11 11 (.k v88) zf I i fun v89 I i =>
 cnd v89 (loadNK 2 (.k t3) zf M I i fun v90 I i =>
 fa 0 t3 fun v91 =>
 ld v91 M fun v92 =>
 newK 2 871509787656907713528983453707 M m I i fun v95 M m I i =>
 c 80 [v92, t1, t1] M m I i fun v97 M96 m I i =>
 flL t3 2 M M96 <| 
 c 75 [v90, v97] M96 m I i fun v98 M m I i =>
 f1 19 0 v98 I fun v100 =>
 f1 19 1 v98 I fun v101 =>
 storeK 2 (.k v95) (.k v100) zf M m I i fun _ M m I i =>
 ne 5 v101 295147905179352825861 fun v104 =>
 cnd v104 (rtn 2 [11, v101] M m I i k)
 (loadNK 2 (.k v95) zf M I i fun v108 I i =>
 storeK 2 (.k t11) (.k v108) zf M m I i fun _ M m I i =>
 j86 t1 t2 t3 t8 t9 t10 t11 t12 t13 t14 M m I i))
 (j86 t1 t2 t3 t8 t9 t10 t11 t12 t13 t14 M m I i)
def S39_10 (c : Y) (k : KF) (j11 : X14) (t1 t2 t3 t8 t9 t10 t11 t12 t13 t14 M m I i : Nat) : Res :=
 jn (S39_9 c k j11) fun j109 =>
 fa 0 t3 fun v112 =>
 ld v112 M fun v113 =>
 ld t14 M fun v115 =>
 c 80 [v113, t1, v115] M m I i fun v116 M m I i =>
 c 79 [t9, v116] M m I i fun v117 M m I i =>
 c 83 [t10, v117] M m I i fun v118 M m I i =>
 notK (.k v118) zf I i fun v119 I i =>
 cnd v119 (ld t14 M fun v121 =>
 bldSK 1 1 295147905179352825861 [(0, 1, (.k v121))] zf M m I i fun v122 M m I i =>
 appW 1 t13 v122 M m I i fun v123 M m I i =>
 j11 t1 t2 t3 t8 t9 t10 t11 t12 v123 t14 M m I i)
 (j109 t1 t2 t3 t8 t9 t10 t11 t12 t13 t14 M m I i)
def S39_11 (c : Y) (k : KF) (n6 : Nat) (j5 : X14) (t1 t2 t3 t8 t9 t10 t11 t12 t13 t14 M m I i : Nat) : Res :=
 jn (fun (t1 t2 t3 t8 t9 t10 t11 t12 t13 t14 M m I i : Nat) =>
 ld t14 M fun v7 =>
 newK 1 295147905179352825861 M m I i fun v8 M m I i =>
 storeK 1 (.k v8) (.k v7) zf M m I i fun _ M m I i =>
 ld v8 M fun v9 =>
 adt n6 v9 295147905179352825893 fun v10 =>
 storeK 1 (.k v8) (.k v10) zf M m I i fun _ M m I i =>
 j5 t1 t2 t3 t8 t9 t10 t11 t12 t13 v8 M m I i) fun j11 =>
 jn (S39_10 c k j11) fun j125 =>
 ld t12 M fun v126 =>
 ld t14 M fun v127 =>
 ld t12 M fun v128 =>
 callvS c (.k v126) [(.k v127)] zf M m I i fun v131 M130 m I i =>
 flL t12 1 M M130 <| 
 callvS c (.k v128) [(.k t1)] zf M130 m I i fun v132 M m I i =>
 eq 5 v131 v132 fun v133 =>
 jn (fun (v139 M m I i : Nat) =>
 pk v133 33 v139 fun v140 =>
 cnd v140 (j11 t1 t2 t3 t8 t9 t10 t11 t12 t13 t14 M m I i)
 (j125 t1 t2 t3 t8 t9 t10 t11 t12 t13 t14 M m I i))
 (fun j135 => gd v133 1 (mkfK 82 2 [(.k t12), (.k t14)] zf I i fun v137 I i =>
 c 81 [t13, v137] M m I i fun v138 M m I i =>
 j135 v138 M m I i) (j135 0 M m I i))
def S39_12 (c : Y) (k : KF) (j4 : X5) (n6 : Nat) (j5 : X14) (t1 t2 t3 t8 t9 t10 t11 t12 t13 t14 M m I i : Nat) : Res :=
 jn (S39_11 c k n6 j5) fun j141 =>
 ld t14 M fun v142 =>
 fa 0 t3 fun v143 =>
 ld v143 M fun v144 =>
 lt 5 v142 v144 fun v145 =>
 cnd v145 (j141 t1 t2 t3 t8 t9 t10 t11 t12 t13 t14 M m I i)
 (j4 t8 M m I i)
def S39_13 (c : Y) (k : KF) (j4 : X5) (t1 t2 t3 t8 t9 t10 t11 t12 t13 t14 M m I i : Nat) : Res :=
 lp (S39_12 c k j4) (fun _ _ _ _ _ _ _ _ _ _ _ _ _ _ => .bad 73 0) t1 t2 t3 t8 t9 t10 t11 t12 t13 t14 M m I i
def S39_14 (c : Y) (k : KF) (t1 t2 t3 t8 t9 t10 t11 t12 t13 M m I i : Nat) : Res :=
 jn (fun (t8 M m I i : Nat) =>
 rtn 2 [t8, 295147905179352825861] M m I i k) fun j4 =>
 jn (S39_13 c k j4) fun j146 =>
 ad t1 295147905179352825893 fun v148 =>
 newK 1 295147905179352825861 M m I i fun v149 M m I i =>
 storeK 1 (.k v149) (.k v148) zf M m I i fun _ M m I i =>
 j146 t1 t2 t3 t8 t9 t10 t11 t12 t13 v149 M m I i
def S39_15 (c : Y) (k : KF) (t1 t2 t3 t8 t9 t10 t11 t12 M m I i : Nat) : Res :=
 jn (S39_14 c k) fun j150 =>
 j150 t1 t2 t3 t8 t9 t10 t11 t12 11 M m I i
def S39_16 (c : Y) (k : KF) (t1 t2 t3 t8 t9 t10 t11 M m I i : Nat) : Res :=
 jn (S39_15 c k) fun j152 =>
 fa 0 t3 fun v153 =>
 ld v153 M fun v154 =>
 c 40 [v154, t2] M m I i fun v156 M m I i =>
 newK 1 15 M m I i fun v157 M m I i =>
 storeK 1 (.k v157) (.k v156) zf M m I i fun _ M m I i =>
 j152 t1 t2 t3 t8 t9 t10 t11 v157 M m I i
def S39_17 (c : Y) (k : KF) (t1 t2 t3 t8 t9 t10 M m I i : Nat) : Res :=
 jn (S39_16 c k) fun j158 =>
 newK 2 871509787656907713528983453707 M m I i fun v159 M m I i =>
 j158 t1 t2 t3 t8 t9 t10 v159 M m I i
def S39_18 (c : Y) (k : KF) (t1 t2 t3 t8 t9 M m I i : Nat) : Res :=
 jn (S39_17 c k) fun j160 =>
 fa 0 t3 fun v162 =>
 ld v162 M fun v163 =>
 c 80 [v163, t1, t1] M m I i fun v166 M m I i =>
 c 79 [t9, v166] M m I i fun v167 M m I i =>
 j160 t1 t2 t3 t8 t9 v167 M m I i
def S39_19 (c : Y) (k : KF) (t1 t2 t3 t8 M m I i : Nat) : Res :=
 jn (S39_18 c k) fun j169 =>
 loadNK 2 (.k t3) zf M I i fun v170 I i =>
 c 78 [v170] M m I i fun v171 M m I i =>
 j169 t1 t2 t3 t8 v171 M m I i
def S39_20 (c : Y) (k : KF) (t1 t2 t3 M m I i : Nat) : Res :=
 jn (S39_19 c k) fun j173 =>
 j173 t1 t2 t3 11 M m I i
def F39 (c : Y) (t0 t1 t2 M m I i : Nat) (k : KF) : Res :=
 jn (S39_20 c k) fun j175 =>
 boxK 2 (.k t0) zf M m I i fun v176 M m I i =>
 j175 t1 t2 v176 M m I i
def g39 (c : Y) : List Nat → Nat → Nat → Nat → Nat → KF → Res := unS fun t0 => unS fun t1 => unS fun t2 => un0 (F39 c t0 t1 t2)
def F306 (c : Y) (t0 t1 M m I i : Nat) (k : KF) : Res :=
 boxK 2 (.k t0) zf M m I i fun v1 M m I i =>
 fa 0 v1 fun v3 =>
 ld v3 M fun v4 =>
 iopK .quo .i64 (.k t1) (.k 295147905179352826117) zf I i fun v6 I i =>
 ia 1 v4 v6 fun v7 =>
 ld v7 M fun v8 =>
 iopK .rem .i64 (.k t1) (.k 295147905179352826117) zf I i fun v10 I i =>
 sb 295147905179352826085 v10 fun v11 =>
 shfK .shr .u8 .i64 (.k v8) (.k v11) zf I i fun v12 I i =>
 iopK .and .u8 (.k v12) (.k 38) zf I i fun v13 I i =>
 k v13 M m I i
def g306 (c : Y) : List Nat → Nat → Nat → Nat → Nat → KF → Res := unS fun t0 => unS fun t1 => un0 (F306 c t0 t1)
def F22 (c : Y) (M m I i : Nat) (k : KF) : Res :=
 mkMapK M m I i fun v2 M m I i =>
 buildK 2 1188422437713965063903159255052 [(0, 1, (.str 4 1852073258)), (1, 1, (.k 1486))] zf I i fun v3 I i =>
 updK .str (.k v2) (.str 3 7103860) (.k v3) zf M m I i fun _ M m I i =>
 buildK 2 1188422437713965063903159255052 [(0, 1, (.str 4 1852269610)), (1, 1, (.k 1518))] zf I i fun v4 I i =>
 updK .str (.k v2) (.str 4 1667329132) (.k v4) zf M m I i fun _ M m I i =>
 buildK 2 1188422437713965063903159255052 [(0, 1, (.str 3 7235431)), (1, 1, (.k 1550))] zf I i fun v5 I i =>
 updK .str (.k v2) (.str 4 1785686382) (.k v5) zf M m I i fun _ M m I i =>
 buildK 2 1188422437713965063903159255052 [(0, 1, (.str 3 7235429)), (1, 1, (.k 1582))] zf I i fun v6 I i =>
 updK .str (.k v2) (.str 4 1818588019) (.k v6) zf M m I i fun _ M m I i =>
 buildK 2 1188422437713965063903159255052 [(0, 1, (.str 1 103)), (1, 1, (.k 1614))] zf I i fun v7 I i =>
 updK .str (.k v2) (.str 5 482671228019) (.k v7) zf M m I i fun _ M m I i =>
 buildK 2 1188422437713965063903159255052 [(0, 1, (.str 1 103)), (1, 1, (.k 1646))] zf I i fun v8 I i =>
 updK .str (.k v2) (.str 4 1668641907) (.k v8) zf M m I i fun _ M m I i =>
 buildK 2 1188422437713965063903159255052 [(0, 1, (.str 1 103)), (1, 1, (.k 1678))] zf I i fun v9 I i =>
 updK .str (.k v2) (.str 6 108217864776563) (.k v9) zf M m I i fun _ M m I i =>
 buildK 2 1188422437713965063903159255052 [(0, 1, (.str 1 103)), (1, 1, (.k 1710))] zf I i fun v10 I i =>
 updK .str (.k v2) (.str 5 482854661733) (.k v10) zf M m I i fun _ M m I i =>
 buildK 2 1188422437713965063903159255052 [(0, 1, (.str 2 26471)), (1, 1, (.k 1742))] zf I i fun v11 I i =>
 updK .str (.k v2) (.str 4 1935764837) (.k v11) zf M m I i fun _ M m I i =>
 buildK 2 1188422437713965063903159255052 [(0, 1, (.str 1 103)), (1, 1, (.k 1774))] zf I i fun v12 I i =>
 updK .str (.k v2) (.str 4 1835102323) (.k v12) zf M m I i fun _ M m I i =>
 buildK 2 1188422437713965063903159255052 [(0, 1, (.str 1 103)), (1, 1, (.k 1806))] zf I i fun v13 I i =>
 updK .str (.k v2) (.str 6 122537068033139) (.k v13) zf M m I i fun _ M m I i =>
 buildK 2 1188422437713965063903159255052 [(0, 1, (.str 1 103)), (1, 1, (.k 1838))] zf I i fun v14 I i =>
 updK .str (.k v2) (.str 3 7370100) (.k v14) zf M m I i fun _ M m I i =>
 buildK 2 1188422437713965063903159255052 [(0, 1, (.str 1 103)), (1, 1, (.k 1870))] zf I i fun v15 I i =>
 updK .str (.k v2) (.str 4 1718185572) (.k v15) zf M m I i fun _ M m I i =>
 buildK 2 1188422437713965063903159255052 [(0, 1, (.str 1 100)), (1, 1, (.k 1902))] zf I i fun v16 I i =>
 updK .str (.k v2) (.str 4 1936024942) (.k v16) zf M m I i fun _ M m I i =>
 buildK 2 1188422437713965063903159255052 [(0, 1, (.k 12)), (1, 1, (.k 1934))] zf I i fun v17 I i =>
 updK .str (.k v2) (.str 5 418346264942) (.k v17) zf M m I i fun _ M m I i =>
 k v2 M m I i
def g22 (c : Y) : List Nat → Nat → Nat → Nat → Nat → KF → Res := un0 (F22 c)
def F35 (c : Y) (t0 t1 M m I i : Nat) (k : KF) : Res :=
 ln t0 fun v2 =>
 convK .i64 .u64 (.k v2) zf I i fun v7 I i =>
 c 72 [v7] M m I i fun v8 M m I i =>
 c 71 [t0, 295147905179352825861, v2, v8, t1] M m I i fun v10 M m I i =>
 rtn 0 [] M m I i k
def g35 (c : Y) : List Nat → Nat → Nat → Nat → Nat → KF → Res := unS fun t0 => unS fun t1 => un0 (F35 c t0 t1)
def F225 (c : Y) (t0 M m I i : Nat) (k : KF) : Res :=
 ad t0 295147905179352826085 fun v3 =>
 iopK .quo .i64 (.k v3) (.k 295147905179352826117) zf I i fun v4 I i =>
 k v4 M m I i
def g225 (c : Y) : List Nat → Nat → Nat → Nat → Nat → KF → Res := unS fun t0 => un0 (F225 c t0)
def S15_1 (c : Y) (j10 : X8) (n12 : Nat) (j11 : X11) (t1 t2 t6 t7 t10 t63 t64 M m I i : Nat) : Res :=
 lt 5 t64 t63 fun v13 =>
 cnd v13 (callvS c (.k t10) [(.k t64)] zf M m I i fun v18 M m I i =>
 callvS c (.k t10) [(.k t7)] zf M m I i fun v21 M m I i =>
 eq 5 v18 v21 fun v22 =>
 cnd v22 (fa 0 t6 fun v23 =>
 ld v23 M fun v24 =>
 ia 1 v24 t7 fun v26 =>
 ld v26 M fun v27 =>
 adt n12 v27 295147905179352825893 fun v28 =>
 ia 1 v24 t7 fun v29 =>
 storeK 1 (.k v29) (.k v28) zf M m I i fun _ M m I i =>
 adt n12 t64 295147905179352825893 fun v30 =>
 j11 t1 t2 t6 t7 t10 t63 v30 M m I i)
 (adt n12 t64 295147905179352825893 fun v32 =>
 j11 t1 t2 t6 t7 t10 t63 v32 M m I i))
 (j10 t1 t2 t6 t7 M m I i)
def S15_2 (c : Y) (j10 : X8) (t1 t2 t6 t7 t10 t63 t64 M m I i : Nat) : Res :=
 lp (S15_1 c j10) (fun _ _ _ _ _ _ _ _ _ _ _ => .bad 73 0) t1 t2 t6 t7 t10 t63 t64 M m I i
def S15_3 (c : Y) (j10 : X8) (t1 t2 t6 t7 t10 M m I i : Nat) : Res :=
 jn (S15_2 c j10) fun j34 =>
 fa 0 t1 fun v35 =>
 ld v35 M fun v36 =>
 j34 t1 t2 t6 t7 t10 v36 295147905179352825861 M m I i
def S15_4 (c : Y) (j10 : X8) (t1 t2 t6 t7 M m I i : Nat) : Res :=
 jn (S15_3 c j10) fun j38 =>
 fa 0 t1 fun v39 =>
 ld v39 M fun v40 =>
 fa 1 t6 fun v41 =>
 ld v41 M fun v42 =>
 c 40 [v40, v42] M m I i fun v43 M m I i =>
 j38 t1 t2 t6 t7 v43 M m I i
def S15_5 (c : Y) (j10 : X8) (t1 t2 t6 t7 t8 M m I i : Nat) : Res :=
 jn (S15_4 c j10) fun j45 =>
 fa 1 t6 fun v46 =>
 ld v46 M fun v47 =>
 appW 1 v47 t8 M m I i fun v49 M m I i =>
 fa 1 t6 fun v50 =>
 storeK 1 (.k v50) (.k v49) zf M m I i fun _ M m I i =>
 j45 t1 t2 t6 t7 M m I i
def S15_6 (c : Y) (k : KF) (j10 : X8) (t1 t2 t6 t7 t8 t9 M m I i : Nat) : Res :=
 jn (S15_5 c j10) fun j51 =>
 ne 5 t9 295147905179352825861 fun v53 =>
 cnd v53 (buildK 2 871509787656907713528983453707 [] zf I i fun v54 I i =>
 storeK 2 (.k t2) (.k v54) zf M m I i fun _ M m I i =>
 loadNK 2 (.k t2) zf M I i fun v57 I i => rtn 2 [v57, t9] M m I i k)
 (j51 t1 t2 t6 t7 t8 M m I i)
def S15_7 (c : Y) (k : KF) (n6 : Nat) (j5 : X8) (t1 t2 t6 t7 M m I i : Nat) : Res :=
 jn (fun (t1 t2 t6 t7 M m I i : Nat) =>
 sbt n6 t7 295147905179352825893 fun v8 =>
 j5 t1 t2 t6 v8 M m I i) fun j10 =>
 jn (S15_6 c k j10) fun j58 =>
 loadNK 2 (.k t1) zf M I i fun v59 I i =>
 fa 1 t6 fun v61 =>
 ld v61 M fun v62 =>
 c 39 [v59, t7, v62] M m I i fun v63 M m I i =>
 f1 19 0 v63 I fun v65 =>
 f1 19 1 v63 I fun v66 =>
 j58 t1 t2 t6 t7 v65 v66 M m I i
def S15_8 (c : Y) (k : KF) (j4 : X6) (n6 : Nat) (j5 : X8) (t1 t2 t6 t7 M m I i : Nat) : Res :=
 jn (S15_7 c k n6 j5) fun j69 =>
 ge 5 t7 295147905179352825861 fun v71 =>
 cnd v71 (j69 t1 t2 t6 t7 M m I i)
 (j4 t2 t6 M m I i)
def S15_9 (c : Y) (k : KF) (j4 : X6) (t1 t2 t6 t7 M m I i : Nat) : Res :=
 lp (S15_8 c k j4) (fun _ _ _ _ _ _ _ _ => .bad 73 0) t1 t2 t6 t7 M m I i
def S15_10 (c : Y) (k : KF) (t1 t2 t6 M m I i : Nat) : Res :=
 jn (fun (t2 t6 M m I i : Nat) =>
 loadNK 2 (.k t6) zf M I i fun v1 I i =>
 storeK 2 (.k t2) (.k v1) zf M m I i fun _ M m I i =>
 loadNK 2 (.k t2) zf M I i fun v3 I i => rtn 2 [v3, 295147905179352825861] M m I i k) fun j4 =>
 jn (S15_9 c k j4) fun j72 =>
 fa 0 t1 fun v73 =>
 ld v73 M fun v74 =>
 sb v74 295147905179352825893 fun v75 =>
 j72 t1 t2 t6 v75 M m I i
def S15_11 (c : Y) (k : KF) (t1 t2 M m I i : Nat) : Res :=
 jn (S15_10 c k) fun j77 =>
 fa 0 t1 fun v78 =>
 ld v78 M fun v79 =>
 mkSlK 1 295147905179352825861 (.k v79) (.k v79) zf M m I i fun v80 M m I i =>
 buildK 2 871509787656907713528983453707 [(0, 1, (.k v80))] zf I i fun v81 I i =>
 newK 2 871509787656907713528983453707 M m I i fun v82 M m I i =>
 storeK 2 (.k v82) (.k v81) zf M m I i fun _ M m I i =>
 j77 t1 t2 v82 M m I i
def S15_12 (c : Y) (k : KF) (t1 t2 M m I i : Nat) : Res :=
 jn (S15_11 c k) fun j83 =>
 loadNK 2 (.k t1) zf M I i fun v84 I i =>
 c 38 [v84] M m I i fun v85 M m I i =>
 f1 19 0 v85 I fun v87 =>
 f1 19 1 v85 I fun v88 =>
 newK 2 871509787656907713528983453707 M m I i fun v89 M m I i =>
 storeK 2 (.k v89) (.k v87) zf M m I i fun _ M m I i =>
 ne 5 v88 295147905179352825861 fun v92 =>
 cnd v92 (buildK 2 871509787656907713528983453707 [] zf I i fun v93 I i =>
 storeK 2 (.k t2) (.k v93) zf M m I i fun _ M m I i =>
 loadNK 2 (.k t2) zf M I i fun v96 I i => rtn 2 [v96, v88] M m I i k)
 (j83 t1 t2 M m I i)
def S15_13 (c : Y) (k : KF) (t1 t2 M m I i : Nat) : Res :=
 jn (S15_12 c k) fun j97 =>
 fa 0 t1 fun v98 =>
 ld v98 M fun v99 =>
 lt 5 295147905179352827141 v99 fun v100 =>
 cnd v100 (buildK 2 871509787656907713528983453707 [] zf I i fun v101 I i =>
 storeK 2 (.k t2) (.k v101) zf M m I i fun _ M m I i =>
 loadNK 2 (.k t2) zf M I i fun v103 I i => rtn 2 [v103, 295147905179352826533] M m I i k)
 (j97 t1 t2 M m I i)
def S15_14 (c : Y) (k : KF) (t1 t2 M m I i : Nat) : Res :=
 jn (S15_13 c k) fun j104 =>
 loadNK 2 (.k t1) zf M I i fun v105 I i =>
 c 37 [v105] M m I i fun v106 M m I i =>
 notK (.k v106) zf I i fun v107 I i =>
 cnd v107 (buildK 2 871509787656907713528983453707 [] zf I i fun v108 I i =>
 storeK 2 (.k t2) (.k v108) zf M m I i fun _ M m I i =>
 loadNK 2 (.k t2) zf M I i fun v110 I i => rtn 2 [v110, 295147905179352826501] M m I i k)
 (j104 t1 t2 M m I i)
def F15 (c : Y) (t0 M m I i : Nat) (k : KF) : Res :=
 jn (S15_14 c k) fun j111 =>
 boxK 2 (.k t0) zf M m I i fun v112 M m I i =>
 newK 2 871509787656907713528983453707 M m I i fun v113 M m I i =>
 j111 v112 v113 M m I i
def g15 (c : Y) : List Nat → Nat → Nat → Nat → Nat → KF → Res := unS fun t0 => un0 (F15 c t0)
def S477_1 (c : Y) (k : KF) (n2 : Nat) (j1 : X8) (t1 t17 t18 t19 M m I i : Nat) : Res :=
 lt 5 t19 t18 fun v3 =>
 cnd v3 (ia 1 t17 t19 fun v4 =>
 ld v4 M fun v5 =>
 nilcK (.k t1) zf I i fun v8 I i =>
 fa 0 v8 fun v9 =>
 ld v9 M fun v10 =>
 ia 1 v10 v5 fun v12 =>
 ld v12 M fun v13 =>
 invS Go.Proofs.Tryz.prog c "fretwork/bough.visit" (.k v13) [(.k t1)] zf M m I i fun v15 M m I i =>
 adt n2 t19 295147905179352825893 fun v16 =>
 j1 t1 t17 t18 v16 M m I i)
 (rtn 0 [] M m I i k)
def S477_2 (c : Y) (k : KF) (t1 t17 t18 t19 M m I i : Nat) : Res :=
 lp (S477_1 c k) (fun _ _ _ _ _ _ _ _ => .bad 73 0) t1 t17 t18 t19 M m I i
def S477_3 (c : Y) (k : KF) (t0 t1 M m I i : Nat) : Res :=
 jn (S477_2 c k) fun j18 =>
 nilcK (.k t0) zf I i fun v21 I i =>
 fa 0 v21 fun v22 =>
 ld v22 M fun v23 =>
 c 479 [t1, v23] M m I i fun v24 M m I i =>
 ln v24 fun v25 =>
 j18 t1 v24 v25 295147905179352825861 M m I i
def F477 (c : Y) (t0 t1 M m I i : Nat) (k : KF) : Res :=
 jn (S477_3 c k) fun j27 =>
 nilcK (.k t0) zf I i fun v30 I i =>
 fa 1 v30 fun v31 =>
 ld v31 M fun v32 =>
 c 339 [t1, v32] M m I i fun v33 M m I i =>
 j27 t0 t1 M m I i
def g477 (c : Y) : List Nat → Nat → Nat → Nat → Nat → KF → Res := unS fun t0 => unS fun t1 => un0 (F477 c t0 t1)
def F480 (c : Y) (t0 t1 t2 M m I i : Nat) (k : KF) : Res :=
 ld t2 M fun v2 =>
 nilcK (.k v2) zf I i fun v3 I i =>
 fa 5 v3 fun v4 =>
 ld v4 M fun v5 =>
 ia 1 v5 t0 fun v7 =>
 ld v7 M fun v8 =>
 ld t2 M fun v9 =>
 nilcK (.k v9) zf I i fun v10 I i =>
 fa 5 v10 fun v11 =>
 ld v11 M fun v12 =>
 ia 1 v12 t1 fun v14 =>
 ld v14 M fun v15 =>
 c 74 [v8, v15] M m I i fun v18 M m I i =>
 c 74 [t0, t1] M m I i fun v19 M m I i =>
 bldSK 2 1 295147905179352825861 [(0, 1, (.k v18)), (1, 1, (.k v19))] zf M m I i fun v20 M m I i =>
 c 73 [v20] M m I i fun v21 M m I i =>
 k v21 M m I i
def g480 (c : Y) : List Nat → Nat → Nat → Nat → Nat → KF → Res := unS fun t0 => unS fun t1 => unS fun t2 => un0 (F480 c t0 t1 t2)
def F258 (c : Y) (t0 t1 M m I i : Nat) (k : KF) : Res :=
 c 134 [t0, t1] M m I i fun v4 M m I i =>
 k v4 M m I i
def g258 (c : Y) : List Nat → Nat → Nat → Nat → Nat → KF → Res := unS fun t0 => unS fun t1 => un0 (F258 c t0 t1)
def S257_1 (k : KF) (t0 M m I i : Nat) : Res :=
 jn (fun (t0 t3 M m I i : Nat) =>
 jn (fun (t3 M m I i : Nat) =>
 k t3 M m I i) fun j3 =>
 jn (fun (t0 t3 t4 M m I i : Nat) =>
 lp (fun (n5 : Nat) (j4 : X7) (t0 t3 t4 M m I i : Nat) =>
 ln t0 fun v8 =>
 lt 5 t4 v8 fun v9 =>
 cnd v9 (ia 1 t0 t4 fun v13 =>
 ld v13 M fun v14 =>
 minK true 5 (.k t3) (.k v14) zf I i fun v15 I i =>
 adt n5 t4 295147905179352825893 fun v18 =>
 j4 t0 v15 v18 M m I i)
 (j3 t3 M m I i)) (fun _ _ _ _ _ _ _ => .bad 73 0) t0 t3 t4 M m I i) fun j20 =>
 j20 t0 t3 295147905179352825893 M m I i) fun j22 =>
 ia 1 t0 295147905179352825861 fun v24 =>
 ld v24 M fun v25 =>
 j22 t0 v25 M m I i
def S257_2 (k : KF) (t0 M m I i : Nat) : Res :=
 jn (S257_1 k) fun j27 =>
 ln t0 fun v29 =>
 lt 5 v29 295147905179352825893 fun v30 =>
 cnd v30 (mkiK 9 (.str 22 43185052040495765482339491077514288776946913586541428) zf I i fun v31 I i =>
 Res.bad 51 99)
 (j27 t0 M m I i)
def F257 (c : Y) (t0 M m I i : Nat) (k : KF) : Res :=
 jn (S257_2 k) fun j32 =>
 j32 t0 M m I i
def g257 (c : Y) : List Nat → Nat → Nat → Nat → Nat → KF → Res := unS fun t0 => un0 (F257 c t0)
def F158 (c : Y) (t0 t1 M m I i : Nat) (k : KF) : Res :=
 boxK 2 (.k t0) zf M m I i fun v1 M m I i =>
 ld t1 M fun v3 =>
 iadrAK 2 1 (.k v1) (.k 295147905179352825861) zf I i fun v4 I i =>
 ld v4 M fun v5 =>
 ia 3 v3 v5 fun v6 =>
 fa 0 v6 fun v7 =>
 ld v7 M fun v8 =>
 ld t1 M fun v9 =>
 iadrAK 2 1 (.k v1) (.k 295147905179352825893) zf I i fun v10 I i =>
 ld v10 M fun v11 =>
 ia 3 v9 v11 fun v12 =>
 fa 0 v12 fun v13 =>
 ld v13 M fun v14 =>
 lt 5 v14 v8 fun v15 =>
 cnd v15 (iadrAK 2 1 (.k v1) (.k 295147905179352825861) zf I i fun v16 I i =>
 ld v16 M fun v17 =>
 k v17 M m I i)
 (iadrAK 2 1 (.k v1) (.k 295147905179352825893) zf I i fun v19 I i =>
 ld v19 M fun v20 =>
 k v20 M m I i)
def g158 (c : Y) : List Nat → Nat → Nat → Nat → Nat → KF → Res := unS fun t0 => unS fun t1 => un0 (F158 c t0 t1)
def S78_1 (j3 : X5) (n5 : Nat) (j4 : X8) (t3 t10 t11 t12 M m I i : Nat) : Res :=
 lt 5 t12 t11 fun v6 =>
 cnd v6 (ia 2 t10 t12 fun v7 =>
 loadNK 2 (.k v7) zf M I i fun v8 I i =>
 newK 2 23384026197294446691655098136326997907641993265157 M m I i fun v9 M m I i =>
 storeK 2 (.k v9) (.k v8) zf M m I i fun _ M m I i =>
 iadrAK 2 1 (.k v9) (.k 295147905179352825861) zf I i fun v11 I i =>
 ld v11 M fun v12 =>
 iadrAK 2 1 (.k v9) (.k 295147905179352825861) zf I i fun v14 I i =>
 ld v14 M fun v15 =>
 ia 1 t3 v15 fun v16 =>
 ld v16 M fun v17 =>
 iadrAK 2 1 (.k v9) (.k 295147905179352825893) zf I i fun v18 I i =>
 ld v18 M fun v19 =>
 bldSK 1 1 295147905179352825861 [(0, 1, (.k v19))] zf M m I i fun v20 M m I i =>
 appW 1 v17 v20 M m I i fun v22 M21 m I i =>
 flL v11 1 M M21 <| 
 ia 1 t3 v12 fun v23 =>
 storeK 1 (.k v23) (.k v22) zf M21 m I i fun _ M m I i =>
 iadrAK 2 1 (.k v9) (.k 295147905179352825893) zf I i fun v25 I i =>
 ld v25 M fun v26 =>
 iadrAK 2 1 (.k v9) (.k 295147905179352825893) zf I i fun v28 I i =>
 ld v28 M fun v29 =>
 ia 1 t3 v29 fun v30 =>
 ld v30 M fun v31 =>
 iadrAK 2 1 (.k v9) (.k 295147905179352825861) zf I i fun v32 I i =>
 ld v32 M fun v33 =>
 bldSK 1 1 295147905179352825861 [(0, 1, (.k v33))] zf M m I i fun v34 M m I i =>
 appW 1 v31 v34 M m I i fun v36 M35 m I i =>
 flL v25 1 M M35 <| 
 ia 1 t3 v26 fun v37 =>
 storeK 1 (.k v37) (.k v36) zf M35 m I i fun _ M m I i =>
 adt n5 t12 295147905179352825893 fun v38 =>
 j4 t3 t10 t11 v38 M m I i)
 (j3 t3 M m I i)
def S78_2 (j3 : X5) (t3 t10 t11 t12 M m I i : Nat) : Res :=
 lp (S78_1 j3) (fun _ _ _ _ _ _ _ _ => .bad 73 0) t3 t10 t11 t12 M m I i
def S78_3 (k : KF) (t1 t3 M m I i : Nat) : Res :=
 jn (fun (t3 M m I i : Nat) =>
 k t3 M m I i) fun j3 =>
 jn (S78_2 j3) fun j40 =>
 fa 1 t1 fun v41 =>
 ld v41 M fun v42 =>
 ln v42 fun v43 =>
 j40 t3 v42 v43 295147905179352825861 M m I i
def S78_4 (k : KF) (t1 M m I i : Nat) : Res :=
 jn (S78_3 k) fun j45 =>
 fa 0 t1 fun v46 =>
 ld v46 M fun v47 =>
 mkSlK 1 11 (.k v47) (.k v47) zf M m I i fun v48 M m I i =>
 j45 t1 v48 M m I i
def F78 (c : Y) (t0 M m I i : Nat) (k : KF) : Res :=
 jn (S78_4 k) fun j50 =>
 boxK 2 (.k t0) zf M m I i fun v51 M m I i =>
 j50 v51 M m I i
def g78 (c : Y) : List Nat → Nat → Nat → Nat → Nat → KF → Res := unS fun t0 => un0 (F78 c t0)
def S308_1 (c : Y) (j6 : X9) (n8 : Nat) (j7 : X10) (t0 t1 t2 t3 t8 t9 M m I i : Nat) : Res :=
 lt 5 t1 t9 fun v11 =>
 jn (fun (v26 M m I i : Nat) =>
 pk v11 v26 1 fun v27 =>
 cnd v27 (sbt n8 t9 295147905179352825893 fun v32 =>
 sbt n8 t9 295147905179352825893 fun v35 =>
 ia 1 t0 v35 fun v36 =>
 ld v36 M fun v37 =>
 ia 1 t0 t9 fun v40 =>
 ld v40 M fun v41 =>
 ia 1 t0 t9 fun v42 =>
 storeK 1 (.k v42) (.k v37) zf M m I i fun _ M m I i =>
 ia 1 t0 v32 fun v43 =>
 storeK 1 (.k v43) (.k v41) zf M m I i fun _ M m I i =>
 sbt n8 t9 295147905179352825893 fun v45 =>
 j7 t0 t1 t2 t3 t8 v45 M m I i)
 (j6 t0 t1 t2 t3 t8 M m I i))
 (fun j13 => gd v11 33 (ia 1 t0 t9 fun v17 =>
 ld v17 M fun v18 =>
 sbt n8 t9 295147905179352825893 fun v21 =>
 ia 1 t0 v21 fun v22 =>
 ld v22 M fun v23 =>
 callvS c (.k t3) [(.k v18), (.k v23)] zf M m I i fun v24 M m I i =>
 lt 5 v24 295147905179352825861 fun v25 =>
 j13 v25 M m I i) (j13 0 M m I i))
def S308_2 (c : Y) (j6 : X9) (t0 t1 t2 t3 t8 t9 M m I i : Nat) : Res :=
 lp (S308_1 c j6) (fun _ _ _ _ _ _ _ _ _ _ => .bad 73 0) t0 t1 t2 t3 t8 t9 M m I i
def S308_3 (c : Y) (n2 : Nat) (j1 : X9) (t0 t1 t2 t3 t8 M m I i : Nat) : Res :=
 jn (fun (t0 t1 t2 t3 t8 M m I i : Nat) =>
 adt n2 t8 295147905179352825893 fun v4 =>
 j1 t0 t1 t2 t3 v4 M m I i) fun j6 =>
 jn (S308_2 c j6) fun j47 =>
 j47 t0 t1 t2 t3 t8 t8 M m I i
def S308_4 (c : Y) (k : KF) (n2 : Nat) (j1 : X9) (t0 t1 t2 t3 t8 M m I i : Nat) : Res :=
 jn (S308_3 c n2 j1) fun j50 =>
 lt 5 t8 t2 fun v53 =>
 cnd v53 (j50 t0 t1 t2 t3 t8 M m I i)
 (rtn 0 [] M m I i k)
def S308_5 (c : Y) (k : KF) (t0 t1 t2 t3 t8 M m I i : Nat) : Res :=
 lp (S308_4 c k) (fun _ _ _ _ _ _ _ _ _ => .bad 73 0) t0 t1 t2 t3 t8 M m I i
def F308 (c : Y) (t0 t1 t2 t3 M m I i : Nat) (k : KF) : Res :=
 jn (S308_5 c k) fun j54 =>
 ad t1 295147905179352825893 fun v56 =>
 j54 t0 t1 t2 t3 v56 M m I i
def g308 (c : Y) : List Nat → Nat → Nat → Nat → Nat → KF → Res := unS fun t0 => unS fun t1 => unS fun t2 => unS fun t3 => un0 (F308 c t0 t1 t2 t3)
def S261_1 (c : Y) (j17 : X6) (n19 : Nat) (j18 : X9) (t0 t1 t5 t6 t7 M m I i : Nat) : Res :=
 ln t6 fun v22 =>
 lt 5 t7 v22 fun v23 =>
 cnd v23 (ia 1 t6 t7 fun v27 =>
 ld v27 M fun v28 =>
 sbt n19 t7 295147905179352825893 fun v31 =>
 ia 1 t6 v31 fun v32 =>
 ld v32 M fun v33 =>
 callvS c (.k t1) [(.k v28), (.k v33)] zf M m I i fun v34 M m I i =>
 notK (.k v34) zf I i fun v35 I i =>
 cnd v35 (ia 1 t6 t7 fun v40 =>
 ld v40 M fun v41 =>
 ia 1 t0 t5 fun v42 =>
 storeK 1 (.k v42) (.k v41) zf M m I i fun _ M m I i =>
 adt n19 t5 295147905179352825893 fun v44 =>
 adt n19 t7 295147905179352825893 fun v47 =>
 j18 t0 t1 v44 t6 v47 M m I i)
 (adt n19 t7 295147905179352825893 fun v50 =>
 j18 t0 t1 t5 t6 v50 M m I i))
 (j17 t0 t5 M m I i)
def S261_2 (c : Y) (j17 : X6) (t0 t1 t5 t6 t7 M m I i : Nat) : Res :=
 lp (S261_1 c j17) (fun _ _ _ _ _ _ _ _ _ => .bad 73 0) t0 t1 t5 t6 t7 M m I i
def S261_3 (c : Y) (k : KF) (t0 t1 t5 t6 M m I i : Nat) : Res :=
 jn (fun (t0 t5 M m I i : Nat) =>
 slcK 1 (.k t0) (some (.k t5)) none none zf I i fun v12 I i =>
 clearW 1 11 v12 M m I i fun _ M m I i =>
 slcK 1 (.k t0) none (some (.k t5)) none zf I i fun v15 I i =>
 k v15 M m I i) fun j17 =>
 jn (S261_2 c j17) fun j52 =>
 j52 t0 t1 t5 t6 295147905179352825893 M m I i
def S261_4 (c : Y) (k : KF) (j9 : X7) (t0 t1 t5 t28 M m I i : Nat) : Res :=
 cnd t28 (jn (S261_3 c k) fun j54 =>
 slcK 1 (.k t0) (some (.k t5)) none none zf I i fun v57 I i =>
 j54 t0 t1 t5 v57 M m I i)
 (j9 t0 t1 t5 M m I i)
def S261_5 (c : Y) (k : KF) (n5 : Nat) (j4 : X7) (t0 t1 t5 M m I i : Nat) : Res :=
 jn (fun (t0 t1 t5 M m I i : Nat) =>
 adt n5 t5 295147905179352825893 fun v7 =>
 j4 t0 t1 v7 M m I i) fun j9 =>
 jn (S261_4 c k j9) fun j59 =>
 ia 1 t0 t5 fun v63 =>
 ld v63 M fun v64 =>
 sbt n5 t5 295147905179352825893 fun v67 =>
 ia 1 t0 v67 fun v68 =>
 ld v68 M fun v69 =>
 callvS c (.k t1) [(.k v64), (.k v69)] zf M m I i fun v70 M m I i =>
 j59 t0 t1 t5 v70 M m I i
def S261_6 (c : Y) (k : KF) (j3 : X5) (n5 : Nat) (j4 : X7) (t0 t1 t5 M m I i : Nat) : Res :=
 jn (S261_5 c k n5 j4) fun j71 =>
 ln t0 fun v74 =>
 lt 5 t5 v74 fun v75 =>
 cnd v75 (j71 t0 t1 t5 M m I i)
 (j3 t0 M m I i)
def S261_7 (c : Y) (k : KF) (j3 : X5) (t0 t1 t5 M m I i : Nat) : Res :=
 lp (S261_6 c k j3) (fun _ _ _ _ _ _ _ => .bad 73 0) t0 t1 t5 M m I i
def S261_8 (c : Y) (k : KF) (t0 t1 M m I i : Nat) : Res :=
 jn (fun (t0 M m I i : Nat) =>
 k t0 M m I i) fun j3 =>
 jn (S261_7 c k j3) fun j76 =>
 j76 t0 t1 295147905179352825893 M m I i
def S261_9 (c : Y) (k : KF) (t0 t1 M m I i : Nat) : Res :=
 jn (S261_8 c k) fun j78 =>
 ln t0 fun v80 =>
 lt 5 v80 295147905179352825925 fun v81 =>
 cnd v81 (k t0 M m I i)
 (j78 t0 t1 M m I i)
def F261 (c : Y) (t0 t1 M m I i : Nat) (k : KF) : Res :=
 jn (S261_9 c k) fun j84 =>
 j84 t0 t1 M m I i
def g261 (c : Y) : List Nat → Nat → Nat → Nat → Nat → KF → Res := unS fun t0 => unS fun t1 => un0 (F261 c t0 t1)
def F190 (c : Y) (t0 t1 M m I i : Nat) (k : KF) : Res :=
 boxK 2 (.k t0) zf M m I i fun v1 M m I i =>
 loadNK 2 (.k v1) zf M I i fun v4 I i =>
 c 219 [v4] M m I i fun v5 M m I i =>
 f1 19 0 v5 I fun v7 =>
 f1 19 1 v5 I fun v8 =>
 newK 3 69048119089253488402193683656155840364782817602633363095563 M m I i fun v9 M m I i =>
 storeK 3 (.k v9) (.k v7) zf M m I i fun _ M m I i =>
 ne 5 v8 295147905179352825861 fun v12 =>
 cnd v12 (rtn 2 [11, 295147905179352832261] M m I i k)
 (loadNK 3 (.k v9) zf M I i fun v15 I i =>
 c 220 [v15, t1] M m I i fun v17 M m I i =>
 c 221 [v17] M m I i fun v20 M m I i =>
 ne 5 v20 295147905179352825861 fun v23 =>
 cnd v23 (rtn 2 [11, v20] M m I i k)
 (nilcK (.k v17) zf I i fun v28 I i =>
 fa 0 v28 fun v29 =>
 ld v29 M fun v30 =>
 nilcK (.k v17) zf I i fun v32 I i =>
 fa 2 v32 fun v33 =>
 ld v33 M fun v34 =>
 ia 1 v30 v34 fun v35 =>
 ld v35 M fun v36 =>
 invS Go.Proofs.Tryz.prog c "fretwork/bough.visit" (.k v36) [(.k v17)] zf M m I i fun v38 M m I i =>
 nilcK (.k v17) zf I i fun v40 I i =>
 fa 10 v40 fun v41 =>
 ld v41 M fun v42 =>
 rtn 2 [v42, 295147905179352825861] M m I i k))
def g190 (c : Y) : List Nat → Nat → Nat → Nat → Nat → KF → Res := unS fun t0 => unS fun t1 => un0 (F190 c t0 t1)
def S307_1 (c : Y) (j3 : X5) (n5 : Nat) (j4 : X9) (t1 t3 t7 t9 t10 M m I i : Nat) : Res :=
 lt 5 t10 t9 fun v6 =>
 cnd v6 (shfK .shl .u64 .u64 (.k t7) (.k 41) zf I i fun v10 I i => tkk n5 v10 fun v11 =>
 loadNK 2 (.k t3) zf M I i fun v12 I i =>
 adt n5 t1 t10 fun v15 =>
 c 306 [v12, v15] M m I i fun v16 M m I i =>
 convK .u8 .u64 (.k v16) zf I i fun v17 I i =>
 iopK .or .u64 (.k v11) (.k v17) zf I i fun v18 I i => tkk n5 v18 fun v19 =>
 adt n5 t10 295147905179352825893 fun v21 =>
 j4 t1 t3 v19 t9 v21 M m I i)
 (j3 t7 M m I i)
def S307_2 (c : Y) (j3 : X5) (t1 t3 t7 t9 t10 M m I i : Nat) : Res :=
 lp (S307_1 c j3) (fun _ _ _ _ _ _ _ _ _ => .bad 73 0) t1 t3 t7 t9 t10 M m I i
def S307_3 (c : Y) (k : KF) (t1 t2 t3 t7 M m I i : Nat) : Res :=
 jn (fun (t7 M m I i : Nat) =>
 k t7 M m I i) fun j3 =>
 jn (S307_2 c j3) fun j23 =>
 j23 t1 t3 t7 t2 295147905179352825861 M m I i
def S307_4 (c : Y) (k : KF) (t1 t2 t3 M m I i : Nat) : Res :=
 jn (S307_3 c k) fun j26 =>
 j26 t1 t2 t3 9 M m I i
def F307 (c : Y) (t0 t1 t2 M m I i : Nat) (k : KF) : Res :=
 jn (S307_4 c k) fun j28 =>
 boxK 2 (.k t0) zf M m I i fun v29 M m I i =>
 j28 t1 t2 v29 M m I i
def g307 (c : Y) : List Nat → Nat → Nat → Nat → Nat → KF → Res := unS fun t0 => unS fun t1 => unS fun t2 => un0 (F307 c t0 t1 t2)
def S97_1 (c : Y) (k : KF) (t0 t3 M m I i : Nat) : Res :=
 jn (fun (t3 M m I i : Nat) =>
 callS c 34 [(.k t3), (.str 1 32)] zf M m I i fun v2 M m I i =>
 k v2 M m I i) fun j4 =>
 jn (fun (t3 t9 t10 t11 M m I i : Nat) =>
 lp (fun (n6 : Nat) (j5 : X8) (t3 t9 t10 t11 M m I i : Nat) =>
 lt 5 t11 t10 fun v7 =>
 cnd v7 (ia 1 t9 t11 fun v8 =>
 ld v8 M fun v9 =>
 c 10 [v9] M m I i fun v13 M m I i =>
 bldSK 1 1 12 [(0, 1, (.k v13))] zf M m I i fun v14 M m I i =>
 appW 1 t3 v14 M m I i fun v15 M m I i =>
 adt n6 t11 295147905179352825893 fun v17 =>
 j5 v15 t9 t10 v17 M m I i)
 (j4 t3 M m I i)) (fun _ _ _ _ _ _ _ _ => .bad 73 0) t3 t9 t10 t11 M m I i) fun j19 =>
 ln t0 fun v21 =>
 j19 t3 t0 v21 295147905179352825861 M m I i
def S97_2 (c : Y) (k : KF) (t0 M m I i : Nat) : Res :=
 jn (S97_1 c k) fun j23 =>
 ln t0 fun v25 =>
 mkSlK 1 12 (.k 295147905179352825861) (.k v25) zf M m I i fun v26 M m I i =>
 j23 t0 v26 M m I i
def F97 (c : Y) (t0 M m I i : Nat) (k : KF) : Res :=
 jn (S97_2 c k) fun j28 =>
 j28 t0 M m I i
def g97 (c : Y) : List Nat → Nat → Nat → Nat → Nat → KF → Res := unS fun t0 => un0 (F97 c t0)
def S131_1 (c : Y) (k : KF) (t1 t2 t4 t6 M m I i : Nat) : Res :=
 jn (fun (t1 t2 t4 t6 M m I i : Nat) =>
 fa 1 t2 fun v3 =>
 ld v3 M fun v4 =>
 c 135 [t1, t6, v4] M m I i fun v5 M m I i =>
 buildK 2 871509787656907713528983453707 [(0, 1, (.k v5)), (1, 1, (.k t6))] zf I i fun v7 I i =>
 storeK 2 (.k t4) (.k v7) zf M m I i fun _ M m I i =>
 loadNK 2 (.k t4) zf M I i fun v9 I i => rtn 2 [v9, 295147905179352825861] M m I i k) fun j10 =>
 fa 0 t2 fun v11 =>
 ld v11 M fun v12 =>
 lt 5 295147905179352825893 v12 fun v13 =>
 cnd v13 (loadNK 2 (.k t2) zf M I i fun v14 I i =>
 c 190 [v14, t1] M m I i fun v16 M m I i =>
 f1 19 0 v16 I fun v18 =>
 f1 19 1 v16 I fun v19 =>
 ne 5 v19 295147905179352825861 fun v23 =>
 cnd v23 (buildK 2 871509787656907713528983453707 [] zf I i fun v24 I i =>
 storeK 2 (.k t4) (.k v24) zf M m I i fun _ M m I i =>
 loadNK 2 (.k t4) zf M I i fun v27 I i => rtn 2 [v27, v19] M m I i k)
 (j10 t1 t2 t4 v18 M m I i))
 (j10 t1 t2 t4 t6 M m I i)
def S131_2 (c : Y) (k : KF) (t1 t2 t4 M m I i : Nat) : Res :=
 jn (S131_1 c k) fun j30 =>
 bldSK 1 1 295147905179352825861 [(0, 1, (.k 295147905179352825861))] zf M m I i fun v31 M m I i =>
 j30 t1 t2 t4 v31 M m I i
def S131_3 (c : Y) (k : KF) (t1 t2 t4 M m I i : Nat) : Res :=
 jn (S131_2 c k) fun j33 =>
 loadNK 2 (.k t2) zf M I i fun v34 I i =>
 c 189 [v34, t1] M m I i fun v36 M m I i =>
 notK (.k v36) zf I i fun v37 I i =>
 cnd v37 (buildK 2 871509787656907713528983453707 [] zf I i fun v38 I i =>
 storeK 2 (.k t4) (.k v38) zf M m I i fun _ M m I i =>
 loadNK 2 (.k t4) zf M I i fun v40 I i => rtn 2 [v40, 295147905179352832261] M m I i k)
 (j33 t1 t2 t4 M m I i)
def F131 (c : Y) (t0 t1 M m I i : Nat) (k : KF) : Res :=
 jn (S131_3 c k) fun j41 =>
 boxK 2 (.k t0) zf M m I i fun v42 M m I i =>
 newK 2 871509787656907713528983453707 M m I i fun v43 M m I i =>
 j41 t1 v42 v43 M m I i
def g131 (c : Y) : List Nat → Nat → Nat → Nat → Nat → KF → Res := unS fun t0 => unS fun t1 => un0 (F131 c t0 t1)
def F193 (c : Y) (t0 t1 M m I i : Nat) (k : KF) : Res :=
 boxK 2 (.k t0) zf M m I i fun v1 M m I i =>
 boxK 2 (.k t1) zf M m I i fun v2 M m I i =>
 iadrAK 2 1 (.k v1) (.k 295147905179352825861) zf I i fun v4 I i =>
 ld v4 M fun v5 =>
 iadrAK 2 1 (.k v2) (.k 295147905179352825861) zf I i fun v6 I i =>
 ld v6 M fun v7 =>
 iadrAK 2 1 (.k v1) (.k 295147905179352825893) zf I i fun v8 I i =>
 ld v8 M fun v9 =>
 iadrAK 2 1 (.k v2) (.k 295147905179352825893) zf I i fun v10 I i =>
 ld v10 M fun v11 =>
 c 74 [v5, v7] M m I i fun v13 M12 m I i =>
 flL v8 1 M M12 <| flL v10 1 M M12 <| 
 c 74 [v9, v11] M12 m I i fun v14 M m I i =>
 bldSK 2 1 295147905179352825861 [(0, 1, (.k v13)), (1, 1, (.k v14))] zf M m I i fun v15 M m I i =>
 c 73 [v15] M m I i fun v16 M m I i =>
 k v16 M m I i
def g193 (c : Y) : List Nat → Nat → Nat → Nat → Nat → KF → Res := unS fun t0 => unS fun t1 => un0 (F193 c t0 t1)
def F139 (c : Y) (t0 M m I i : Nat) (k : KF) : Res :=
 nilqK false 11 11 (.k t0) zf I i fun v3 I i =>
 cnd v3 (k 11 M m I i)
 (bldSK 0 1 295147905179352825861 [] zf M m I i fun v5 M m I i =>
 appW 1 v5 t0 M m I i fun v7 M m I i =>
 k v7 M m I i)
def g139 (c : Y) : List Nat → Nat → Nat → Nat → Nat → KF → Res := unS fun t0 => un0 (F139 c t0)
def F253 (c : Y) (t0 t1 t2 M m I i : Nat) (k : KF) : Res :=
 boxK 2 (.k t0) zf M m I i fun v1 M m I i =>
 loadNK 2 (.k v1) zf M I i fun v5 I i =>
 c 286 [v5, t1] M m I i fun v7 M m I i =>
 f1 19 0 v7 I fun v9 =>
 f1 19 1 v7 I fun v10 =>
 f1 19 2 v7 I fun v11 =>
 ne 5 v11 295147905179352825861 fun v16 =>
 jn (fun (v23 M m I i : Nat) =>
 pk v16 33 v23 fun v24 =>
 cnd v24 (rtn 3 [295147905179352825861, 295147905179352825861, 1] M m I i k)
 (convK .u64 .i64 (.k v9) zf I i fun v29 I i =>
 rtn 3 [v29, v10, 33] M m I i k))
 (fun j18 => gd v16 1 (convK .i64 .u64 (.k t2) zf I i fun v21 I i =>
 lt 9 v21 v9 fun v22 =>
 j18 v22 M m I i) (j18 0 M m I i))
def g253 (c : Y) : List Nat → Nat → Nat → Nat → Nat → KF → Res := unS fun t0 => unS fun t1 => unS fun t2 => un0 (F253 c t0 t1 t2)
def S80_1 (k : KF) (t1 t2 t7 M m I i : Nat) : Res :=
 jn (fun (t1 t2 t7 M m I i : Nat) =>
 ad t1 295147905179352825893 fun v4 =>
 ia 1 t7 t2 fun v5 =>
 storeK 1 (.k v5) (.k v4) zf M m I i fun _ M m I i =>
 k t7 M m I i) fun j8 =>
 jn (fun (t1 t2 t7 t11 t12 M m I i : Nat) =>
 lp (fun (n10 : Nat) (j9 : X9) (t1 t2 t7 t11 t12 M m I i : Nat) =>
 lt 5 t12 t11 fun v11 =>
 cnd v11 (adt n10 t12 295147905179352825893 fun v17 =>
 ia 1 t7 t12 fun v18 =>
 storeK 1 (.k v18) (.k v17) zf M m I i fun _ M m I i =>
 adt n10 t12 295147905179352825893 fun v19 =>
 j9 t1 t2 t7 t11 v19 M m I i)
 (j8 t1 t2 t7 M m I i)) (fun _ _ _ _ _ _ _ _ _ => .bad 73 0) t1 t2 t7 t11 t12 M m I i) fun j21 =>
 j21 t1 t2 t7 t1 295147905179352825861 M m I i
def S80_2 (k : KF) (t0 t1 t2 M m I i : Nat) : Res :=
 jn (S80_1 k) fun j24 =>
 mkSlK 1 295147905179352825861 (.k t0) (.k t0) zf M m I i fun v26 M m I i =>
 j24 t1 t2 v26 M m I i
def F80 (c : Y) (t0 t1 t2 M m I i : Nat) (k : KF) : Res :=
 jn (S80_2 k) fun j28 =>
 j28 t0 t1 t2 M m I i
def g80 (c : Y) : List Nat → Nat → Nat → Nat → Nat → KF → Res := unS fun t0 => unS fun t1 => unS fun t2 => un0 (F80 c t0 t1 t2)
def S212_1 (c : Y) (k : KF) (t2 t4 t7 t10 M m I i : Nat) : Res :=
 fa 1 t4 fun v2 =>
 ld v2 M fun v3 =>
 ne 5 t7 v3 fun v4 =>
 jn (fun (v10 M m I i : Nat) =>
 pk v4 33 v10 fun v11 =>
 cnd v11 (buildK 2 871509787952055618708336279557 [] zf I i fun v12 I i =>
 storeK 2 (.k t2) (.k v12) zf M m I i fun _ M m I i =>
 loadNK 2 (.k t2) zf M I i fun v14 I i => rtn 2 [v14, 295147905179352826501] M m I i k)
 (loadNK 2 (.k t10) zf M I i fun v15 I i =>
 storeK 2 (.k t2) (.k v15) zf M m I i fun _ M m I i =>
 loadNK 2 (.k t2) zf M I i fun v17 I i => rtn 2 [v17, 295147905179352825861] M m I i k))
 (fun j6 => gd v4 1 (loadNK 2 (.k t10) zf M I i fun v7 I i =>
 c 37 [v7] M m I i fun v8 M m I i =>
 notK (.k v8) zf I i fun v9 I i =>
 j6 v9 M m I i) (j6 0 M m I i))
def S212_2 (c : Y) (k : KF) (j23 : X10) (n25 : Nat) (j24 : X12) (t2 t4 t7 t10 t11 t46 t47 t50 M m I i : Nat) : Res :=
 lt 5 t50 295147905179352825925 fun v26 =>
 cnd v26 (fa 1 t10 fun v29 =>
 ld v29 M fun v30 =>
 loadNK 2 (.k t4) zf M I i fun v33 I i =>
 ia 2 v30 t11 fun v35 =>
 c 253 [v33, t7, 295147905179352832261] M m I i fun v37 M36 m I i =>
 flL v29 1 M M36 <| 
 f1 19 0 v37 I fun v39 =>
 f1 19 1 v37 I fun v40 =>
 f1 19 2 v37 I fun v41 =>
 iadrAK 2 1 (.k v35) (.k t50) zf I i fun v42 I i =>
 storeK 1 (.k v42) (.k v39) zf M36 m I i fun _ M m I i =>
 notK (.k v41) zf I i fun v46 I i =>
 cnd v46 (buildK 2 871509787952055618708336279557 [] zf I i fun v47 I i =>
 storeK 2 (.k t2) (.k v47) zf M m I i fun _ M m I i =>
 loadNK 2 (.k t2) zf M I i fun v49 I i => rtn 2 [v49, 295147905179352826501] M m I i k)
 (adt n25 t50 295147905179352825893 fun v50 =>
 j24 t2 t4 v40 t10 t11 t46 t47 v50 M m I i))
 (j23 t2 t4 t7 t10 t46 t47 M m I i)
def S212_3 (c : Y) (k : KF) (j23 : X10) (t2 t4 t7 t10 t11 t46 t47 t50 M m I i : Nat) : Res :=
 lp (S212_2 c k j23) (fun _ _ _ _ _ _ _ _ _ _ _ _ => .bad 73 0) t2 t4 t7 t10 t11 t46 t47 t50 M m I i
def S212_4 (c : Y) (k : KF) (j23 : X10) (t2 t4 t7 t10 t11 t46 t47 M m I i : Nat) : Res :=
 jn (S212_3 c k j23) fun j52 =>
 j52 t2 t4 t7 t10 t11 t46 t47 295147905179352825861 M m I i
def S212_5 (c : Y) (k : KF) (n20 : Nat) (j19 : X10) (t2 t4 t7 t10 t46 t47 M m I i : Nat) : Res :=
 jn (fun (t2 t4 t7 t10 t46 t47 M m I i : Nat) =>
 adt n20 t47 295147905179352825893 fun v21 =>
 j19 t2 t4 t7 t10 t46 v21 M m I i) fun j23 =>
 jn (S212_4 c k j23) fun j54 =>
 j54 t2 t4 t7 t10 t47 t46 t47 M m I i
def S212_6 (c : Y) (k : KF) (j18 : X8) (n20 : Nat) (j19 : X10) (t2 t4 t7 t10 t46 t47 t48 M m I i : Nat) : Res :=
 jn (S212_5 c k n20 j19) fun j57 =>
 cnd t48 (j57 t2 t4 t7 t10 t46 t47 M m I i)
 (j18 t2 t4 t7 t10 M m I i)
def S212_7 (c : Y) (k : KF) (j18 : X8) (n20 : Nat) (j19 : X10) (t2 t4 t7 t10 t46 t47 M m I i : Nat) : Res :=
 jn (S212_6 c k j18 n20 j19) fun j58 =>
 lt 5 t47 t46 fun v59 =>
 j58 t2 t4 t7 t10 t46 t47 v59 M m I i
def S212_8 (c : Y) (k : KF) (j18 : X8) (t2 t4 t7 t10 t46 t47 M m I i : Nat) : Res :=
 lp (S212_7 c k j18) (fun _ _ _ _ _ _ _ _ _ _ => .bad 73 0) t2 t4 t7 t10 t46 t47 M m I i
def S212_9 (c : Y) (k : KF) (t2 t4 t7 t10 M m I i : Nat) : Res :=
 jn (S212_1 c k) fun j18 =>
 jn (S212_8 c k j18) fun j60 =>
 fa 1 t10 fun v61 =>
 ld v61 M fun v62 =>
 ln v62 fun v63 =>
 j60 t2 t4 t7 t10 v63 295147905179352825861 M m I i
def S212_10 (c : Y) (k : KF) (t2 t4 t6 t7 t9 M m I i : Nat) : Res :=
 jn (S212_9 c k) fun j65 =>
 mkSlK 2 23384026197294446691655098136326997907641993265157 (.k t9) (.k t9) zf M m I i fun v68 M m I i =>
 buildK 2 871509787952055618708336279557 [(0, 1, (.k t6)), (1, 1, (.k v68))] zf I i fun v69 I i =>
 newK 2 871509787952055618708336279557 M m I i fun v70 M m I i =>
 storeK 2 (.k v70) (.k v69) zf M m I i fun _ M m I i =>
 j65 t2 t4 t7 v70 M m I i
def S212_11 (c : Y) (k : KF) (t2 t4 t6 t7 t8 t9 M m I i : Nat) : Res :=
 jn (S212_10 c k) fun j71 =>
 notK (.k t8) zf I i fun v73 I i =>
 cnd v73 (buildK 2 871509787952055618708336279557 [] zf I i fun v74 I i =>
 storeK 2 (.k t2) (.k v74) zf M m I i fun _ M m I i =>
 loadNK 2 (.k t2) zf M I i fun v76 I i => rtn 2 [v76, 295147905179352826501] M m I i k)
 (j71 t2 t4 t6 t7 t9 M m I i)
def S212_12 (c : Y) (k : KF) (t2 t4 t6 t7 M m I i : Nat) : Res :=
 jn (S212_11 c k) fun j77 =>
 loadNK 2 (.k t4) zf M I i fun v78 I i =>
 c 253 [v78, t7, 295147905179352844869] M m I i fun v80 M m I i =>
 f1 19 0 v80 I fun v82 =>
 f1 19 1 v80 I fun v83 =>
 f1 19 2 v80 I fun v84 =>
 j77 t2 t4 t6 v83 v84 v82 M m I i
def S212_13 (c : Y) (k : KF) (t2 t4 t6 t7 t8 M m I i : Nat) : Res :=
 jn (S212_12 c k) fun j88 =>
 notK (.k t8) zf I i fun v90 I i =>
 cnd v90 (buildK 2 871509787952055618708336279557 [] zf I i fun v91 I i =>
 storeK 2 (.k t2) (.k v91) zf M m I i fun _ M m I i =>
 loadNK 2 (.k t2) zf M I i fun v93 I i => rtn 2 [v93, 295147905179352826501] M m I i k)
 (j88 t2 t4 t6 t7 M m I i)
def S212_14 (c : Y) (k : KF) (t2 t4 M m I i : Nat) : Res :=
 jn (S212_13 c k) fun j94 =>
 loadNK 2 (.k t4) zf M I i fun v95 I i =>
 c 253 [v95, 295147905179352825861, 295147905179352832261] M m I i fun v96 M m I i =>
 f1 19 0 v96 I fun v98 =>
 f1 19 1 v96 I fun v99 =>
 f1 19 2 v96 I fun v100 =>
 j94 t2 t4 v98 v99 v100 M m I i
def S212_15 (c : Y) (k : KF) (t2 t4 t5 M m I i : Nat) : Res :=
 jn (S212_14 c k) fun j104 =>
 ne 5 t5 295147905179352825861 fun v106 =>
 cnd v106 (buildK 2 871509787952055618708336279557 [] zf I i fun v107 I i =>
 storeK 2 (.k t2) (.k v107) zf M m I i fun _ M m I i =>
 loadNK 2 (.k t2) zf M I i fun v109 I i => rtn 2 [v109, 295147905179352826501] M m I i k)
 (j104 t2 t4 M m I i)
def S212_16 (c : Y) (k : KF) (t0 t2 M m I i : Nat) : Res :=
 jn (S212_15 c k) fun j110 =>
 c 252 [t0] M m I i fun v112 M m I i =>
 f1 19 0 v112 I fun v114 =>
 f1 19 1 v112 I fun v115 =>
 newK 2 23384026197294446691655098136031850002462640439307 M m I i fun v116 M m I i =>
 storeK 2 (.k v116) (.k v114) zf M m I i fun _ M m I i =>
 j110 t2 v116 v115 M m I i
def F212 (c : Y) (t0 M m I i : Nat) (k : KF) : Res :=
 jn (S212_16 c k) fun j118 =>
 newK 2 871509787952055618708336279557 M m I i fun v119 M m I i =>
 j118 t0 v119 M m I i
def g212 (c : Y) : List Nat → Nat → Nat → Nat → Nat → KF → Res := unS fun t0 => un0 (F212 c t0)
def S291_1 (c : Y) (n2 : Nat) (j1 : X11) (t0 t1 t2 t3 t4 t10 t11 t12 t13 M m I i : Nat) : Res :=
 lt 5 295147905179352825861 t1 fun v4 =>
 jn (fun (v20 M m I i : Nat) =>
 pk v4 v20 1 fun v21 =>
 cnd v21 (c 314 [t0, t1, t2, t13, t4] M m I i fun v27 M m I i =>
 j1 t0 v27 t2 t3 t4 t10 t11 M m I i)
 (c 315 [t0, t1, t2, t13, t4] M m I i fun v36 M m I i =>
 f1 19 0 v36 I fun v38 =>
 f1 19 1 v36 I fun v39 =>
 sbt n2 v38 t1 fun v46 =>
 sbt n2 t2 v38 fun v49 =>
 iopK .quo .i64 (.k t12) (.k 295147905179352826117) zf I i fun v53 I i => tkk n2 v53 fun v54 =>
 lt 5 v46 v49 fun v58 =>
 cnd v58 (ge 5 v46 v54 fun v61 =>
 c 291 [t0, t1, v38, t3, t4] M m I i fun v68 M m I i =>
 adt n2 v38 295147905179352825893 fun v70 =>
 j1 t0 v70 t2 t3 t4 v61 v39 M m I i)
 (ge 5 v49 v54 fun v74 =>
 adt n2 v38 295147905179352825893 fun v78 =>
 c 291 [t0, v78, t2, t3, t4] M m I i fun v82 M m I i =>
 j1 t0 t1 v38 t3 t4 v74 v39 M m I i)))
 (fun j6 => gd v4 33 (sbt n2 t1 295147905179352825893 fun v10 =>
 ia 1 t0 v10 fun v11 =>
 ld v11 M fun v12 =>
 ia 1 t0 t13 fun v15 =>
 ld v15 M fun v16 =>
 callvS c (.k t4) [(.k v12), (.k v16)] zf M m I i fun v17 M m I i =>
 lt 5 v17 295147905179352825861 fun v18 =>
 notK (.k v18) zf I i fun v19 I i =>
 j6 v19 M m I i) (j6 0 M m I i))
def S291_2 (c : Y) (k : KF) (n2 : Nat) (j1 : X11) (t0 t1 t2 t3 t4 t10 t11 t12 t13 t14 M m I i : Nat) : Res :=
 jn (S291_1 c n2 j1) fun j85 =>
 jn (fun (v90 : Nat) =>
 pk t10 v90 1 fun v91 =>
 jn (fun (v96 : Nat) =>
 pk v91 v96 1 fun v97 =>
 cnd v97 (c 313 [t0, t1, t2, t4] M m I i fun v102 M m I i =>
 cnd v102 (rtn 0 [] M m I i k)
 (j85 t0 t1 t2 t3 t4 t10 t11 t12 t13 M m I i))
 (j85 t0 t1 t2 t3 t4 t10 t11 t12 t13 M m I i))
 (fun j93 => gd v91 33 (eq 5 t14 295147905179352825893 fun v95 =>
 j93 v95) (j93 0)))
 (fun j88 => gd t10 33 (j88 t11) (j88 0))
def S291_3 (c : Y) (k : KF) (n2 : Nat) (j1 : X11) (t0 t1 t2 t3 t4 t10 t11 t12 t13 t14 M m I i : Nat) : Res :=
 jn (S291_2 c k n2 j1) fun j103 =>
 eq 5 t14 295147905179352825925 fun v105 =>
 cnd v105 (c 312 [t0, t1, t2, t4] M m I i fun v110 M m I i =>
 sbt n2 t2 295147905179352825893 fun v112 =>
 sbt n2 t13 t1 fun v115 =>
 sbt n2 v112 v115 fun v116 =>
 j103 t0 t1 t2 t3 t4 t10 t11 t12 v116 295147905179352825893 M m I i)
 (j103 t0 t1 t2 t3 t4 t10 t11 t12 t13 t14 M m I i)
def S291_4 (c : Y) (k : KF) (n2 : Nat) (j1 : X11) (t0 t1 t2 t3 t4 t10 t11 t12 M m I i : Nat) : Res :=
 jn (S291_3 c k n2 j1) fun j119 =>
 c 311 [t0, t1, t2, t4] M m I i fun v124 M m I i =>
 f1 19 0 v124 I fun v126 =>
 f1 19 1 v124 I fun v127 =>
 j119 t0 t1 t2 t3 t4 t10 t11 t12 v126 v127 M m I i
def S291_5 (c : Y) (k : KF) (n2 : Nat) (j1 : X11) (t0 t1 t2 t3 t4 t10 t11 t12 M m I i : Nat) : Res :=
 jn (S291_4 c k n2 j1) fun j130 =>
 notK (.k t10) zf I i fun v132 I i =>
 cnd v132 (c 310 [t0, t1, t2, t4] M m I i fun v137 M m I i =>
 sbt n2 t3 295147905179352825893 fun v139 =>
 j130 t0 t1 t2 v139 t4 t10 t11 t12 M m I i)
 (j130 t0 t1 t2 t3 t4 t10 t11 t12 M m I i)
def S291_6 (c : Y) (k : KF) (n2 : Nat) (j1 : X11) (t0 t1 t2 t3 t4 t10 t11 t12 M m I i : Nat) : Res :=
 jn (S291_5 c k n2 j1) fun j141 =>
 eq 5 t3 295147905179352825861 fun v143 =>
 cnd v143 (c 309 [t0, t1, t2, t4] M m I i fun v148 M m I i =>
 rtn 0 [] M m I i k)
 (j141 t0 t1 t2 t3 t4 t10 t11 t12 M m I i)
def S291_7 (c : Y) (k : KF) (n2 : Nat) (j1 : X11) (t0 t1 t2 t3 t4 t10 t11 t12 M m I i : Nat) : Res :=
 jn (S291_6 c k n2 j1) fun j149 =>
 ge 5 295147905179352826245 t12 fun v151 =>
 cnd v151 (c 308 [t0, t1, t2, t4] M m I i fun v156 M m I i =>
 rtn 0 [] M m I i k)
 (j149 t0 t1 t2 t3 t4 t10 t11 t12 M m I i)
def S291_8 (c : Y) (k : KF) (n2 : Nat) (j1 : X11) (t0 t1 t2 t3 t4 t10 t11 M m I i : Nat) : Res :=
 jn (S291_7 c k n2 j1) fun j157 =>
 sbt n2 t2 t1 fun v160 =>
 j157 t0 t1 t2 t3 t4 t10 t11 v160 M m I i
def S291_9 (c : Y) (k : KF) (t0 t1 t2 t3 t4 t10 t11 M m I i : Nat) : Res :=
 lp (S291_8 c k) (fun _ _ _ _ _ _ _ _ _ _ _ => .bad 73 0) t0 t1 t2 t3 t4 t10 t11 M m I i
def S291_10 (c : Y) (k : KF) (t0 t1 t2 t3 t4 t10 M m I i : Nat) : Res :=
 jn (S291_9 c k) fun j162 =>
 j162 t0 t1 t2 t3 t4 t10 33 M m I i
def F291 (c : Y) (t0 t1 t2 t3 t4 M m I i : Nat) (k : KF) : Res :=
 jn (S291_10 c k) fun j164 =>
 j164 t0 t1 t2 t3 t4 33 M m I i
def g291 (c : Y) : List Nat → Nat → Nat → Nat → Nat → KF → Res := unS fun t0 => unS fun t1 => unS fun t2 => unS fun t3 => unS fun t4 => un0 (F291 c t0 t1 t2 t3 t4)
def S433_1 (c : Y) (n2 : Nat) (j1 : X11) (t0 t1 t2 t3 t4 t10 t11 t12 t13 M m I i : Nat) : Res :=
 lt 5 295147905179352825861 t1 fun v4 =>
 jn (fun (v20 M m I i : Nat) =>
 pk v4 v20 1 fun v21 =>
 cnd v21 (c 450 [t0, t1, t2, t13, t4] M m I i fun v27 M m I i =>
 j1 t0 v27 t2 t3 t4 t10 t11 M m I i)
 (c 451 [t0, t1, t2, t13, t4] M m I i fun v36 M m I i =>
 f1 19 0 v36 I fun v38 =>
 f1 19 1 v36 I fun v39 =>
 sbt n2 v38 t1 fun v46 =>
 sbt n2 t2 v38 fun v49 =>
 iopK .quo .i64 (.k t12) (.k 295147905179352826117) zf I i fun v53 I i => tkk n2 v53 fun v54 =>
 lt 5 v46 v49 fun v58 =>
 cnd v58 (ge 5 v46 v54 fun v61 =>
 c 433 [t0, t1, v38, t3, t4] M m I i fun v68 M m I i =>
 adt n2 v38 295147905179352825893 fun v70 =>
 j1 t0 v70 t2 t3 t4 v61 v39 M m I i)
 (ge 5 v49 v54 fun v74 =>
 adt n2 v38 295147905179352825893 fun v78 =>
 c 433 [t0, v78, t2, t3, t4] M m I i fun v82 M m I i =>
 j1 t0 t1 v38 t3 t4 v74 v39 M m I i)))
 (fun j6 => gd v4 33 (sbt n2 t1 295147905179352825893 fun v10 =>
 ia 1 t0 v10 fun v11 =>
 ld v11 M fun v12 =>
 ia 1 t0 t13 fun v15 =>
 ld v15 M fun v16 =>
 callvS c (.k t4) [(.k v12), (.k v16)] zf M m I i fun v17 M m I i =>
 lt 5 v17 295147905179352825861 fun v18 =>
 notK (.k v18) zf I i fun v19 I i =>
 j6 v19 M m I i) (j6 0 M m I i))
def S433_2 (c : Y) (k : KF) (n2 : Nat) (j1 : X11) (t0 t1 t2 t3 t4 t10 t11 t12 t13 t14 M m I i : Nat) : Res :=
 jn (S433_1 c n2 j1) fun j85 =>
 jn (fun (v90 : Nat) =>
 pk t10 v90 1 fun v91 =>
 jn (fun (v96 : Nat) =>
 pk v91 v96 1 fun v97 =>
 cnd v97 (c 449 [t0, t1, t2, t4] M m I i fun v102 M m I i =>
 cnd v102 (rtn 0 [] M m I i k)
 (j85 t0 t1 t2 t3 t4 t10 t11 t12 t13 M m I i))
 (j85 t0 t1 t2 t3 t4 t10 t11 t12 t13 M m I i))
 (fun j93 => gd v91 33 (eq 5 t14 295147905179352825893 fun v95 =>
 j93 v95) (j93 0)))
 (fun j88 => gd t10 33 (j88 t11) (j88 0))
def S433_3 (c : Y) (k : KF) (n2 : Nat) (j1 : X11) (t0 t1 t2 t3 t4 t10 t11 t12 t13 t14 M m I i : Nat) : Res :=
 jn (S433_2 c k n2 j1) fun j103 =>
 eq 5 t14 295147905179352825925 fun v105 =>
 cnd v105 (c 448 [t0, t1, t2, t4] M m I i fun v110 M m I i =>
 sbt n2 t2 295147905179352825893 fun v112 =>
 sbt n2 t13 t1 fun v115 =>
 sbt n2 v112 v115 fun v116 =>
 j103 t0 t1 t2 t3 t4 t10 t11 t12 v116 295147905179352825893 M m I i)
 (j103 t0 t1 t2 t3 t4 t10 t11 t12 t13 t14 M m I i)
def S433_4 (c : Y) (k : KF) (n2 : Nat) (j1 : X11) (t0 t1 t2 t3 t4 t10 t11 t12 M m I i : Nat) : Res :=
 jn (S433_3 c k n2 j1) fun j119 =>
 c 447 [t0, t1, t2, t4] M m I i fun v124 M m I i =>
 f1 19 0 v124 I fun v126 =>
 f1 19 1 v124 I fun v127 =>
 j119 t0 t1 t2 t3 t4 t10 t11 t12 v126 v127 M m I i
def S433_5 (c : Y) (k : KF) (n2 : Nat) (j1 : X11) (t0 t1 t2 t3 t4 t10 t11 t12 M m I i : Nat) : Res :=
 jn (S433_4 c k n2 j1) fun j130 =>
 notK (.k t10) zf I i fun v132 I i =>
 cnd v132 (c 446 [t0, t1, t2, t4] M m I i fun v137 M m I i =>
 sbt n2 t3 295147905179352825893 fun v139 =>
 j130 t0 t1 t2 v139 t4 t10 t11 t12 M m I i)
 (j130 t0 t1 t2 t3 t4 t10 t11 t12 M m I i)
def S433_6 (c : Y) (k : KF) (n2 : Nat) (j1 : X11) (t0 t1 t2 t3 t4 t10 t11 t12 M m I i : Nat) : Res :=
 jn (S433_5 c k n2 j1) fun j141 =>
 eq 5 t3 295147905179352825861 fun v143 =>
 cnd v143 (c 445 [t0, t1, t2, t4] M m I i fun v148 M m I i =>
 rtn 0 [] M m I i k)
 (j141 t0 t1 t2 t3 t4 t10 t11 t12 M m I i)
def S433_7 (c : Y) (k : KF) (n2 : Nat) (j1 : X11) (t0 t1 t2 t3 t4 t10 t11 t12 M m I i : Nat) : Res :=
 jn (S433_6 c k n2 j1) fun j149 =>
 ge 5 295147905179352826245 t12 fun v151 =>
 cnd v151 (c 444 [t0, t1, t2, t4] M m I i fun v156 M m I i =>
 rtn 0 [] M m I i k)
 (j149 t0 t1 t2 t3 t4 t10 t11 t12 M m I i)
def S433_8 (c : Y) (k : KF) (n2 : Nat) (j1 : X11) (t0 t1 t2 t3 t4 t10 t11 M m I i : Nat) : Res :=
 jn (S433_7 c k n2 j1) fun j157 =>
 sbt n2 t2 t1 fun v160 =>
 j157 t0 t1 t2 t3 t4 t10 t11 v160 M m I i
def S433_9 (c : Y) (k : KF) (t0 t1 t2 t3 t4 t10 t11 M m I i : Nat) : Res :=
 lp (S433_8 c k) (fun _ _ _ _ _ _ _ _ _ _ _ => .bad 73 0) t0 t1 t2 t3 t4 t10 t11 M m I i
def S433_10 (c : Y) (k : KF) (t0 t1 t2 t3 t4 t10 M m I i : Nat) : Res :=
 jn (S433_9 c k) fun j162 =>
 j162 t0 t1 t2 t3 t4 t10 33 M m I i
def F433 (c : Y) (t0 t1 t2 t3 t4 M m I i : Nat) (k : KF) : Res :=
 jn (S433_10 c k) fun j164 =>
 j164 t0 t1 t2 t3 t4 33 M m I i
def g433 (c : Y) : List Nat → Nat → Nat → Nat → Nat → KF → Res := unS fun t0 => unS fun t1 => unS fun t2 => unS fun t3 => unS fun t4 => un0 (F433 c t0 t1 t2 t3 t4)
def S198_1 (c : Y) (n2 : Nat) (j1 : X11) (t0 t1 t2 t3 t4 t10 t11 t12 t13 M m I i : Nat) : Res :=
 lt 5 295147905179352825861 t1 fun v4 =>
 jn (fun (v20 M m I i : Nat) =>
 pk v4 v20 1 fun v21 =>
 cnd v21 (c 241 [t0, t1, t2, t13, t4] M m I i fun v27 M m I i =>
 j1 t0 v27 t2 t3 t4 t10 t11 M m I i)
 (c 242 [t0, t1, t2, t13, t4] M m I i fun v36 M m I i =>
 f1 19 0 v36 I fun v38 =>
 f1 19 1 v36 I fun v39 =>
 sbt n2 v38 t1 fun v46 =>
 sbt n2 t2 v38 fun v49 =>
 iopK .quo .i64 (.k t12) (.k 295147905179352826117) zf I i fun v53 I i => tkk n2 v53 fun v54 =>
 lt 5 v46 v49 fun v58 =>
 cnd v58 (ge 5 v46 v54 fun v61 =>
 c 198 [t0, t1, v38, t3, t4] M m I i fun v68 M m I i =>
 adt n2 v38 295147905179352825893 fun v70 =>
 j1 t0 v70 t2 t3 t4 v61 v39 M m I i)
 (ge 5 v49 v54 fun v74 =>
 adt n2 v38 295147905179352825893 fun v78 =>
 c 198 [t0, v78, t2, t3, t4] M m I i fun v82 M m I i =>
 j1 t0 t1 v38 t3 t4 v74 v39 M m I i)))
 (fun j6 => gd v4 33 (sbt n2 t1 295147905179352825893 fun v10 =>
 ia 1 t0 v10 fun v11 =>
 ld v11 M fun v12 =>
 ia 1 t0 t13 fun v15 =>
 ld v15 M fun v16 =>
 callvS c (.k t4) [(.k v12), (.k v16)] zf M m I i fun v17 M m I i =>
 lt 5 v17 295147905179352825861 fun v18 =>
 notK (.k v18) zf I i fun v19 I i =>
 j6 v19 M m I i) (j6 0 M m I i))
def S198_2 (c : Y) (k : KF) (n2 : Nat) (j1 : X11) (t0 t1 t2 t3 t4 t10 t11 t12 t13 t14 M m I i : Nat) : Res :=
 jn (S198_1 c n2 j1) fun j85 =>
 jn (fun (v90 : Nat) =>
 pk t10 v90 1 fun v91 =>
 jn (fun (v96 : Nat) =>
 pk v91 v96 1 fun v97 =>
 cnd v97 (c 240 [t0, t1, t2, t4] M m I i fun v102 M m I i =>
 cnd v102 (rtn 0 [] M m I i k)
 (j85 t0 t1 t2 t3 t4 t10 t11 t12 t13 M m I i))
 (j85 t0 t1 t2 t3 t4 t10 t11 t12 t13 M m I i))
 (fun j93 => gd v91 33 (eq 5 t14 295147905179352825893 fun v95 =>
 j93 v95) (j93 0)))
 (fun j88 => gd t10 33 (j88 t11) (j88 0))
def S198_3 (c : Y) (k : KF) (n2 : Nat) (j1 : X11) (t0 t1 t2 t3 t4 t10 t11 t12 t13 t14 M m I i : Nat) : Res :=
 jn (S198_2 c k n2 j1) fun j103 =>
 eq 5 t14 295147905179352825925 fun v105 =>
 cnd v105 (c 239 [t0, t1, t2, t4] M m I i fun v110 M m I i =>
 sbt n2 t2 295147905179352825893 fun v112 =>
 sbt n2 t13 t1 fun v115 =>
 sbt n2 v112 v115 fun v116 =>
 j103 t0 t1 t2 t3 t4 t10 t11 t12 v116 295147905179352825893 M m I i)
 (j103 t0 t1 t2 t3 t4 t10 t11 t12 t13 t14 M m I i)
def S198_4 (c : Y) (k : KF) (n2 : Nat) (j1 : X11) (t0 t1 t2 t3 t4 t10 t11 t12 M m I i : Nat) : Res :=
 jn (S198_3 c k n2 j1) fun j119 =>
 c 238 [t0, t1, t2, t4] M m I i fun v124 M m I i =>
 f1 19 0 v124 I fun v126 =>
 f1 19 1 v124 I fun v127 =>
 j119 t0 t1 t2 t3 t4 t10 t11 t12 v126 v127 M m I i
def S198_5 (c : Y) (k : KF) (n2 : Nat) (j1 : X11) (t0 t1 t2 t3 t4 t10 t11 t12 M m I i : Nat) : Res :=
 jn (S198_4 c k n2 j1) fun j130 =>
 notK (.k t10) zf I i fun v132 I i =>
 cnd v132 (c 237 [t0, t1, t2, t4] M m I i fun v137 M m I i =>
 sbt n2 t3 295147905179352825893 fun v139 =>
 j130 t0 t1 t2 v139 t4 t10 t11 t12 M m I i)
 (j130 t0 t1 t2 t3 t4 t10 t11 t12 M m I i)
def S198_6 (c : Y) (k : KF) (n2 : Nat) (j1 : X11) (t0 t1 t2 t3 t4 t10 t11 t12 M m I i : Nat) : Res :=
 jn (S198_5 c k n2 j1) fun j141 =>
 eq 5 t3 295147905179352825861 fun v143 =>
 cnd v143 (c 236 [t0, t1, t2, t4] M m I i fun v148 M m I i =>
 rtn 0 [] M m I i k)
 (j141 t0 t1 t2 t3 t4 t10 t11 t12 M m I i)
def S198_7 (c : Y) (k : KF) (n2 : Nat) (j1 : X11) (t0 t1 t2 t3 t4 t10 t11 t12 M m I i : Nat) : Res :=
 jn (S198_6 c k n2 j1) fun j149 =>
 ge 5 295147905179352826245 t12 fun v151 =>
 cnd v151 (c 235 [t0, t1, t2, t4] M m I i fun v156 M m I i =>
 rtn 0 [] M m I i k)
 (j149 t0 t1 t2 t3 t4 t10 t11 t12 M m I i)
def S198_8 (c : Y) (k : KF) (n2 : Nat) (j1 : X11) (t0 t1 t2 t3 t4 t10 t11 M m I i : Nat) : Res :=
 jn (S198_7 c k n2 j1) fun j157 =>
 sbt n2 t2 t1 fun v160 =>
 j157 t0 t1 t2 t3 t4 t10 t11 v160 M m I i
def S198_9 (c : Y) (k : KF) (t0 t1 t2 t3 t4 t10 t11 M m I i : Nat) : Res :=
 lp (S198_8 c k) (fun _ _ _ _ _ _ _ _ _ _ _ => .bad 73 0) t0 t1 t2 t3 t4 t10 t11 M m I i
def S198_10 (c : Y) (k : KF) (t0 t1 t2 t3 t4 t10 M m I i : Nat) : Res :=
 jn (S198_9 c k) fun j162 =>
 j162 t0 t1 t2 t3 t4 t10 33 M m I i
def F198 (c : Y) (t0 t1 t2 t3 t4 M m I i : Nat) (k : KF) : Res :=
 jn (S198_10 c k) fun j164 =>
 j164 t0 t1 t2 t3 t4 33 M m I i
def g198 (c : Y) : List Nat → Nat → Nat → Nat → Nat → KF → Res := unS fun t0 => unS fun t1 => unS fun t2 => unS fun t3 => unS fun t4 => un0 (F198 c t0 t1 t2 t3 t4)
def F143 (c : Y) (t0 t1 M m I i : Nat) (k : KF) : Res :=
 c 144 [t0, t1] M m I i fun v4 M m I i =>
 k v4 M m I i
def g143 (c : Y) : List Nat → Nat → Nat → Nat → Nat → KF → Res := unS fun t0 => unS fun t1 => un0 (F143 c t0 t1)
def F174 (c : Y) (t0 t1 M m I i : Nat) (k : KF) : Res :=
 lenTK (.k t0) zf I i fun v3 I i =>
 lenTK (.k t1) zf I i fun v5 I i =>
 ge 5 v3 v5 fun v6 =>
 jn (fun (v18 M m I i : Nat) =>
 pk v6 v18 1 fun v19 =>
 k v19 M m I i)
 (fun j8 => gd v6 33 (lenTK (.k t0) zf I i fun v11 I i =>
 lenTK (.k t1) zf I i fun v13 I i =>
 sb v11 v13 fun v14 =>
 slcTK (.k t0) (some (.k v14)) none zf I i fun v15 I i =>
 seqK false (.k v15) (.k t1) zf I i fun v17 I i =>
 j8 v17 M m I i) (j8 0 M m I i))
def g174 (c : Y) : List Nat → Nat → Nat → Nat → Nat → KF → Res := unS fun t0 => unS fun t1 => un0 (F174 c t0 t1)
def F63 (c : Y) (t0 M m I i : Nat) (k : KF) : Res :=
 newK 2 23384026197294446691655098136326997907641993265157 M m I i fun v1 M m I i =>
 callS c 32 [(.k t0), (.str 1 45)] zf M m I i fun v4 M m I i =>
 f1 19 0 v4 I fun v6 =>
 f1 19 1 v4 I fun v7 =>
 f1 19 2 v4 I fun v8 =>
 c 62 [v6] M m I i fun v13 M m I i =>
 f1 19 0 v13 I fun v15 =>
 f1 19 1 v13 I fun v16 =>
 c 62 [v7] M m I i fun v20 M m I i =>
 f1 19 0 v20 I fun v22 =>
 f1 19 1 v20 I fun v23 =>
 buildK 2 23384026197294446691655098136326997907641993265157 [(0, 1, (.k v15)), (1, 1, (.k v22))] zf I i fun v28 I i =>
 jn (fun (v33 : Nat) =>
 pk v8 v33 1 fun v34 =>
 jn (fun (v38 : Nat) =>
 pk v34 v38 1 fun v39 =>
 storeK 2 (.k v1) (.k v28) zf M m I i fun _ M m I i =>
 loadNK 2 (.k v1) zf M I i fun v41 I i => rtn 2 [v41, v39] M m I i k)
 (fun j36 => gd v34 33 (j36 v23) (j36 0)))
 (fun j31 => gd v8 33 (j31 v16) (j31 0))
def g63 (c : Y) : List Nat → Nat → Nat → Nat → Nat → KF → Res := unS fun t0 => un0 (F63 c t0)
def F189 (c : Y) (t0 t1 M m I i : Nat) (k : KF) : Res :=
 boxK 2 (.k t0) zf M m I i fun v1 M m I i =>
 loadNK 2 (.k v1) zf M I i fun v3 I i =>
 c 37 [v3] M m I i fun v4 M m I i =>
 jn (fun (v10 : Nat) =>
 pk v4 v10 1 fun v11 =>
 jn (fun (v18 M m I i : Nat) =>
 pk v11 v18 1 fun v19 =>
 jn (fun (v26 M m I i : Nat) =>
 pk v19 v26 1 fun v27 =>
 k v27 M m I i)
 (fun j21 => gd v19 33 (loadNK 2 (.k v1) zf M I i fun v22 I i =>
 c 95 [v22] M m I i fun v23 M m I i =>
 ln v23 fun v24 =>
 eq 5 v24 295147905179352825893 fun v25 =>
 j21 v25 M m I i) (j21 0 M m I i)))
 (fun j13 => gd v11 33 (fa 0 v1 fun v15 =>
 ld v15 M fun v16 =>
 c 188 [t1, v16] M m I i fun v17 M m I i =>
 j13 v17 M m I i) (j13 0 M m I i)))
 (fun j6 => gd v4 33 (fa 0 v1 fun v7 =>
 ld v7 M fun v8 =>
 lt 5 295147905179352825861 v8 fun v9 =>
 j6 v9) (j6 0))
def g189 (c : Y) : List Nat → Nat → Nat → Nat → Nat → KF → Res := unS fun t0 => unS fun t1 => un0 (F189 c t0 t1)
def S274_1 (k : KF) (n2 : Nat) (j1 : X7) (t0 t2 t3 M m I i : Nat) : Res :=
 lt 5 t2 t3 fun v5 =>
 cnd v5 (ia 1 t0 t3 fun v12 =>
 ld v12 M fun v13 =>
 ia 1 t0 t2 fun v16 =>
 ld v16 M fun v17 =>
 ia 1 t0 t2 fun v18 =>
 storeK 1 (.k v18) (.k v13) zf M m I i fun _ M m I i =>
 ia 1 t0 t3 fun v19 =>
 storeK 1 (.k v19) (.k v17) zf M m I i fun _ M m I i =>
 adt n2 t2 295147905179352825893 fun v21 =>
 sbt n2 t3 295147905179352825893 fun v23 =>
 j1 t0 v21 v23 M m I i)
 (rtn 0 [] M m I i k)
def S274_2 (k : KF) (t0 t2 t3 M m I i : Nat) : Res :=
 lp (S274_1 k) (fun _ _ _ _ _ _ _ => .bad 73 0) t0 t2 t3 M m I i
def F274 (c : Y) (t0 M m I i : Nat) (k : KF) : Res :=
 jn (S274_2 k) fun j26 =>
 ln t0 fun v28 =>
 sb v28 295147905179352825893 fun v29 =>
 j26 t0 295147905179352825861 v29 M m I i
def g274 (c : Y) : List Nat → Nat → Nat → Nat → Nat → KF → Res := unS fun t0 => un0 (F274 c t0)
def F138 (c : Y) (t0 M m I i : Nat) (k : KF) : Res :=
 boxK 2 (.k t0) zf M m I i fun v1 M m I i =>
 loadNK 2 (.k v1) zf M I i fun v4 I i =>
 c 194 [v4] M m I i fun v5 M m I i =>
 notK (.k v5) zf I i fun v6 I i =>
 cnd v6 (rtn 2 [11, 295147905179352826213] M m I i k)
 (fa 1 v1 fun v9 =>
 ld v9 M fun v10 =>
 iopK .quo .i64 (.k v10) (.k 295147905179352826117) zf I i fun v11 I i =>
 ad v11 295147905179352825893 fun v12 =>
 mkSlK 1 6 (.k v12) (.k v12) zf M m I i fun v13 M m I i =>
 fa 0 v1 fun v16 =>
 ld v16 M fun v17 =>
 copyW 1 v13 v17 M m I i fun v18 M m I i =>
 fa 1 v1 fun v20 =>
 ld v20 M fun v21 =>
 iopK .quo .i64 (.k v21) (.k 295147905179352826117) zf I i fun v22 I i =>
 ia 1 v13 v22 fun v23 =>
 ld v23 M fun v24 =>
 fa 1 v1 fun v25 =>
 ld v25 M fun v26 =>
 iopK .rem .i64 (.k v26) (.k 295147905179352826117) zf I i fun v27 I i =>
 sb 295147905179352826085 v27 fun v28 =>
 shfK .shl .u8 .i64 (.k 38) (.k v28) zf I i fun v29 I i =>
 iopK .or .u8 (.k v24) (.k v29) zf I i fun v30 I i =>
 ia 1 v13 v22 fun v31 =>
 storeK 1 (.k v31) (.k v30) zf M m I i fun _ M m I i =>
 rtn 2 [v13, 295147905179352825861] M m I i k)
def g138 (c : Y) : List Nat → Nat → Nat → Nat → Nat → KF → Res := unS fun t0 => un0 (F138 c t0)
def F260 (c : Y) (t0 t1 M m I i : Nat) (k : KF) : Res :=
 ln t0 fun v2 =>
 convK .i64 .u64 (.k v2) zf I i fun v7 I i =>
 c 72 [v7] M m I i fun v8 M m I i =>
 c 291 [t0, 295147905179352825861, v2, v8, t1] M m I i fun v10 M m I i =>
 rtn 0 [] M m I i k
def g260 (c : Y) : List Nat → Nat → Nat → Nat → Nat → KF → Res := unS fun t0 => unS fun t1 => un0 (F260 c t0 t1)
def F416 (c : Y) (t0 t1 M m I i : Nat) (k : KF) : Res :=
 ln t0 fun v2 =>
 convK .i64 .u64 (.k v2) zf I i fun v7 I i =>
 c 72 [v7] M m I i fun v8 M m I i =>
 c 433 [t0, 295147905179352825861, v2, v8, t1] M m I i fun v10 M m I i =>
 rtn 0 [] M m I i k
def g416 (c : Y) : List Nat → Nat → Nat → Nat → Nat → KF → Res := unS fun t0 => unS fun t1 => un0 (F416 c t0 t1)
def F142 (c : Y) (t0 t1 M m I i : Nat) (k : KF) : Res :=
 ln t0 fun v2 =>
 convK .i64 .u64 (.k v2) zf I i fun v7 I i =>
 c 72 [v7] M m I i fun v8 M m I i =>
 c 198 [t0, 295147905179352825861, v2, v8, t1] M m I i fun v10 M m I i =>
 rtn 0 [] M m I i k
def g142 (c : Y) : List Nat → Nat → Nat → Nat → Nat → KF → Res := unS fun t0 => unS fun t1 => un0 (F142 c t0 t1)
def F146 (c : Y) (t0 t1 M m I i : Nat) (k : KF) : Res :=
 c 83 [t0, t1] M m I i fun v4 M m I i =>
 k v4 M m I i
def g146 (c : Y) : List Nat → Nat → Nat → Nat → Nat → KF → Res := unS fun t0 => unS fun t1 => un0 (F146 c t0 t1)
def F23 (c : Y) (t0 t1 M m I i : Nat) (k : KF) : Res :=
 callS c 61 [(.k t0), (.str 1 42)] zf M m I i fun v3 M m I i =>
 f1 19 0 v3 I fun v5 =>
 f1 19 1 v3 I fun v6 =>
 notK (.k v6) zf I i fun v10 I i =>
 cnd v10 (k v5 M m I i)
 (lenTK (.k v5) zf I i fun v14 I i =>
 sb v14 295147905179352825893 fun v15 =>
 slcTK (.k v5) none (some (.k v15)) zf I i fun v19 I i =>
 slcTK (.k v5) (some (.k v15)) none zf I i fun v22 I i =>
 sb t1 v15 fun v25 =>
 minK true 5 (.k 295147905179352825861) (.k v25) zf I i fun v26 I i =>
 c 11 [v22, v26] M m I i fun v27 M m I i =>
 catTK (.k v19) (.k v27) zf I i fun v28 I i =>
 k v28 M m I i)
def g23 (c : Y) : List Nat → Nat → Nat → Nat → Nat → KF → Res := unS fun t0 => unS fun t1 => un0 (F23 c t0 t1)
def F64 (c : Y) (t0 t1 M m I i : Nat) (k : KF) : Res :=
 lenTK (.k t0) zf I i fun v3 I i =>
 lenTK (.k t1) zf I i fun v5 I i =>
 ge 5 v3 v5 fun v6 =>
 jn (fun (v15 M m I i : Nat) =>
 pk v6 v15 1 fun v16 =>
 k v16 M m I i)
 (fun j8 => gd v6 33 (lenTK (.k t1) zf I i fun v11 I i =>
 slcTK (.k t0) none (some (.k v11)) zf I i fun v12 I i =>
 seqK false (.k v12) (.k t1) zf I i fun v14 I i =>
 j8 v14 M m I i) (j8 0 M m I i))
def g64 (c : Y) : List Nat → Nat → Nat → Nat → Nat → KF → Res := unS fun t0 => unS fun t1 => un0 (F64 c t0 t1)
def S161_1 (c : Y) (k : KF) (t0 t2 t4 M m I i : Nat) : Res :=
 ln t0 fun v2 =>
 c 14 [v2, t4] M m I i fun v4 M m I i =>
 f1 19 0 v4 I fun v6 =>
 f1 19 1 v4 I fun v7 =>
 newK 2 871509787952055618708336279557 M m I i fun v8 M m I i =>
 storeK 2 (.k v8) (.k v6) zf M m I i fun _ M m I i =>
 ne 5 v7 295147905179352825861 fun v11 =>
 jn (fun (v18 M m I i : Nat) =>
 pk v11 33 v18 fun v19 =>
 cnd v19 (buildK 2 871509787952055618708336279557 [] zf I i fun v20 I i =>
 storeK 2 (.k t2) (.k v20) zf M m I i fun _ M m I i =>
 loadNK 2 (.k t2) zf M I i fun v22 I i => rtn 2 [v22, 1] M m I i k)
 (loadNK 2 (.k v8) zf M I i fun v23 I i =>
 storeK 2 (.k t2) (.k v23) zf M m I i fun _ M m I i =>
 loadNK 2 (.k t2) zf M I i fun v25 I i => rtn 2 [v25, 33] M m I i k))
 (fun j13 => gd v11 1 (loadNK 2 (.k v8) zf M I i fun v14 I i =>
 c 208 [v14, t0] M m I i fun v16 M m I i =>
 notK (.k v16) zf I i fun v17 I i =>
 j13 v17 M m I i) (j13 0 M m I i))
def S161_2 (j31 : X10) (n33 : Nat) (j32 : X14) (t0 t2 t4 t5 t16 t17 t18 t29 t30 t31 M m I i : Nat) : Res :=
 lt 5 t31 t30 fun v34 =>
 cnd v34 (ia 1 t29 t31 fun v35 =>
 ld v35 M fun v36 =>
 lt 5 t5 v36 fun v40 =>
 cnd v40 (buildK 2 23384026197294446691655098136326997907641993265157 [(0, 1, (.k t5)), (1, 1, (.k v36))] zf I i fun v44 I i =>
 bldSK 1 2 23384026197294446691655098136326997907641993265157 [(0, 2, (.k v44))] zf M m I i fun v45 M m I i =>
 appW 2 t4 v45 M m I i fun v46 M m I i =>
 adt n33 t31 295147905179352825893 fun v48 =>
 j32 t0 t2 v46 t5 t16 t17 t18 t29 t30 v48 M m I i)
 (adt n33 t31 295147905179352825893 fun v50 =>
 j32 t0 t2 t4 t5 t16 t17 t18 t29 t30 v50 M m I i))
 (j31 t0 t2 t4 t16 t17 t18 M m I i)
def S161_3 (j31 : X10) (t0 t2 t4 t5 t16 t17 t18 t29 t30 t31 M m I i : Nat) : Res :=
 lp (S161_2 j31) (fun _ _ _ _ _ _ _ _ _ _ _ _ _ _ => .bad 73 0) t0 t2 t4 t5 t16 t17 t18 t29 t30 t31 M m I i
def S161_4 (j31 : X10) (t0 t2 t4 t5 t6 t16 t17 t18 M m I i : Nat) : Res :=
 jn (S161_3 j31) fun j52 =>
 ln t6 fun v54 =>
 j52 t0 t2 t4 t5 t16 t17 t18 t6 v54 295147905179352825861 M m I i
def S161_5 (k : KF) (j31 : X10) (t0 t2 t4 t5 t6 t16 t17 t18 M m I i : Nat) : Res :=
 jn (S161_4 j31) fun j56 =>
 ln t6 fun v58 =>
 ln t0 fun v60 =>
 ge 5 v58 v60 fun v61 =>
 cnd v61 (buildK 2 871509787952055618708336279557 [] zf I i fun v62 I i =>
 storeK 2 (.k t2) (.k v62) zf M m I i fun _ M m I i =>
 loadNK 2 (.k t2) zf M I i fun v64 I i => rtn 2 [v64, 1] M m I i k)
 (j56 t0 t2 t4 t5 t6 t16 t17 t18 M m I i)
def S161_6 (k : KF) (n28 : Nat) (j27 : X10) (t0 t2 t4 t16 t17 t18 M m I i : Nat) : Res :=
 jn (fun (t0 t2 t4 t16 t17 t18 M m I i : Nat) =>
 adt n28 t18 295147905179352825893 fun v29 =>
 j27 t0 t2 t4 t16 t17 v29 M m I i) fun j31 =>
 jn (S161_5 k j31) fun j65 =>
 ia 1 t16 t18 fun v67 =>
 ld v67 M fun v68 =>
 j65 t0 t2 t4 t18 v68 t16 t17 t18 M m I i
def S161_7 (k : KF) (j26 : X7) (n28 : Nat) (j27 : X10) (t0 t2 t4 t16 t17 t18 t19 M m I i : Nat) : Res :=
 jn (S161_6 k n28 j27) fun j71 =>
 cnd t19 (j71 t0 t2 t4 t16 t17 t18 M m I i)
 (j26 t0 t2 t4 M m I i)
def S161_8 (k : KF) (j26 : X7) (n28 : Nat) (j27 : X10) (t0 t2 t4 t16 t17 t18 M m I i : Nat) : Res :=
 jn (S161_7 k j26 n28 j27) fun j72 =>
 lt 5 t18 t17 fun v73 =>
 j72 t0 t2 t4 t16 t17 t18 v73 M m I i
def S161_9 (k : KF) (j26 : X7) (t0 t2 t4 t16 t17 t18 M m I i : Nat) : Res :=
 lp (S161_8 k j26) (fun _ _ _ _ _ _ _ _ _ _ => .bad 73 0) t0 t2 t4 t16 t17 t18 M m I i
def S161_10 (c : Y) (k : KF) (t0 t2 t4 M m I i : Nat) : Res :=
 jn (S161_1 c k) fun j26 =>
 jn (S161_9 k j26) fun j74 =>
 ln t0 fun v76 =>
 j74 t0 t2 t4 t0 v76 295147905179352825861 M m I i
def S161_11 (c : Y) (k : KF) (t0 t2 M m I i : Nat) : Res :=
 jn (S161_10 c k) fun j78 =>
 bldSK 0 2 23384026197294446691655098136326997907641993265157 [] zf M m I i fun v79 M m I i =>
 j78 t0 t2 v79 M m I i
def S161_12 (c : Y) (k : KF) (t0 t2 M m I i : Nat) : Res :=
 jn (S161_11 c k) fun j81 =>
 ln t0 fun v83 =>
 lt 5 295147905179352832261 v83 fun v84 =>
 cnd v84 (buildK 2 871509787952055618708336279557 [] zf I i fun v85 I i =>
 storeK 2 (.k t2) (.k v85) zf M m I i fun _ M m I i =>
 loadNK 2 (.k t2) zf M I i fun v87 I i => rtn 2 [v87, 1] M m I i k)
 (j81 t0 t2 M m I i)
def F161 (c : Y) (t0 M m I i : Nat) (k : KF) : Res :=
 jn (S161_12 c k) fun j88 =>
 newK 2 871509787952055618708336279557 M m I i fun v89 M m I i =>
 j88 t0 v89 M m I i
def g161 (c : Y) : List Nat → Nat → Nat → Nat → Nat → KF → Res := unS fun t0 => un0 (F161 c t0)
def S289_1 (c : Y) (k : KF) (t0 t1 M m I i : Nat) : Res :=
 jn (fun (M m I i : Nat) =>
 k 295147905179352825829 M m I i) fun j2 =>
 jn (fun (t0 t1 t7 t8 M m I i : Nat) =>
 lp (fun (n4 : Nat) (j3 : X8) (t0 t1 t7 t8 M m I i : Nat) =>
 lt 5 t8 t7 fun v5 =>
 cnd v5 (ia 2 t0 t8 fun v11 =>
 loadNK 2 (.k v11) zf M I i fun v12 I i =>
 callvS c (.k t1) [(.k v12)] zf M m I i fun v13 M m I i =>
 cnd v13 (k t8 M m I i)
 (adt n4 t8 295147905179352825893 fun v16 =>
 j3 t0 t1 t7 v16 M m I i))
 (j2 M m I i)) (fun _ _ _ _ _ _ _ _ => .bad 73 0) t0 t1 t7 t8 M m I i) fun j18 =>
 ln t0 fun v20 =>
 j18 t0 t1 v20 295147905179352825861 M m I i
def F289 (c : Y) (t0 t1 M m I i : Nat) (k : KF) : Res :=
 jn (S289_1 c k) fun j22 =>
 j22 t0 t1 M m I i
def g289 (c : Y) : List Nat → Nat → Nat → Nat → Nat → KF → Res := unS fun t0 => unS fun t1 => un0 (F289 c t0 t1)
def S191_1 (c : Y) (n2 : Nat) (j1 : X8) (t0 t1 t2 t6 t7 t8 M m I i : Nat) : Res :=
 jn (fun (t0 t1 t2 t6 t7 M m I i : Nat) =>
 adt n2 t7 t6 fun v5 =>
 lt 5 v5 t1 fun v9 =>
 cnd v9 (c 223 [t0, t7, v5, t1, t2] M m I i fun v15 M m I i =>
 iopK .mul .i64 (.k t6) (.k 295147905179352825925) zf I i fun v17 I i => tkk n2 v17 fun v18 =>
 j1 t0 t1 t2 v18 M m I i)
 (iopK .mul .i64 (.k t6) (.k 295147905179352825925) zf I i fun v21 I i => tkk n2 v21 fun v22 =>
 j1 t0 t1 t2 v22 M m I i)) fun j24 =>
 lp (fun (n26 : Nat) (j25 : X10) (t0 t1 t2 t6 t7 t8 M m I i : Nat) =>
 ge 5 t1 t8 fun v29 =>
 cnd v29 (adt n26 t7 t6 fun v34 =>
 c 223 [t0, t7, v34, t8, t2] M m I i fun v37 M m I i =>
 iopK .mul .i64 (.k 295147905179352825925) (.k t6) zf I i fun v42 I i => tkk n26 v42 fun v43 =>
 adt n26 t8 v43 fun v44 =>
 j25 t0 t1 t2 t6 t8 v44 M m I i)
 (j24 t0 t1 t2 t6 t7 M m I i)) (fun _ _ _ _ _ _ _ _ _ _ => .bad 73 0) t0 t1 t2 t6 t7 t8 M m I i
def S191_2 (c : Y) (n2 : Nat) (j1 : X8) (t0 t1 t2 t6 M m I i : Nat) : Res :=
 jn (S191_1 c n2 j1) fun j46 =>
 iopK .mul .i64 (.k 295147905179352825925) (.k t6) zf I i fun v48 I i => tkk n2 v48 fun v49 =>
 j46 t0 t1 t2 t6 295147905179352825861 v49 M m I i
def S191_3 (c : Y) (k : KF) (n2 : Nat) (j1 : X8) (t0 t1 t2 t6 M m I i : Nat) : Res :=
 jn (S191_2 c n2 j1) fun j52 =>
 lt 5 t6 t1 fun v55 =>
 cnd v55 (j52 t0 t1 t2 t6 M m I i)
 (rtn 0 [] M m I i k)
def S191_4 (c : Y) (k : KF) (t0 t1 t2 t6 M m I i : Nat) : Res :=
 lp (S191_3 c k) (fun _ _ _ _ _ _ _ _ => .bad 73 0) t0 t1 t2 t6 M m I i
def S191_5 (c : Y) (k : KF) (t0 t1 t2 t6 t7 M m I i : Nat) : Res :=
 jn (S191_4 c k) fun j56 =>
 c 222 [t0, t7, t1, t2] M m I i fun v61 M m I i =>
 j56 t0 t1 t2 t6 M m I i
def S191_6 (c : Y) (k : KF) (t0 t1 t2 t6 t7 t8 M m I i : Nat) : Res :=
 jn (S191_5 c k) fun j62 =>
 lp (fun (n64 : Nat) (j63 : X10) (t0 t1 t2 t6 t7 t8 M m I i : Nat) =>
 ge 5 t1 t8 fun v67 =>
 cnd v67 (c 222 [t0, t7, t8, t2] M m I i fun v72 M m I i =>
 adt n64 t8 t6 fun v77 =>
 j63 t0 t1 t2 t6 t8 v77 M m I i)
 (j62 t0 t1 t2 t6 t7 M m I i)) (fun _ _ _ _ _ _ _ _ _ _ => .bad 73 0) t0 t1 t2 t6 t7 t8 M m I i
def S191_7 (c : Y) (k : KF) (t0 t1 t2 t6 M m I i : Nat) : Res :=
 jn (S191_6 c k) fun j79 =>
 j79 t0 t1 t2 t6 295147905179352825861 t6 M m I i
def F191 (c : Y) (t0 t1 t2 M m I i : Nat) (k : KF) : Res :=
 jn (S191_7 c k) fun j83 =>
 j83 t0 t1 t2 295147905179352826501 M m I i
def g191 (c : Y) : List Nat → Nat → Nat → Nat → Nat → KF → Res := unS fun t0 => unS fun t1 => unS fun t2 => un0 (F191 c t0 t1 t2)
def S208_1 (c : Y) (k : KF) (j2 : X4) (n4 : Nat) (j3 : X8) (t1 t18 t19 t20 M m I i : Nat) : Res :=
 lt 5 t20 t19 fun v5 =>
 cnd v5 (ia 1 t18 t20 fun v7 =>
 ld v7 M fun v8 =>
 ia 1 t1 t20 fun v13 =>
 ld v13 M fun v14 =>
 ln v14 fun v15 =>
 ln v8 fun v17 =>
 ne 5 v15 v17 fun v18 =>
 jn (fun (v30 M m I i : Nat) =>
 pk v18 33 v30 fun v31 =>
 cnd v31 (k 1 M m I i)
 (adt n4 t20 295147905179352825893 fun v33 =>
 j3 t1 t18 t19 v33 M m I i))
 (fun j20 => gd v18 1 (ia 1 t1 t20 fun v23 =>
 ld v23 M fun v24 =>
 c 250 [v24] M m I i fun v25 M m I i =>
 c 249 [v25] M m I i fun v26 M m I i =>
 c 83 [v26, v8] M m I i fun v28 M m I i =>
 notK (.k v28) zf I i fun v29 I i =>
 j20 v29 M m I i) (j20 0 M m I i)))
 (j2 M m I i)
def S208_2 (c : Y) (k : KF) (j2 : X4) (t1 t18 t19 t20 M m I i : Nat) : Res :=
 lp (S208_1 c k j2) (fun _ _ _ _ _ _ _ _ => .bad 73 0) t1 t18 t19 t20 M m I i
def S208_3 (c : Y) (k : KF) (t1 t2 M m I i : Nat) : Res :=
 jn (fun (M m I i : Nat) =>
 k 33 M m I i) fun j2 =>
 jn (S208_2 c k j2) fun j35 =>
 loadNK 2 (.k t2) zf M I i fun v36 I i =>
 c 162 [v36] M m I i fun v37 M m I i =>
 ln v37 fun v38 =>
 j35 t1 v37 v38 295147905179352825861 M m I i
def S208_4 (c : Y) (k : KF) (t1 t2 M m I i : Nat) : Res :=
 jn (S208_3 c k) fun j40 =>
 loadNK 2 (.k t2) zf M I i fun v41 I i =>
 c 37 [v41] M m I i fun v42 M m I i =>
 notK (.k v42) zf I i fun v43 I i =>
 jn (fun (v51 : Nat) =>
 pk v43 33 v51 fun v52 =>
 cnd v52 (k 1 M m I i)
 (j40 t1 t2 M m I i))
 (fun j45 => gd v43 1 (ln t1 fun v47 =>
 fa 0 t2 fun v48 =>
 ld v48 M fun v49 =>
 ne 5 v47 v49 fun v50 =>
 j45 v50) (j45 0))
def F208 (c : Y) (t0 t1 M m I i : Nat) (k : KF) : Res :=
 jn (S208_4 c k) fun j54 =>
 boxK 2 (.k t0) zf M m I i fun v55 M m I i =>
 j54 t1 v55 M m I i
def g208 (c : Y) : List Nat → Nat → Nat → Nat → Nat → KF → Res := unS fun t0 => unS fun t1 => un0 (F208 c t0 t1)
def F70 (c : Y) (t0 t1 M m I i : Nat) (k : KF) : Res :=
 c 117 [t0, t1] M m I i fun v6 M m I i =>
 ge 5 v6 295147905179352825861 fun v9 =>
 cnd v9 (slcTK (.k t0) none (some (.k v6)) zf I i fun v12 I i =>
 lenTK (.k t1) zf I i fun v16 I i =>
 ad v6 v16 fun v17 =>
 slcTK (.k t0) (some (.k v17)) none zf I i fun v18 I i =>
 rtn 3 [v12, v18, 33] M m I i k)
 (rtn 3 [t0, 12, 1] M m I i k)
def g70 (c : Y) : List Nat → Nat → Nat → Nat → Nat → KF → Res := unS fun t0 => unS fun t1 => un0 (F70 c t0 t1)
def F259 (c : Y) (t0 M m I i : Nat) (k : KF) : Res :=
 nilqK false 11 11 (.k t0) zf I i fun v3 I i =>
 cnd v3 (k 11 M m I i)
 (bldSK 0 1 11 [] zf M m I i fun v5 M m I i =>
 appW 1 v5 t0 M m I i fun v7 M m I i =>
 k v7 M m I i)
def g259 (c : Y) : List Nat → Nat → Nat → Nat → Nat → KF → Res := unS fun t0 => un0 (F259 c t0)
def F141 (c : Y) (t0 M m I i : Nat) (k : KF) : Res :=
 nilqK false 11 11 (.k t0) zf I i fun v3 I i =>
 cnd v3 (k 11 M m I i)
 (bldSK 0 1 11 [] zf M m I i fun v5 M m I i =>
 appW 1 v5 t0 M m I i fun v7 M m I i =>
 k v7 M m I i)
def g141 (c : Y) : List Nat → Nat → Nat → Nat → Nat → KF → Res := unS fun t0 => un0 (F141 c t0)
def F110 (c : Y) (t0 t1 M m I i : Nat) (k : KF) : Res :=
 c 174 [t0, t1] M m I i fun v5 M m I i =>
 notK (.k v5) zf I i fun v6 I i =>
 cnd v6 (rtn 2 [t0, 1] M m I i k)
 (lenTK (.k t0) zf I i fun v12 I i =>
 lenTK (.k t1) zf I i fun v14 I i =>
 sb v12 v14 fun v15 =>
 slcTK (.k t0) none (some (.k v15)) zf I i fun v16 I i =>
 rtn 2 [v16, 33] M m I i k)
def g110 (c : Y) : List Nat → Nat → Nat → Nat → Nat → KF → Res := unS fun t0 => unS fun t1 => un0 (F110 c t0 t1)
def F61 (c : Y) (t0 t1 M m I i : Nat) (k : KF) : Res :=
 c 110 [t0, t1] M m I i fun v5 M m I i =>
 f1 19 0 v5 I fun v6 =>
 f1 19 1 v5 I fun v7 =>
 rtn 2 [v6, v7] M m I i k
def g61 (c : Y) : List Nat → Nat → Nat → Nat → Nat → KF → Res := unS fun t0 => unS fun t1 => un0 (F61 c t0 t1)
def F91 (c : Y) (t0 t1 M m I i : Nat) (k : KF) : Res :=
 c 117 [t0, t1] M m I i fun v4 M m I i =>
 k v4 M m I i
def g91 (c : Y) : List Nat → Nat → Nat → Nat → Nat → KF → Res := unS fun t0 => unS fun t1 => un0 (F91 c t0 t1)
def S159_1 (j7 : X9) (n9 : Nat) (j8 : X13) (t0 t7 t18 t116 t117 t118 t123 t124 t125 M m I i : Nat) : Res :=
 lt 5 t125 t124 fun v10 =>
 cnd v10 (ia 1 t123 t125 fun v11 =>
 ld v11 M fun v12 =>
 ia 1 t7 t18 fun v17 =>
 ld v17 M fun v18 =>
 ia 1 t7 t18 fun v22 =>
 ld v22 M fun v23 =>
 ia 1 t0 v23 fun v24 =>
 ld v24 M fun v25 =>
 ia 1 t7 v12 fun v28 =>
 ld v28 M fun v29 =>
 bldSK 1 1 295147905179352825861 [(0, 1, (.k v29))] zf M m I i fun v30 M m I i =>
 appW 1 v25 v30 M m I i fun v32 M31 m I i =>
 flL v17 1 M M31 <| 
 ia 1 t0 v18 fun v33 =>
 storeK 1 (.k v33) (.k v32) zf M31 m I i fun _ M m I i =>
 adt n9 t125 295147905179352825893 fun v34 =>
 j8 t0 t7 t18 t116 t117 t118 t123 t124 v34 M m I i)
 (j7 t0 t7 t116 t117 t118 M m I i)
def S159_2 (j7 : X9) (t0 t7 t18 t116 t117 t118 t123 t124 t125 M m I i : Nat) : Res :=
 lp (S159_1 j7) (fun _ _ _ _ _ _ _ _ _ _ _ _ _ => .bad 73 0) t0 t7 t18 t116 t117 t118 t123 t124 t125 M m I i
def S159_3 (j7 : X9) (t0 t7 t18 t19 t116 t117 t118 M m I i : Nat) : Res :=
 jn (S159_2 j7) fun j36 =>
 ln t19 fun v38 =>
 j36 t0 t7 t18 t116 t117 t118 t19 v38 295147905179352825861 M m I i
def S159_4 (n4 : Nat) (j3 : X9) (t0 t7 t116 t117 t118 M m I i : Nat) : Res :=
 jn (fun (t0 t7 t116 t117 t118 M m I i : Nat) =>
 adt n4 t118 295147905179352825893 fun v5 =>
 j3 t0 t7 t116 t117 v5 M m I i) fun j7 =>
 jn (S159_3 j7) fun j40 =>
 ia 1 t116 t118 fun v42 =>
 ld v42 M fun v43 =>
 j40 t0 t7 t118 v43 t116 t117 t118 M m I i
def S159_5 (j2 : X4) (n4 : Nat) (j3 : X9) (t0 t7 t116 t117 t118 t119 M m I i : Nat) : Res :=
 jn (S159_4 n4 j3) fun j46 =>
 cnd t119 (j46 t0 t7 t116 t117 t118 M m I i)
 (j2 M m I i)
def S159_6 (j2 : X4) (n4 : Nat) (j3 : X9) (t0 t7 t116 t117 t118 M m I i : Nat) : Res :=
 jn (S159_5 j2 n4 j3) fun j47 =>
 lt 5 t118 t117 fun v48 =>
 j47 t0 t7 t116 t117 t118 v48 M m I i
def S159_7 (j2 : X4) (t0 t7 t116 t117 t118 M m I i : Nat) : Res :=
 lp (S159_6 j2) (fun _ _ _ _ _ _ _ _ _ => .bad 73 0) t0 t7 t116 t117 t118 M m I i
def S159_8 (k : KF) (t0 t7 t16 M m I i : Nat) : Res :=
 jn (fun (M m I i : Nat) =>
 k 33 M m I i) fun j2 =>
 jn (S159_7 j2) fun j49 =>
 ln t16 fun v51 =>
 j49 t0 t7 t16 v51 295147905179352825861 M m I i
def S159_9 (k : KF) (t0 t7 t16 t17 M m I i : Nat) : Res :=
 jn (S159_8 k) fun j53 =>
 ne 5 t17 295147905179352825861 fun v55 =>
 cnd v55 (k 1 M m I i)
 (j53 t0 t7 t16 M m I i)
def S159_10 (c : Y) (k : KF) (t0 t7 t13 M m I i : Nat) : Res :=
 jn (S159_9 k) fun j57 =>
 loadNK 2 (.k t13) zf M I i fun v58 I i =>
 c 204 [v58] M m I i fun v59 M m I i =>
 f1 19 0 v59 I fun v61 =>
 f1 19 1 v59 I fun v62 =>
 j57 t0 t7 v61 v62 M m I i
def S159_11 (j65 : X7) (n67 : Nat) (j66 : X11) (t0 t7 t10 t13 t88 t89 t90 M m I i : Nat) : Res :=
 lt 5 t90 t89 fun v68 =>
 cnd v68 (ia 2 t88 t90 fun v69 =>
 loadNK 2 (.k v69) zf M I i fun v70 I i =>
 newK 2 23384026197294446691655098136326997907641993265157 M m I i fun v71 M m I i =>
 storeK 2 (.k v71) (.k v70) zf M m I i fun _ M m I i =>
 fa 1 t13 fun v72 =>
 ld v72 M fun v73 =>
 iadrAK 2 1 (.k v71) (.k 295147905179352825861) zf I i fun v75 I i =>
 ld v75 M fun v76 =>
 lookW (.word 5) false false 1 295147905179352825861 t10 v76 M I i fun v77 I i =>
 iadrAK 2 1 (.k v71) (.k 295147905179352825893) zf I i fun v79 I i =>
 ld v79 M fun v80 =>
 lookW (.word 5) false false 1 295147905179352825861 t10 v80 M I i fun v81 I i =>
 buildK 2 23384026197294446691655098136326997907641993265157 [(0, 1, (.k v77)), (1, 1, (.k v81))] zf I i fun v82 I i =>
 bldSK 1 2 23384026197294446691655098136326997907641993265157 [(0, 2, (.k v82))] zf M m I i fun v83 M m I i =>
 appW 2 v73 v83 M m I i fun v84 M m I i =>
 fa 1 t13 fun v85 =>
 storeK 1 (.k v85) (.k v84) zf M m I i fun _ M m I i =>
 adt n67 t90 295147905179352825893 fun v86 =>
 j66 t0 t7 t10 t13 t88 t89 v86 M m I i)
 (j65 t0 t7 t13 M m I i)
def S159_12 (j65 : X7) (t0 t7 t10 t13 t88 t89 t90 M m I i : Nat) : Res :=
 lp (S159_11 j65) (fun _ _ _ _ _ _ _ _ _ _ _ => .bad 73 0) t0 t7 t10 t13 t88 t89 t90 M m I i
def S159_13 (c : Y) (k : KF) (t0 t1 t7 t10 t13 M m I i : Nat) : Res :=
 jn (S159_10 c k) fun j65 =>
 jn (S159_12 j65) fun j88 =>
 ln t1 fun v90 =>
 j88 t0 t7 t10 t13 t1 v90 295147905179352825861 M m I i
def S159_14 (c : Y) (k : KF) (t0 t1 t7 t10 M m I i : Nat) : Res :=
 jn (S159_13 c k) fun j92 =>
 ln t7 fun v94 =>
 buildK 2 871509787952055618708336279557 [(0, 1, (.k v94))] zf I i fun v95 I i =>
 newK 2 871509787952055618708336279557 M m I i fun v96 M m I i =>
 storeK 2 (.k v96) (.k v95) zf M m I i fun _ M m I i =>
 j92 t0 t1 t7 t10 v96 M m I i
def S159_15 (c : Y) (k : KF) (t0 t1 t7 t10 M m I i : Nat) : Res :=
 jn (S159_14 c k) fun j97 =>
 jn (fun (t0 t1 t7 t10 t74 t75 t76 M m I i : Nat) =>
 lp (fun (n99 : Nat) (j98 : X11) (t0 t1 t7 t10 t74 t75 t76 M m I i : Nat) =>
 lt 5 t76 t75 fun v100 =>
 cnd v100 (ia 1 t74 t76 fun v102 =>
 ld v102 M fun v103 =>
 updW (.word 5) t10 v103 t76 M m I i fun _ M m I i =>
 adt n99 t76 295147905179352825893 fun v109 =>
 j98 t0 t1 t7 t10 t74 t75 v109 M m I i)
 (j97 t0 t1 t7 t10 M m I i)) (fun _ _ _ _ _ _ _ _ _ _ _ => .bad 73 0) t0 t1 t7 t10 t74 t75 t76 M m I i) fun j111 =>
 ln t7 fun v113 =>
 j111 t0 t1 t7 t10 t7 v113 295147905179352825861 M m I i
def S159_16 (c : Y) (k : KF) (t0 t1 t7 M m I i : Nat) : Res :=
 jn (S159_15 c k) fun j115 =>
 ln t7 fun v117 =>
 mkMapHK (.k v117) zf M m I i fun v118 M m I i =>
 j115 t0 t1 t7 v118 M m I i
def S159_17 (c : Y) (k : KF) (t0 t1 t7 M m I i : Nat) : Res :=
 jn (S159_16 c k) fun j120 =>
 c 203 [t7] M m I i fun v122 M m I i =>
 j120 t0 t1 v122 M m I i
def S159_18 (c : Y) (k : KF) (t0 t1 t7 M m I i : Nat) : Res :=
 jn (S159_17 c k) fun j124 =>
 c 140 [t7] M m I i fun v126 M m I i =>
 j124 t0 t1 t7 M m I i
def S159_19 (j127 : X7) (n129 : Nat) (j128 : X10) (t0 t1 t7 t53 t54 t55 M m I i : Nat) : Res :=
 lt 5 t55 t54 fun v130 =>
 cnd v130 (ia 2 t53 t55 fun v131 =>
 loadNK 2 (.k v131) zf M I i fun v132 I i =>
 newK 2 23384026197294446691655098136326997907641993265157 M m I i fun v133 M m I i =>
 storeK 2 (.k v133) (.k v132) zf M m I i fun _ M m I i =>
 iadrAK 2 1 (.k v133) (.k 295147905179352825861) zf I i fun v135 I i =>
 ld v135 M fun v136 =>
 iadrAK 2 1 (.k v133) (.k 295147905179352825893) zf I i fun v137 I i =>
 ld v137 M fun v138 =>
 bldSK 2 1 295147905179352825861 [(0, 1, (.k v136)), (1, 1, (.k v138))] zf M m I i fun v139 M m I i =>
 appW 1 t7 v139 M m I i fun v140 M m I i =>
 adt n129 t55 295147905179352825893 fun v142 =>
 j128 t0 t1 v140 t53 t54 v142 M m I i)
 (j127 t0 t1 t7 M m I i)
def S159_20 (j127 : X7) (t0 t1 t7 t53 t54 t55 M m I i : Nat) : Res :=
 lp (S159_19 j127) (fun _ _ _ _ _ _ _ _ _ _ => .bad 73 0) t0 t1 t7 t53 t54 t55 M m I i
def S159_21 (c : Y) (k : KF) (t0 t1 t7 M m I i : Nat) : Res :=
 jn (S159_18 c k) fun j127 =>
 jn (S159_20 j127) fun j144 =>
 ln t1 fun v146 =>
 j144 t0 t1 t7 t1 v146 295147905179352825861 M m I i
def S159_22 (c : Y) (k : KF) (t0 t1 M m I i : Nat) : Res :=
 jn (S159_21 c k) fun j148 =>
 j148 t0 t1 11 M m I i
def S159_23 (c : Y) (k : KF) (t0 t1 M m I i : Nat) : Res :=
 jn (S159_22 c k) fun j150 =>
 ln t1 fun v152 =>
 eq 5 v152 295147905179352825893 fun v153 =>
 cnd v153 (ia 2 t1 295147905179352825861 fun v155 =>
 iadrAK 2 1 (.k v155) (.k 295147905179352825861) zf I i fun v156 I i =>
 ld v156 M fun v157 =>
 ia 2 t1 295147905179352825861 fun v159 =>
 iadrAK 2 1 (.k v159) (.k 295147905179352825893) zf I i fun v160 I i =>
 ld v160 M fun v161 =>
 ia 1 t0 v157 fun v170 =>
 ld v170 M fun v171 =>
 bldSK 1 1 295147905179352825861 [(0, 1, (.k v161))] zf M m I i fun v173 M m I i =>
 ia 1 t0 v161 fun v176 =>
 ld v176 M fun v177 =>
 bldSK 1 1 295147905179352825861 [(0, 1, (.k v157))] zf M m I i fun v179 M m I i =>
 appW 1 v171 v173 M m I i fun v181 M180 m I i =>
 flL v176 1 M M180 <| 
 appW 1 v177 v179 M180 m I i fun v182 M m I i =>
 ia 1 t0 v157 fun v183 =>
 storeK 1 (.k v183) (.k v181) zf M m I i fun _ M m I i =>
 ia 1 t0 v161 fun v184 =>
 storeK 1 (.k v184) (.k v182) zf M m I i fun _ M m I i =>
 k 33 M m I i)
 (j150 t0 t1 M m I i)
def F159 (c : Y) (t0 t1 M m I i : Nat) (k : KF) : Res :=
 jn (S159_23 c k) fun j186 =>
 j186 t0 t1 M m I i
def g159 (c : Y) : List Nat → Nat → Nat → Nat → Nat → KF → Res := unS fun t0 => unS fun t1 => un0 (F159 c t0 t1)
def S17_1 (c : Y) (j9 : X9) (t6 t7 t8 t9 t10 t11 t27 t28 M m I i : Nat) : Res :=
 jn (fun (t6 t7 t8 t9 t10 t27 t28 M m I i : Nat) =>
 ia 1 t7 t10 fun v14 =>
 ld v14 M fun v15 =>
 bldSK 1 1 295147905179352825861 [(0, 1, (.k t9))] zf M m I i fun v17 M m I i =>
 appW 1 v15 v17 M m I i fun v18 M m I i =>
 ia 1 t7 t10 fun v19 =>
 storeK 1 (.k v19) (.k v18) zf M m I i fun _ M m I i =>
 j9 t6 t7 t8 t27 t28 M m I i) fun j20 =>
 notK (.k t11) zf I i fun v22 I i =>
 cnd v22 (ln t7 fun v24 =>
 callvS c (.k t6) [(.k t9)] zf M m I i fun v29 M m I i =>
 updW (.word 5) t8 v29 v24 M m I i fun _ M m I i =>
 bldSK 1 1 11 [(0, 1, (.k 11))] zf M m I i fun v32 M m I i =>
 appW 1 t7 v32 M m I i fun v33 M m I i =>
 j20 t6 v33 t8 t9 v24 t27 t28 M m I i)
 (j20 t6 t7 t8 t9 t10 t27 t28 M m I i)
def S17_2 (c : Y) (j9 : X9) (t6 t7 t8 t9 t27 t28 M m I i : Nat) : Res :=
 jn (S17_1 c j9) fun j35 =>
 callvS c (.k t6) [(.k t9)] zf M m I i fun v39 M m I i =>
 lookW (.word 5) true false 1 295147905179352825861 t8 v39 M I i fun v40 I i =>
 f1 19 0 v40 I fun v42 =>
 f1 19 1 v40 I fun v43 =>
 j35 t6 t7 t8 t9 v42 v43 t27 t28 M m I i
def S17_3 (c : Y) (n6 : Nat) (j5 : X9) (t6 t7 t8 t27 t28 M m I i : Nat) : Res :=
 jn (fun (t6 t7 t8 t27 t28 M m I i : Nat) =>
 adt n6 t28 295147905179352825893 fun v7 =>
 j5 t6 t7 t8 t27 v7 M m I i) fun j9 =>
 jn (S17_2 c j9) fun j46 =>
 j46 t6 t7 t8 t28 t27 t28 M m I i
def S17_4 (c : Y) (j4 : X5) (n6 : Nat) (j5 : X9) (t6 t7 t8 t27 t28 t29 M m I i : Nat) : Res :=
 jn (S17_3 c n6 j5) fun j49 =>
 cnd t29 (j49 t6 t7 t8 t27 t28 M m I i)
 (j4 t7 M m I i)
def S17_5 (c : Y) (j4 : X5) (n6 : Nat) (j5 : X9) (t6 t7 t8 t27 t28 M m I i : Nat) : Res :=
 jn (S17_4 c j4 n6 j5) fun j50 =>
 lt 5 t28 t27 fun v51 =>
 j50 t6 t7 t8 t27 t28 v51 M m I i
def S17_6 (c : Y) (j4 : X5) (t6 t7 t8 t27 t28 M m I i : Nat) : Res :=
 lp (S17_5 c j4) (fun _ _ _ _ _ _ _ _ _ => .bad 73 0) t6 t7 t8 t27 t28 M m I i
def S17_7 (c : Y) (k : KF) (t1 t6 t7 t8 M m I i : Nat) : Res :=
 jn (fun (t7 M m I i : Nat) =>
 rtn 2 [t7, 295147905179352825861] M m I i k) fun j4 =>
 jn (S17_6 c j4) fun j52 =>
 fa 0 t1 fun v53 =>
 ld v53 M fun v54 =>
 j52 t6 t7 t8 v54 295147905179352825861 M m I i
def S17_8 (c : Y) (k : KF) (t1 t6 t7 M m I i : Nat) : Res :=
 jn (S17_7 c k) fun j56 =>
 mkMapK M m I i fun v57 M m I i =>
 j56 t1 t6 t7 v57 M m I i
def S17_9 (c : Y) (k : KF) (t1 t6 M m I i : Nat) : Res :=
 jn (S17_8 c k) fun j59 =>
 j59 t1 t6 11 M m I i
def S17_10 (c : Y) (k : KF) (t1 t4 M m I i : Nat) : Res :=
 jn (S17_9 c k) fun j61 =>
 fa 0 t1 fun v62 =>
 ld v62 M fun v63 =>
 fa 1 t4 fun v64 =>
 ld v64 M fun v65 =>
 c 40 [v63, v65] M m I i fun v66 M m I i =>
 j61 t1 v66 M m I i
def S17_11 (c : Y) (k : KF) (t1 t4 t5 M m I i : Nat) : Res :=
 jn (S17_10 c k) fun j68 =>
 ne 5 t5 295147905179352825861 fun v70 =>
 cnd v70 (rtn 2 [11, t5] M m I i k)
 (j68 t1 t4 M m I i)
def S17_12 (c : Y) (k : KF) (t1 M m I i : Nat) : Res :=
 jn (S17_11 c k) fun j74 =>
 loadNK 2 (.k t1) zf M I i fun v75 I i =>
 c 15 [v75] M m I i fun v76 M m I i =>
 f1 19 0 v76 I fun v78 =>
 f1 19 1 v76 I fun v79 =>
 newK 2 871509787656907713528983453707 M m I i fun v80 M m I i =>
 storeK 2 (.k v80) (.k v78) zf M m I i fun _ M m I i =>
 j74 t1 v80 v79 M m I i
def F17 (c : Y) (t0 M m I i : Nat) (k : KF) : Res :=
 jn (S17_12 c k) fun j82 =>
 boxK 2 (.k t0) zf M m I i fun v83 M m I i =>
 j82 v83 M m I i
def g17 (c : Y) : List Nat → Nat → Nat → Nat → Nat → KF → Res := unS fun t0 => un0 (F17 c t0)
def S154_1 (c : Y) (k : KF) (t0 t2 t4 t8 t9 M m I i : Nat) : Res :=
 lt 5 t9 t8 fun v4 =>
 jn (fun (v15 M m I i : Nat) =>
 pk v4 v15 1 fun v16 =>
 rtn 2 [t9, v16] M m I i k)
 (fun j6 => gd v4 33 (ia 2 t0 t9 fun v10 =>
 loadNK 2 (.k v10) zf M I i fun v11 I i =>
 loadNK 2 (.k t4) zf M I i fun v12 I i =>
 callvS c (.k t2) [(.k v11), (.k v12)] zf M m I i fun v13 M m I i =>
 eq 5 v13 295147905179352825861 fun v14 =>
 j6 v14 M m I i) (j6 0 M m I i))
def S154_2 (c : Y) (j19 : X9) (n21 : Nat) (j20 : X10) (t0 t2 t4 t8 t9 t10 M m I i : Nat) : Res :=
 lt 5 t9 t10 fun v24 =>
 cnd v24 (adt n21 t9 t10 fun v27 =>
 convK .i64 .u64 (.k v27) zf I i fun v28 I i =>
 shfK .shr .u64 .u64 (.k v28) (.k 41) zf I i fun v29 I i => tkk n21 v29 fun v30 =>
 convK .u64 .i64 (.k v30) zf I i fun v31 I i =>
 ia 2 t0 v31 fun v36 =>
 loadNK 2 (.k v36) zf M I i fun v37 I i =>
 loadNK 2 (.k t4) zf M I i fun v38 I i =>
 callvS c (.k t2) [(.k v37), (.k v38)] zf M m I i fun v39 M m I i =>
 lt 5 v39 295147905179352825861 fun v40 =>
 cnd v40 (adt n21 v31 295147905179352825893 fun v42 =>
 j20 t0 t2 t4 t8 v42 t10 M m I i)
 (j20 t0 t2 t4 t8 t9 v31 M m I i))
 (j19 t0 t2 t4 t8 t9 M m I i)
def S154_3 (c : Y) (k : KF) (t0 t2 t4 t8 t9 t10 M m I i : Nat) : Res :=
 jn (S154_1 c k) fun j19 =>
 lp (S154_2 c j19) (fun _ _ _ _ _ _ _ _ _ _ => .bad 73 0) t0 t2 t4 t8 t9 t10 M m I i
def S154_4 (c : Y) (k : KF) (t0 t2 t4 t8 M m I i : Nat) : Res :=
 jn (S154_3 c k) fun j46 =>
 j46 t0 t2 t4 t8 295147905179352825861 t8 M m I i
def S154_5 (c : Y) (k : KF) (t0 t2 t4 M m I i : Nat) : Res :=
 jn (S154_4 c k) fun j50 =>
 ln t0 fun v52 =>
 j50 t0 t2 t4 v52 M m I i
def F154 (c : Y) (t0 t1 t2 M m I i : Nat) (k : KF) : Res :=
 jn (S154_5 c k) fun j54 =>
 boxK 2 (.k t1) zf M m I i fun v55 M m I i =>
 j54 t0 t2 v55 M m I i
def g154 (c : Y) : List Nat → Nat → Nat → Nat → Nat → KF → Res := unS fun t0 => unS fun t1 => unS fun t2 => un0 (F154 c t0 t1 t2)
def F129 (c : Y) (t0 t1 M m I i : Nat) (k : KF) : Res :=
 boxK 2 (.k t0) zf M m I i fun v1 M m I i =>
 loadNK 2 (.k v1) zf M I i fun v3 I i =>
 c 37 [v3] M m I i fun v4 M m I i =>
 jn (fun (v11 M m I i : Nat) =>
 pk v4 v11 1 fun v12 =>
 k v12 M m I i)
 (fun j6 => gd v4 33 (fa 0 v1 fun v8 =>
 ld v8 M fun v9 =>
 c 188 [t1, v9] M m I i fun v10 M m I i =>
 j6 v10 M m I i) (j6 0 M m I i))
def g129 (c : Y) : List Nat → Nat → Nat → Nat → Nat → KF → Res := unS fun t0 => unS fun t1 => un0 (F129 c t0 t1)
def S85_1 (c : Y) (k : KF) (t0 t3 M m I i : Nat) : Res :=
 jn (fun (t0 t6 M m I i : Nat) =>
 jn (fun (t6 M m I i : Nat) =>
 k t6 M m I i) fun j3 =>
 jn (fun (t6 t25 t26 t27 M m I i : Nat) =>
 lp (fun (n5 : Nat) (j4 : X8) (t6 t25 t26 t27 M m I i : Nat) =>
 lt 5 t27 t26 fun v6 =>
 cnd v6 (ia 1 t25 t27 fun v7 =>
 ld v7 M fun v8 =>
 appW 1 t6 v8 M m I i fun v12 M m I i =>
 adt n5 t27 295147905179352825893 fun v14 =>
 j4 v12 t25 t26 v14 M m I i)
 (j3 t6 M m I i)) (fun _ _ _ _ _ _ _ _ => .bad 73 0) t6 t25 t26 t27 M m I i) fun j16 =>
 ln t0 fun v18 =>
 j16 t6 t0 v18 295147905179352825861 M m I i) fun j20 =>
 c 150 [11, t3] M m I i fun v22 M m I i =>
 j20 t0 v22 M m I i
def S85_2 (j24 : X6) (n26 : Nat) (j25 : X9) (t0 t3 t9 t10 t11 M m I i : Nat) : Res :=
 lt 5 t11 t10 fun v27 =>
 cnd v27 (ia 1 t9 t11 fun v28 =>
 ld v28 M fun v29 =>
 ln v29 fun v33 =>
 adt n26 t3 v33 fun v34 =>
 lt 5 v34 295147905179352825861 fun v37 =>
 cnd v37 (mkiK 9 (.str 16 144083279162335362808197356371485550437) zf I i fun v38 I i =>
 Res.bad 51 99)
 (adt n26 t11 295147905179352825893 fun v39 =>
 j25 t0 v34 t9 t10 v39 M m I i))
 (j24 t0 t3 M m I i)
def S85_3 (j24 : X6) (t0 t3 t9 t10 t11 M m I i : Nat) : Res :=
 lp (S85_2 j24) (fun _ _ _ _ _ _ _ _ _ => .bad 73 0) t0 t3 t9 t10 t11 M m I i
def S85_4 (c : Y) (k : KF) (t0 t3 M m I i : Nat) : Res :=
 jn (S85_1 c k) fun j24 =>
 jn (S85_3 j24) fun j41 =>
 ln t0 fun v43 =>
 j41 t0 t3 t0 v43 295147905179352825861 M m I i
def S85_5 (c : Y) (k : KF) (t0 M m I i : Nat) : Res :=
 jn (S85_4 c k) fun j45 =>
 j45 t0 295147905179352825861 M m I i
def F85 (c : Y) (t0 M m I i : Nat) (k : KF) : Res :=
 jn (S85_5 c k) fun j47 =>
 j47 t0 M m I i
def g85 (c : Y) : List Nat → Nat → Nat → Nat → Nat → KF → Res := unS fun t0 => un0 (F85 c t0)
def S49_1 (c : Y) (k : KF) (t0 t1 t6 t9 M m I i : Nat) : Res :=
 ia 1 t1 295147905179352825861 fun v3 =>
 ld v3 M fun v4 =>
 fa 0 t6 fun v5 =>
 ld v5 M fun v6 =>
 buildK 2 871509787952055618708336279557 [(0, 1, (.k v6)), (1, 1, (.k t9))] zf I i fun v8 I i =>
 c 92 [t0, v4, v8, 295147905179352825861] M m I i fun v9 M m I i =>
 f1 19 0 v9 I fun v10 =>
 f1 19 1 v9 I fun v11 =>
 rtn 2 [v10, v11] M m I i k
def S49_2 (j14 : X8) (n16 : Nat) (j15 : X12) (t0 t1 t6 t7 t9 t46 t47 t48 M m I i : Nat) : Res :=
 lt 5 t48 t47 fun v17 =>
 cnd v17 (ia 2 t46 t48 fun v18 =>
 loadNK 2 (.k v18) zf M I i fun v19 I i =>
 newK 2 23384026197294446691655098136326997907641993265157 M m I i fun v20 M m I i =>
 storeK 2 (.k v20) (.k v19) zf M m I i fun _ M m I i =>
 loadNK 2 (.k v20) zf M I i fun v21 I i =>
 loadNK 2 (.k t7) zf M I i fun v22 I i =>
 aeqK (.row 2 5) true (.k v21) (.k v22) zf I i fun v23 I i =>
 cnd v23 (loadNK 2 (.k v20) zf M I i fun v25 I i =>
 bldSK 1 2 23384026197294446691655098136326997907641993265157 [(0, 2, (.k v25))] zf M m I i fun v26 M m I i =>
 appW 2 t9 v26 M m I i fun v27 M m I i =>
 adt n16 t48 295147905179352825893 fun v29 =>
 j15 t0 t1 t6 t7 v27 t46 t47 v29 M m I i)
 (adt n16 t48 295147905179352825893 fun v31 =>
 j15 t0 t1 t6 t7 t9 t46 t47 v31 M m I i))
 (j14 t0 t1 t6 t9 M m I i)
def S49_3 (j14 : X8) (t0 t1 t6 t7 t9 t46 t47 t48 M m I i : Nat) : Res :=
 lp (S49_2 j14) (fun _ _ _ _ _ _ _ _ _ _ _ _ => .bad 73 0) t0 t1 t6 t7 t9 t46 t47 t48 M m I i
def S49_4 (c : Y) (k : KF) (t0 t1 t6 t7 t9 M m I i : Nat) : Res :=
 jn (S49_1 c k) fun j14 =>
 jn (S49_3 j14) fun j33 =>
 fa 1 t6 fun v34 =>
 ld v34 M fun v35 =>
 ln v35 fun v36 =>
 j33 t0 t1 t6 t7 t9 v35 v36 295147905179352825861 M m I i
def S49_5 (c : Y) (k : KF) (t0 t1 t6 t7 M m I i : Nat) : Res :=
 jn (S49_4 c k) fun j38 =>
 j38 t0 t1 t6 t7 11 M m I i
def S49_6 (c : Y) (k : KF) (t0 t1 t6 t7 M m I i : Nat) : Res :=
 jn (S49_5 c k) fun j40 =>
 iadrAK 2 1 (.k t7) (.k 295147905179352825861) zf I i fun v41 I i =>
 ld v41 M fun v42 =>
 iadrAK 2 1 (.k t7) (.k 295147905179352825893) zf I i fun v43 I i =>
 ld v43 M fun v44 =>
 minK false 5 (.k v42) (.k v44) zf I i fun v45 I i =>
 iadrAK 2 1 (.k t7) (.k 295147905179352825861) zf I i fun v46 I i =>
 ld v46 M fun v47 =>
 iadrAK 2 1 (.k t7) (.k 295147905179352825893) zf I i fun v48 I i =>
 ld v48 M fun v49 =>
 minK true 5 (.k v47) (.k v49) zf I i fun v50 I i =>
 buildK 2 23384026197294446691655098136326997907641993265157 [(0, 1, (.k v45)), (1, 1, (.k v50))] zf I i fun v51 I i =>
 storeK 2 (.k t7) (.k v51) zf M m I i fun _ M m I i =>
 j40 t0 t1 t6 t7 M m I i
def S49_7 (c : Y) (k : KF) (t0 t1 t6 t7 M m I i : Nat) : Res :=
 jn (S49_6 c k) fun j52 =>
 loadNK 2 (.k t6) zf M I i fun v53 I i =>
 iadrAK 2 1 (.k t7) (.k 295147905179352825861) zf I i fun v54 I i =>
 ld v54 M fun v55 =>
 iadrAK 2 1 (.k t7) (.k 295147905179352825893) zf I i fun v56 I i =>
 ld v56 M fun v57 =>
 c 93 [v53, v55, v57] M m I i fun v58 M m I i =>
 notK (.k v58) zf I i fun v59 I i =>
 cnd v59 (rtn 2 [12, 295147905179352825925] M m I i k)
 (j52 t0 t1 t6 t7 M m I i)
def S49_8 (c : Y) (k : KF) (t0 t1 t6 M m I i : Nat) : Res :=
 jn (S49_7 c k) fun j62 =>
 ia 1 t1 295147905179352825925 fun v64 =>
 ld v64 M fun v65 =>
 c 63 [v65] M m I i fun v66 M m I i =>
 f1 19 0 v66 I fun v68 =>
 f1 19 1 v66 I fun v69 =>
 newK 2 23384026197294446691655098136326997907641993265157 M m I i fun v70 M m I i =>
 storeK 2 (.k v70) (.k v68) zf M m I i fun _ M m I i =>
 j62 t0 t1 t6 v70 M m I i
def S49_9 (c : Y) (k : KF) (t0 t1 M m I i : Nat) : Res :=
 jn (S49_8 c k) fun j72 =>
 nilcK (.k t0) zf I i fun v74 I i =>
 fa 1 v74 fun v75 =>
 ld v75 M fun v76 =>
 ia 1 t1 295147905179352825893 fun v78 =>
 ld v78 M fun v79 =>
 lookK .str false true 2 871509787952055618708336279557 (.k v76) (.k v79) zf M I i fun v80 I i =>
 newK 2 871509787952055618708336279557 M m I i fun v81 M m I i =>
 storeK 2 (.k v81) (.k v80) zf M m I i fun _ M m I i =>
 j72 t0 t1 v81 M m I i
def F49 (c : Y) (t0 t1 M m I i : Nat) (k : KF) : Res :=
 jn (S49_9 c k) fun j82 =>
 j82 t0 t1 M m I i
def g49 (c : Y) : List Nat → Nat → Nat → Nat → Nat → KF → Res := unS fun t0 => unS fun t1 => un0 (F49 c t0 t1)
def S107_1 (c : Y) (k : KF) (j19 : X10) (t0 t6 t7 t9 t10 t34 t35 M m I i : Nat) : Res :=
 c 172 [t10] M m I i fun v21 M m I i =>
 f1 19 0 v21 I fun v23 =>
 f1 19 1 v21 I fun v24 =>
 f1 19 2 v21 I fun v25 =>
 notK (.k v25) zf I i fun v30 I i =>
 jn (fun (v37 : Nat) =>
 pk v30 33 v37 fun v38 =>
 cnd v38 (rtn 2 [10, 295147905179352833861] M m I i k)
 (slcK 1 (.k v24) none (some (.k v23)) none zf I i fun v43 I i =>
 nilcK (.k t6) zf I i fun v46 I i =>
 fa 4 v46 fun v47 =>
 ld v47 M fun v48 =>
 strOfW v43 M I i fun v50 I i =>
 lookK .str true false 1 295147905179352825861 (.k v48) (.k v50) zf M I i fun v51 I i =>
 f1 19 0 v51 I fun v53 =>
 f1 19 1 v51 I fun v54 =>
 cnd v54 (rtn 2 [10, 295147905179352833861] M m I i k)
 (c 171 [v43] M m I i fun v61 M m I i =>
 f1 19 0 v61 I fun v63 =>
 f1 19 1 v61 I fun v64 =>
 newK 2 871509787952055618708336279557 M m I i fun v65 M m I i =>
 storeK 2 (.k v65) (.k v63) zf M m I i fun _ M m I i =>
 ne 5 v64 295147905179352825861 fun v68 =>
 cnd v68 (rtn 2 [10, 295147905179352833861] M m I i k)
 (strOfW v43 M I i fun v73 I i =>
 c 170 [t6, v73, t9] M m I i fun v75 M m I i =>
 slcK 1 (.k v24) (some (.k v23)) none none zf I i fun v78 I i =>
 j19 t0 v78 t6 t7 t34 t35 M m I i))))
 (fun j32 => gd v30 1 (ln v24 fun v35 =>
 lt 5 v35 v23 fun v36 =>
 j32 v36) (j32 0))
def S107_2 (c : Y) (k : KF) (j19 : X10) (t0 t6 t7 t9 t10 t11 t34 t35 M m I i : Nat) : Res :=
 jn (S107_1 c k j19) fun j80 =>
 notK (.k t11) zf I i fun v82 I i =>
 jn (fun (v87 : Nat) =>
 pk v82 33 v87 fun v88 =>
 jn (fun (v93 : Nat) =>
 pk v88 33 v93 fun v94 =>
 cnd v94 (rtn 2 [10, 295147905179352833861] M m I i k)
 (j80 t0 t6 t7 t9 t10 t34 t35 M m I i))
 (fun j90 => gd v88 1 (lt 5 295147905248072302565 t9 fun v92 =>
 j90 v92) (j90 0)))
 (fun j84 => gd v82 1 (lt 5 t9 295147905179352825893 fun v86 =>
 j84 v86) (j84 0))
def S107_3 (c : Y) (k : KF) (n16 : Nat) (j15 : X10) (t0 t1 t6 t7 t34 t35 M m I i : Nat) : Res :=
 jn (fun (t0 t1 t6 t7 t34 t35 M m I i : Nat) =>
 adt n16 t35 295147905179352825893 fun v17 =>
 j15 t0 t1 t6 t7 t34 v17 M m I i) fun j19 =>
 jn (S107_2 c k j19) fun j97 =>
 c 172 [t1] M m I i fun v99 M m I i =>
 f1 19 0 v99 I fun v101 =>
 f1 19 1 v99 I fun v102 =>
 f1 19 2 v99 I fun v103 =>
 j97 t0 t6 t7 v101 v102 v103 t34 t35 M m I i
def S107_4 (c : Y) (k : KF) (j14 : X8) (n16 : Nat) (j15 : X10) (t0 t1 t6 t7 t34 t35 t36 M m I i : Nat) : Res :=
 jn (S107_3 c k n16 j15) fun j107 =>
 cnd t36 (j107 t0 t1 t6 t7 t34 t35 M m I i)
 (j14 t0 t1 t6 t7 M m I i)
def S107_5 (c : Y) (k : KF) (j14 : X8) (n16 : Nat) (j15 : X10) (t0 t1 t6 t7 t34 t35 M m I i : Nat) : Res :=
 jn (S107_4 c k j14 n16 j15) fun j108 =>
 lt 5 t35 t34 fun v109 =>
 j108 t0 t1 t6 t7 t34 t35 v109 M m I i
def S107_6 (c : Y) (k : KF) (j14 : X8) (t0 t1 t6 t7 t34 t35 M m I i : Nat) : Res :=
 lp (S107_5 c k j14) (fun _ _ _ _ _ _ _ _ _ _ => .bad 73 0) t0 t1 t6 t7 t34 t35 M m I i
def S107_7 (c : Y) (k : KF) (t0 t1 t6 t7 M m I i : Nat) : Res :=
 jn (fun (t0 t1 t6 t7 M m I i : Nat) =>
 ln t1 fun v2 =>
 lt 5 295147905179352825861 v2 fun v3 =>
 cnd v3 (rtn 2 [10, 295147905179352833861] M m I i k)
 (lt 5 t0 t7 fun v8 =>
 cnd v8 (rtn 2 [10, 295147905179352826021] M m I i k)
 (rtn 2 [t6, 295147905179352825861] M m I i k))) fun j14 =>
 jn (S107_6 c k j14) fun j110 =>
 j110 t0 t1 t6 t7 t7 295147905179352825861 M m I i
def S107_8 (c : Y) (k : KF) (t0 t1 t6 t7 t8 M m I i : Nat) : Res :=
 jn (S107_7 c k) fun j113 =>
 notK (.k t8) zf I i fun v115 I i =>
 cnd v115 (rtn 2 [10, 295147905179352833861] M m I i k)
 (j113 t0 t1 t6 t7 M m I i)
def S107_9 (c : Y) (k : KF) (t0 t1 t6 M m I i : Nat) : Res :=
 jn (S107_8 c k) fun j118 =>
 c 172 [t1] M m I i fun v120 M m I i =>
 f1 19 0 v120 I fun v122 =>
 f1 19 1 v120 I fun v123 =>
 f1 19 2 v120 I fun v124 =>
 j118 t0 v123 t6 v122 v124 M m I i
def S107_10 (c : Y) (k : KF) (t0 t1 M m I i : Nat) : Res :=
 jn (S107_9 c k) fun j128 =>
 c 44 [t0] M m I i fun v130 M m I i =>
 j128 t0 t1 v130 M m I i
def S107_11 (c : Y) (k : KF) (t0 t1 M m I i : Nat) : Res :=
 jn (S107_10 c k) fun j132 =>
 lt 5 t0 295147905179352825861 fun v134 =>
 jn (fun (v139 : Nat) =>
 pk v134 33 v139 fun v140 =>
 cnd v140 (rtn 2 [10, 295147905179352825925] M m I i k)
 (j132 t0 t1 M m I i))
 (fun j136 => gd v134 1 (lt 5 295147905179352857861 t0 fun v138 =>
 j136 v138) (j136 0))
def F107 (c : Y) (t0 t1 M m I i : Nat) (k : KF) : Res :=
 jn (S107_11 c k) fun j143 =>
 j143 t0 t1 M m I i
def g107 (c : Y) : List Nat → Nat → Nat → Nat → Nat → KF → Res := unS fun t0 => unS fun t1 => un0 (F107 c t0 t1)
def F202 (c : Y) (t0 M m I i : Nat) (k : KF) : Res :=
 boxK 1 (.k t0) zf M m I i fun v1 M m I i =>
 mkfK 243 1 [(.k v1)] zf I i fun v3 I i =>
 k v3 M m I i
def g202 (c : Y) : List Nat → Nat → Nat → Nat → Nat → KF → Res := unS fun t0 => un0 (F202 c t0)
def S103_1 (c : Y) (k : KF) (t0 t7 M m I i : Nat) : Res :=
 nilcK (.k t0) zf I i fun v2 I i =>
 fa 2 v2 fun v3 =>
 ld v3 M fun v4 =>
 ln v4 fun v5 =>
 nilcK (.k t0) zf I i fun v7 I i =>
 fa 1 v7 fun v8 =>
 ld v8 M fun v9 =>
 ge 5 v5 v9 fun v10 =>
 cnd v10 (rtn 3 [295147905179352825861, 1, 295147905179352826021] M m I i k)
 (fa 0 t7 fun v15 =>
 ld v15 M fun v16 =>
 strOfW v16 M I i fun v17 I i =>
 c 170 [t0, v17, 295147905179352825893] M m I i fun v18 M m I i =>
 rtn 3 [v18, 33, 295147905179352825861] M m I i k)
def S103_2 (c : Y) (k : KF) (t0 t7 M m I i : Nat) : Res :=
 jn (S103_1 c k) fun j22 =>
 nilcK (.k t0) zf I i fun v24 I i =>
 fa 4 v24 fun v25 =>
 ld v25 M fun v26 =>
 fa 0 t7 fun v27 =>
 ld v27 M fun v28 =>
 strOfW v28 M I i fun v29 I i =>
 lookK .str true false 1 295147905179352825861 (.k v26) (.k v29) zf M I i fun v30 I i =>
 f1 19 0 v30 I fun v32 =>
 f1 19 1 v30 I fun v33 =>
 cnd v33 (nilcK (.k t0) zf I i fun v38 I i =>
 fa 3 v38 fun v39 =>
 ld v39 M fun v40 =>
 sb v32 295147905179352825893 fun v42 =>
 ia 1 v40 v42 fun v43 =>
 ld v43 M fun v44 =>
 lt 5 v44 295147905248072302565 fun v45 =>
 cnd v45 (nilcK (.k t0) zf I i fun v47 I i =>
 fa 3 v47 fun v48 =>
 ld v48 M fun v49 =>
 sb v32 295147905179352825893 fun v51 =>
 ia 1 v49 v51 fun v52 =>
 ld v52 M fun v53 =>
 ad v53 295147905179352825893 fun v54 =>
 ia 1 v49 v51 fun v55 =>
 storeK 1 (.k v55) (.k v54) zf M m I i fun _ M m I i =>
 rtn 3 [v32, 1, 295147905179352825861] M m I i k)
 (rtn 3 [v32, 1, 295147905179352825861] M m I i k))
 (j22 t0 t7 M m I i)
def S103_3 (c : Y) (k : KF) (t0 t7 t8 M m I i : Nat) : Res :=
 jn (S103_2 c k) fun j64 =>
 ne 5 t8 295147905179352825861 fun v66 =>
 cnd v66 (rtn 3 [295147905179352825861, 1, t8] M m I i k)
 (j64 t0 t7 M m I i)
def S103_4 (c : Y) (k : KF) (t0 t3 M m I i : Nat) : Res :=
 jn (S103_3 c k) fun j71 =>
 loadNK 2 (.k t3) zf M I i fun v72 I i =>
 c 38 [v72] M m I i fun v73 M m I i =>
 f1 19 0 v73 I fun v75 =>
 f1 19 1 v73 I fun v76 =>
 newK 2 871509787656907713528983453707 M m I i fun v77 M m I i =>
 storeK 2 (.k v77) (.k v75) zf M m I i fun _ M m I i =>
 j71 t0 v77 v76 M m I i
def S103_5 (c : Y) (k : KF) (t0 t3 M m I i : Nat) : Res :=
 jn (S103_4 c k) fun j79 =>
 c 169 [t0] M m I i fun v81 M m I i =>
 cnd v81 (rtn 3 [295147905179352825861, 1, 295147905179352825893] M m I i k)
 (j79 t0 t3 M m I i)
def F103 (c : Y) (t0 t1 M m I i : Nat) (k : KF) : Res :=
 jn (S103_5 c k) fun j85 =>
 boxK 2 (.k t1) zf M m I i fun v86 M m I i =>
 j85 t0 v86 M m I i
def g103 (c : Y) : List Nat → Nat → Nat → Nat → Nat → KF → Res := unS fun t0 => unS fun t1 => un0 (F103 c t0 t1)
def S252_1 (k : KF) (t2 t4 t5 M m I i : Nat) : Res :=
 jn (fun (t2 t5 M m I i : Nat) =>
 loadNK 2 (.k t5) zf M I i fun v1 I i =>
 storeK 2 (.k t2) (.k v1) zf M m I i fun _ M m I i =>
 loadNK 2 (.k t2) zf M I i fun v3 I i => rtn 2 [v3, 295147905179352825861] M m I i k) fun j4 =>
 iopK .rem .i64 (.k t4) (.k 295147905179352826117) zf I i fun v6 I i =>
 ne 5 v6 295147905179352825861 fun v9 =>
 cnd v9 (fa 0 t5 fun v10 =>
 ld v10 M fun v11 =>
 fa 0 t5 fun v12 =>
 ld v12 M fun v13 =>
 ln v13 fun v14 =>
 sb v14 295147905179352825893 fun v15 =>
 ia 1 v11 v15 fun v16 =>
 ld v16 M fun v17 =>
 sb 295147905179352826117 v6 fun v19 =>
 shfK .shl .u8 .i64 (.k 8166) (.k v19) zf I i fun v20 I i =>
 iopK .and .u8 (.k v17) (.k v20) zf I i fun v21 I i =>
 ia 1 v11 v15 fun v22 =>
 storeK 1 (.k v22) (.k v21) zf M m I i fun _ M m I i =>
 j4 t2 t5 M m I i)
 (j4 t2 t5 M m I i)
def S252_2 (k : KF) (t0 t2 t4 t5 M m I i : Nat) : Res :=
 jn (S252_1 k) fun j23 =>
 fa 0 t5 fun v24 =>
 ld v24 M fun v25 =>
 copyW 1 v25 t0 M m I i fun v27 M m I i =>
 j23 t2 t4 t5 M m I i
def S252_3 (c : Y) (k : KF) (t0 t2 t4 M m I i : Nat) : Res :=
 jn (S252_2 k) fun j28 =>
 c 225 [t4] M m I i fun v30 M m I i =>
 mkSlK 1 6 (.k v30) (.k v30) zf M m I i fun v31 M m I i =>
 buildK 2 23384026197294446691655098136031850002462640439307 [(0, 1, (.k v31)), (1, 1, (.k t4))] zf I i fun v33 I i =>
 newK 2 23384026197294446691655098136031850002462640439307 M m I i fun v34 M m I i =>
 storeK 2 (.k v34) (.k v33) zf M m I i fun _ M m I i =>
 j28 t0 t2 t4 v34 M m I i
def S252_4 (c : Y) (k : KF) (t0 t2 t4 M m I i : Nat) : Res :=
 jn (S252_3 c k) fun j35 =>
 lt 5 295147905179487043589 t4 fun v37 =>
 cnd v37 (buildK 2 23384026197294446691655098136031850002462640439307 [] zf I i fun v38 I i =>
 storeK 2 (.k t2) (.k v38) zf M m I i fun _ M m I i =>
 loadNK 2 (.k t2) zf M I i fun v40 I i => rtn 2 [v40, 295147905179352826277] M m I i k)
 (j35 t0 t2 t4 M m I i)
def S252_5 (c : Y) (k : KF) (t0 t2 M m I i : Nat) : Res :=
 jn (S252_4 c k) fun j41 =>
 ln t0 fun v43 =>
 iopK .mul .i64 (.k 295147905179352826117) (.k v43) zf I i fun v44 I i =>
 sb v44 295147905179352825893 fun v45 =>
 ln t0 fun v48 =>
 sb v48 295147905179352825893 fun v49 =>
 ia 1 t0 v49 fun v50 =>
 ld v50 M fun v51 =>
 c 285 [v51] M m I i fun v52 M m I i =>
 sb v45 v52 fun v53 =>
 j41 t0 t2 v53 M m I i
def S252_6 (c : Y) (k : KF) (t0 t2 M m I i : Nat) : Res :=
 jn (S252_5 c k) fun j55 =>
 ln t0 fun v57 =>
 eq 5 v57 295147905179352825861 fun v58 =>
 jn (fun (v68 : Nat) =>
 pk v58 33 v68 fun v69 =>
 cnd v69 (buildK 2 23384026197294446691655098136031850002462640439307 [] zf I i fun v70 I i =>
 storeK 2 (.k t2) (.k v70) zf M m I i fun _ M m I i =>
 loadNK 2 (.k t2) zf M I i fun v72 I i => rtn 2 [v72, 295147905179352826277] M m I i k)
 (j55 t0 t2 M m I i))
 (fun j60 => gd v58 1 (ln t0 fun v63 =>
 sb v63 295147905179352825893 fun v64 =>
 ia 1 t0 v64 fun v65 =>
 ld v65 M fun v66 =>
 eq 6 v66 6 fun v67 =>
 j60 v67) (j60 0))
def S252_7 (c : Y) (k : KF) (t0 t2 M m I i : Nat) : Res :=
 jn (S252_6 c k) fun j73 =>
 ln t0 fun v75 =>
 lt 5 295147905179369603109 v75 fun v76 =>
 cnd v76 (buildK 2 23384026197294446691655098136031850002462640439307 [] zf I i fun v77 I i =>
 storeK 2 (.k t2) (.k v77) zf M m I i fun _ M m I i =>
 loadNK 2 (.k t2) zf M I i fun v79 I i => rtn 2 [v79, 295147905179352825957] M m I i k)
 (j73 t0 t2 M m I i)
def F252 (c : Y) (t0 M m I i : Nat) (k : KF) : Res :=
 jn (S252_7 c k) fun j80 =>
 newK 2 23384026197294446691655098136031850002462640439307 M m I i fun v81 M m I i =>
 j80 t0 v81 M m I i
def g252 (c : Y) : List Nat → Nat → Nat → Nat → Nat → KF → Res := unS fun t0 => un0 (F252 c t0)
def S48_1 (c : Y) (k : KF) (t0 t1 t6 t7 t8 M m I i : Nat) : Res :=
 fa 0 t6 fun v1 =>
 ld v1 M fun v2 =>
 fa 0 t7 fun v3 =>
 ld v3 M fun v4 =>
 ad v2 v4 fun v5 =>
 c 14 [v5, t8] M m I i fun v7 M m I i =>
 f1 19 0 v7 I fun v9 =>
 f1 19 1 v7 I fun v10 =>
 newK 2 871509787952055618708336279557 M m I i fun v11 M m I i =>
 storeK 2 (.k v11) (.k v9) zf M m I i fun _ M m I i =>
 ia 1 t1 295147905179352825861 fun v15 =>
 ld v15 M fun v16 =>
 loadNK 2 (.k v11) zf M I i fun v17 I i =>
 c 92 [t0, v16, v17, v10] M m I i fun v19 M m I i =>
 f1 19 0 v19 I fun v20 =>
 f1 19 1 v19 I fun v21 =>
 rtn 2 [v20, v21] M m I i k
def S48_2 (j24 : X9) (n26 : Nat) (j25 : X12) (t0 t1 t6 t7 t8 t34 t35 t36 M m I i : Nat) : Res :=
 lt 5 t36 t35 fun v27 =>
 cnd v27 (ia 2 t34 t36 fun v28 =>
 loadNK 2 (.k v28) zf M I i fun v29 I i =>
 newK 2 23384026197294446691655098136326997907641993265157 M m I i fun v30 M m I i =>
 storeK 2 (.k v30) (.k v29) zf M m I i fun _ M m I i =>
 iadrAK 2 1 (.k v30) (.k 295147905179352825861) zf I i fun v32 I i =>
 ld v32 M fun v33 =>
 fa 0 t6 fun v34 =>
 ld v34 M fun v35 =>
 adt n26 v33 v35 fun v36 =>
 iadrAK 2 1 (.k v30) (.k 295147905179352825893) zf I i fun v37 I i =>
 ld v37 M fun v38 =>
 fa 0 t6 fun v39 =>
 ld v39 M fun v40 =>
 adt n26 v38 v40 fun v41 =>
 buildK 2 23384026197294446691655098136326997907641993265157 [(0, 1, (.k v36)), (1, 1, (.k v41))] zf I i fun v42 I i =>
 bldSK 1 2 23384026197294446691655098136326997907641993265157 [(0, 2, (.k v42))] zf M m I i fun v43 M m I i =>
 appW 2 t8 v43 M m I i fun v44 M m I i =>
 adt n26 t36 295147905179352825893 fun v46 =>
 j25 t0 t1 t6 t7 v44 t34 t35 v46 M m I i)
 (j24 t0 t1 t6 t7 t8 M m I i)
def S48_3 (j24 : X9) (t0 t1 t6 t7 t8 t34 t35 t36 M m I i : Nat) : Res :=
 lp (S48_2 j24) (fun _ _ _ _ _ _ _ _ _ _ _ _ => .bad 73 0) t0 t1 t6 t7 t8 t34 t35 t36 M m I i
def S48_4 (c : Y) (k : KF) (t0 t1 t6 t7 t8 M m I i : Nat) : Res :=
 jn (S48_1 c k) fun j24 =>
 jn (S48_3 j24) fun j48 =>
 fa 1 t7 fun v49 =>
 ld v49 M fun v50 =>
 ln v50 fun v51 =>
 j48 t0 t1 t6 t7 t8 v50 v51 295147905179352825861 M m I i
def S48_5 (c : Y) (k : KF) (t0 t1 t6 t7 t8 M m I i : Nat) : Res :=
 jn (S48_4 c k) fun j53 =>
 fa 1 t6 fun v55 =>
 ld v55 M fun v56 =>
 appW 2 t8 v56 M m I i fun v57 M m I i =>
 j53 t0 t1 t6 t7 v57 M m I i
def S48_6 (c : Y) (k : KF) (t0 t1 t6 t7 M m I i : Nat) : Res :=
 jn (S48_5 c k) fun j59 =>
 j59 t0 t1 t6 t7 11 M m I i
def S48_7 (c : Y) (k : KF) (t0 t1 M m I i : Nat) : Res :=
 jn (S48_6 c k) fun j61 =>
 nilcK (.k t0) zf I i fun v63 I i =>
 fa 1 v63 fun v64 =>
 ld v64 M fun v65 =>
 ia 1 t1 295147905179352825893 fun v67 =>
 ld v67 M fun v68 =>
 lookK .str false true 2 871509787952055618708336279557 (.k v65) (.k v68) zf M I i fun v69 I i =>
 nilcK (.k t0) zf I i fun v71 I i =>
 fa 1 v71 fun v72 =>
 ld v72 M fun v73 =>
 ia 1 t1 295147905179352825925 fun v75 =>
 ld v75 M fun v76 =>
 lookK .str false true 2 871509787952055618708336279557 (.k v73) (.k v76) zf M I i fun v77 I i =>
 newK 2 871509787952055618708336279557 M m I i fun v78 M m I i =>
 newK 2 871509787952055618708336279557 M m I i fun v79 M m I i =>
 storeK 2 (.k v78) (.k v69) zf M m I i fun _ M80 m I i =>
 flL v72 1 M M80 <| flL v75 1 M M80 <| flM v73 M M80 <| 
 storeK 2 (.k v79) (.k v77) zf M80 m I i fun _ M m I i =>
 j61 t0 t1 v78 v79 M m I i
def F48 (c : Y) (t0 t1 M m I i : Nat) (k : KF) : Res :=
 jn (S48_7 c k) fun j81 =>
 j81 t0 t1 M m I i
def g48 (c : Y) : List Nat → Nat → Nat → Nat → Nat → KF → Res := unS fun t0 => unS fun t1 => un0 (F48 c t0 t1)
def F172 (c : Y) (t0 M m I i : Nat) (k : KF) : Res :=
 ln t0 fun v5 =>
 lt 5 v5 295147905179352825989 fun v6 =>
 cnd v6 (rtn 3 [295147905179352825861, 11, 1] M m I i k)
 (ia 1 t0 295147905179352825861 fun v11 =>
 ld v11 M fun v12 =>
 convK .u8 .i64 (.k v12) zf I i fun v13 I i =>
 shfK .shl .i64 .u64 (.k v13) (.k 777) zf I i fun v14 I i =>
 ia 1 t0 295147905179352825893 fun v16 =>
 ld v16 M fun v17 =>
 convK .u8 .i64 (.k v17) zf I i fun v18 I i =>
 shfK .shl .i64 .u64 (.k v18) (.k 521) zf I i fun v19 I i =>
 iopK .or .i64 (.k v14) (.k v19) zf I i fun v20 I i =>
 ia 1 t0 295147905179352825925 fun v22 =>
 ld v22 M fun v23 =>
 convK .u8 .i64 (.k v23) zf I i fun v24 I i =>
 shfK .shl .i64 .u64 (.k v24) (.k 265) zf I i fun v25 I i =>
 iopK .or .i64 (.k v20) (.k v25) zf I i fun v26 I i =>
 ia 1 t0 295147905179352825957 fun v28 =>
 ld v28 M fun v29 =>
 convK .u8 .i64 (.k v29) zf I i fun v30 I i =>
 iopK .or .i64 (.k v26) (.k v30) zf I i fun v31 I i =>
 slcK 1 (.k t0) (some (.k 295147905179352825989)) none none zf I i fun v33 I i =>
 rtn 3 [v31, v33, 33] M m I i k)
def g172 (c : Y) : List Nat → Nat → Nat → Nat → Nat → KF → Res := unS fun t0 => un0 (F172 c t0)
def F32 (c : Y) (t0 t1 M m I i : Nat) (k : KF) : Res :=
 c 70 [t0, t1] M m I i fun v6 M m I i =>
 f1 19 0 v6 I fun v7 =>
 f1 19 1 v6 I fun v8 =>
 f1 19 2 v6 I fun v9 =>
 rtn 3 [v7, v8, v9] M m I i k
def g32 (c : Y) : List Nat → Nat → Nat → Nat → Nat → KF → Res := unS fun t0 => unS fun t1 => un0 (F32 c t0 t1)
def F21 (c : Y) (t0 t1 M m I i : Nat) (k : KF) : Res :=
 c 45 [t0, t1, 295147905179352825861, 295147905179352825829] M m I i fun v4 M m I i =>
 k v4 M m I i
def g21 (c : Y) : List Nat → Nat → Nat → Nat → Nat → KF → Res := unS fun t0 => unS fun t1 => un0 (F21 c t0 t1)
def S47_1 (c : Y) (k : KF) (t0 t1 t6 M m I i : Nat) : Res :=
 nilcK (.k t0) zf I i fun v2 I i =>
 fa 1 v2 fun v3 =>
 ld v3 M fun v4 =>
 ia 1 t1 295147905179352825893 fun v6 =>
 ld v6 M fun v7 =>
 lookK .str false true 2 871509787952055618708336279557 (.k v4) (.k v7) zf M I i fun v8 I i =>
 newK 2 871509787952055618708336279557 M m I i fun v10 M m I i =>
 c 76 [v8, t6] M m I i fun v11 M m I i =>
 f1 19 0 v11 I fun v13 =>
 f1 19 1 v11 I fun v14 =>
 storeK 2 (.k v10) (.k v13) zf M m I i fun _ M m I i =>
 ia 1 t1 295147905179352825861 fun v18 =>
 ld v18 M fun v19 =>
 loadNK 2 (.k v10) zf M I i fun v20 I i =>
 c 92 [t0, v19, v20, v14] M m I i fun v22 M m I i =>
 f1 19 0 v22 I fun v23 =>
 f1 19 1 v22 I fun v24 =>
 rtn 2 [v23, v24] M m I i k
def S47_2 (c : Y) (j27 : X7) (n29 : Nat) (j28 : X10) (t0 t1 t6 t14 t15 t16 M m I i : Nat) : Res :=
 lt 5 t16 t15 fun v30 =>
 cnd v30 (ia 1 t14 t16 fun v31 =>
 ld v31 M fun v32 =>
 c 62 [v32] M m I i fun v35 M m I i =>
 f1 19 0 v35 I fun v37 =>
 f1 19 1 v35 I fun v38 =>
 bldSK 1 1 295147905179352825861 [(0, 1, (.k v37))] zf M m I i fun v43 M m I i =>
 appW 1 t6 v43 M m I i fun v44 M m I i =>
 adt n29 t16 295147905179352825893 fun v46 =>
 j28 t0 t1 v44 t14 t15 v46 M m I i)
 (j27 t0 t1 t6 M m I i)
def S47_3 (c : Y) (j27 : X7) (t0 t1 t6 t14 t15 t16 M m I i : Nat) : Res :=
 lp (S47_2 c j27) (fun _ _ _ _ _ _ _ _ _ _ => .bad 73 0) t0 t1 t6 t14 t15 t16 M m I i
def S47_4 (c : Y) (k : KF) (t0 t1 t6 M m I i : Nat) : Res :=
 jn (S47_1 c k) fun j27 =>
 jn (S47_3 c j27) fun j48 =>
 slcK 1 (.k t1) (some (.k 295147905179352825925)) none none zf I i fun v50 I i =>
 ln v50 fun v51 =>
 j48 t0 t1 t6 v50 v51 295147905179352825861 M m I i
def S47_5 (c : Y) (k : KF) (t0 t1 M m I i : Nat) : Res :=
 jn (S47_4 c k) fun j53 =>
 j53 t0 t1 11 M m I i
def F47 (c : Y) (t0 t1 M m I i : Nat) (k : KF) : Res :=
 jn (S47_5 c k) fun j55 =>
 j55 t0 t1 M m I i
def g47 (c : Y) : List Nat → Nat → Nat → Nat → Nat → KF → Res := unS fun t0 => unS fun t1 => un0 (F47 c t0 t1)
def F262 (c : Y) (t0 t1 t2 M m I i : Nat) (k : KF) : Res :=
 ld t2 M fun v2 =>
 callvS c (.k v2) [(.k t0), (.k t1)] zf M m I i fun v5 M m I i =>
 eq 5 v5 295147905179352825861 fun v6 =>
 k v6 M m I i
def g262 (c : Y) : List Nat → Nat → Nat → Nat → Nat → KF → Res := unS fun t0 => unS fun t1 => unS fun t2 => un0 (F262 c t0 t1 t2)
def F25 (c : Y) (t0 t1 M m I i : Nat) (k : KF) : Res :=
 c 64 [t0, t1] M m I i fun v4 M m I i =>
 k v4 M m I i
def g25 (c : Y) : List Nat → Nat → Nat → Nat → Nat → KF → Res := unS fun t0 => unS fun t1 => un0 (F25 c t0 t1)
def F170 (c : Y) (t0 t1 t2 M m I i : Nat) (k : KF) : Res :=
 nilcK (.k t0) zf I i fun v4 I i =>
 fa 2 v4 fun v5 =>
 ld v5 M fun v6 =>
 bldSK 1 1 12 [(0, 1, (.k t1))] zf M m I i fun v8 M m I i =>
 appW 1 v6 v8 M m I i fun v9 M m I i =>
 nilcK (.k t0) zf I i fun v10 I i =>
 fa 2 v10 fun v11 =>
 storeK 1 (.k v11) (.k v9) zf M m I i fun _ M m I i =>
 nilcK (.k t0) zf I i fun v14 I i =>
 fa 3 v14 fun v15 =>
 ld v15 M fun v16 =>
 bldSK 1 1 295147905179352825861 [(0, 1, (.k t2))] zf M m I i fun v18 M m I i =>
 appW 1 v16 v18 M m I i fun v19 M m I i =>
 nilcK (.k t0) zf I i fun v20 I i =>
 fa 3 v20 fun v21 =>
 storeK 1 (.k v21) (.k v19) zf M m I i fun _ M m I i =>
 nilcK (.k t0) zf I i fun v23 I i =>
 fa 4 v23 fun v24 =>
 ld v24 M fun v25 =>
 nilcK (.k t0) zf I i fun v28 I i =>
 fa 2 v28 fun v29 =>
 ld v29 M fun v30 =>
 ln v30 fun v31 =>
 updK .str (.k v25) (.k t1) (.k v31) zf M m I i fun _ M m I i =>
 nilcK (.k t0) zf I i fun v33 I i =>
 fa 2 v33 fun v34 =>
 ld v34 M fun v35 =>
 ln v35 fun v36 =>
 k v36 M m I i
def g170 (c : Y) : List Nat → Nat → Nat → Nat → Nat → KF → Res := unS fun t0 => unS fun t1 => unS fun t2 => un0 (F170 c t0 t1 t2)
def S168_1 (j4 : X5) (n6 : Nat) (j5 : X9) (t1 t6 t27 t28 t29 M m I i : Nat) : Res :=
 lt 5 t29 t28 fun v7 =>
 cnd v7 (ia 1 t27 t29 fun v9 =>
 ld v9 M fun v10 =>
 ia 1 t1 v10 fun v17 =>
 ld v17 M fun v18 =>
 ia 1 t6 t29 fun v19 =>
 storeK 1 (.k v19) (.k v18) zf M m I i fun _ M m I i =>
 adt n6 t29 295147905179352825893 fun v20 =>
 j5 t1 t6 t27 t28 v20 M m I i)
 (j4 t6 M m I i)
def S168_2 (j4 : X5) (t1 t6 t27 t28 t29 M m I i : Nat) : Res :=
 lp (S168_1 j4) (fun _ _ _ _ _ _ _ _ _ => .bad 73 0) t1 t6 t27 t28 t29 M m I i
def S168_3 (k : KF) (t0 t1 t6 M m I i : Nat) : Res :=
 jn (fun (t6 M m I i : Nat) =>
 rtn 2 [t6, 295147905179352825861] M m I i k) fun j4 =>
 jn (S168_2 j4) fun j22 =>
 ln t0 fun v24 =>
 j22 t1 t6 t0 v24 295147905179352825861 M m I i
def S168_4 (k : KF) (t0 t1 M m I i : Nat) : Res :=
 jn (S168_3 k) fun j26 =>
 ln t0 fun v28 =>
 mkSlK 1 295147905179352825861 (.k v28) (.k v28) zf M m I i fun v29 M m I i =>
 j26 t0 t1 v29 M m I i
def S168_5 (c : Y) (k : KF) (t0 t1 M m I i : Nat) : Res :=
 jn (S168_4 k) fun j31 =>
 c 136 [t0] M m I i fun v33 M m I i =>
 notK (.k v33) zf I i fun v34 I i =>
 jn (fun (v40 M m I i : Nat) =>
 pk v34 33 v40 fun v41 =>
 jn (fun (v49 : Nat) =>
 pk v41 33 v49 fun v50 =>
 cnd v50 (rtn 2 [11, 295147905179352826821] M m I i k)
 (j31 t0 t1 M m I i))
 (fun j43 => gd v41 1 (ln t0 fun v45 =>
 ln t1 fun v47 =>
 ne 5 v45 v47 fun v48 =>
 j43 v48) (j43 0)))
 (fun j36 => gd v34 1 (c 136 [t1] M m I i fun v38 M m I i =>
 notK (.k v38) zf I i fun v39 I i =>
 j36 v39 M m I i) (j36 0 M m I i))
def F168 (c : Y) (t0 t1 M m I i : Nat) (k : KF) : Res :=
 jn (S168_5 c k) fun j53 =>
 j53 t0 t1 M m I i
def g168 (c : Y) : List Nat → Nat → Nat → Nat → Nat → KF → Res := unS fun t0 => unS fun t1 => un0 (F168 c t0 t1)
def S46_1 (c : Y) (k : KF) (t0 t1 t6 t8 M m I i : Nat) : Res :=
 c 14 [t6, t8] M m I i fun v3 M m I i =>
 f1 19 0 v3 I fun v5 =>
 f1 19 1 v3 I fun v6 =>
 newK 2 871509787952055618708336279557 M m I i fun v7 M m I i =>
 storeK 2 (.k v7) (.k v5) zf M m I i fun _ M m I i =>
 ia 1 t1 295147905179352825861 fun v11 =>
 ld v11 M fun v12 =>
 loadNK 2 (.k v7) zf M I i fun v13 I i =>
 c 92 [t0, v12, v13, v6] M m I i fun v15 M m I i =>
 f1 19 0 v15 I fun v16 =>
 f1 19 1 v15 I fun v17 =>
 rtn 2 [v16, v17] M m I i k
def S46_2 (c : Y) (j20 : X8) (n22 : Nat) (j21 : X11) (t0 t1 t6 t8 t23 t24 t25 M m I i : Nat) : Res :=
 lt 5 t25 t24 fun v23 =>
 cnd v23 (ia 1 t23 t25 fun v24 =>
 ld v24 M fun v25 =>
 c 63 [v25] M m I i fun v28 M m I i =>
 f1 19 0 v28 I fun v30 =>
 f1 19 1 v28 I fun v31 =>
 newK 2 23384026197294446691655098136326997907641993265157 M m I i fun v32 M m I i =>
 storeK 2 (.k v32) (.k v30) zf M m I i fun _ M m I i =>
 loadNK 2 (.k v32) zf M I i fun v35 I i =>
 bldSK 1 2 23384026197294446691655098136326997907641993265157 [(0, 2, (.k v35))] zf M m I i fun v36 M m I i =>
 appW 2 t8 v36 M m I i fun v37 M m I i =>
 adt n22 t25 295147905179352825893 fun v39 =>
 j21 t0 t1 t6 v37 t23 t24 v39 M m I i)
 (j20 t0 t1 t6 t8 M m I i)
def S46_3 (c : Y) (j20 : X8) (t0 t1 t6 t8 t23 t24 t25 M m I i : Nat) : Res :=
 lp (S46_2 c j20) (fun _ _ _ _ _ _ _ _ _ _ _ => .bad 73 0) t0 t1 t6 t8 t23 t24 t25 M m I i
def S46_4 (c : Y) (k : KF) (t0 t1 t6 t8 M m I i : Nat) : Res :=
 jn (S46_1 c k) fun j20 =>
 jn (S46_3 c j20) fun j41 =>
 slcK 1 (.k t1) (some (.k 295147905179352825925)) none none zf I i fun v43 I i =>
 ln v43 fun v44 =>
 j41 t0 t1 t6 t8 v43 v44 295147905179352825861 M m I i
def S46_5 (c : Y) (k : KF) (t0 t1 t6 M m I i : Nat) : Res :=
 jn (S46_4 c k) fun j46 =>
 j46 t0 t1 t6 11 M m I i
def S46_6 (c : Y) (k : KF) (t0 t1 M m I i : Nat) : Res :=
 jn (S46_5 c k) fun j48 =>
 ia 1 t1 295147905179352825893 fun v50 =>
 ld v50 M fun v51 =>
 c 62 [v51] M m I i fun v52 M m I i =>
 f1 19 0 v52 I fun v54 =>
 f1 19 1 v52 I fun v55 =>
 j48 t0 t1 v54 M m I i
def F46 (c : Y) (t0 t1 M m I i : Nat) (k : KF) : Res :=
 jn (S46_6 c k) fun j58 =>
 j58 t0 t1 M m I i
def g46 (c : Y) : List Nat → Nat → Nat → Nat → Nat → KF → Res := unS fun t0 => unS fun t1 => un0 (F46 c t0 t1)
def S94_1 (c : Y) (k : KF) (t0 t3 M m I i : Nat) : Res :=
 jn (fun (t3 M m I i : Nat) =>
 callS c 34 [(.k t3), (.str 3 2109216)] zf M m I i fun v2 M m I i =>
 k v2 M m I i) fun j4 =>
 jn (fun (t3 t9 t10 t11 M m I i : Nat) =>
 lp (fun (n6 : Nat) (j5 : X8) (t3 t9 t10 t11 M m I i : Nat) =>
 lt 5 t11 t10 fun v7 =>
 cnd v7 (ia 1 t9 t11 fun v8 =>
 ld v8 M fun v9 =>
 c 97 [v9] M m I i fun v13 M m I i =>
 bldSK 1 1 12 [(0, 1, (.k v13))] zf M m I i fun v14 M m I i =>
 appW 1 t3 v14 M m I i fun v15 M m I i =>
 adt n6 t11 295147905179352825893 fun v17 =>
 j5 v15 t9 t10 v17 M m I i)
 (j4 t3 M m I i)) (fun _ _ _ _ _ _ _ _ => .bad 73 0) t3 t9 t10 t11 M m I i) fun j19 =>
 ln t0 fun v21 =>
 j19 t3 t0 v21 295147905179352825861 M m I i
def S94_2 (c : Y) (k : KF) (t0 M m I i : Nat) : Res :=
 jn (S94_1 c k) fun j23 =>
 ln t0 fun v25 =>
 mkSlK 1 12 (.k 295147905179352825861) (.k v25) zf M m I i fun v26 M m I i =>
 j23 t0 v26 M m I i
def F94 (c : Y) (t0 M m I i : Nat) (k : KF) : Res :=
 jn (S94_2 c k) fun j28 =>
 j28 t0 M m I i
def g94 (c : Y) : List Nat → Nat → Nat → Nat → Nat → KF → Res := unS fun t0 => un0 (F94 c t0)
def F290 (c : Y) (t0 M m I i : Nat) (k : KF) : Res :=
 boxK 2 (.k t0) zf M m I i fun v1 M m I i =>
 fa 0 v1 fun v3 =>
 ld v3 M fun v4 =>
 eq 5 v4 295147905179352825861 fun v5 =>
 k v5 M m I i
def g290 (c : Y) : List Nat → Nat → Nat → Nat → Nat → KF → Res := unS fun t0 => un0 (F290 c t0)
def S222_1 (c : Y) (j6 : X9) (n8 : Nat) (j7 : X10) (t0 t1 t2 t3 t8 t9 M m I i : Nat) : Res :=
 lt 5 t1 t9 fun v11 =>
 jn (fun (v26 M m I i : Nat) =>
 pk v11 v26 1 fun v27 =>
 cnd v27 (sbt n8 t9 295147905179352825893 fun v32 =>
 sbt n8 t9 295147905179352825893 fun v35 =>
 ia 2 t0 v35 fun v36 =>
 loadNK 2 (.k v36) zf M I i fun v37 I i =>
 ia 2 t0 t9 fun v40 =>
 loadNK 2 (.k v40) zf M I i fun v41 I i =>
 ia 2 t0 t9 fun v42 =>
 storeK 2 (.k v42) (.k v37) zf M m I i fun _ M m I i =>
 ia 2 t0 v32 fun v43 =>
 storeK 2 (.k v43) (.k v41) zf M m I i fun _ M m I i =>
 sbt n8 t9 295147905179352825893 fun v45 =>
 j7 t0 t1 t2 t3 t8 v45 M m I i)
 (j6 t0 t1 t2 t3 t8 M m I i))
 (fun j13 => gd v11 33 (ia 2 t0 t9 fun v17 =>
 loadNK 2 (.k v17) zf M I i fun v18 I i =>
 sbt n8 t9 295147905179352825893 fun v21 =>
 ia 2 t0 v21 fun v22 =>
 loadNK 2 (.k v22) zf M I i fun v23 I i =>
 callvS c (.k t3) [(.k v18), (.k v23)] zf M m I i fun v24 M m I i =>
 lt 5 v24 295147905179352825861 fun v25 =>
 j13 v25 M m I i) (j13 0 M m I i))
def S222_2 (c : Y) (j6 : X9) (t0 t1 t2 t3 t8 t9 M m I i : Nat) : Res :=
 lp (S222_1 c j6) (fun _ _ _ _ _ _ _ _ _ _ => .bad 73 0) t0 t1 t2 t3 t8 t9 M m I i
def S222_3 (c : Y) (n2 : Nat) (j1 : X9) (t0 t1 t2 t3 t8 M m I i : Nat) : Res :=
 jn (fun (t0 t1 t2 t3 t8 M m I i : Nat) =>
 adt n2 t8 295147905179352825893 fun v4 =>
 j1 t0 t1 t2 t3 v4 M m I i) fun j6 =>
 jn (S222_2 c j6) fun j47 =>
 j47 t0 t1 t2 t3 t8 t8 M m I i
def S222_4 (c : Y) (k : KF) (n2 : Nat) (j1 : X9) (t0 t1 t2 t3 t8 M m I i : Nat) : Res :=
 jn (S222_3 c n2 j1) fun j50 =>
 lt 5 t8 t2 fun v53 =>
 cnd v53 (j50 t0 t1 t2 t3 t8 M m I i)
 (rtn 0 [] M m I i k)
def S222_5 (c : Y) (k : KF) (t0 t1 t2 t3 t8 M m I i : Nat) : Res :=
 lp (S222_4 c k) (fun _ _ _ _ _ _ _ _ _ => .bad 73 0) t0 t1 t2 t3 t8 M m I i
def F222 (c : Y) (t0 t1 t2 t3 M m I i : Nat) (k : KF) : Res :=
 jn (S222_5 c k) fun j54 =>
 ad t1 295147905179352825893 fun v56 =>
 j54 t0 t1 t2 t3 v56 M m I i
def g222 (c : Y) : List Nat → Nat → Nat → Nat → Nat → KF → Res := unS fun t0 => unS fun t1 => unS fun t2 => unS fun t3 => un0 (F222 c t0 t1 t2 t3)
def S99_1 (c : Y) (k : KF) (j5 : X5) (n7 : Nat) (j6 : X9) (t1 t7 t26 t27 t28 M m I i : Nat) : Res :=
 lt 5 t28 t27 fun v8 =>
 cnd v8 (ia 1 t26 t28 fun v9 =>
 ld v9 M fun v10 =>
 c 159 [t7, v10] M m I i fun v14 M m I i =>
 notK (.k v14) zf I i fun v15 I i =>
 cnd v15 (loadNK 2 (.k t1) zf M I i fun v16 I i =>
 c 160 [v16] M m I i fun v17 M m I i =>
 f1 19 0 v17 I fun v19 =>
 f1 19 1 v17 I fun v20 =>
 rtn 3 [11, v19, v20] M m I i k)
 (adt n7 t28 295147905179352825893 fun v28 =>
 j6 t1 t7 t26 t27 v28 M m I i))
 (j5 t7 M m I i)
def S99_2 (c : Y) (k : KF) (j5 : X5) (t1 t7 t26 t27 t28 M m I i : Nat) : Res :=
 lp (S99_1 c k j5) (fun _ _ _ _ _ _ _ _ _ => .bad 73 0) t1 t7 t26 t27 t28 M m I i
def S99_3 (c : Y) (k : KF) (t1 t5 t7 M m I i : Nat) : Res :=
 jn (fun (t7 M m I i : Nat) =>
 rtn 3 [t7, 11, 295147905179352825861] M m I i k) fun j5 =>
 jn (S99_2 c k j5) fun j30 =>
 ln t5 fun v32 =>
 j30 t1 t7 t5 v32 295147905179352825861 M m I i
def S99_4 (c : Y) (k : KF) (t1 t5 M m I i : Nat) : Res :=
 jn (S99_3 c k) fun j34 =>
 fa 0 t1 fun v35 =>
 ld v35 M fun v36 =>
 mkSlK 1 11 (.k v36) (.k v36) zf M m I i fun v37 M m I i =>
 j34 t1 t5 v37 M m I i
def S99_5 (c : Y) (k : KF) (t1 t5 t6 M m I i : Nat) : Res :=
 jn (S99_4 c k) fun j39 =>
 ne 5 t6 295147905179352825861 fun v41 =>
 cnd v41 (rtn 3 [11, 11, t6] M m I i k)
 (j39 t1 t5 M m I i)
def S99_6 (c : Y) (k : KF) (t1 M m I i : Nat) : Res :=
 jn (S99_5 c k) fun j46 =>
 loadNK 2 (.k t1) zf M I i fun v47 I i =>
 c 98 [v47] M m I i fun v48 M m I i =>
 f1 19 0 v48 I fun v50 =>
 f1 19 1 v48 I fun v51 =>
 j46 t1 v50 v51 M m I i
def S99_7 (c : Y) (k : KF) (t1 M m I i : Nat) : Res :=
 jn (S99_6 c k) fun j54 =>
 loadNK 2 (.k t1) zf M I i fun v55 I i =>
 c 37 [v55] M m I i fun v56 M m I i =>
 notK (.k v56) zf I i fun v57 I i =>
 cnd v57 (rtn 3 [11, 11, 295147905179352826501] M m I i k)
 (j54 t1 M m I i)
def F99 (c : Y) (t0 M m I i : Nat) (k : KF) : Res :=
 jn (S99_7 c k) fun j61 =>
 boxK 2 (.k t0) zf M m I i fun v62 M m I i =>
 j61 v62 M m I i
def g99 (c : Y) : List Nat → Nat → Nat → Nat → Nat → KF → Res := unS fun t0 => un0 (F99 c t0)
def F92 (c : Y) (t0 t1 t2 t3 M m I i : Nat) (k : KF) : Res :=
 boxK 2 (.k t2) zf M m I i fun v1 M m I i =>
 ne 5 t3 295147905179352825861 fun v5 =>
 cnd v5 (rtn 2 [12, t3] M m I i k)
 (nilcK (.k t0) zf I i fun v10 I i =>
 fa 1 v10 fun v11 =>
 ld v11 M fun v12 =>
 loadNK 2 (.k v1) zf M I i fun v14 I i =>
 updK .str (.k v12) (.k t1) (.k v14) zf M m I i fun _ M m I i =>
 loadNK 2 (.k v1) zf M I i fun v15 I i =>
 c 106 [v15] M m I i fun v16 M m I i =>
 rtn 2 [v16, 295147905179352825861] M m I i k)
def g92 (c : Y) : List Nat → Nat → Nat → Nat → Nat → KF → Res := unS fun t0 => unS fun t1 => unS fun t2 => unS fun t3 => un0 (F92 c t0 t1 t2 t3)
def F171 (c : Y) (t0 M m I i : Nat) (k : KF) : Res :=
 newK 2 871509787952055618708336279557 M m I i fun v1 M m I i =>
 c 212 [t0] M m I i fun v4 M m I i =>
 f1 19 0 v4 I fun v6 =>
 f1 19 1 v4 I fun v7 =>
 newK 2 871509787952055618708336279557 M m I i fun v8 M m I i =>
 storeK 2 (.k v8) (.k v6) zf M m I i fun _ M m I i =>
 ne 5 v7 295147905179352825861 fun v11 =>
 cnd v11 (buildK 2 871509787952055618708336279557 [] zf I i fun v12 I i =>
 storeK 2 (.k v1) (.k v12) zf M m I i fun _ M m I i =>
 loadNK 2 (.k v1) zf M I i fun v14 I i => rtn 2 [v14, 295147905179352832901] M m I i k)
 (loadNK 2 (.k v8) zf M I i fun v15 I i =>
 c 38 [v15] M m I i fun v16 M m I i =>
 f1 19 0 v16 I fun v18 =>
 f1 19 1 v16 I fun v19 =>
 newK 2 871509787656907713528983453707 M m I i fun v20 M m I i =>
 storeK 2 (.k v20) (.k v18) zf M m I i fun _ M m I i =>
 ne 5 v19 295147905179352825861 fun v23 =>
 jn (fun (v31 M m I i : Nat) =>
 pk v23 33 v31 fun v32 =>
 cnd v32 (buildK 2 871509787952055618708336279557 [] zf I i fun v33 I i =>
 storeK 2 (.k v1) (.k v33) zf M m I i fun _ M m I i =>
 loadNK 2 (.k v1) zf M I i fun v35 I i => rtn 2 [v35, 295147905179352832901] M m I i k)
 (loadNK 2 (.k v8) zf M I i fun v36 I i =>
 storeK 2 (.k v1) (.k v36) zf M m I i fun _ M m I i =>
 loadNK 2 (.k v1) zf M I i fun v38 I i => rtn 2 [v38, 295147905179352825861] M m I i k))
 (fun j25 => gd v23 1 (fa 0 v20 fun v26 =>
 ld v26 M fun v27 =>
 c 84 [v27, t0] M m I i fun v29 M m I i =>
 notK (.k v29) zf I i fun v30 I i =>
 j25 v30 M m I i) (j25 0 M m I i)))
def g171 (c : Y) : List Nat → Nat → Nat → Nat → Nat → KF → Res := unS fun t0 => un0 (F171 c t0)
def F57 (c : Y) (t0 t1 M m I i : Nat) (k : KF) : Res :=
 nilcK (.k t0) zf I i fun v4 I i =>
 fa 2 v4 fun v5 =>
 ld v5 M fun v6 =>
 nilcK (.k t0) zf I i fun v8 I i =>
 fa 1 v8 fun v9 =>
 ld v9 M fun v10 =>
 ia 1 t1 295147905179352825861 fun v12 =>
 ld v12 M fun v13 =>
 lookK .str false true 2 871509787952055618708336279557 (.k v10) (.k v13) zf M I i fun v14 I i =>
 c 103 [v6, v14] M m I i fun v15 M m I i =>
 f1 19 0 v15 I fun v17 =>
 f1 19 1 v15 I fun v18 =>
 f1 19 2 v15 I fun v19 =>
 ne 5 v19 295147905179352825861 fun v24 =>
 cnd v24 (rtn 2 [12, v19] M m I i k)
 (cnd v18 (c 10 [v17] M m I i fun v30 M m I i =>
 catTK (.k v30) (.str 4 544105847) zf I i fun v31 I i =>
 rtn 2 [v31, 295147905179352825861] M m I i k)
 (c 10 [v17] M m I i fun v35 M m I i =>
 catTK (.k v35) (.str 4 544173156) zf I i fun v36 I i =>
 rtn 2 [v36, 295147905179352825861] M m I i k))
def g57 (c : Y) : List Nat → Nat → Nat → Nat → Nat → KF → Res := unS fun t0 => unS fun t1 => un0 (F57 c t0 t1)
def F132 (c : Y) (t0 t1 M m I i : Nat) (k : KF) : Res :=
 ln t0 fun v3 =>
 c 191 [t0, v3, t1] M m I i fun v5 M m I i =>
 rtn 0 [] M m I i k
def g132 (c : Y) : List Nat → Nat → Nat → Nat → Nat → KF → Res := unS fun t0 => unS fun t1 => un0 (F132 c t0 t1)
def F169 (c : Y) (t0 M m I i : Nat) (k : KF) : Res :=
 nilqK false 10 10 (.k t0) zf I i fun v3 I i =>
 jn (fun (v12 M m I i : Nat) =>
 pk v3 33 v12 fun v13 =>
 k v13 M m I i)
 (fun j5 => gd v3 1 (nilcK (.k t0) zf I i fun v7 I i =>
 fa 0 v7 fun v8 =>
 ld v8 M fun v9 =>
 peqK true (.k v9) (.k t0) zf I i fun v11 I i =>
 j5 v11 M m I i) (j5 0 M m I i))
def g169 (c : Y) : List Nat → Nat → Nat → Nat → Nat → KF → Res := unS fun t0 => un0 (F169 c t0)
def S149_1 (c : Y) (k : KF) (t0 t1 M m I i : Nat) : Res :=
 jn (fun (M m I i : Nat) =>
 k 295147905179352825829 M m I i) fun j2 =>
 jn (fun (t0 t1 t7 t8 M m I i : Nat) =>
 lp (fun (n4 : Nat) (j3 : X8) (t0 t1 t7 t8 M m I i : Nat) =>
 lt 5 t8 t7 fun v5 =>
 cnd v5 (ia 1 t0 t8 fun v11 =>
 ld v11 M fun v12 =>
 callvS c (.k t1) [(.k v12)] zf M m I i fun v13 M m I i =>
 cnd v13 (k t8 M m I i)
 (adt n4 t8 295147905179352825893 fun v16 =>
 j3 t0 t1 t7 v16 M m I i))
 (j2 M m I i)) (fun _ _ _ _ _ _ _ _ => .bad 73 0) t0 t1 t7 t8 M m I i) fun j18 =>
 ln t0 fun v20 =>
 j18 t0 t1 v20 295147905179352825861 M m I i
def F149 (c : Y) (t0 t1 M m I i : Nat) (k : KF) : Res :=
 jn (S149_1 c k) fun j22 =>
 j22 t0 t1 M m I i
def g149 (c : Y) : List Nat → Nat → Nat → Nat → Nat → KF → Res := unS fun t0 => unS fun t1 => un0 (F149 c t0 t1)
def S167_1 (k : KF) (t0 t4 M m I i : Nat) : Res :=
 jn (fun (t4 M m I i : Nat) =>
 rtn 2 [t4, 295147905179352825861] M m I i k) fun j4 =>
 jn (fun (t4 t13 t14 t15 M m I i : Nat) =>
 lp (fun (n6 : Nat) (j5 : X8) (t4 t13 t14 t15 M m I i : Nat) =>
 lt 5 t15 t14 fun v7 =>
 cnd v7 (ia 1 t13 t15 fun v9 =>
 ld v9 M fun v10 =>
 ia 1 t4 v10 fun v16 =>
 storeK 1 (.k v16) (.k t15) zf M m I i fun _ M m I i =>
 adt n6 t15 295147905179352825893 fun v17 =>
 j5 t4 t13 t14 v17 M m I i)
 (j4 t4 M m I i)) (fun _ _ _ _ _ _ _ _ => .bad 73 0) t4 t13 t14 t15 M m I i) fun j19 =>
 ln t0 fun v21 =>
 j19 t4 t0 v21 295147905179352825861 M m I i
def S167_2 (k : KF) (t0 M m I i : Nat) : Res :=
 jn (S167_1 k) fun j23 =>
 ln t0 fun v25 =>
 mkSlK 1 295147905179352825861 (.k v25) (.k v25) zf M m I i fun v26 M m I i =>
 j23 t0 v26 M m I i
def S167_3 (c : Y) (k : KF) (t0 M m I i : Nat) : Res :=
 jn (S167_2 k) fun j28 =>
 c 136 [t0] M m I i fun v30 M m I i =>
 notK (.k v30) zf I i fun v31 I i =>
 cnd v31 (rtn 2 [11, 295147905179352826821] M m I i k)
 (j28 t0 M m I i)
def F167 (c : Y) (t0 M m I i : Nat) (k : KF) : Res :=
 jn (S167_3 c k) fun j34 =>
 j34 t0 M m I i
def g167 (c : Y) : List Nat → Nat → Nat → Nat → Nat → KF → Res := unS fun t0 => un0 (F167 c t0)
def S102_1 (c : Y) (k : KF) (t2 t3 M m I i : Nat) : Res :=
 loadNK 2 (.k t2) zf M I i fun v1 I i =>
 c 38 [v1] M m I i fun v2 M m I i =>
 f1 19 0 v2 I fun v4 =>
 f1 19 1 v2 I fun v5 =>
 newK 2 871509787656907713528983453707 M m I i fun v6 M m I i =>
 storeK 2 (.k v6) (.k v4) zf M m I i fun _ M m I i =>
 ne 5 v5 295147905179352825861 fun v9 =>
 cnd v9 (rtn 2 [11, v5] M m I i k)
 (loadNK 2 (.k t3) zf M I i fun v13 I i =>
 c 38 [v13] M m I i fun v14 M m I i =>
 f1 19 0 v14 I fun v16 =>
 f1 19 1 v14 I fun v17 =>
 newK 2 871509787656907713528983453707 M m I i fun v18 M m I i =>
 storeK 2 (.k v18) (.k v16) zf M m I i fun _ M m I i =>
 ne 5 v17 295147905179352825861 fun v21 =>
 cnd v21 (rtn 2 [11, v17] M m I i k)
 (fa 0 v6 fun v25 =>
 ld v25 M fun v26 =>
 fa 0 v18 fun v27 =>
 ld v27 M fun v28 =>
 c 84 [v26, v28] M m I i fun v29 M m I i =>
 notK (.k v29) zf I i fun v30 I i =>
 cnd v30 (rtn 2 [11, 295147905179352833221] M m I i k)
 (fa 1 v18 fun v33 =>
 ld v33 M fun v34 =>
 c 167 [v34] M m I i fun v35 M m I i =>
 f1 19 0 v35 I fun v37 =>
 f1 19 1 v35 I fun v38 =>
 ne 5 v38 295147905179352825861 fun v42 =>
 cnd v42 (rtn 2 [11, v38] M m I i k)
 (fa 1 v6 fun v46 =>
 ld v46 M fun v47 =>
 c 168 [v47, v37] M m I i fun v49 M m I i =>
 f1 19 0 v49 I fun v50 =>
 f1 19 1 v49 I fun v51 =>
 rtn 2 [v50, v51] M m I i k))))
def S102_2 (c : Y) (k : KF) (t2 t3 M m I i : Nat) : Res :=
 jn (S102_1 c k) fun j54 =>
 loadNK 2 (.k t2) zf M I i fun v55 I i =>
 loadNK 2 (.k t3) zf M I i fun v56 I i =>
 bldSK 2 2 871509787952055618708336279557 [(0, 2, (.k v55)), (2, 2, (.k v56))] zf M m I i fun v57 M m I i =>
 c 166 [1198, v57] M m I i fun v58 M m I i =>
 notK (.k v58) zf I i fun v59 I i =>
 cnd v59 (rtn 2 [11, 295147905179352826501] M m I i k)
 (j54 t2 t3 M m I i)
def F102 (c : Y) (t0 t1 M m I i : Nat) (k : KF) : Res :=
 jn (S102_2 c k) fun j62 =>
 boxK 2 (.k t0) zf M m I i fun v63 M m I i =>
 boxK 2 (.k t1) zf M m I i fun v64 M m I i =>
 j62 v63 v64 M m I i
def g102 (c : Y) : List Nat → Nat → Nat → Nat → Nat → KF → Res := unS fun t0 => unS fun t1 => un0 (F102 c t0 t1)
def F106 (c : Y) (t0 M m I i : Nat) (k : KF) : Res :=
 boxK 2 (.k t0) zf M m I i fun v1 M m I i =>
 fa 0 v1 fun v3 =>
 ld v3 M fun v4 =>
 fa 1 v1 fun v5 =>
 ld v5 M fun v6 =>
 ln v6 fun v7 =>
 bldSK 2 1 295147905179352825861 [(0, 1, (.k v4)), (1, 1, (.k v7))] zf M m I i fun v8 M m I i =>
 c 97 [v8] M m I i fun v9 M m I i =>
 k v9 M m I i
def g106 (c : Y) : List Nat → Nat → Nat → Nat → Nat → KF → Res := unS fun t0 => un0 (F106 c t0)
def S105_1 (c : Y) (k : KF) (t0 t1 t4 M m I i : Nat) : Res :=
 nilcK (.k t0) zf I i fun v2 I i =>
 fa 2 v2 fun v3 =>
 ld v3 M fun v4 =>
 sb t1 295147905179352825893 fun v6 =>
 ia 1 v4 v6 fun v7 =>
 ld v7 M fun v8 =>
 toBytesK (.k v8) zf M m I i fun v9 M m I i =>
 c 171 [v9] M m I i fun v10 M m I i =>
 f1 19 0 v10 I fun v12 =>
 f1 19 1 v10 I fun v13 =>
 newK 2 871509787952055618708336279557 M m I i fun v14 M m I i =>
 storeK 2 (.k v14) (.k v12) zf M m I i fun _ M m I i =>
 ne 5 v13 295147905179352825861 fun v17 =>
 cnd v17 (buildK 2 871509787952055618708336279557 [] zf I i fun v18 I i =>
 storeK 2 (.k t4) (.k v18) zf M m I i fun _ M m I i =>
 loadNK 2 (.k t4) zf M I i fun v21 I i => rtn 3 [v21, 295147905179352825861, 1] M m I i k)
 (loadNK 2 (.k v14) zf M I i fun v22 I i =>
 nilcK (.k t0) zf I i fun v24 I i =>
 fa 3 v24 fun v25 =>
 ld v25 M fun v26 =>
 sb t1 295147905179352825893 fun v28 =>
 ia 1 v26 v28 fun v29 =>
 ld v29 M fun v30 =>
 storeK 2 (.k t4) (.k v22) zf M m I i fun _ M31 m I i =>
 flL v25 1 M M31 <| flL v29 1 M M31 <| 
 loadNK 2 (.k t4) zf M31 I i fun v34 I i => rtn 3 [v34, v30, 33] M31 m I i k)
def S105_2 (c : Y) (k : KF) (t0 t1 t4 M m I i : Nat) : Res :=
 jn (S105_1 c k) fun j35 =>
 c 169 [t0] M m I i fun v37 M m I i =>
 jn (fun (v42 : Nat) =>
 pk v37 33 v42 fun v43 =>
 jn (fun (v53 M m I i : Nat) =>
 pk v43 33 v53 fun v54 =>
 cnd v54 (buildK 2 871509787952055618708336279557 [] zf I i fun v55 I i =>
 storeK 2 (.k t4) (.k v55) zf M m I i fun _ M m I i =>
 loadNK 2 (.k t4) zf M I i fun v58 I i => rtn 3 [v58, 295147905179352825861, 1] M m I i k)
 (j35 t0 t1 t4 M m I i))
 (fun j45 => gd v43 1 (nilcK (.k t0) zf I i fun v48 I i =>
 fa 2 v48 fun v49 =>
 ld v49 M fun v50 =>
 ln v50 fun v51 =>
 lt 5 v51 t1 fun v52 =>
 j45 v52 M m I i) (j45 0 M m I i)))
 (fun j39 => gd v37 1 (lt 5 t1 295147905179352825893 fun v41 =>
 j39 v41) (j39 0))
def F105 (c : Y) (t0 t1 M m I i : Nat) (k : KF) : Res :=
 jn (S105_2 c k) fun j59 =>
 newK 2 871509787952055618708336279557 M m I i fun v60 M m I i =>
 j59 t0 t1 v60 M m I i
def g105 (c : Y) : List Nat → Nat → Nat → Nat → Nat → KF → Res := unS fun t0 => unS fun t1 => un0 (F105 c t0 t1)
def F249 (c : Y) (t0 M m I i : Nat) (k : KF) : Res :=
 c 283 [t0] M m I i fun v3 M m I i =>
 c 140 [v3] M m I i fun v6 M m I i =>
 k v3 M m I i
def g249 (c : Y) : List Nat → Nat → Nat → Nat → Nat → KF → Res := unS fun t0 => un0 (F249 c t0)
def S108_1 (c : Y) (j3 : X5) (n5 : Nat) (j4 : X9) (t0 t3 t18 t19 t20 M m I i : Nat) : Res :=
 lt 5 t20 t19 fun v6 =>
 cnd v6 (ia 1 t18 t20 fun v8 =>
 ld v8 M fun v9 =>
 nilcK (.k t0) zf I i fun v14 I i =>
 fa 3 v14 fun v15 =>
 ld v15 M fun v16 =>
 ia 1 v16 t20 fun v18 =>
 ld v18 M fun v19 =>
 lenTK (.k v9) zf I i fun v21 I i =>
 bldSK 2 1 295147905179352825861 [(0, 1, (.k v19)), (1, 1, (.k v21))] zf M m I i fun v22 M m I i =>
 c 173 [v22] M m I i fun v23 M m I i =>
 appW 1 t3 v23 M m I i fun v24 M m I i =>
 appTW v24 v9 M m I i fun v28 M m I i =>
 adt n5 t20 295147905179352825893 fun v30 =>
 j4 t0 v28 t18 t19 v30 M m I i)
 (j3 t3 M m I i)
def S108_2 (c : Y) (j3 : X5) (t0 t3 t18 t19 t20 M m I i : Nat) : Res :=
 lp (S108_1 c j3) (fun _ _ _ _ _ _ _ _ _ => .bad 73 0) t0 t3 t18 t19 t20 M m I i
def S108_3 (c : Y) (k : KF) (t0 t3 M m I i : Nat) : Res :=
 jn (fun (t3 M m I i : Nat) =>
 k t3 M m I i) fun j3 =>
 jn (S108_2 c j3) fun j32 =>
 nilcK (.k t0) zf I i fun v34 I i =>
 fa 2 v34 fun v35 =>
 ld v35 M fun v36 =>
 ln v36 fun v37 =>
 j32 t0 t3 v36 v37 295147905179352825861 M m I i
def S108_4 (c : Y) (k : KF) (t0 M m I i : Nat) : Res :=
 jn (S108_3 c k) fun j39 =>
 nilcK (.k t0) zf I i fun v41 I i =>
 fa 2 v41 fun v42 =>
 ld v42 M fun v43 =>
 ln v43 fun v44 =>
 bldSK 1 1 295147905179352825861 [(0, 1, (.k v44))] zf M m I i fun v45 M m I i =>
 c 173 [v45] M m I i fun v46 M m I i =>
 j39 t0 v46 M m I i
def S108_5 (c : Y) (k : KF) (t0 M m I i : Nat) : Res :=
 jn (S108_4 c k) fun j48 =>
 c 169 [t0] M m I i fun v50 M m I i =>
 cnd v50 (k 11 M m I i)
 (j48 t0 M m I i)
def F108 (c : Y) (t0 M m I i : Nat) (k : KF) : Res :=
 jn (S108_5 c k) fun j52 =>
 j52 t0 M m I i
def g108 (c : Y) : List Nat → Nat → Nat → Nat → Nat → KF → Res := unS fun t0 => un0 (F108 c t0)
def F51 (c : Y) (t0 t1 M m I i : Nat) (k : KF) : Res :=
 nilcK (.k t0) zf I i fun v4 I i =>
 fa 1 v4 fun v5 =>
 ld v5 M fun v6 =>
 ia 1 t1 295147905179352825861 fun v8 =>
 ld v8 M fun v9 =>
 lookK .str false true 2 871509787952055618708336279557 (.k v6) (.k v9) zf M I i fun v10 I i =>
 c 96 [v10] M m I i fun v11 M m I i =>
 f1 19 0 v11 I fun v13 =>
 f1 19 1 v11 I fun v14 =>
 ne 5 v14 295147905179352825861 fun v18 =>
 cnd v18 (rtn 2 [12, v14] M m I i k)
 (c 97 [v13] M m I i fun v23 M m I i =>
 rtn 2 [v23, 295147905179352825861] M m I i k)
def g51 (c : Y) : List Nat → Nat → Nat → Nat → Nat → KF → Res := unS fun t0 => unS fun t1 => un0 (F51 c t0 t1)
def F93 (c : Y) (t0 t1 t2 M m I i : Nat) (k : KF) : Res :=
 boxK 2 (.k t0) zf M m I i fun v1 M m I i =>
 loadNK 2 (.k v1) zf M I i fun v3 I i =>
 c 37 [v3] M m I i fun v4 M m I i =>
 notK (.k v4) zf I i fun v5 I i =>
 cnd v5 (k 1 M m I i)
 (fa 1 v1 fun v7 =>
 ld v7 M fun v8 =>
 minK false 5 (.k t1) (.k t2) zf I i fun v11 I i =>
 minK true 5 (.k t1) (.k t2) zf I i fun v14 I i =>
 buildK 2 23384026197294446691655098136326997907641993265157 [(0, 1, (.k v11)), (1, 1, (.k v14))] zf I i fun v15 I i =>
 c 154 [v8, v15, 1166] M m I i fun v16 M m I i =>
 f1 19 0 v16 I fun v18 =>
 f1 19 1 v16 I fun v19 =>
 k v19 M m I i)
def g93 (c : Y) : List Nat → Nat → Nat → Nat → Nat → KF → Res := unS fun t0 => unS fun t1 => unS fun t2 => un0 (F93 c t0 t1 t2)
def S53_1 (c : Y) (j4 : X5) (n6 : Nat) (j5 : X8) (t11 t49 t50 t51 M m I i : Nat) : Res :=
 lt 5 t51 t50 fun v7 =>
 cnd v7 (ia 2 t49 t51 fun v8 =>
 loadNK 2 (.k v8) zf M I i fun v9 I i =>
 newK 2 23384026197294446691655098136326997907641993265157 M m I i fun v10 M m I i =>
 storeK 2 (.k v10) (.k v9) zf M m I i fun _ M m I i =>
 iadrAK 2 1 (.k v10) (.k 295147905179352825861) zf I i fun v12 I i =>
 ld v12 M fun v13 =>
 iadrAK 2 1 (.k v10) (.k 295147905179352825893) zf I i fun v14 I i =>
 ld v14 M fun v15 =>
 c 10 [v13] M m I i fun v17 M16 m I i =>
 flL v14 1 M M16 <| 
 catTK (.str 1 32) (.k v17) zf I i fun v18 I i =>
 catTK (.k v18) (.str 1 45) zf I i fun v19 I i =>
 c 10 [v15] M16 m I i fun v20 M m I i =>
 catTK (.k v19) (.k v20) zf I i fun v21 I i =>
 catTK (.k t11) (.k v21) zf I i fun v22 I i =>
 adt n6 t51 295147905179352825893 fun v24 =>
 j5 v22 t49 t50 v24 M m I i)
 (j4 t11 M m I i)
def S53_2 (c : Y) (j4 : X5) (t11 t49 t50 t51 M m I i : Nat) : Res :=
 lp (S53_1 c j4) (fun _ _ _ _ _ _ _ _ => .bad 73 0) t11 t49 t50 t51 M m I i
def S53_3 (c : Y) (k : KF) (t7 t11 M m I i : Nat) : Res :=
 jn (fun (t11 M m I i : Nat) =>
 rtn 2 [t11, 295147905179352825861] M m I i k) fun j4 =>
 jn (S53_2 c j4) fun j26 =>
 ln t7 fun v28 =>
 j26 t11 t7 v28 295147905179352825861 M m I i
def S53_4 (c : Y) (k : KF) (t7 M m I i : Nat) : Res :=
 jn (S53_3 c k) fun j30 =>
 c 101 [t7] M m I i fun v32 M m I i =>
 c 10 [v32] M m I i fun v33 M m I i =>
 catTK (.str 6 128056219104288) (.k v33) zf I i fun v34 I i =>
 j30 t7 v34 M m I i
def S53_5 (c : Y) (k : KF) (t6 t7 M m I i : Nat) : Res :=
 jn (S53_4 c k) fun j36 =>
 ln t7 fun v38 =>
 eq 5 v38 295147905179352825861 fun v39 =>
 cnd v39 (c 100 [t6] M m I i fun v41 M m I i =>
 f1 19 0 v41 I fun v43 =>
 f1 19 1 v41 I fun v44 =>
 ne 5 v44 295147905179352825861 fun v48 =>
 cnd v48 (rtn 2 [12, v44] M m I i k)
 (ln v43 fun v53 =>
 c 10 [v53] M m I i fun v54 M m I i =>
 catTK (.str 6 123610793403680) (.k v54) zf I i fun v55 I i =>
 rtn 2 [v55, 295147905179352825861] M m I i k))
 (j36 t7 M m I i)
def S53_6 (c : Y) (k : KF) (t6 t7 t8 M m I i : Nat) : Res :=
 jn (S53_5 c k) fun j58 =>
 ne 5 t8 295147905179352825861 fun v60 =>
 cnd v60 (rtn 2 [12, t8] M m I i k)
 (j58 t6 t7 M m I i)
def S53_7 (c : Y) (k : KF) (t0 t1 M m I i : Nat) : Res :=
 jn (S53_6 c k) fun j64 =>
 nilcK (.k t0) zf I i fun v66 I i =>
 fa 1 v66 fun v67 =>
 ld v67 M fun v68 =>
 ia 1 t1 295147905179352825861 fun v70 =>
 ld v70 M fun v71 =>
 lookK .str false true 2 871509787952055618708336279557 (.k v68) (.k v71) zf M I i fun v72 I i =>
 c 99 [v72] M m I i fun v73 M m I i =>
 f1 19 0 v73 I fun v75 =>
 f1 19 1 v73 I fun v76 =>
 f1 19 2 v73 I fun v77 =>
 j64 v75 v76 v77 M m I i
def F53 (c : Y) (t0 t1 M m I i : Nat) (k : KF) : Res :=
 jn (S53_7 c k) fun j81 =>
 j81 t0 t1 M m I i
def g53 (c : Y) : List Nat → Nat → Nat → Nat → Nat → KF → Res := unS fun t0 => unS fun t1 => un0 (F53 c t0 t1)
def F81 (c : Y) (t0 t1 M m I i : Nat) (k : KF) : Res :=
 c 149 [t0, t1] M m I i fun v4 M m I i =>
 ge 5 v4 295147905179352825861 fun v5 =>
 k v5 M m I i
def g81 (c : Y) : List Nat → Nat → Nat → Nat → Nat → KF → Res := unS fun t0 => unS fun t1 => un0 (F81 c t0 t1)
def F59 (c : Y) (t0 t1 M m I i : Nat) (k : KF) : Res :=
 ia 1 t1 295147905179352825861 fun v4 =>
 ld v4 M fun v5 =>
 c 62 [v5] M m I i fun v6 M m I i =>
 f1 19 0 v6 I fun v8 =>
 f1 19 1 v6 I fun v9 =>
 nilcK (.k t0) zf I i fun v13 I i =>
 fa 2 v13 fun v14 =>
 ld v14 M fun v15 =>
 c 105 [v15, v8] M m I i fun v17 M m I i =>
 f1 19 0 v17 I fun v19 =>
 f1 19 1 v17 I fun v20 =>
 f1 19 2 v17 I fun v21 =>
 newK 2 871509787952055618708336279557 M m I i fun v22 M m I i =>
 storeK 2 (.k v22) (.k v19) zf M m I i fun _ M m I i =>
 notK (.k v21) zf I i fun v26 I i =>
 cnd v26 (rtn 2 [12, 295147905179352825925] M m I i k)
 (loadNK 2 (.k v22) zf M I i fun v30 I i =>
 c 10 [v20] M m I i fun v32 M31 m I i =>
 flL v22 2 M M31 <| 
 catTK (.k v32) (.str 1 32) zf I i fun v33 I i =>
 c 106 [v30] M31 m I i fun v34 M m I i =>
 catTK (.k v33) (.k v34) zf I i fun v35 I i =>
 rtn 2 [v35, 295147905179352825861] M m I i k)
def g59 (c : Y) : List Nat → Nat → Nat → Nat → Nat → KF → Res := unS fun t0 => unS fun t1 => un0 (F59 c t0 t1)
def F283 (c : Y) (t0 M m I i : Nat) (k : KF) : Res :=
 c 305 [11, t0] M m I i fun v3 M m I i =>
 k v3 M m I i
def g283 (c : Y) : List Nat → Nat → Nat → Nat → Nat → KF → Res := unS fun t0 => un0 (F283 c t0)
def F54 (c : Y) (t0 t1 M m I i : Nat) (k : KF) : Res :=
 nilcK (.k t0) zf I i fun v4 I i =>
 fa 1 v4 fun v5 =>
 ld v5 M fun v6 =>
 ia 1 t1 295147905179352825861 fun v8 =>
 ld v8 M fun v9 =>
 lookK .str false true 2 871509787952055618708336279557 (.k v6) (.k v9) zf M I i fun v10 I i =>
 nilcK (.k t0) zf I i fun v12 I i =>
 fa 1 v12 fun v13 =>
 ld v13 M fun v14 =>
 ia 1 t1 295147905179352825893 fun v16 =>
 ld v16 M fun v17 =>
 lookK .str false true 2 871509787952055618708336279557 (.k v14) (.k v17) zf M I i fun v18 I i =>
 c 102 [v10, v18] M m I i fun v19 M m I i =>
 f1 19 0 v19 I fun v21 =>
 f1 19 1 v19 I fun v22 =>
 eq 5 v22 295147905179352825861 fun v26 =>
 cnd v26 (opdK (.str 3 7955827) zf I i fun v28 I i =>
 rtn 2 [v28, 295147905179352825861] M m I i k)
 (eq 5 v22 295147905179352833221 fun v30 =>
 cnd v30 (opdK (.str 2 28271) zf I i fun v32 I i =>
 rtn 2 [v32, 295147905179352825861] M m I i k)
 (rtn 2 [12, v22] M m I i k))
def g54 (c : Y) : List Nat → Nat → Nat → Nat → Nat → KF → Res := unS fun t0 => unS fun t1 => un0 (F54 c t0 t1)
def S251_1 (c : Y) (k : KF) (t0 t1 M m I i : Nat) : Res :=
 jn (fun (M m I i : Nat) =>
 k 295147905179352825829 M m I i) fun j2 =>
 jn (fun (t0 t1 t7 t8 M m I i : Nat) =>
 lp (fun (n4 : Nat) (j3 : X8) (t0 t1 t7 t8 M m I i : Nat) =>
 lt 5 t8 t7 fun v5 =>
 cnd v5 (ia 2 t0 t8 fun v11 =>
 loadNK 2 (.k v11) zf M I i fun v12 I i =>
 callvS c (.k t1) [(.k v12)] zf M m I i fun v13 M m I i =>
 cnd v13 (k t8 M m I i)
 (adt n4 t8 295147905179352825893 fun v16 =>
 j3 t0 t1 t7 v16 M m I i))
 (j2 M m I i)) (fun _ _ _ _ _ _ _ _ => .bad 73 0) t0 t1 t7 t8 M m I i) fun j18 =>
 ln t0 fun v20 =>
 j18 t0 t1 v20 295147905179352825861 M m I i
def F251 (c : Y) (t0 t1 M m I i : Nat) (k : KF) : Res :=
 jn (S251_1 c k) fun j22 =>
 j22 t0 t1 M m I i
def g251 (c : Y) : List Nat → Nat → Nat → Nat → Nat → KF → Res := unS fun t0 => unS fun t1 => un0 (F251 c t0 t1)
def F44 (c : Y) (t0 M m I i : Nat) (k : KF) : Res :=
 mkMapK M m I i fun v3 M m I i =>
 buildK 5 512226080553128229759627521307337535066544263579760011413011891615412038202834050970577504488041815557515598024933386 [(1, 1, (.k t0)), (4, 1, (.k v3))] zf I i fun v4 I i =>
 boxK 5 (.k v4) zf M m I i fun v5 M m I i =>
 nilcK (.k v5) zf I i fun v9 I i =>
 fa 0 v9 fun v10 =>
 storeK 1 (.k v10) (.k v5) zf M m I i fun _ M m I i =>
 k v5 M m I i
def g44 (c : Y) : List Nat → Nat → Nat → Nat → Nat → KF → Res := unS fun t0 => un0 (F44 c t0)
def F60 (c : Y) (t0 t1 M m I i : Nat) (k : KF) : Res :=
 nilcK (.k t0) zf I i fun v4 I i =>
 fa 2 v4 fun v5 =>
 ld v5 M fun v6 =>
 c 108 [v6] M m I i fun v7 M m I i =>
 c 107 [295147905179352857861, v7] M m I i fun v8 M m I i =>
 f1 19 0 v8 I fun v10 =>
 f1 19 1 v8 I fun v11 =>
 ne 5 v11 295147905179352825861 fun v15 =>
 cnd v15 (rtn 2 [12, v11] M m I i k)
 (nilcK (.k t0) zf I i fun v21 I i =>
 fa 2 v21 fun v22 =>
 storeK 1 (.k v22) (.k v10) zf M m I i fun _ M m I i =>
 c 109 [v10] M m I i fun v24 M m I i =>
 c 10 [v24] M m I i fun v25 M m I i =>
 rtn 2 [v25, 295147905179352825861] M m I i k)
def g60 (c : Y) : List Nat → Nat → Nat → Nat → Nat → KF → Res := unS fun t0 => unS fun t1 => un0 (F60 c t0 t1)
def F55 (c : Y) (t0 t1 M m I i : Nat) (k : KF) : Res :=
 nilcK (.k t0) zf I i fun v4 I i =>
 fa 1 v4 fun v5 =>
 ld v5 M fun v6 =>
 ia 1 t1 295147905179352825861 fun v8 =>
 ld v8 M fun v9 =>
 lookK .str false true 2 871509787952055618708336279557 (.k v6) (.k v9) zf M I i fun v10 I i =>
 newK 2 871509787656907713528983453707 M m I i fun v11 M m I i =>
 c 15 [v10] M m I i fun v12 M m I i =>
 f1 19 0 v12 I fun v14 =>
 f1 19 1 v12 I fun v15 =>
 storeK 2 (.k v11) (.k v14) zf M m I i fun _ M m I i =>
 ne 5 v15 295147905179352825861 fun v18 =>
 cnd v18 (rtn 2 [12, v15] M m I i k)
 (loadNK 2 (.k v11) zf M I i fun v22 I i =>
 c 16 [v22] M m I i fun v23 M m I i =>
 rtn 2 [v23, 295147905179352825861] M m I i k)
def g55 (c : Y) : List Nat → Nat → Nat → Nat → Nat → KF → Res := unS fun t0 => unS fun t1 => un0 (F55 c t0 t1)
def F250 (c : Y) (t0 M m I i : Nat) (k : KF) : Res :=
 boxK 1 (.k t0) zf M m I i fun v1 M m I i =>
 mkfK 284 1 [(.k v1)] zf I i fun v3 I i =>
 k v3 M m I i
def g250 (c : Y) : List Nat → Nat → Nat → Nat → Nat → KF → Res := unS fun t0 => un0 (F250 c t0)
def F56 (c : Y) (t0 t1 M m I i : Nat) (k : KF) : Res :=
 nilcK (.k t0) zf I i fun v4 I i =>
 fa 1 v4 fun v5 =>
 ld v5 M fun v6 =>
 ia 1 t1 295147905179352825861 fun v8 =>
 ld v8 M fun v9 =>
 lookK .str false true 2 871509787952055618708336279557 (.k v6) (.k v9) zf M I i fun v10 I i =>
 c 17 [v10] M m I i fun v11 M m I i =>
 f1 19 0 v11 I fun v13 =>
 f1 19 1 v11 I fun v14 =>
 ne 5 v14 295147905179352825861 fun v18 =>
 cnd v18 (rtn 2 [12, v14] M m I i k)
 (c 94 [v13] M m I i fun v23 M m I i =>
 rtn 2 [v23, 295147905179352825861] M m I i k)
def g56 (c : Y) : List Nat → Nat → Nat → Nat → Nat → KF → Res := unS fun t0 => unS fun t1 => un0 (F56 c t0 t1)
def F7 (c : Y) (M m I i : Nat) (k : KF) : Res :=
 c 20 [295147905179352857861] M m I i fun v2 M m I i =>
 f1 19 0 v2 I fun v4 =>
 f1 19 1 v2 I fun v5 =>
 mkMapK M m I i fun v8 M m I i =>
 buildK 3 62771017353866807638357894233106630273708990833356416483338 [(1, 1, (.k v8)), (2, 1, (.k v4))] zf I i fun v10 I i =>
 boxK 3 (.k v10) zf M m I i fun v11 M m I i =>
 nilcK (.k v11) zf I i fun v15 I i =>
 fa 0 v15 fun v16 =>
 storeK 1 (.k v16) (.k v11) zf M m I i fun _ M m I i =>
 k v11 M m I i
def g7 (c : Y) : List Nat → Nat → Nat → Nat → Nat → KF → Res := un0 (F7 c)
def F82 (c : Y) (t0 t1 t2 M m I i : Nat) (k : KF) : Res :=
 ld t1 M fun v2 =>
 ld t1 M fun v4 =>
 ld t2 M fun v5 =>
 callvS c (.k v2) [(.k t0)] zf M m I i fun v7 M6 m I i =>
 flL t1 1 M M6 <| flL t2 1 M M6 <| 
 callvS c (.k v4) [(.k v5)] zf M6 m I i fun v8 M m I i =>
 eq 5 v7 v8 fun v9 =>
 k v9 M m I i
def g82 (c : Y) : List Nat → Nat → Nat → Nat → Nat → KF → Res := unS fun t0 => unS fun t1 => unS fun t2 => un0 (F82 c t0 t1 t2)
def F211 (c : Y) (t0 t1 M m I i : Nat) (k : KF) : Res :=
 boxK 2 (.k t0) zf M m I i fun v1 M m I i =>
 ld t1 M fun v3 =>
 loadNK 2 (.k v1) zf M I i fun v4 I i =>
 callvS c (.k v3) [(.k v4)] zf M m I i fun v5 M m I i =>
 notK (.k v5) zf I i fun v6 I i =>
 k v6 M m I i
def g211 (c : Y) : List Nat → Nat → Nat → Nat → Nat → KF → Res := unS fun t0 => unS fun t1 => un0 (F211 c t0 t1)
def F50 (c : Y) (t0 t1 M m I i : Nat) (k : KF) : Res :=
 nilcK (.k t0) zf I i fun v4 I i =>
 fa 1 v4 fun v5 =>
 ld v5 M fun v6 =>
 ia 1 t1 295147905179352825861 fun v8 =>
 ld v8 M fun v9 =>
 lookK .str false true 2 871509787952055618708336279557 (.k v6) (.k v9) zf M I i fun v10 I i =>
 c 95 [v10] M m I i fun v11 M m I i =>
 c 94 [v11] M m I i fun v12 M m I i =>
 rtn 2 [v12, 295147905179352825861] M m I i k
def g50 (c : Y) : List Nat → Nat → Nat → Nat → Nat → KF → Res := unS fun t0 => unS fun t1 => un0 (F50 c t0 t1)
def F20 (c : Y) (t0 M m I i : Nat) (k : KF) : Res :=
 lt 5 t0 295147905179352825861 fun v4 =>
 jn (fun (v9 : Nat) =>
 pk v4 33 v9 fun v10 =>
 cnd v10 (rtn 2 [10, 295147905179352825925] M m I i k)
 (c 44 [t0] M m I i fun v14 M m I i =>
 rtn 2 [v14, 295147905179352825861] M m I i k))
 (fun j6 => gd v4 1 (lt 5 295147905179352857861 t0 fun v8 =>
 j6 v8) (j6 0))
def g20 (c : Y) : List Nat → Nat → Nat → Nat → Nat → KF → Res := unS fun t0 => un0 (F20 c t0)
def F285 (c : Y) (t0 M m I i : Nat) (k : KF) : Res :=
 idxTK (.str 256 1009908366030920802889204053914349816886264792537935137390627212809419292851612725162638587149310909513912026774176607665251976761311475980416993924351973126201396291323793036547124074403494456790243469075529836176201595847276450986124135587944462035131756337983917326774503943708474743244281377240195778607449958885965783919780443098933791762056774786255941074979280675510415474662715496681163134464590270909281321704577448350178055896824237604581397333061780453352213203541154054612778372380398461541671743972045891829713094188892289810494901740380708009884395947381450750195054038905052374670043923756848664019200) (.k t0) zf I i fun v3 I i =>
 convK .u8 .i64 (.k v3) zf I i fun v4 I i =>
 k v4 M m I i
def g285 (c : Y) : List Nat → Nat → Nat → Nat → Nat → KF → Res := unS fun t0 => un0 (F285 c t0)
def F109 (c : Y) (t0 M m I i : Nat) (k : KF) : Res :=
 c 169 [t0] M m I i fun v3 M m I i =>
 cnd v3 (k 295147905179352825861 M m I i)
 (nilcK (.k t0) zf I i fun v6 I i =>
 fa 2 v6 fun v7 =>
 ld v7 M fun v8 =>
 ln v8 fun v9 =>
 k v9 M m I i)
def g109 (c : Y) : List Nat → Nat → Nat → Nat → Nat → KF → Res := unS fun t0 => un0 (F109 c t0)
def F166 (c : Y) (t0 t1 M m I i : Nat) (k : KF) : Res :=
 boxK 1 (.k t0) zf M m I i fun v1 M m I i =>
 mkfK 211 1 [(.k v1)] zf I i fun v4 I i =>
 c 210 [t1, v4] M m I i fun v5 M m I i =>
 notK (.k v5) zf I i fun v6 I i =>
 k v6 M m I i
def g166 (c : Y) : List Nat → Nat → Nat → Nat → Nat → KF → Res := unS fun t0 => unS fun t1 => un0 (F166 c t0 t1)
def F210 (c : Y) (t0 t1 M m I i : Nat) (k : KF) : Res :=
 c 251 [t0, t1] M m I i fun v4 M m I i =>
 ge 5 v4 295147905179352825861 fun v5 =>
 k v5 M m I i
def g210 (c : Y) : List Nat → Nat → Nat → Nat → Nat → KF → Res := unS fun t0 => unS fun t1 => un0 (F210 c t0 t1)
end
end Go.Proofs.YtpjhkpmmbeoghaaGreatDoor.Ev
