/- Part 2 of the proof: definitions and lemmas that the last text builds on. -/
import Derived.Test.YtndanmhgbfjinaaQd1
import Derived.Test.YtndanmhgbfjinaaProg
import Derived.IntWalk
import Derived.ProofKit
set_option linter.all false
set_option linter.unusedVariables false
set_option linter.unusedSimpArgs false
set_option maxRecDepth 100000
namespace Go.Proofs.Ytndanmhgbfjinaa
open Go Go.Sl
def S2 (P : Program) (K : Value → Asn) : Asn :=
 Cl P 1 [] fun v1 =>
 K (.tuple #[])
theorem s2 (K : Value → Asn) : vc Try.prog .leaf (Try.f2.body.getD .skip) (Sl.start []) (kret Try.prog Try.f2.results.toList K) (fun _ _ => no) (kret Try.prog Try.f2.results.toList K) = S2 Try.prog  K := by kernel_rfl
theorem e2 {K : Value → Asn} {h : PH} (s : S2 Try.prog  K h) : Cl Try.prog 2 [] K h := cl_of_vc Try.func2 rfl rfl rfl (by kernel_rfl) ((s2  K) ▸ s)
def S3 (P : Program) (a0 a1 : Value) (K : Value → Asn) : Asn :=
 Cl P 7 [] fun v1 =>
 O (notV v1) fun v2 =>
 VB v2
 (K (.bool false))
 (O (aggO (bldV [(.int .i64 0), (.int .i64 0), (.int .i64 0)] [(0, 1, (.int .i64 100)), (1, 1, (.int .i64 100)), (2, 1, (.int .i64 1000))])) fun v3 =>
 Cl P 8 [v3] fun v4 =>
 O ((nilEq .p v4 (.pointer none)).map .bool) fun v5 =>
 VB v5
 (K (.bool false))
 (O (binV .and a1 (.int .i64 65535)) fun v6 =>
 NwM fun v7 =>
 VL [(.int .i64 0)] (fun x9 j10 k8 =>
 VJ (fun k11 =>
 O (lenL a0) fun v14 =>
 O (binV .lss (nth x9 0) v14) fun v15 =>
 VB v15
 (O (binV .lss (nth x9 0) (.int .i64 40)) fun v16 =>
 k11 [v16])
 (k11 [(.bool false)]))
 (fun x12 j13 =>
 VB (nth x12 0)
 (O (idxV 1 a0 (nth x9 0)) fun v17 =>
 Ld none v17 fun v18 =>
 O (aggO (bldV [(.int .i64 0), (.int .i64 0)] [(1, 1, (.int .i64 1))])) fun v19 =>
 O (idxV 1 a0 (nth x9 0)) fun v20 =>
 Ld none v20 fun v21 =>
 O (cvV .u8 v21) fun v22 =>
 BS 5 (bldV (rep [(.int .u8 0)] 1) [(0 * 1, 1, v22)]) 1 fun v23 =>
 Rd P (convert 35 9 v23) fun v24 =>
 Cl P 9 [v4, v18, v19, v24, v6] fun v25 =>
 Nw 30 [(.int .i64 0), (.slice none 0 0)] ptr fun v26 =>
 St 2 v26 v25 fun v27 =>
 VJ (fun k28 =>
 O (idxV 1 a0 (nth x9 0)) fun v31 =>
 Ld none v31 fun v32 =>
 Rd P (Instr.lookup 28 v7 v32 false) fun v33 =>
 O (addV 0 v26) fun v34 =>
 Ld none v34 fun v35 =>
 O (binV .eql v35 (.int .i64 3)) fun v36 =>
 O ((nilEq .b v33 v36).map fun b => .bool !b) fun v37 =>
 VB v37
 (k28 [(.bool true)])
 (O (idxV 1 a0 (nth x9 0)) fun v38 =>
 Ld none v38 fun v39 =>
 Rd P (Instr.lookup 28 v7 v39 false) fun v40 =>
 O (notV v40) fun v41 =>
 VB v41
 (O (addV 0 v26) fun v42 =>
 Ld none v42 fun v43 =>
 O (binV .neq v43 (.int .i64 2)) fun v44 =>
 k28 [v44])
 (k28 [(.bool false)])))
 (fun x29 j30 =>
 VB (nth x29 0)
 (K (.bool false))
 (O (idxV 1 a0 (nth x9 0)) fun v45 =>
 Ld none v45 fun v46 =>
 Runs P (Instr.mapUpdate 28 v7 v46 (.bool true)) fun _ =>
 O (binV .add (nth x9 0) (.int .i64 1)) fun v47 =>
 k8 [v47])))
 (O (binV .add v6 (.int .i64 4)) fun v48 =>
 Cl P 10 [v4, v48, (.int .i64 5), (.int .i64 9)] fun v49 =>
 O (extV 0 v49) fun v50 =>
 O (extV 1 v49) fun v51 =>
 O (binV .add v6 (.int .i64 5)) fun v52 =>
 Cl P 10 [v4, v52, (.int .i64 5), (.int .i64 9)] fun v53 =>
 O (extV 0 v53) fun v54 =>
 O (extV 1 v53) fun v55 =>
 VJ (fun k56 =>
 O (lenL v50) fun v59 =>
 O (binV .neq v59 (.int .i64 0)) fun v60 =>
 VB v60
 (k56 [(.bool true)])
 (O (lenL v55) fun v61 =>
 O (binV .neq v61 (.int .i64 0)) fun v62 =>
 VB v62
 (k56 [(.bool true)])
 (O (lenL v54) fun v63 =>
 Rd P (Builtin.len_ #[28] 3 #[v7]) fun v64 =>
 O (binV .neq v63 v64) fun v65 =>
 k56 [v65])))
 (fun x57 j58 =>
 VB (nth x57 0)
 (K (.bool false))
 (O (lenL v54) fun v66 =>
 VL [(.int .i64 0)] (fun x68 j69 k67 =>
 O (binV .lss (nth x68 0) v66) fun v70 =>
 VB v70
 (O (idxV 2 v54 (nth x68 0)) fun v71 =>
 Ld (some 2) v71 fun v72 =>
 Nw 40 [(.int .u32 0), (.string ⟨#[]⟩)] ptr fun v73 =>
 St 2 v73 v72 fun v74 =>
 VJ (fun k75 =>
 O (addV 0 v73) fun v78 =>
 Ld none v78 fun v79 =>
 Rd P (Instr.lookup 28 v7 v79 false) fun v80 =>
 O (notV v80) fun v81 =>
 VB v81
 (k75 [(.bool true)])
 (O (addV 1 v73) fun v82 =>
 Ld none v82 fun v83 =>
 O (addV 0 v73) fun v84 =>
 Ld none v84 fun v85 =>
 O (cvV .u8 v85) fun v86 =>
 BS 5 (bldV (rep [(.int .u8 0)] 1) [(0 * 1, 1, v86)]) 1 fun v87 =>
 Rd P (convert 35 9 v87) fun v88 =>
 O (binV .neq v83 v88) fun v89 =>
 VB v89
 (k75 [(.bool true)])
 (O (binV .gtr (nth x68 0) (.int .i64 0)) fun v90 =>
 VB v90
 (O (addV 0 v73) fun v91 =>
 Ld none v91 fun v92 =>
 O (binV .sub (nth x68 0) (.int .i64 1)) fun v93 =>
 O (idxV 2 v54 v93) fun v94 =>
 O (addV 0 v94) fun v95 =>
 Ld none v95 fun v96 =>
 O (binV .leq v92 v96) fun v97 =>
 k75 [v97])
 (k75 [(.bool false)]))))
 (fun x76 j77 =>
 VB (nth x76 0)
 (K (.bool false))
 (O (binV .add (nth x68 0) (.int .i64 1)) fun v98 =>
 k67 [v98])))
 (Cl P 11 [v4] fun v99 =>
 O (binV .eql v99 (.int .i64 0)) fun v100 =>
 K v100)))))))))
theorem s3 (a0 a1 : Value) (K : Value → Asn) : vc Try.prog (.seq .leaf (.seq (.seq .leaf (.cond (.seq .leaf .leaf) .leaf)) (.seq .leaf (.seq (.seq .leaf (.cond (.seq .leaf .leaf) .leaf)) (.seq .leaf (.seq .leaf (.seq (.seq .leaf (.block (.loop (.seq (.join .leaf (.cond .leaf .leaf) [31] [0, 1, 5, 6, 7]) (.seq (.block (.seq (.draw [0, 0, 0, 6, 14, 0, 0, 0, 192, 448, 960, 1984, 4032, 0, 16383, 0, 65535] [(0, []), (1, []), (2, []), (3, []), (4, []), (5, []), (6, []), (7, []), (8, []), (9, []), (10, []), (13, []), (11, []), (12, []), (14, []), (15, []), (16, [])]) (.seq (.join (.draw [0, 0, 0, 6, 14, 31, 0, 64, 192, 511, 1023, 2047, 2047, 2047, 14335, 30719, 65535, 131071, 262143, 524287, 1048575, 2097151, 4194303, 8388607] [(0, []), (1, []), (2, []), (3, []), (4, []), (5, []), (6, []), (7, []), (8, []), (9, []), (10, []), (11, []), (12, []), (13, []), (14, []), (15, []), (16, []), (17, []), (18, []), (19, []), (20, []), (21, []), (22, []), (23, [])]) (.cond (.seq .leaf .leaf) .leaf) [72] [0, 1, 5, 6, 7]) .leaf))) .leaf)) [7] [0, 1, 5, 6]))) (.seq .leaf (.seq .leaf (.seq (.join .leaf (.cond (.seq .leaf .leaf) .leaf) [106] [5, 6, 11]) (.seq (.seq .leaf (.block (.loop (.seq .leaf (.seq (.cond .leaf .leaf) (.seq (.block (.seq .leaf (.join (.draw [0, 0, 2, 7, 15, 31, 63, 127, 63, 319, 831, 1855, 3903, 8191, 16383, 32767, 65535, 131071, 262143, 524287, 1048575, 524287, 524287, 4718591, 15204351, 31981567, 65535999, 134217727, 268435455, 536870911] [(0, []), (1, []), (2, []), (3, []), (4, []), (5, []), (6, []), (7, []), (8, []), (9, []), (10, []), (11, []), (12, []), (13, []), (14, []), (15, []), (16, []), (17, []), (18, []), (19, []), (20, []), (21, []), (22, []), (23, []), (24, []), (25, []), (26, []), (27, []), (28, []), (29, [])]) (.cond (.seq .leaf .leaf) .leaf) [143] [5, 6, 11, 107, 108, 109]))) .leaf))) [109] [5, 6, 11, 107, 108]))) (.seq .leaf .leaf)))))))))))) (Try.f3.body.getD .skip) (Sl.start [a0, a1]) (kret Try.prog Try.f3.results.toList K) (fun _ _ => no) (kret Try.prog Try.f3.results.toList K) = S3 Try.prog a0 a1 K := by kernel_rfl
theorem e3 {a0 a1 : Value} {K : Value → Asn} {h : PH} (s : S3 Try.prog a0 a1 K h) : Cl Try.prog 3 [a0, a1] K h := cl_of_vc Try.func3 rfl rfl rfl (by kernel_rfl) ((s3 a0 a1 K) ▸ s)
def S4 (P : Program) (a0 a1 : Value) (K : Value → Asn) : Asn :=
 Nw 43 (a0 : Value).cells.toList ptr fun v1 =>
 Cl P 7 [] fun v2 =>
 O (notV v2) fun v3 =>
 VB v3
 (K (.bool false))
 (Ld (some 3) v1 fun v4 =>
 Cl P 8 [v4] fun v5 =>
 O ((nilEq .p v5 (.pointer none)).map .bool) fun v6 =>
 VB v6
 (K (.bool false))
 (NwM fun v7 =>
 VL [(.int .i64 0), (.int .i64 (-1)), (.int .i64 0)] (fun x9 j10 k8 =>
 VJ (fun k11 =>
 O (lenL a1) fun v14 =>
 O (binV .lss (nth x9 2) v14) fun v15 =>
 VB v15
 (O (binV .lss (nth x9 2) (.int .i64 60)) fun v16 =>
 k11 [v16])
 (k11 [(.bool false)]))
 (fun x12 j13 =>
 VB (nth x12 0)
 (O (idxV 8 a1 (nth x9 2)) fun v17 =>
 Ld (some 8) v17 fun v18 =>
 Nw 46 [(.bool false), (.int .u32 0), (.int .i64 0), (.int .i64 0), (.int .i64 0), (.string ⟨#[]⟩), (.int .i64 0), (.int .i64 0)] ptr fun v19 =>
 St 8 v19 v18 fun v20 =>
 O (addV 4 v19) fun v21 =>
 Ld none v21 fun v22 =>
 O (binV .and v22 (.int .i64 15)) fun v23 =>
 O (binV .add (nth x9 0) v23) fun v24 =>
 VJ (fun k25 =>
 O (addV 0 v19) fun v28 =>
 Ld none v28 fun v29 =>
 VB v29
 (O (addV 6 v19) fun v30 =>
 Ld none v30 fun v31 =>
 O (binV .and v31 (.int .i64 31)) fun v32 =>
 O (addV 7 v19) fun v33 =>
 Ld none v33 fun v34 =>
 O (binV .and v34 (.int .i64 63)) fun v35 =>
 Cl P 10 [v5, v24, v32, v35] fun v36 =>
 O (extV 0 v36) fun v37 =>
 O (extV 1 v36) fun v38 =>
 O (lenL v37) fun v39 =>
 VL [(nth x9 1), (.int .i64 0)] (fun x41 j42 k40 =>
 O (binV .lss (nth x41 1) v39) fun v43 =>
 VB v43
 (O (idxV 2 v37 (nth x41 1)) fun v44 =>
 Ld (some 2) v44 fun v45 =>
 Nw 40 [(.int .u32 0), (.string ⟨#[]⟩)] ptr fun v46 =>
 St 2 v46 v45 fun v47 =>
 VJ (fun k48 =>
 O (addV 0 v46) fun v51 =>
 Ld none v51 fun v52 =>
 O (cvV .i64 v52) fun v53 =>
 O (binV .leq v53 (nth x41 0)) fun v54 =>
 VB v54
 (k48 [(.bool true)])
 (O (addV 0 v46) fun v55 =>
 Ld none v55 fun v56 =>
 Rd P (Instr.lookup 28 v7 v56 false) fun v57 =>
 k48 [v57]))
 (fun x49 j50 =>
 VB (nth x49 0)
 (K (.bool false))
 (O (addV 0 v46) fun v58 =>
 Ld none v58 fun v59 =>
 O (cvV .i64 v59) fun v60 =>
 O (addV 0 v46) fun v61 =>
 Ld none v61 fun v62 =>
 Runs P (Instr.mapUpdate 28 v7 v62 (.bool true)) fun _ =>
 O (binV .add (nth x41 1) (.int .i64 1)) fun v63 =>
 k40 [v60, v63])))
 (O (lenL v38) fun v64 =>
 VL [(.int .i64 0)] (fun x66 j67 k65 =>
 O (binV .lss (nth x66 0) v64) fun v68 =>
 VB v68
 (O (idxV 1 v38 (nth x66 0)) fun v69 =>
 Ld none v69 fun v70 =>
 Rd P (Instr.lookup 28 v7 v70 false) fun v71 =>
 VB v71
 (K (.bool false))
 (Runs P (Instr.mapUpdate 28 v7 v70 (.bool true)) fun _ =>
 O (binV .add (nth x66 0) (.int .i64 1)) fun v72 =>
 k65 [v72]))
 (k25 [(nth x41 0)])))))
 (O (addV 1 v19) fun v73 =>
 Ld none v73 fun v74 =>
 O (addV 2 v19) fun v75 =>
 Ld none v75 fun v76 =>
 O (addV 3 v19) fun v77 =>
 Ld none v77 fun v78 =>
 O (aggO (bldV [(.int .i64 0), (.int .i64 0)] [(0, 1, v76), (1, 1, v78)])) fun v79 =>
 O (addV 5 v19) fun v80 =>
 Ld none v80 fun v81 =>
 Cl P 12 [v81, (.int .i64 30)] fun v82 =>
 And2 (Ld none v73 (Is v74))
 (And2 (Ld none v75 (Is v76))
 (And2 (Ld none v77 (Is v78))
 (Cl P 9 [v5, v74, v79, v82, v24] fun v83 =>
 O (fldV 1 none v83) fun v84 =>
 O (lenL v84) fun v85 =>
 VL [(.int .i64 0)] (fun x87 j88 k86 =>
 O (binV .lss (nth x87 0) v85) fun v89 =>
 VB v89
 (O (idxV 1 v84 (nth x87 0)) fun v90 =>
 Ld none v90 fun v91 =>
 Rd P (Instr.lookup 28 v7 v91 false) fun v92 =>
 VB v92
 (K (.bool false))
 (Runs P (Instr.mapUpdate 28 v7 v91 (.bool true)) fun _ =>
 O (binV .add (nth x87 0) (.int .i64 1)) fun v93 =>
 k86 [v93]))
 (k25 [(nth x9 1)])))))))
 (fun x26 j27 =>
 Cl P 13 [v5] fun v94 =>
 O (lenL v94) fun v95 =>
 VL [(.int .i64 0)] (fun x97 j98 k96 =>
 O (binV .lss (nth x97 0) v95) fun v99 =>
 VB v99
 (O (idxV 1 v94 (nth x97 0)) fun v100 =>
 Ld none v100 fun v101 =>
 VJ (fun k102 =>
 Rd P (Instr.lookup 28 v7 v101 false) fun v105 =>
 VB v105
 (k102 [(.bool true)])
 (O (cvV .i64 v101) fun v106 =>
 Cl P 14 [v5] fun v107 =>
 O (binV .leq v106 v107) fun v108 =>
 k102 [v108]))
 (fun x103 j104 =>
 VB (nth x103 0)
 (K (.bool false))
 (O (binV .add (nth x97 0) (.int .i64 1)) fun v109 =>
 k96 [v109])))
 (O (binV .add (nth x9 2) (.int .i64 1)) fun v110 =>
 k8 [v24, (nth x26 0), v110]))))
 (K (.bool true))))))
theorem s4 (a0 a1 : Value) (K : Value → Asn) : vc Try.prog (.seq .leaf (.seq (.seq .leaf (.cond (.seq .leaf .leaf) .leaf)) (.seq .leaf (.seq (.seq .leaf (.cond (.seq .leaf .leaf) .leaf)) (.seq .leaf (.seq .leaf (.seq (.seq .leaf (.block (.loop (.seq (.join .leaf (.cond .leaf .leaf) [35] [1, 5, 6, 7, 8, 9]) (.seq (.block (.seq .leaf (.seq .leaf (.join (.seq .leaf (.cond (.seq .leaf (.seq (.seq .leaf (.block (.loop (.seq .leaf (.seq (.cond .leaf .leaf) (.seq (.block (.seq .leaf (.seq (.join .leaf (.cond (.seq .leaf .leaf) .leaf) [77] [1, 5, 6, 8, 9, 12, 14, 61, 62, 63]) (.seq .leaf .leaf)))) .leaf))) [7, 63] [1, 5, 6, 8, 9, 12, 61, 62]))) (.seq .leaf (.block (.loop (.seq .leaf (.seq (.cond .leaf .leaf) (.seq (.block (.seq .leaf (.seq (.seq .leaf (.cond (.seq .leaf .leaf) .leaf)) .leaf))) .leaf))) [87] [1, 5, 6, 7, 8, 9, 85, 86]))))) (.seq (.draw [0, 0, 2, 0, 8, 0, 32, 120, 0, 256, 768, 0, 4095, 8191, 16383, 0] [(0, []), (1, []), (2, []), (3, []), (4, []), (5, []), (6, []), (7, []), (8, []), (9, []), (11, []), (15, []), (10, [2, 4, 6]), (12, []), (13, []), (14, [])]) (.block (.loop (.seq .leaf (.seq (.cond .leaf .leaf) (.seq (.block (.seq .leaf (.seq (.seq .leaf (.cond (.seq .leaf .leaf) .leaf)) .leaf))) .leaf))) [112] [1, 5, 6, 7, 8, 9, 110, 111]))))) (.seq .leaf (.block (.loop (.seq .leaf (.seq (.cond .leaf .leaf) (.seq (.block (.seq .leaf (.join .leaf (.cond (.seq .leaf .leaf) .leaf) [138] [1, 5, 6, 7, 8, 9, 123, 124, 125]))) .leaf))) [125] [1, 5, 6, 7, 8, 9, 123, 124]))) [7] [1, 5, 6, 8, 9])))) .leaf)) [6, 7, 9] [1, 5, 8]))) (.seq .leaf .leaf)))))))) (Try.f4.body.getD .skip) (Sl.start [a0, a1]) (kret Try.prog Try.f4.results.toList K) (fun _ _ => no) (kret Try.prog Try.f4.results.toList K) = S4 Try.prog a0 a1 K := by kernel_rfl
theorem e4 {a0 a1 : Value} {K : Value → Asn} {h : PH} (s : S4 Try.prog a0 a1 K h) : Cl Try.prog 4 [a0, a1] K h := cl_of_vc Try.func4 rfl rfl rfl (by kernel_rfl) ((s4 a0 a1 K) ▸ s)
def S5 (P : Program) (a0 a1 : Value) (K : Value → Asn) : Asn :=
 Nw 43 (a0 : Value).cells.toList ptr fun v1 =>
 Cl P 7 [] fun v2 =>
 O (notV v2) fun v3 =>
 VB v3
 (K (.bool false))
 (Ld (some 3) v1 fun v4 =>
 Ld (some 3) v1 fun v5 =>
 Cl P 8 [v4] fun v6 =>
 And2 (Ld (some 3) v1 (Is v5))
 (Cl P 15 [v5] fun v7 =>
 Nw 52 [(.int .i64 0), (.int .i64 0), (.int .i64 0), (.slice none 0 0), (.int .i64 0), (.int .i64 0), (.int .i64 0), (.int .i64 0)] ptr fun v8 =>
 St 8 v8 v7 fun v9 =>
 VJ (fun k10 =>
 O ((nilEq .p v6 (.pointer none)).map .bool) fun v13 =>
 VB v13
 (And2 ((isUndef undef))
 (k10 [(.bool true)]))
 (Ld (some 3) v1 fun v14 =>
 Ld (some 3) v1 fun v15 =>
 Cl P 16 [v14] fun v16 =>
 And2 ((Ld (some 3) v1 (Is v15)))
 (Cl P 17 [v15] fun v17 =>
 Rd P (do eqGuard .neq 43 (.tmp 20) (.tmp 22) v16 v17; binOp .neq 43 v16 v17) fun v18 =>
 k10 [v18])))
 (fun x11 j12 =>
 VB (nth x11 0)
 (K (.bool false))
 (VL [(.int .i64 0), (.int .i64 0)] (fun x20 j21 k19 =>
 VJ (fun k22 =>
 O (lenL a1) fun v25 =>
 O (binV .lss (nth x20 1) v25) fun v26 =>
 VB v26
 (O (binV .lss (nth x20 1) (.int .i64 40)) fun v27 =>
 k22 [v27])
 (k22 [(.bool false)]))
 (fun x23 j24 =>
 VB (nth x23 0)
 (O (idxV 8 a1 (nth x20 1)) fun v28 =>
 O (addV 4 v28) fun v29 =>
 Ld none v29 fun v30 =>
 O (binV .and v30 (.int .i64 255)) fun v31 =>
 O (binV .add (nth x20 0) v31) fun v32 =>
 Ld (some 8) v8 fun v33 =>
 O (idxV 8 a1 (nth x20 1)) fun v34 =>
 Ld (some 8) v34 fun v35 =>
 Cl P 18 [v6, v33, v35, v32] fun v36 =>
 O (extV 0 v36) fun v37 =>
 O (extV 1 v36) fun v38 =>
 St 8 v8 v37 fun v39 =>
 VJ (fun k40 =>
 O (notV v38) fun v43 =>
 VB v43
 (And2 ((isUndef undef))
 (And2 ((isUndef undef))
 (And2 ((isUndef undef))
 (k40 [(.bool true)]))))
 (Ld (some 8) v8 fun v44 =>
 Cl P 19 [v6, v44] fun v45 =>
 O (notV v45) fun v46 =>
 VB v46
 (And2 ((isUndef undef))
 (And2 ((isUndef undef))
 (And2 ((isUndef undef))
 (k40 [(.bool true)]))))
 (O (addV 0 v8) fun v47 =>
 O (addV 0 v47) fun v48 =>
 Ld none v48 fun v49 =>
 Cl P 11 [v6] fun v50 =>
 And2 ((Ld none v48 (Is v49)))
 (O (binV .gtr v50 v49) fun v51 =>
 VB v51
 (And2 ((isUndef undef))
 (And2 ((isUndef undef))
 (k40 [(.bool true)])))
 (O (addV 0 v8) fun v52 =>
 O (addV 1 v52) fun v53 =>
 Ld none v53 fun v54 =>
 Cl P 20 [v6] fun v55 =>
 And2 ((Ld none v53 (Is v54)))
 (O (binV .gtr v55 v54) fun v56 =>
 VB v56
 (And2 ((isUndef undef))
 (k40 [(.bool true)]))
 (O (addV 0 v8) fun v57 =>
 O (addV 2 v57) fun v58 =>
 Ld none v58 fun v59 =>
 Cl P 21 [v6] fun v60 =>
 And2 ((Ld none v58 (Is v59)))
 (O (binV .gtr v60 v59) fun v61 =>
 k40 [v61]))))))))
 (fun x41 j42 =>
 VB (nth x41 0)
 (K (.bool false))
 (O (binV .add (nth x20 1) (.int .i64 1)) fun v62 =>
 k19 [v32, v62])))
 (K (.bool true))))))))
theorem s5 (a0 a1 : Value) (K : Value → Asn) : vc Try.prog (.seq .leaf (.seq (.seq .leaf (.cond (.seq .leaf .leaf) .leaf)) (.seq (.draw [0, 1, 0, 7, 0, 31, 63] [(0, []), (2, []), (1, [2]), (3, []), (4, []), (5, []), (6, [])]) (.seq (.join (.draw [0, 1, 3, 7, 15, 7, 63, 127, 255] [(0, []), (1, []), (2, []), (3, []), (5, []), (4, [5]), (6, []), (7, []), (8, [])]) (.cond (.seq .leaf .leaf) .leaf) [24] [1, 5, 6]) (.seq .leaf (.seq (.seq .leaf (.block (.loop (.seq (.join .leaf (.cond .leaf .leaf) [32] [1, 5, 6, 7, 9]) (.seq (.block (.seq .leaf (.seq (.draw [0, 0, 0, 0, 12, 28, 0, 127, 255, 511, 511, 1023, 4095] [(0, []), (1, []), (2, []), (3, []), (4, []), (5, []), (6, []), (7, []), (8, []), (9, []), (10, []), (11, []), (12, [])]) (.join (.draw [0, 1, 3, 7, 7, 31, 63, 127, 255, 511, 1023, 511, 2559, 6655, 16383, 32767, 65535, 131071, 262143, 131071, 655359, 1703935, 4194303, 8388607, 16777215, 33554431, 67108863, 33554431, 167772159, 436207615, 1073741823, 2147483647] [(0, []), (1, []), (2, []), (3, []), (4, []), (5, []), (6, []), (7, []), (8, []), (9, []), (11, []), (12, []), (13, []), (10, [13]), (14, []), (15, []), (16, []), (17, []), (19, []), (20, []), (21, []), (18, [21]), (22, []), (23, []), (24, []), (25, []), (27, []), (28, []), (29, []), (26, [29]), (30, []), (31, [])]) (.cond (.seq .leaf .leaf) .leaf) [85] [1, 5, 6, 7, 9])))) .leaf)) [7, 9] [1, 5, 6]))) (.seq .leaf .leaf))))))) (Try.f5.body.getD .skip) (Sl.start [a0, a1]) (kret Try.prog Try.f5.results.toList K) (fun _ _ => no) (kret Try.prog Try.f5.results.toList K) = S5 Try.prog a0 a1 K := by kernel_rfl
theorem e5 {a0 a1 : Value} {K : Value → Asn} {h : PH} (s : S5 Try.prog a0 a1 K h) : Cl Try.prog 5 [a0, a1] K h := cl_of_vc Try.func5 rfl rfl rfl (by kernel_rfl) ((s5 a0 a1 K) ▸ s)
def S6 (P : Program) (a0 a1 : Value) (K : Value → Asn) : Asn :=
 Cl P 7 [] fun v1 =>
 O (notV v1) fun v2 =>
 VB v2
 (K (.bool false))
 (O (aggO (bldV [(.int .i64 0), (.int .i64 0), (.int .i64 0)] [(0, 1, (.int .i64 4)), (1, 1, (.int .i64 8)), (2, 1, (.int .i64 40))])) fun v3 =>
 Nw 43 [(.int .i64 0), (.int .i64 0), (.int .i64 0)] ptr fun v4 =>
 St 3 v4 v3 fun v5 =>
 Ld (some 3) v4 fun v6 =>
 Ld (some 3) v4 fun v7 =>
 Cl P 8 [v6] fun v8 =>
 And2 (Ld (some 3) v4 (Is v7))
 (Cl P 15 [v7] fun v9 =>
 Nw 52 [(.int .i64 0), (.int .i64 0), (.int .i64 0), (.slice none 0 0), (.int .i64 0), (.int .i64 0), (.int .i64 0), (.int .i64 0)] ptr fun v10 =>
 St 8 v10 v9 fun v11 =>
 O ((nilEq .p v8 (.pointer none)).map .bool) fun v12 =>
 VB v12
 (K (.bool false))
 (VL [(.int .i64 0), (.int .i64 0)] (fun x14 j15 k13 =>
 VJ (fun k16 =>
 O (lenL a0) fun v19 =>
 O (binV .lss (nth x14 1) v19) fun v20 =>
 VB v20
 (O (binV .lss (nth x14 1) (.int .i64 20)) fun v21 =>
 k16 [v21])
 (k16 [(.bool false)]))
 (fun x17 j18 =>
 VB (nth x17 0)
 (O (idxV 8 a0 (nth x14 1)) fun v22 =>
 O (addV 4 v22) fun v23 =>
 Ld none v23 fun v24 =>
 O (binV .and v24 (.int .i64 15)) fun v25 =>
 O (binV .add (nth x14 0) v25) fun v26 =>
 Ld (some 8) v10 fun v27 =>
 O (idxV 8 a0 (nth x14 1)) fun v28 =>
 Ld (some 8) v28 fun v29 =>
 Cl P 18 [v8, v27, v29, v26] fun v30 =>
 O (extV 0 v30) fun v31 =>
 O (extV 1 v30) fun v32 =>
 St 8 v10 v31 fun v33 =>
 O (notV v32) fun v34 =>
 VB v34
 (K (.bool false))
 (O (binV .add (nth x14 1) (.int .i64 1)) fun v35 =>
 k13 [v26, v35]))
 (Ld (some 8) v10 fun v36 =>
 Cl P 22 [v8] fun v37 =>
 And2 (Ld (some 8) v10 (Is v36))
 (Nw 52 [(.int .i64 0), (.int .i64 0), (.int .i64 0), (.slice none 0 0), (.int .i64 0), (.int .i64 0), (.int .i64 0), (.int .i64 0)] ptr fun v38 =>
 St 8 v38 v36 fun v39 =>
 O ((nilEq .p v37 (.pointer none)).map .bool) fun v40 =>
 VB v40
 (K (.bool false))
 (VL [(nth x14 0), (.int .i64 0)] (fun x42 j43 k41 =>
 VJ (fun k44 =>
 O (lenL a1) fun v47 =>
 O (binV .lss (nth x42 1) v47) fun v48 =>
 VB v48
 (O (binV .lss (nth x42 1) (.int .i64 20)) fun v49 =>
 k44 [v49])
 (k44 [(.bool false)]))
 (fun x45 j46 =>
 VB (nth x45 0)
 (O (idxV 8 a1 (nth x42 1)) fun v50 =>
 O (addV 4 v50) fun v51 =>
 Ld none v51 fun v52 =>
 O (binV .and v52 (.int .i64 15)) fun v53 =>
 O (binV .add (nth x42 0) v53) fun v54 =>
 Ld (some 8) v38 fun v55 =>
 O (idxV 8 a1 (nth x42 1)) fun v56 =>
 Ld (some 8) v56 fun v57 =>
 Cl P 18 [v37, v55, v57, v54] fun v58 =>
 O (extV 0 v58) fun v59 =>
 O (extV 1 v58) fun v60 =>
 St 8 v38 v59 fun v61 =>
 O (notV v60) fun v62 =>
 VB v62
 (K (.bool false))
 (O (binV .add (nth x42 1) (.int .i64 1)) fun v63 =>
 k41 [v54, v63]))
 (Ld (some 8) v10 fun v64 =>
 Cl P 19 [v8, v64] fun v65 =>
 VB v65
 (Ld (some 8) v38 fun v66 =>
 Cl P 19 [v37, v66] fun v67 =>
 K v67)
 (K (.bool false)))))))))))))
theorem s6 (a0 a1 : Value) (K : Value → Asn) : vc Try.prog (.seq .leaf (.seq (.seq .leaf (.cond (.seq .leaf .leaf) .leaf)) (.seq .leaf (.seq (.draw [0, 1, 0, 7, 0, 31, 63] [(0, []), (2, []), (1, [2]), (3, []), (4, []), (5, []), (6, [])]) (.seq (.seq .leaf (.cond (.seq .leaf .leaf) .leaf)) (.seq .leaf (.seq (.seq .leaf (.block (.loop (.seq (.join .leaf (.cond .leaf .leaf) [30] [0, 1, 6, 7, 8, 10]) (.seq (.block (.seq .leaf (.seq (.draw [0, 0, 0, 0, 12, 28, 0, 127, 255, 511, 511, 1023, 4095] [(0, []), (1, []), (2, []), (3, []), (4, []), (5, []), (6, []), (7, []), (8, []), (9, []), (10, []), (11, []), (12, [])]) (.seq .leaf (.cond (.seq .leaf .leaf) .leaf))))) .leaf)) [8, 10] [0, 1, 6, 7]))) (.seq (.draw [0, 1, 0, 0, 11, 31] [(0, []), (2, []), (1, [2]), (3, []), (4, []), (5, [])]) (.seq (.seq .leaf (.cond (.seq .leaf .leaf) .leaf)) (.seq (.seq .leaf (.block (.loop (.seq (.join .leaf (.cond .leaf .leaf) [66] [1, 6, 7, 8, 11, 12, 13]) (.seq (.block (.seq .leaf (.seq (.draw [0, 0, 0, 0, 12, 28, 0, 127, 255, 511, 511, 1023, 4095] [(0, []), (1, []), (2, []), (3, []), (4, []), (5, []), (6, []), (7, []), (8, []), (9, []), (10, []), (11, []), (12, [])]) (.seq .leaf (.cond (.seq .leaf .leaf) .leaf))))) .leaf)) [8, 13] [1, 6, 7, 11, 12]))) (.seq .leaf .leaf))))))))))) (Try.f6.body.getD .skip) (Sl.start [a0, a1]) (kret Try.prog Try.f6.results.toList K) (fun _ _ => no) (kret Try.prog Try.f6.results.toList K) = S6 Try.prog a0 a1 K := by kernel_rfl
theorem e6 {a0 a1 : Value} {K : Value → Asn} {h : PH} (s : S6 Try.prog a0 a1 K h) : Cl Try.prog 6 [a0, a1] K h := cl_of_vc Try.func6 rfl rfl rfl (by kernel_rfl) ((s6 a0 a1 K) ▸ s)
def S7 (P : Program) (K : Value → Asn) : Asn :=
 O (aggO (bldV [(.int .i64 0), (.int .i64 0), (.int .i64 0)] [(0, 1, (.int .i64 2)), (1, 1, (.int .i64 9)), (2, 1, (.int .i64 99))])) fun v1 =>
 Cl P 8 [v1] fun v2 =>
 O ((nilEq .p v2 (.pointer none)).map .bool) fun v3 =>
 VB v3
 (K (.bool false))
 (O (aggO (bldV [(.int .i64 0), (.int .i64 0)] [(1, 1, (.int .i64 1))])) fun v4 =>
 Cl P 9 [v2, (.int .u32 7), v4, (.string ⟨#[120]⟩), (.int .i64 0)] fun v5 =>
 Nw 30 [(.int .i64 0), (.slice none 0 0)] ptr fun v6 =>
 St 2 v6 v5 fun v7 =>
 Cl P 10 [v2, (.int .i64 4), (.int .i64 5), (.int .i64 9)] fun v8 =>
 O (extV 0 v8) fun v9 =>
 O (extV 1 v8) fun v10 =>
 Cl P 10 [v2, (.int .i64 5), (.int .i64 5), (.int .i64 9)] fun v11 =>
 O (extV 0 v11) fun v12 =>
 O (extV 1 v11) fun v13 =>
 O (addV 0 v6) fun v14 =>
 Ld none v14 fun v15 =>
 O (binV .eql v15 (.int .i64 2)) fun v16 =>
 VB v16
 (O (lenL v9) fun v17 =>
 O (binV .eql v17 (.int .i64 0)) fun v18 =>
 VB v18
 (O (lenL v12) fun v19 =>
 O (binV .eql v19 (.int .i64 1)) fun v20 =>
 VB v20
 (O (idxV 2 v12 (.int .i64 0)) fun v21 =>
 Ld (some 2) v21 fun v22 =>
 O (aggO (bldV [(.int .u32 0), (.string ⟨#[]⟩)] [(0, 1, (.int .u32 7)), (1, 1, (.string ⟨#[120]⟩))])) fun v23 =>
 Rd P (do eqGuard .eql 40 (.tmp 40) (.tmp 41) v22 v23; binOp .eql 40 v22 v23) fun v24 =>
 VB v24
 (Cl P 14 [v2] fun v25 =>
 O (binV .eql v25 (.int .i64 7)) fun v26 =>
 K v26)
 (K (.bool false)))
 (K (.bool false)))
 (K (.bool false)))
 (K (.bool false)))
theorem s7 (K : Value → Asn) : vc Try.prog (.seq .leaf (.seq .leaf (.seq (.seq .leaf (.cond (.seq .leaf .leaf) .leaf)) (.seq .leaf (.seq .leaf (.seq .leaf (.seq .leaf .leaf))))))) (Try.f7.body.getD .skip) (Sl.start []) (kret Try.prog Try.f7.results.toList K) (fun _ _ => no) (kret Try.prog Try.f7.results.toList K) = S7 Try.prog  K := by kernel_rfl
theorem e7 {K : Value → Asn} {h : PH} (s : S7 Try.prog  K h) : Cl Try.prog 7 [] K h := cl_of_vc Try.func7 rfl rfl rfl (by kernel_rfl) ((s7  K) ▸ s)
def S8 (P : Program) (a0 : Value) (K : Value → Asn) : Asn :=
 Nw 27 (a0 : Value).cells.toList ptr fun v1 =>
 Ld (some 3) v1 fun v2 =>
 Cl P 16 [v2] fun v3 =>
 O (aggO (bldV [(.int .i64 0), (.int .i64 0), (.int .i64 0), (.int .i64 0), (.int .i64 0), (.int .i64 0), (.slice none 0 0), (.int .i64 0), (.int .i64 0), (.int .i64 0), (.int .i64 0)] [(0, 3, v3), (7, 1, (.int .i64 (-1)))])) fun v4 =>
 Nw 65 (v4 : Value).cells.toList ptr fun v5 =>
 K v5
theorem s8 (a0 : Value) (K : Value → Asn) : vc Try.prog (.seq .leaf (.seq .leaf .leaf)) (Try.f8.body.getD .skip) (Sl.start [a0]) (kret Try.prog Try.f8.results.toList K) (fun _ _ => no) (kret Try.prog Try.f8.results.toList K) = S8 Try.prog a0 K := by kernel_rfl
theorem e8 {a0 : Value} {K : Value → Asn} {h : PH} (s : S8 Try.prog a0 K h) : Cl Try.prog 8 [a0] K h := cl_of_vc Try.func8 rfl rfl rfl (by kernel_rfl) ((s8 a0 K) ▸ s)
def S9 (P : Program) (a0 a1 a2 a3 a4 : Value) (K : Value → Asn) : Asn :=
 Nw 34 (a2 : Value).cells.toList ptr fun v1 =>
 Nw 30 [(.int .i64 0), (.slice none 0 0)] ptr fun v2 =>
 O (cvV .i64 a1) fun v3 =>
 O (nilV a0) fun v4 =>
 O (addV 7 v4) fun v5 =>
 Ld none v5 fun v6 =>
 O (binV .leq v3 v6) fun v7 =>
 VB v7
 (O (aggO (bldV [(.int .i64 0), (.slice none 0 0)] [(0, 1, (.int .i64 5))])) fun v8 =>
 St 2 v2 v8 fun v9 =>
 Ld (some 2) v2 fun v10 =>
 K v10)
 (VJ (fun k11 =>
 O (addV 1 v1) fun v14 =>
 Ld none v14 fun v15 =>
 O (binV .lss v15 (.int .i64 1)) fun v16 =>
 VB v16
 (k11 [(.bool true)])
 (O (addV 1 v1) fun v17 =>
 Ld none v17 fun v18 =>
 O (binV .gtr v18 (.int .i64 255)) fun v19 =>
 VB v19
 (k11 [(.bool true)])
 (O (addV 0 v1) fun v20 =>
 Ld none v20 fun v21 =>
 O (binV .lss v21 (.int .i64 0)) fun v22 =>
 VB v22
 (k11 [(.bool true)])
 (O (addV 0 v1) fun v23 =>
 Ld none v23 fun v24 =>
 O (addV 1 v1) fun v25 =>
 Ld none v25 fun v26 =>
 O (binV .geq v24 v26) fun v27 =>
 k11 [v27]))))
 (fun x12 j13 =>
 VB (nth x12 0)
 (O (aggO (bldV [(.int .i64 0), (.slice none 0 0)] [(0, 1, (.int .i64 4))])) fun v28 =>
 St 2 v2 v28 fun v29 =>
 Ld (some 2) v2 fun v30 =>
 K v30)
 (O (addV 1 v1) fun v31 =>
 Ld none v31 fun v32 =>
 Cl P 23 [a0, a1, v32, a4] fun v33 =>
 O (nilV a0) fun v34 =>
 O (addV 3 v34) fun v35 =>
 Cl P 24 [v35, v33, (.int .i64 (-1))] fun v36 =>
 Ld (some 2) v1 fun v37 =>
 Cl P 25 [v33, v37, a3] fun v38 =>
 O (aggO (bldV [(.int .i64 0), (.slice none 0 0)] [(0, 1, v38)])) fun v39 =>
 Nw 30 [(.int .i64 0), (.slice none 0 0)] ptr fun v40 =>
 St 2 v40 v39 fun v41 =>
 O (nilV a0) fun v42 =>
 O (addV 3 v42) fun v43 =>
 Cl P 24 [v43, v33, (.int .i64 1)] fun v44 =>
 VL [] (fun x46 j47 k45 =>
 Cl P 26 [a0] fun v48 =>
 VB v48
 (Cl P 27 [a0] fun v49 =>
 Cl P 28 [v49] fun v50 =>
 O (nilV a0) fun v51 =>
 O (addV 10 v51) fun v52 =>
 Ld none v52 fun v53 =>
 O (binV .add v53 (.int .i64 1)) fun v54 =>
 O (nilV a0) fun v55 =>
 O (addV 10 v55) fun v56 =>
 St 1 v56 v54 fun v57 =>
 O (addV 1 v40) fun v58 =>
 Ld none v58 fun v59 =>
 BS 32 (bldV (rep [(.int .u32 0)] 1) [(0 * 1, 1, v50)]) 1 fun v60 =>
 Runs P (Builtin.append_ #[22, 22] 22 #[v59, v60]) fun v61 =>
 O (addV 1 v40) fun v62 =>
 St 1 v62 v61 fun v63 =>
 O (binV .eql v50 a1) fun v64 =>
 VB v64
 (O (addV 0 v40) fun v65 =>
 St 1 v65 (.int .i64 6) fun v66 =>
 k45 [])
 (k45 []))
 (Ld (some 2) v40 fun v67 =>
 St 2 v2 v67 fun v68 =>
 Ld (some 2) v2 fun v69 =>
 K v69)))))
theorem s9 (a0 a1 a2 a3 a4 : Value) (K : Value → Asn) : vc Try.prog (.seq .leaf (.seq (.block (.seq .leaf (.cond (.seq .leaf .leaf) (.join .leaf (.cond (.seq .leaf .leaf) .leaf) [23] [0, 1, 3, 4, 7, 10])))) (.seq .leaf (.seq .leaf (.seq .leaf (.seq .leaf (.seq (.block (.loop (.seq (.seq .leaf (.cond .leaf .leaf)) (.block (.seq .leaf (.seq .leaf (.seq .leaf (.seq .leaf (.cond .leaf .leaf))))))) [] [0, 1, 10, 12])) (.seq .leaf .leaf)))))))) (Try.f9.body.getD .skip) (Sl.start [a0, a1, a2, a3, a4]) (kret Try.prog Try.f9.results.toList K) (fun _ _ => no) (kret Try.prog Try.f9.results.toList K) = S9 Try.prog a0 a1 a2 a3 a4 K := by kernel_rfl
theorem e9 {a0 a1 a2 a3 a4 : Value} {K : Value → Asn} {h : PH} (s : S9 Try.prog a0 a1 a2 a3 a4 K h) : Cl Try.prog 9 [a0, a1, a2, a3, a4] K h := cl_of_vc Try.func9 rfl rfl rfl (by kernel_rfl) ((s9 a0 a1 a2 a3 a4 K) ▸ s)
def S10 (P : Program) (a0 a1 a2 a3 : Value) (K : Value → Asn) : Asn :=
 VL [(.slice none 0 0), (.slice none 0 0)] (fun x2 j3 k1 =>
 O (nilV a0) fun v4 =>
 O (addV 6 v4) fun v5 =>
 Ld none v5 fun v6 =>
 O (lenL v6) fun v7 =>
 O (binV .gtr v7 (.int .i64 0)) fun v8 =>
 VB v8
 (O (nilV a0) fun v9 =>
 O (addV 6 v9) fun v10 =>
 Ld none v10 fun v11 =>
 O (idxV 1 v11 (.int .i64 0)) fun v12 =>
 Ld none v12 fun v13 =>
 Cl P 29 [v13] fun v14 =>
 O (extV 0 v14) fun v15 =>
 O (extV 1 v14) fun v16 =>
 O (nilV a0) fun v17 =>
 O (addV 6 v17) fun v18 =>
 Ld none v18 fun v19 =>
 O (idxV 1 v19 (.int .i64 0)) fun v20 =>
 Ld none v20 fun v21 =>
 Cl P 30 [v21] fun v22 =>
 O (binV .sub a1 v22) fun v23 =>
 VJ (fun k24 =>
 VB v16
 (O (binV .geq v23 a2) fun v27 =>
 k24 [v27])
 (k24 [(.bool false)]))
 (fun x25 j26 =>
 VB (nth x25 0)
 (Cl P 27 [a0] fun v28 =>
 Cl P 28 [v28] fun v29 =>
 O (aggO (bldV [(.int .u32 0), (.string ⟨#[]⟩)] [(0, 1, v29), (1, 1, v15)])) fun v30 =>
 BS 40 (bldV (rep [(.int .u32 0), (.string ⟨#[]⟩)] 1) [(0 * 2, 2, v30)]) 1 fun v31 =>
 Runs P (Builtin.append_ #[36, 36] 36 #[(nth x2 0), v31]) fun v32 =>
 O (nilV a0) fun v33 =>
 O (addV 8 v33) fun v34 =>
 Ld none v34 fun v35 =>
 O (binV .add v35 (.int .i64 1)) fun v36 =>
 O (nilV a0) fun v37 =>
 O (addV 8 v37) fun v38 =>
 St 1 v38 v36 fun v39 =>
 k1 [v32, (nth x2 1)])
 (O (binV .geq v23 a3) fun v40 =>
 VB v40
 (Cl P 27 [a0] fun v41 =>
 Cl P 28 [v41] fun v42 =>
 BS 32 (bldV (rep [(.int .u32 0)] 1) [(0 * 1, 1, v42)]) 1 fun v43 =>
 Runs P (Builtin.append_ #[22, 22] 22 #[(nth x2 1), v43]) fun v44 =>
 O (nilV a0) fun v45 =>
 O (addV 9 v45) fun v46 =>
 Ld none v46 fun v47 =>
 O (binV .add v47 (.int .i64 1)) fun v48 =>
 O (nilV a0) fun v49 =>
 O (addV 9 v49) fun v50 =>
 St 1 v50 v48 fun v51 =>
 k1 [(nth x2 0), v44])
 (K (.tuple #[(nth x2 0), (nth x2 1)])))))
 (K (.tuple #[(nth x2 0), (nth x2 1)])))
theorem s10 (a0 a1 a2 a3 : Value) (K : Value → Asn) : vc Try.prog (.seq .leaf (.seq .leaf (.seq .leaf (.seq (.block (.loop (.seq (.seq .leaf (.cond .leaf .leaf)) (.block (.seq .leaf (.seq .leaf (.block (.join .leaf (.cond (.seq .leaf .leaf) (.seq .leaf (.cond (.seq .leaf .leaf) (.seq .leaf .leaf)))) [42] [0, 1, 2, 3, 10, 11, 12, 14])))))) [10, 11] [0, 1, 2, 3])) (.seq .leaf .leaf))))) (Try.f10.body.getD .skip) (Sl.start [a0, a1, a2, a3]) (kret Try.prog Try.f10.results.toList K) (fun _ _ => no) (kret Try.prog Try.f10.results.toList K) = S10 Try.prog a0 a1 a2 a3 K := by kernel_rfl
theorem e10 {a0 a1 a2 a3 : Value} {K : Value → Asn} {h : PH} (s : S10 Try.prog a0 a1 a2 a3 K h) : Cl Try.prog 10 [a0, a1, a2, a3] K h := cl_of_vc Try.func10 rfl rfl rfl (by kernel_rfl) ((s10 a0 a1 a2 a3 K) ▸ s)
def S11 (P : Program) (a0 : Value) (K : Value → Asn) : Asn :=
 O (nilV a0) fun v1 =>
 O (addV 6 v1) fun v2 =>
 Ld none v2 fun v3 =>
 O (lenL v3) fun v4 =>
 K v4
theorem s11 (a0 : Value) (K : Value → Asn) : vc Try.prog (.seq .leaf (.seq .leaf .leaf)) (Try.f11.body.getD .skip) (Sl.start [a0]) (kret Try.prog Try.f11.results.toList K) (fun _ _ => no) (kret Try.prog Try.f11.results.toList K) = S11 Try.prog a0 K := by kernel_rfl
theorem e11 {a0 : Value} {K : Value → Asn} {h : PH} (s : S11 Try.prog a0 K h) : Cl Try.prog 11 [a0] K h := cl_of_vc Try.func11 rfl rfl rfl (by kernel_rfl) ((s11 a0 K) ▸ s)
def S12 (P : Program) (a0 a1 : Value) (K : Value → Asn) : Asn :=
 O (lenS a0) fun v1 =>
 O (binV .gtr v1 a1) fun v2 =>
 VB v2
 (O (slcS a0 none (some a1)) fun v3 =>
 K v3)
 (K a0)
theorem s12 (a0 a1 : Value) (K : Value → Asn) : vc Try.prog (.seq .leaf (.seq (.seq .leaf (.cond (.seq .leaf .leaf) .leaf)) (.seq .leaf .leaf))) (Try.f12.body.getD .skip) (Sl.start [a0, a1]) (kret Try.prog Try.f12.results.toList K) (fun _ _ => no) (kret Try.prog Try.f12.results.toList K) = S12 Try.prog a0 a1 K := by kernel_rfl
theorem e12 {a0 a1 : Value} {K : Value → Asn} {h : PH} (s : S12 Try.prog a0 a1 K h) : Cl Try.prog 12 [a0, a1] K h := cl_of_vc Try.func12 rfl rfl rfl (by kernel_rfl) ((s12 a0 a1 K) ▸ s)
def S13 (P : Program) (a0 : Value) (K : Value → Asn) : Asn :=
 O (nilV a0) fun v1 =>
 O (addV 6 v1) fun v2 =>
 Ld none v2 fun v3 =>
 O (lenL v3) fun v4 =>
 VL [(.slice none 0 0), (.int .i64 0)] (fun x6 j7 k5 =>
 O (binV .lss (nth x6 1) v4) fun v8 =>
 VB v8
 (O (idxV 1 v3 (nth x6 1)) fun v9 =>
 Ld none v9 fun v10 =>
 Cl P 28 [v10] fun v11 =>
 BS 32 (bldV (rep [(.int .u32 0)] 1) [(0 * 1, 1, v11)]) 1 fun v12 =>
 Runs P (Builtin.append_ #[22, 22] 22 #[(nth x6 0), v12]) fun v13 =>
 O (binV .add (nth x6 1) (.int .i64 1)) fun v14 =>
 k5 [v13, v14])
 (K (nth x6 0)))
theorem s13 (a0 : Value) (K : Value → Asn) : vc Try.prog (.seq .leaf (.seq .leaf (.seq (.seq .leaf (.block (.loop (.seq .leaf (.seq (.cond .leaf .leaf) (.seq (.block (.seq .leaf .leaf)) .leaf))) [3, 11] [9, 10]))) (.seq .leaf .leaf)))) (Try.f13.body.getD .skip) (Sl.start [a0]) (kret Try.prog Try.f13.results.toList K) (fun _ _ => no) (kret Try.prog Try.f13.results.toList K) = S13 Try.prog a0 K := by kernel_rfl
theorem e13 {a0 : Value} {K : Value → Asn} {h : PH} (s : S13 Try.prog a0 K h) : Cl Try.prog 13 [a0] K h := cl_of_vc Try.func13 rfl rfl rfl (by kernel_rfl) ((s13 a0 K) ▸ s)
def S14 (P : Program) (a0 : Value) (K : Value → Asn) : Asn :=
 O (nilV a0) fun v1 =>
 O (addV 7 v1) fun v2 =>
 Ld none v2 fun v3 =>
 K v3
theorem s14 (a0 : Value) (K : Value → Asn) : vc Try.prog (.seq .leaf (.seq .leaf .leaf)) (Try.f14.body.getD .skip) (Sl.start [a0]) (kret Try.prog Try.f14.results.toList K) (fun _ _ => no) (kret Try.prog Try.f14.results.toList K) = S14 Try.prog a0 K := by kernel_rfl
theorem e14 {a0 : Value} {K : Value → Asn} {h : PH} (s : S14 Try.prog a0 K h) : Cl Try.prog 14 [a0] K h := cl_of_vc Try.func14 rfl rfl rfl (by kernel_rfl) ((s14 a0 K) ▸ s)
def S15 (P : Program) (a0 : Value) (K : Value → Asn) : Asn :=
 Nw 43 (a0 : Value).cells.toList ptr fun v1 =>
 Nw 52 [(.int .i64 0), (.int .i64 0), (.int .i64 0), (.slice none 0 0), (.int .i64 0), (.int .i64 0), (.int .i64 0), (.int .i64 0)] ptr fun v2 =>
 Ld (some 3) v1 fun v3 =>
 Cl P 17 [v3] fun v4 =>
 O (aggO (bldV [(.int .i64 0), (.int .i64 0), (.int .i64 0), (.slice none 0 0), (.int .i64 0), (.int .i64 0), (.int .i64 0), (.int .i64 0)] [(0, 3, v4), (4, 1, (.int .i64 (-1)))])) fun v5 =>
 St 8 v2 v5 fun v6 =>
 Ld (some 8) v2 fun v7 =>
 K v7
theorem s15 (a0 : Value) (K : Value → Asn) : vc Try.prog (.seq .leaf (.seq .leaf .leaf)) (Try.f15.body.getD .skip) (Sl.start [a0]) (kret Try.prog Try.f15.results.toList K) (fun _ _ => no) (kret Try.prog Try.f15.results.toList K) = S15 Try.prog a0 K := by kernel_rfl
theorem e15 {a0 : Value} {K : Value → Asn} {h : PH} (s : S15 Try.prog a0 K h) : Cl Try.prog 15 [a0] K h := cl_of_vc Try.func15 rfl rfl rfl (by kernel_rfl) ((s15 a0 K) ▸ s)
def S16 (P : Program) (a0 : Value) (K : Value → Asn) : Asn :=
 Nw 27 (a0 : Value).cells.toList ptr fun v1 =>
 Nw 27 [(.int .i64 0), (.int .i64 0), (.int .i64 0)] ptr fun v2 =>
 O (addV 0 v1) fun v3 =>
 Ld none v3 fun v4 =>
 O (addV 1 v1) fun v5 =>
 Ld none v5 fun v6 =>
 O (addV 2 v1) fun v7 =>
 Ld none v7 fun v8 =>
 Cl P 31 [v4, (.int .i64 1024)] fun v9 =>
 And2 (Ld none v5 (Is v6))
 (And2 (Ld none v7 (Is v8))
 (Cl P 31 [v6, (.int .i64 65536)] fun v10 =>
 And2 (Ld none v7 (Is v8))
 (Cl P 31 [v8, (.int .i64 67108864)] fun v11 =>
 O (aggO (bldV [(.int .i64 0), (.int .i64 0), (.int .i64 0)] [(0, 1, v9), (1, 1, v10), (2, 1, v11)])) fun v12 =>
 St 3 v2 v12 fun v13 =>
 Ld (some 3) v2 fun v14 =>
 K v14)))
theorem s16 (a0 : Value) (K : Value → Asn) : vc Try.prog (.seq .leaf (.seq (.draw [0, 1, 3, 0, 8, 31, 0, 64, 255, 511, 1023] [(0, []), (1, []), (3, []), (4, []), (6, []), (7, []), (2, [4, 7]), (5, [7]), (8, []), (9, []), (10, [])]) .leaf)) (Try.f16.body.getD .skip) (Sl.start [a0]) (kret Try.prog Try.f16.results.toList K) (fun _ _ => no) (kret Try.prog Try.f16.results.toList K) = S16 Try.prog a0 K := by kernel_rfl
theorem e16 {a0 : Value} {K : Value → Asn} {h : PH} (s : S16 Try.prog a0 K h) : Cl Try.prog 16 [a0] K h := cl_of_vc Try.func16 rfl rfl rfl (by kernel_rfl) ((s16 a0 K) ▸ s)
def S17 (P : Program) (a0 : Value) (K : Value → Asn) : Asn :=
 Nw 43 (a0 : Value).cells.toList ptr fun v1 =>
 Nw 43 [(.int .i64 0), (.int .i64 0), (.int .i64 0)] ptr fun v2 =>
 O (addV 0 v1) fun v3 =>
 Ld none v3 fun v4 =>
 O (minV v4 (.int .i64 1024)) fun v5 =>
 O (maxV (.int .i64 1) v5) fun v6 =>
 O (addV 1 v1) fun v7 =>
 Ld none v7 fun v8 =>
 O (minV v8 (.int .i64 65536)) fun v9 =>
 O (maxV (.int .i64 1) v9) fun v10 =>
 O (addV 2 v1) fun v11 =>
 Ld none v11 fun v12 =>
 O (minV v12 (.int .i64 67108864)) fun v13 =>
 O (maxV (.int .i64 1) v13) fun v14 =>
 O (aggO (bldV [(.int .i64 0), (.int .i64 0), (.int .i64 0)] [(0, 1, v6), (1, 1, v10), (2, 1, v14)])) fun v15 =>
 St 3 v2 v15 fun v16 =>
 Ld (some 3) v2 fun v17 =>
 K v17
theorem s17 (a0 : Value) (K : Value → Asn) : vc Try.prog (.seq .leaf (.seq .leaf .leaf)) (Try.f17.body.getD .skip) (Sl.start [a0]) (kret Try.prog Try.f17.results.toList K) (fun _ _ => no) (kret Try.prog Try.f17.results.toList K) = S17 Try.prog a0 K := by kernel_rfl
theorem e17 {a0 : Value} {K : Value → Asn} {h : PH} (s : S17 Try.prog a0 K h) : Cl Try.prog 17 [a0] K h := cl_of_vc Try.func17 rfl rfl rfl (by kernel_rfl) ((s17 a0 K) ▸ s)
def S18 (P : Program) (a0 a1 a2 a3 : Value) (K : Value → Asn) : Asn :=
 Nw 52 (a1 : Value).cells.toList ptr fun v1 =>
 Nw 46 (a2 : Value).cells.toList ptr fun v2 =>
 Nw 52 [(.int .i64 0), (.int .i64 0), (.int .i64 0), (.slice none 0 0), (.int .i64 0), (.int .i64 0), (.int .i64 0), (.int .i64 0)] ptr fun v3 =>
 O (addV 0 v2) fun v4 =>
 Ld none v4 fun v5 =>
 VB v5
 (Ld (some 8) v1 fun v6 =>
 O (addV 6 v2) fun v7 =>
 Ld none v7 fun v8 =>
 O (addV 7 v2) fun v9 =>
 Ld none v9 fun v10 =>
 Cl P 32 [v6, a3, v8, v10] fun v11 =>
 O (extV 0 v11) fun v12 =>
 O (extV 1 v11) fun v13 =>
 O (extV 2 v11) fun v14 =>
 Nw 52 [(.int .i64 0), (.int .i64 0), (.int .i64 0), (.slice none 0 0), (.int .i64 0), (.int .i64 0), (.int .i64 0), (.int .i64 0)] ptr fun v15 =>
 St 8 v15 v12 fun v16 =>
 O (addV 6 v2) fun v17 =>
 Ld none v17 fun v18 =>
 O (addV 7 v2) fun v19 =>
 Ld none v19 fun v20 =>
 Cl P 10 [a0, a3, v18, v20] fun v21 =>
 O (extV 0 v21) fun v22 =>
 O (extV 1 v21) fun v23 =>
 Ld (some 8) v15 fun v24 =>
 Cl P 33 [v22, v13] fun v25 =>
 And2 (Ld (some 8) v15 (Is v24))
 (VB v25
 (Cl P 34 [v23, v14] fun v26 =>
 And2 (Ld (some 8) v15 (Is v24))
 (St 8 v3 v24 fun v27 =>
 Ld (some 8) v3 fun v28 =>
 K (.tuple #[v28, v26])))
 (And2 (Ld (some 8) v15 (Is v24))
 (St 8 v3 v24 fun v29 =>
 Ld (some 8) v3 fun v30 =>
 K (.tuple #[v30, (.bool false)])))))
 (O (addV 5 v2) fun v31 =>
 Ld none v31 fun v32 =>
 Cl P 12 [v32, (.int .i64 30)] fun v33 =>
 Ld (some 8) v1 fun v34 =>
 O (addV 1 v2) fun v35 =>
 Ld none v35 fun v36 =>
 O (cvV .i64 v36) fun v37 =>
 O (addV 2 v2) fun v38 =>
 Ld none v38 fun v39 =>
 O (addV 3 v2) fun v40 =>
 Ld none v40 fun v41 =>
 Cl P 35 [v34, v37, v39, v41, v33, a3] fun v42 =>
 O (extV 0 v42) fun v43 =>
 O (extV 1 v42) fun v44 =>
 O (extV 2 v42) fun v45 =>
 Nw 52 [(.int .i64 0), (.int .i64 0), (.int .i64 0), (.slice none 0 0), (.int .i64 0), (.int .i64 0), (.int .i64 0), (.int .i64 0)] ptr fun v46 =>
 St 8 v46 v43 fun v47 =>
 O (addV 1 v2) fun v48 =>
 Ld none v48 fun v49 =>
 O (addV 2 v2) fun v50 =>
 Ld none v50 fun v51 =>
 O (addV 3 v2) fun v52 =>
 Ld none v52 fun v53 =>
 O (aggO (bldV [(.int .i64 0), (.int .i64 0)] [(0, 1, v51), (1, 1, v53)])) fun v54 =>
 Cl P 9 [a0, v49, v54, v33, a3] fun v55 =>
 Nw 30 [(.int .i64 0), (.slice none 0 0)] ptr fun v56 =>
 St 2 v56 v55 fun v57 =>
 Ld (some 8) v46 fun v58 =>
 O (addV 0 v56) fun v59 =>
 Ld none v59 fun v60 =>
 O (binV .eql v60 v44) fun v61 =>
 VB v61
 (O (addV 1 v56) fun v62 =>
 Ld none v62 fun v63 =>
 Cl P 34 [v63, v45] fun v64 =>
 And2 (Ld (some 8) v46 (Is v58))
 (St 8 v3 v58 fun v65 =>
 Ld (some 8) v3 fun v66 =>
 K (.tuple #[v66, v64])))
 (And2 (Ld (some 8) v46 (Is v58))
 (St 8 v3 v58 fun v67 =>
 Ld (some 8) v3 fun v68 =>
 K (.tuple #[v68, (.bool false)]))))
theorem s18 (a0 a1 a2 a3 : Value) (K : Value → Asn) : vc Try.prog (.seq .leaf (.seq (.seq .leaf (.cond (.seq .leaf (.seq .leaf (.seq (.draw [0, 0, 0, 6, 14, 30, 30, 126, 254, 255, 1023] [(0, []), (1, []), (2, []), (3, [0]), (4, []), (5, []), (6, []), (7, [0]), (8, []), (9, []), (10, [])]) .leaf))) .leaf)) (.seq .leaf (.seq .leaf (.seq .leaf (.seq (.draw [0, 0, 2, 0, 14, 30, 62, 126, 62, 510, 1022, 1023, 4095] [(0, []), (1, []), (2, []), (3, []), (4, []), (5, []), (6, []), (7, []), (8, []), (9, [0]), (10, []), (11, []), (12, [])]) .leaf)))))) (Try.f18.body.getD .skip) (Sl.start [a0, a1, a2, a3]) (kret Try.prog Try.f18.results.toList K) (fun _ _ => no) (kret Try.prog Try.f18.results.toList K) = S18 Try.prog a0 a1 a2 a3 K := by kernel_rfl
theorem e18 {a0 a1 a2 a3 : Value} {K : Value → Asn} {h : PH} (s : S18 Try.prog a0 a1 a2 a3 K h) : Cl Try.prog 18 [a0, a1, a2, a3] K h := cl_of_vc Try.func18 rfl rfl rfl (by kernel_rfl) ((s18 a0 a1 a2 a3 K) ▸ s)
def S19 (P : Program) (a0 a1 : Value) (K : Value → Asn) : Asn :=
 Nw 52 (a1 : Value).cells.toList ptr fun v1 =>
 O (addV 3 v1) fun v2 =>
 Ld none v2 fun v3 =>
 O (lenL v3) fun v4 =>
 VL [(.slice none 0 0), (.int .i64 0)] (fun x6 j7 k5 =>
 O (binV .lss (nth x6 1) v4) fun v8 =>
 VB v8
 (O (idxV 4 v3 (nth x6 1)) fun v9 =>
 Ld (some 4) v9 fun v10 =>
 Nw 86 [(.int .i64 0), (.int .i64 0), (.slice none 0 0), (.slice none 0 0)] ptr fun v11 =>
 St 4 v11 v10 fun v12 =>
 O (addV 0 v11) fun v13 =>
 Ld none v13 fun v14 =>
 BS 3 (bldV (rep [(.int .i64 0)] 1) [(0 * 1, 1, v14)]) 1 fun v15 =>
 Runs P (Builtin.append_ #[76, 76] 76 #[(nth x6 0), v15]) fun v16 =>
 O (binV .add (nth x6 1) (.int .i64 1)) fun v17 =>
 k5 [v16, v17])
 (Ld (some 8) v1 fun v18 =>
 Cl P 36 [v18] fun v19 =>
 O (extV 0 v19) fun v20 =>
 O (extV 1 v19) fun v21 =>
 Cl P 37 [a0] fun v22 =>
 O (extV 0 v22) fun v23 =>
 O (extV 1 v22) fun v24 =>
 O (extV 2 v22) fun v25 =>
 Cl P 13 [a0] fun v26 =>
 Cl P 34 [v26, (nth x6 0)] fun v27 =>
 VB v27
 (O (lenL (nth x6 0)) fun v28 =>
 Cl P 11 [a0] fun v29 =>
 O (binV .eql v29 v28) fun v30 =>
 VB v30
 (Cl P 20 [a0] fun v31 =>
 O (binV .eql v31 v20) fun v32 =>
 VB v32
 (Cl P 21 [a0] fun v33 =>
 O (binV .eql v33 v21) fun v34 =>
 VB v34
 (O (addV 4 v1) fun v35 =>
 Ld none v35 fun v36 =>
 Cl P 14 [a0] fun v37 =>
 And2 ((Ld none v35 (Is v36)))
 (O (binV .eql v37 v36) fun v38 =>
 VB v38
 (O (addV 5 v1) fun v39 =>
 Ld none v39 fun v40 =>
 O (binV .eql v23 v40) fun v41 =>
 VB v41
 (O (addV 6 v1) fun v42 =>
 Ld none v42 fun v43 =>
 O (binV .eql v24 v43) fun v44 =>
 VB v44
 (O (addV 7 v1) fun v45 =>
 Ld none v45 fun v46 =>
 O (binV .eql v25 v46) fun v47 =>
 K v47)
 (K (.bool false)))
 (K (.bool false)))
 (K (.bool false))))
 (And2 ((isUndef undef))
 (K (.bool false))))
 (And2 ((isUndef undef))
 (K (.bool false))))
 (And2 ((isUndef undef))
 (K (.bool false))))
 (And2 ((isUndef undef))
 (K (.bool false)))))
theorem s19 (a0 a1 : Value) (K : Value → Asn) : vc Try.prog (.seq .leaf (.seq .leaf (.seq (.seq .leaf (.block (.loop (.seq .leaf (.seq (.cond .leaf .leaf) (.seq (.block (.seq .leaf .leaf)) .leaf))) [5, 16] [0, 3, 14, 15]))) (.seq .leaf (.seq .leaf (.seq (.draw [0, 1, 0, 7, 15, 31, 63, 31, 159, 511, 1023, 2047, 4095, 8191, 4095, 32767, 65535, 131071, 262143, 524287, 262143, 2097151, 4194303, 8388607, 16777215, 33554431, 16777215, 83886079, 268435455, 536870911, 1073741823, 2147483647, 2147483647, 6442450943, 17179869183, 34359738367, 68719476735, 137438953471, 137438953471, 412316860415, 1099511627775, 2199023255551, 4398046511103, 8796093022207, 8796093022207, 26388279066623, 70368744177663, 140737488355327, 281474976710655] [(0, []), (2, []), (1, []), (3, []), (4, []), (5, []), (7, []), (8, []), (6, []), (9, []), (10, []), (11, []), (12, []), (14, []), (13, []), (15, []), (16, []), (17, []), (18, []), (20, []), (19, []), (21, []), (22, []), (23, []), (24, []), (26, []), (27, []), (25, [27]), (28, []), (29, []), (30, []), (31, []), (32, []), (33, []), (34, []), (35, []), (36, []), (37, []), (38, []), (39, []), (40, []), (41, []), (42, []), (43, []), (44, []), (45, []), (46, []), (47, []), (48, [])]) .leaf)))))) (Try.f19.body.getD .skip) (Sl.start [a0, a1]) (kret Try.prog Try.f19.results.toList K) (fun _ _ => no) (kret Try.prog Try.f19.results.toList K) = S19 Try.prog a0 a1 K := by kernel_rfl
theorem e19 {a0 a1 : Value} {K : Value → Asn} {h : PH} (s : S19 Try.prog a0 a1 K h) : Cl Try.prog 19 [a0, a1] K h := cl_of_vc Try.func19 rfl rfl rfl (by kernel_rfl) ((s19 a0 a1 K) ▸ s)
def S20 (P : Program) (a0 : Value) (K : Value → Asn) : Asn :=
 O (nilV a0) fun v1 =>
 O (addV 3 v1) fun v2 =>
 O (addV 1 v2) fun v3 =>
 Ld none v3 fun v4 =>
 K v4
theorem s20 (a0 : Value) (K : Value → Asn) : vc Try.prog (.seq .leaf (.seq .leaf .leaf)) (Try.f20.body.getD .skip) (Sl.start [a0]) (kret Try.prog Try.f20.results.toList K) (fun _ _ => no) (kret Try.prog Try.f20.results.toList K) = S20 Try.prog a0 K := by kernel_rfl
theorem e20 {a0 : Value} {K : Value → Asn} {h : PH} (s : S20 Try.prog a0 K h) : Cl Try.prog 20 [a0] K h := cl_of_vc Try.func20 rfl rfl rfl (by kernel_rfl) ((s20 a0 K) ▸ s)
def S21 (P : Program) (a0 : Value) (K : Value → Asn) : Asn :=
 O (nilV a0) fun v1 =>
 O (addV 3 v1) fun v2 =>
 O (addV 2 v2) fun v3 =>
 Ld none v3 fun v4 =>
 K v4
theorem s21 (a0 : Value) (K : Value → Asn) : vc Try.prog (.seq .leaf (.seq .leaf .leaf)) (Try.f21.body.getD .skip) (Sl.start [a0]) (kret Try.prog Try.f21.results.toList K) (fun _ _ => no) (kret Try.prog Try.f21.results.toList K) = S21 Try.prog a0 K := by kernel_rfl
theorem e21 {a0 : Value} {K : Value → Asn} {h : PH} (s : S21 Try.prog a0 K h) : Cl Try.prog 21 [a0] K h := cl_of_vc Try.func21 rfl rfl rfl (by kernel_rfl) ((s21 a0 K) ▸ s)
def S22 (P : Program) (a0 : Value) (K : Value → Asn) : Asn :=
 O (nilV a0) fun v1 =>
 Ld (some 11) v1 fun v2 =>
 Nw 65 [(.int .i64 0), (.int .i64 0), (.int .i64 0), (.int .i64 0), (.int .i64 0), (.int .i64 0), (.slice none 0 0), (.int .i64 0), (.int .i64 0), (.int .i64 0), (.int .i64 0)] ptr fun v3 =>
 St 11 v3 v2 fun v4 =>
 O (addV 6 v3) fun v5 =>
 St 1 v5 (.slice none 0 0) fun v6 =>
 O (nilV a0) fun v7 =>
 O (addV 6 v7) fun v8 =>
 Ld none v8 fun v9 =>
 O (lenL v9) fun v10 =>
 VL [(.int .i64 0)] (fun x12 j13 k11 =>
 O (binV .lss (nth x12 0) v10) fun v14 =>
 VB v14
 (O (idxV 1 v9 (nth x12 0)) fun v15 =>
 Ld none v15 fun v16 =>
 O (addV 6 v3) fun v17 =>
 Ld none v17 fun v18 =>
 Cl P 38 [v16] fun v19 =>
 And2 (Ld none v17 (Is v18))
 (BS 66 (bldV (rep [(.pointer none)] 1) [(0 * 1, 1, v19)]) 1 fun v20 =>
 Runs P (Builtin.append_ #[63, 63] 63 #[v18, v20]) fun v21 =>
 O (addV 6 v3) fun v22 =>
 St 1 v22 v21 fun v23 =>
 O (binV .add (nth x12 0) (.int .i64 1)) fun v24 =>
 k11 [v24]))
 (K v3))
theorem s22 (a0 : Value) (K : Value → Asn) : vc Try.prog (.seq .leaf (.seq .leaf (.seq .leaf (.seq (.seq .leaf (.block (.loop (.seq .leaf (.seq (.cond .leaf .leaf) (.seq (.block (.seq .leaf (.draw [0, 1, 0, 4, 12, 31, 63, 127] [(0, []), (1, []), (2, []), (3, [1]), (4, []), (5, []), (6, []), (7, [])]))) .leaf))) [15] [3, 13, 14]))) (.seq .leaf .leaf))))) (Try.f22.body.getD .skip) (Sl.start [a0]) (kret Try.prog Try.f22.results.toList K) (fun _ _ => no) (kret Try.prog Try.f22.results.toList K) = S22 Try.prog a0 K := by kernel_rfl
theorem e22 {a0 : Value} {K : Value → Asn} {h : PH} (s : S22 Try.prog a0 K h) : Cl Try.prog 22 [a0] K h := cl_of_vc Try.func22 rfl rfl rfl (by kernel_rfl) ((s22 a0 K) ▸ s)
def S23 (P : Program) (a0 a1 a2 a3 : Value) (K : Value → Asn) : Asn :=
 O (nilV a0) fun v1 =>
 O (addV 6 v1) fun v2 =>
 Ld none v2 fun v3 =>
 Cl P 39 [v3, a1, (.func (.func 40) #[] #[])] fun v4 =>
 O (extV 0 v4) fun v5 =>
 O (extV 1 v4) fun v6 =>
 VJ (fun k7 =>
 O (notV v6) fun v10 =>
 VB v10
 (Cl P 42 [a1, a2, a3] fun v11 =>
 O (nilV a0) fun v12 =>
 O (addV 6 v12) fun v13 =>
 Ld none v13 fun v14 =>
 BS 66 (bldV (rep [(.pointer none)] 1) [(0 * 1, 1, v11)]) 1 fun v15 =>
 Cl P 43 [v14, v5, v15] fun v16 =>
 O (nilV a0) fun v17 =>
 O (addV 6 v17) fun v18 =>
 St 1 v18 v16 fun v19 =>
 O (nilV a0) fun v20 =>
 O (addV 3 v20) fun v21 =>
 Cl P 24 [v21, v11, (.int .i64 1)] fun v22 =>
 k7 [])
 (k7 []))
 (fun x8 j9 =>
 O (nilV a0) fun v23 =>
 O (addV 6 v23) fun v24 =>
 Ld none v24 fun v25 =>
 O (idxV 1 v25 v5) fun v26 =>
 Ld none v26 fun v27 =>
 K v27)
theorem s23 (a0 a1 a2 a3 : Value) (K : Value → Asn) : vc Try.prog (.seq .leaf (.seq .leaf (.join (.seq .leaf (.cond (.seq .leaf (.seq .leaf .leaf)) .leaf)) (.seq .leaf .leaf) [] [0, 9]))) (Try.f23.body.getD .skip) (Sl.start [a0, a1, a2, a3]) (kret Try.prog Try.f23.results.toList K) (fun _ _ => no) (kret Try.prog Try.f23.results.toList K) = S23 Try.prog a0 a1 a2 a3 K := by kernel_rfl
theorem e23 {a0 a1 a2 a3 : Value} {K : Value → Asn} {h : PH} (s : S23 Try.prog a0 a1 a2 a3 K h) : Cl Try.prog 23 [a0, a1, a2, a3] K h := cl_of_vc Try.func23 rfl rfl rfl (by kernel_rfl) ((s23 a0 a1 a2 a3 K) ▸ s)
def S24 (P : Program) (a0 a1 a2 : Value) (K : Value → Asn) : Asn :=
 O (nilV a0) fun v1 =>
 O (addV 0 v1) fun v2 =>
 Ld none v2 fun v3 =>
 O (binV .add v3 a2) fun v4 =>
 O (nilV a0) fun v5 =>
 O (addV 0 v5) fun v6 =>
 St 1 v6 v4 fun v7 =>
 O (nilV a0) fun v8 =>
 O (addV 1 v8) fun v9 =>
 Ld none v9 fun v10 =>
 Cl P 44 [a1] fun v11 =>
 And2 (Ld none v9 (Is v10))
 (O (binV .mul a2 v11) fun v12 =>
 O (binV .add v10 v12) fun v13 =>
 O (nilV a0) fun v14 =>
 O (addV 1 v14) fun v15 =>
 St 1 v15 v13 fun v16 =>
 O (nilV a0) fun v17 =>
 O (addV 2 v17) fun v18 =>
 Ld none v18 fun v19 =>
 Cl P 45 [a1] fun v20 =>
 And2 (Ld none v18 (Is v19))
 (O (binV .mul a2 v20) fun v21 =>
 O (binV .add v19 v21) fun v22 =>
 O (nilV a0) fun v23 =>
 O (addV 2 v23) fun v24 =>
 St 1 v24 v22 fun v25 =>
 K (.tuple #[])))
theorem s24 (a0 a1 a2 : Value) (K : Value → Asn) : vc Try.prog (.seq .leaf (.seq (.draw [0, 1, 3, 7, 0, 0, 32, 112, 255, 511, 1023, 2047] [(0, []), (1, []), (2, []), (3, []), (4, []), (5, []), (6, [3]), (7, []), (8, []), (9, []), (10, []), (11, [])]) (.draw [0, 1, 3, 7, 0, 0, 32, 112, 255, 511, 1023, 2047] [(0, []), (1, []), (2, []), (3, []), (4, []), (5, []), (6, [3]), (7, []), (8, []), (9, []), (10, []), (11, [])]))) (Try.f24.body.getD .skip) (Sl.start [a0, a1, a2]) (kret Try.prog Try.f24.results.toList K) (fun _ _ => no) (kret Try.prog Try.f24.results.toList K) = S24 Try.prog a0 a1 a2 K := by kernel_rfl
theorem e24 {a0 a1 a2 : Value} {K : Value → Asn} {h : PH} (s : S24 Try.prog a0 a1 a2 K h) : Cl Try.prog 24 [a0, a1, a2] K h := cl_of_vc Try.func24 rfl rfl rfl (by kernel_rfl) ((s24 a0 a1 a2 K) ▸ s)
def S25 (P : Program) (a0 a1 a2 : Value) (K : Value → Asn) : Asn :=
 Nw 34 (a1 : Value).cells.toList ptr fun v1 =>
 O (nilV a0) fun v2 =>
 O (addV 3 v2) fun v3 =>
 Ld none v3 fun v4 =>
 O (addV 0 v1) fun v5 =>
 Ld none v5 fun v6 =>
 Rd P (Instr.lookup 97 v4 v6 true) fun v7 =>
 O (extV 0 v7) fun v8 =>
 O (extV 1 v7) fun v9 =>
 VJ (fun k10 =>
 O (addV 1 v1) fun v13 =>
 Ld none v13 fun v14 =>
 O (nilV a0) fun v15 =>
 O (addV 1 v15) fun v16 =>
 Ld none v16 fun v17 =>
 O (binV .neq v14 v17) fun v18 =>
 VB v18
 (k10 [(.bool true)])
 (O (addV 0 v1) fun v19 =>
 Ld none v19 fun v20 =>
 O (binV .lss v20 (.int .i64 0)) fun v21 =>
 VB v21
 (k10 [(.bool true)])
 (O (addV 0 v1) fun v22 =>
 Ld none v22 fun v23 =>
 O (nilV a0) fun v24 =>
 O (addV 1 v24) fun v25 =>
 Ld none v25 fun v26 =>
 O (binV .geq v23 v26) fun v27 =>
 k10 [v27])))
 (fun x11 j12 =>
 VB (nth x11 0)
 (K (.int .i64 4))
 (VB v9
 (K (.int .i64 3))
 (O (nilV a0) fun v28 =>
 O (addV 3 v28) fun v29 =>
 Ld none v29 fun v30 =>
 O (addV 0 v1) fun v31 =>
 Ld none v31 fun v32 =>
 Runs P (Instr.mapUpdate 97 v30 v32 a2) fun _ =>
 O (nilV a0) fun v33 =>
 O (addV 4 v33) fun v34 =>
 Ld none v34 fun v35 =>
 O (lenS a2) fun v36 =>
 O (binV .add v35 v36) fun v37 =>
 O (nilV a0) fun v38 =>
 O (addV 4 v38) fun v39 =>
 St 1 v39 v37 fun v40 =>
 Cl P 46 [a0] fun v41 =>
 VB v41
 (K (.int .i64 2))
 (K (.int .i64 1)))))
theorem s25 (a0 a1 a2 : Value) (K : Value → Asn) : vc Try.prog (.seq .leaf (.seq (.draw [0, 1, 3, 7, 0, 16, 63, 127, 255, 255, 511, 2047] [(0, []), (1, []), (2, []), (3, []), (4, []), (5, []), (6, []), (7, []), (8, []), (9, []), (10, []), (11, [])]) (.seq (.block (.join (.draw [0, 1, 0, 4, 12, 28, 63, 127, 255, 511, 1023, 2047, 4095, 8191, 16383, 8191, 40959, 106495, 237567, 524287, 1048575, 2097151] [(0, []), (1, []), (2, []), (3, []), (4, []), (5, []), (6, []), (7, []), (8, []), (9, []), (10, []), (11, []), (12, []), (13, []), (14, []), (15, []), (16, []), (17, []), (18, []), (19, []), (20, []), (21, [])]) (.cond (.seq .leaf .leaf) (.seq .leaf (.cond (.seq .leaf .leaf) .leaf))) [19] [0, 2, 4, 8])) (.seq (.draw [0, 1, 3, 7, 0, 16, 0, 127] [(0, []), (1, []), (2, []), (3, []), (4, []), (5, []), (6, []), (7, [])]) (.seq .leaf (.seq (.seq .leaf (.cond (.seq .leaf .leaf) .leaf)) (.seq .leaf .leaf))))))) (Try.f25.body.getD .skip) (Sl.start [a0, a1, a2]) (kret Try.prog Try.f25.results.toList K) (fun _ _ => no) (kret Try.prog Try.f25.results.toList K) = S25 Try.prog a0 a1 a2 K := by kernel_rfl
theorem e25 {a0 a1 a2 : Value} {K : Value → Asn} {h : PH} (s : S25 Try.prog a0 a1 a2 K h) : Cl Try.prog 25 [a0, a1, a2] K h := cl_of_vc Try.func25 rfl rfl rfl (by kernel_rfl) ((s25 a0 a1 a2 K) ▸ s)
def S26 (P : Program) (a0 : Value) (K : Value → Asn) : Asn :=
 O (nilV a0) fun v1 =>
 O (addV 3 v1) fun v2 =>
 O (addV 0 v2) fun v3 =>
 Ld none v3 fun v4 =>
 O (nilV a0) fun v5 =>
 O (addV 0 v5) fun v6 =>
 O (addV 0 v6) fun v7 =>
 Ld none v7 fun v8 =>
 O (binV .gtr v4 v8) fun v9 =>
 VB v9
 (K (.bool true))
 (O (nilV a0) fun v10 =>
 O (addV 3 v10) fun v11 =>
 O (addV 1 v11) fun v12 =>
 Ld none v12 fun v13 =>
 O (nilV a0) fun v14 =>
 O (addV 0 v14) fun v15 =>
 O (addV 1 v15) fun v16 =>
 Ld none v16 fun v17 =>
 O (binV .gtr v13 v17) fun v18 =>
 VB v18
 (K (.bool true))
 (O (nilV a0) fun v19 =>
 O (addV 3 v19) fun v20 =>
 O (addV 2 v20) fun v21 =>
 Ld none v21 fun v22 =>
 O (nilV a0) fun v23 =>
 O (addV 0 v23) fun v24 =>
 O (addV 2 v24) fun v25 =>
 Ld none v25 fun v26 =>
 O (binV .gtr v22 v26) fun v27 =>
 K v27))
theorem s26 (a0 : Value) (K : Value → Asn) : vc Try.prog (.seq .leaf (.seq (.draw [0, 1, 3, 7, 15, 0, 32, 96, 224, 480, 1023, 2047, 4095, 8191, 16383, 32767, 65535, 4095, 135167, 397311, 921599, 1970175, 4194303, 8388607, 16777215, 33554431, 67108863, 134217727, 268435455, 536870911, 33554431, 1107296255, 3254779903, 7549747199, 16139681791, 34359738367, 68719476735, 137438953471] [(0, []), (1, []), (2, []), (3, []), (4, []), (5, []), (6, []), (7, []), (8, []), (9, []), (10, []), (11, []), (12, []), (13, []), (14, []), (15, []), (16, []), (17, []), (18, []), (19, []), (20, []), (21, []), (22, []), (23, []), (24, []), (25, []), (26, []), (27, []), (28, []), (29, []), (30, []), (31, []), (32, []), (33, []), (34, []), (35, []), (36, []), (37, [])]) .leaf)) (Try.f26.body.getD .skip) (Sl.start [a0]) (kret Try.prog Try.f26.results.toList K) (fun _ _ => no) (kret Try.prog Try.f26.results.toList K) = S26 Try.prog a0 K := by kernel_rfl
theorem e26 {a0 : Value} {K : Value → Asn} {h : PH} (s : S26 Try.prog a0 K h) : Cl Try.prog 26 [a0] K h := cl_of_vc Try.func26 rfl rfl rfl (by kernel_rfl) ((s26 a0 K) ▸ s)
def S27 (P : Program) (a0 : Value) (K : Value → Asn) : Asn :=
 O (nilV a0) fun v1 =>
 O (addV 6 v1) fun v2 =>
 Ld none v2 fun v3 =>
 O (idxV 1 v3 (.int .i64 0)) fun v4 =>
 Ld none v4 fun v5 =>
 O (nilV a0) fun v6 =>
 O (addV 6 v6) fun v7 =>
 Ld none v7 fun v8 =>
 Cl P 47 [v8, (.int .i64 0), (.int .i64 1)] fun v9 =>
 O (nilV a0) fun v10 =>
 O (addV 6 v10) fun v11 =>
 St 1 v11 v9 fun v12 =>
 O (nilV a0) fun v13 =>
 O (addV 3 v13) fun v14 =>
 Cl P 24 [v14, v5, (.int .i64 (-1))] fun v15 =>
 Cl P 28 [v5] fun v16 =>
 O (cvV .i64 v16) fun v17 =>
 O (nilV a0) fun v18 =>
 O (addV 7 v18) fun v19 =>
 St 1 v19 v17 fun v20 =>
 K v5
theorem s27 (a0 : Value) (K : Value → Asn) : vc Try.prog (.seq .leaf (.seq .leaf (.seq .leaf (.seq .leaf (.seq .leaf (.seq .leaf .leaf)))))) (Try.f27.body.getD .skip) (Sl.start [a0]) (kret Try.prog Try.f27.results.toList K) (fun _ _ => no) (kret Try.prog Try.f27.results.toList K) = S27 Try.prog a0 K := by kernel_rfl
theorem e27 {a0 : Value} {K : Value → Asn} {h : PH} (s : S27 Try.prog a0 K h) : Cl Try.prog 27 [a0] K h := cl_of_vc Try.func27 rfl rfl rfl (by kernel_rfl) ((s27 a0 K) ▸ s)
def S28 (P : Program) (a0 : Value) (K : Value → Asn) : Asn :=
 O (nilV a0) fun v1 =>
 O (addV 0 v1) fun v2 =>
 Ld none v2 fun v3 =>
 K v3
theorem s28 (a0 : Value) (K : Value → Asn) : vc Try.prog (.seq .leaf (.seq .leaf .leaf)) (Try.f28.body.getD .skip) (Sl.start [a0]) (kret Try.prog Try.f28.results.toList K) (fun _ _ => no) (kret Try.prog Try.f28.results.toList K) = S28 Try.prog a0 K := by kernel_rfl
theorem e28 {a0 : Value} {K : Value → Asn} {h : PH} (s : S28 Try.prog a0 K h) : Cl Try.prog 28 [a0] K h := cl_of_vc Try.func28 rfl rfl rfl (by kernel_rfl) ((s28 a0 K) ▸ s)
def S29 (P : Program) (a0 : Value) (K : Value → Asn) : Asn :=
 Cl P 46 [a0] fun v1 =>
 O (notV v1) fun v2 =>
 VB v2
 (K (.tuple #[(.string ⟨#[]⟩), (.bool false)]))
 (Nw 103 [(.pointer none), (.slice none 0 0)] ptr fun v3 =>
 O (nilV a0) fun v4 =>
 O (addV 1 v4) fun v5 =>
 Ld none v5 fun v6 =>
 VL [(.int .i64 0)] (fun x8 j9 k7 =>
 O (binV .lss (nth x8 0) v6) fun v10 =>
 VB v10
 (O (nilV a0) fun v11 =>
 O (addV 3 v11) fun v12 =>
 Ld none v12 fun v13 =>
 Rd P (Instr.lookup 97 v13 (nth x8 0) false) fun v14 =>
 Cl P 48 [v3, v14] fun v15 =>
 O (binV .add (nth x8 0) (.int .i64 1)) fun v16 =>
 k7 [v16])
 (Cl P 49 [v3] fun v17 =>
 K (.tuple #[v17, (.bool true)]))))
theorem s29 (a0 : Value) (K : Value → Asn) : vc Try.prog (.seq .leaf (.seq (.seq .leaf (.cond (.seq .leaf .leaf) .leaf)) (.seq .leaf (.seq (.seq .leaf (.block (.loop (.seq .leaf (.seq (.cond .leaf .leaf) (.seq (.block (.seq .leaf .leaf)) .leaf))) [13] [0, 4, 12]))) (.seq .leaf .leaf))))) (Try.f29.body.getD .skip) (Sl.start [a0]) (kret Try.prog Try.f29.results.toList K) (fun _ _ => no) (kret Try.prog Try.f29.results.toList K) = S29 Try.prog a0 K := by kernel_rfl
theorem e29 {a0 : Value} {K : Value → Asn} {h : PH} (s : S29 Try.prog a0 K h) : Cl Try.prog 29 [a0] K h := cl_of_vc Try.func29 rfl rfl rfl (by kernel_rfl) ((s29 a0 K) ▸ s)
def S30 (P : Program) (a0 : Value) (K : Value → Asn) : Asn :=
 O (nilV a0) fun v1 =>
 O (addV 2 v1) fun v2 =>
 Ld none v2 fun v3 =>
 K v3
theorem s30 (a0 : Value) (K : Value → Asn) : vc Try.prog (.seq .leaf (.seq .leaf .leaf)) (Try.f30.body.getD .skip) (Sl.start [a0]) (kret Try.prog Try.f30.results.toList K) (fun _ _ => no) (kret Try.prog Try.f30.results.toList K) = S30 Try.prog a0 K := by kernel_rfl
theorem e30 {a0 : Value} {K : Value → Asn} {h : PH} (s : S30 Try.prog a0 K h) : Cl Try.prog 30 [a0] K h := cl_of_vc Try.func30 rfl rfl rfl (by kernel_rfl) ((s30 a0 K) ▸ s)
def S31 (P : Program) (a0 a1 : Value) (K : Value → Asn) : Asn :=
 O (minV a0 a1) fun v1 =>
 O (maxV (.int .i64 1) v1) fun v2 =>
 K v2
theorem s31 (a0 a1 : Value) (K : Value → Asn) : vc Try.prog (.seq .leaf (.seq .leaf .leaf)) (Try.f31.body.getD .skip) (Sl.start [a0, a1]) (kret Try.prog Try.f31.results.toList K) (fun _ _ => no) (kret Try.prog Try.f31.results.toList K) = S31 Try.prog a0 a1 K := by kernel_rfl
theorem e31 {a0 a1 : Value} {K : Value → Asn} {h : PH} (s : S31 Try.prog a0 a1 K h) : Cl Try.prog 31 [a0, a1] K h := cl_of_vc Try.func31 rfl rfl rfl (by kernel_rfl) ((s31 a0 a1 K) ▸ s)
def S32 (P : Program) (a0 a1 a2 a3 : Value) (K : Value → Asn) : Asn :=
 Nw 52 (a0 : Value).cells.toList ptr fun v1 =>
 Nw 52 [(.int .i64 0), (.int .i64 0), (.int .i64 0), (.slice none 0 0), (.int .i64 0), (.int .i64 0), (.int .i64 0), (.int .i64 0)] ptr fun v2 =>
 BS 113 (bldV (rep [(.int .i64 0), (.string ⟨#[]⟩)] 0) []) 0 fun v3 =>
 BS 3 (bldV (rep [(.int .i64 0)] 0) []) 0 fun v4 =>
 VL [v3, v4] (fun x6 j7 k5 =>
 O (addV 3 v1) fun v8 =>
 Ld none v8 fun v9 =>
 O (lenL v9) fun v10 =>
 O (binV .gtr v10 (.int .i64 0)) fun v11 =>
 VB v11
 (O (addV 3 v1) fun v12 =>
 Ld none v12 fun v13 =>
 O (idxV 4 v13 (.int .i64 0)) fun v14 =>
 Ld (some 4) v14 fun v15 =>
 Nw 86 [(.int .i64 0), (.int .i64 0), (.slice none 0 0), (.slice none 0 0)] ptr fun v16 =>
 St 4 v16 v15 fun v17 =>
 O (addV 1 v16) fun v18 =>
 Ld none v18 fun v19 =>
 O (binV .sub a1 v19) fun v20 =>
 VJ (fun k21 =>
 VJ (fun k24 =>
 Ld (some 4) v16 fun v27 =>
 Cl P 50 [v27] fun v28 =>
 O (lenL v28) fun v29 =>
 O (binV .eql v29 (.int .i64 0)) fun v30 =>
 VB v30
 (O (binV .geq v20 a2) fun v31 =>
 k24 [v31])
 (k24 [(.bool false)]))
 (fun x25 j26 =>
 VB (nth x25 0)
 (Ld (some 4) v16 fun v32 =>
 Cl P 51 [v32] fun v33 =>
 O (extV 0 v33) fun v34 =>
 O (extV 1 v33) fun v35 =>
 O (addV 0 v16) fun v36 =>
 Ld none v36 fun v37 =>
 O (aggO (bldV [(.int .i64 0), (.string ⟨#[]⟩)] [(0, 1, v37), (1, 1, v34)])) fun v38 =>
 BS 113 (bldV (rep [(.int .i64 0), (.string ⟨#[]⟩)] 1) [(0 * 2, 2, v38)]) 1 fun v39 =>
 Runs P (Builtin.append_ #[75, 75] 75 #[(nth x6 0), v39]) fun v40 =>
 O (addV 5 v1) fun v41 =>
 Ld none v41 fun v42 =>
 O (binV .add v42 (.int .i64 1)) fun v43 =>
 O (addV 5 v1) fun v44 =>
 St 1 v44 v43 fun v45 =>
 k21 [v40, (nth x6 1)])
 (O (binV .geq v20 a3) fun v46 =>
 VB v46
 (O (addV 0 v16) fun v47 =>
 Ld none v47 fun v48 =>
 BS 3 (bldV (rep [(.int .i64 0)] 1) [(0 * 1, 1, v48)]) 1 fun v49 =>
 Runs P (Builtin.append_ #[76, 76] 76 #[(nth x6 1), v49]) fun v50 =>
 O (addV 6 v1) fun v51 =>
 Ld none v51 fun v52 =>
 O (binV .add v52 (.int .i64 1)) fun v53 =>
 O (addV 6 v1) fun v54 =>
 St 1 v54 v53 fun v55 =>
 k21 [(nth x6 0), v50])
 (Ld (some 8) v1 fun v56 =>
 St 8 v2 v56 fun v57 =>
 Ld (some 8) v2 fun v58 =>
 K (.tuple #[v58, (nth x6 0), (nth x6 1)])))))
 (fun x22 j23 =>
 O (addV 0 v16) fun v59 =>
 Ld none v59 fun v60 =>
 O (addV 4 v1) fun v61 =>
 St 1 v61 v60 fun v62 =>
 O (addV 3 v1) fun v63 =>
 Ld none v63 fun v64 =>
 O (slcV 4 v64 (some (.int .i64 1)) none none) fun v65 =>
 O (addV 3 v1) fun v66 =>
 St 1 v66 v65 fun v67 =>
 k5 [(nth x22 0), (nth x22 1)]))
 (Ld (some 8) v1 fun v68 =>
 St 8 v2 v68 fun v69 =>
 Ld (some 8) v2 fun v70 =>
 K (.tuple #[v70, (nth x6 0), (nth x6 1)])))
theorem s32 (a0 a1 a2 a3 : Value) (K : Value → Asn) : vc Try.prog (.seq .leaf (.seq .leaf (.seq .leaf (.seq (.block (.loop (.seq (.seq .leaf (.cond .leaf .leaf)) (.block (.seq .leaf (.seq .leaf (.join (.join .leaf (.cond (.seq .leaf (.seq .leaf .leaf)) (.seq .leaf (.cond (.seq .leaf .leaf) (.seq .leaf .leaf)))) [39] [1, 2, 3, 4, 8, 11, 12, 13, 14]) (.seq .leaf .leaf) [11, 12] [1, 2, 3, 4, 8, 13]))))) [11, 12] [1, 2, 3, 4, 8])) (.seq .leaf .leaf))))) (Try.f32.body.getD .skip) (Sl.start [a0, a1, a2, a3]) (kret Try.prog Try.f32.results.toList K) (fun _ _ => no) (kret Try.prog Try.f32.results.toList K) = S32 Try.prog a0 a1 a2 a3 K := by kernel_rfl
theorem e32 {a0 a1 a2 a3 : Value} {K : Value → Asn} {h : PH} (s : S32 Try.prog a0 a1 a2 a3 K h) : Cl Try.prog 32 [a0, a1, a2, a3] K h := cl_of_vc Try.func32 rfl rfl rfl (by kernel_rfl) ((s32 a0 a1 a2 a3 K) ▸ s)
def S33 (P : Program) (a0 a1 : Value) (K : Value → Asn) : Asn :=
 O (lenL a0) fun v1 =>
 O (lenL a1) fun v2 =>
 O (binV .neq v1 v2) fun v3 =>
 VB v3
 (K (.bool false))
 (O (lenL a1) fun v4 =>
 VL [(.int .i64 0)] (fun x6 j7 k5 =>
 O (binV .lss (nth x6 0) v4) fun v8 =>
 VB v8
 (VJ (fun k9 =>
 O (idxV 2 a0 (nth x6 0)) fun v12 =>
 O (addV 0 v12) fun v13 =>
 Ld none v13 fun v14 =>
 O (cvV .i64 v14) fun v15 =>
 O (idxV 2 a1 (nth x6 0)) fun v16 =>
 O (addV 0 v16) fun v17 =>
 Ld none v17 fun v18 =>
 O (binV .neq v15 v18) fun v19 =>
 VB v19
 (k9 [(.bool true)])
 (O (idxV 2 a0 (nth x6 0)) fun v20 =>
 O (addV 1 v20) fun v21 =>
 Ld none v21 fun v22 =>
 O (idxV 2 a1 (nth x6 0)) fun v23 =>
 O (addV 1 v23) fun v24 =>
 Ld none v24 fun v25 =>
 O (binV .neq v22 v25) fun v26 =>
 k9 [v26]))
 (fun x10 j11 =>
 VB (nth x10 0)
 (K (.bool false))
 (O (binV .add (nth x6 0) (.int .i64 1)) fun v27 =>
 k5 [v27])))
 (K (.bool true))))
theorem s33 (a0 a1 : Value) (K : Value → Asn) : vc Try.prog (.seq .leaf (.seq (.seq .leaf (.cond (.seq .leaf .leaf) .leaf)) (.seq (.seq .leaf (.block (.loop (.seq .leaf (.seq (.cond .leaf .leaf) (.seq (.block (.seq .leaf (.join (.draw [0, 0, 3, 7, 15, 31, 0, 0, 192, 448, 960, 2047, 4095, 8191, 8191, 32767, 65535, 131071, 8191, 8191, 794623, 1843199, 3940351, 8388607, 16777215] [(0, []), (1, []), (2, []), (3, []), (4, []), (5, []), (6, []), (7, []), (8, []), (9, []), (10, []), (11, []), (12, []), (13, []), (14, []), (15, []), (16, []), (17, []), (18, []), (19, []), (20, []), (21, []), (22, []), (23, []), (24, [])]) (.cond (.seq .leaf .leaf) .leaf) [40] [0, 1, 12, 13]))) .leaf))) [13] [0, 1, 12]))) (.seq .leaf .leaf)))) (Try.f33.body.getD .skip) (Sl.start [a0, a1]) (kret Try.prog Try.f33.results.toList K) (fun _ _ => no) (kret Try.prog Try.f33.results.toList K) = S33 Try.prog a0 a1 K := by kernel_rfl
theorem e33 {a0 a1 : Value} {K : Value → Asn} {h : PH} (s : S33 Try.prog a0 a1 K h) : Cl Try.prog 33 [a0, a1] K h := cl_of_vc Try.func33 rfl rfl rfl (by kernel_rfl) ((s33 a0 a1 K) ▸ s)
def S34 (P : Program) (a0 a1 : Value) (K : Value → Asn) : Asn :=
 O (lenL a0) fun v1 =>
 O (lenL a1) fun v2 =>
 O (binV .neq v1 v2) fun v3 =>
 VB v3
 (K (.bool false))
 (O (lenL a1) fun v4 =>
 VL [(.int .i64 0)] (fun x6 j7 k5 =>
 O (binV .lss (nth x6 0) v4) fun v8 =>
 VB v8
 (O (idxV 1 a0 (nth x6 0)) fun v9 =>
 Ld none v9 fun v10 =>
 O (cvV .i64 v10) fun v11 =>
 O (idxV 1 a1 (nth x6 0)) fun v12 =>
 Ld none v12 fun v13 =>
 O (binV .neq v11 v13) fun v14 =>
 VB v14
 (K (.bool false))
 (O (binV .add (nth x6 0) (.int .i64 1)) fun v15 =>
 k5 [v15]))
 (K (.bool true))))
theorem s34 (a0 a1 : Value) (K : Value → Asn) : vc Try.prog (.seq .leaf (.seq (.seq .leaf (.cond (.seq .leaf .leaf) .leaf)) (.seq (.seq .leaf (.block (.loop (.seq .leaf (.seq (.cond .leaf .leaf) (.seq (.block (.seq .leaf (.seq (.draw [0, 0, 3, 7, 15, 0, 0, 96, 224, 511] [(0, []), (1, []), (2, []), (3, []), (4, []), (5, []), (6, []), (7, []), (8, []), (9, [])]) (.cond (.seq .leaf .leaf) .leaf)))) .leaf))) [13] [0, 1, 12]))) (.seq .leaf .leaf)))) (Try.f34.body.getD .skip) (Sl.start [a0, a1]) (kret Try.prog Try.f34.results.toList K) (fun _ _ => no) (kret Try.prog Try.f34.results.toList K) = S34 Try.prog a0 a1 K := by kernel_rfl
theorem e34 {a0 a1 : Value} {K : Value → Asn} {h : PH} (s : S34 Try.prog a0 a1 K h) : Cl Try.prog 34 [a0, a1] K h := cl_of_vc Try.func34 rfl rfl rfl (by kernel_rfl) ((s34 a0 a1 K) ▸ s)
def S35 (P : Program) (a0 a1 a2 a3 a4 a5 : Value) (K : Value → Asn) : Asn :=
 Nw 52 (a0 : Value).cells.toList ptr fun v1 =>
 Nw 52 [(.int .i64 0), (.int .i64 0), (.int .i64 0), (.slice none 0 0), (.int .i64 0), (.int .i64 0), (.int .i64 0), (.int .i64 0)] ptr fun v2 =>
 O (addV 4 v1) fun v3 =>
 Ld none v3 fun v4 =>
 O (binV .leq a1 v4) fun v5 =>
 VB v5
 (Ld (some 8) v1 fun v6 =>
 St 8 v2 v6 fun v7 =>
 Ld (some 8) v2 fun v8 =>
 K (.tuple #[v8, (.int .i64 5), (.slice none 0 0)]))
 (VJ (fun k9 =>
 O (binV .lss a3 (.int .i64 1)) fun v12 =>
 VB v12
 (k9 [(.bool true)])
 (O (binV .gtr a3 (.int .i64 255)) fun v13 =>
 VB v13
 (k9 [(.bool true)])
 (O (binV .lss a2 (.int .i64 0)) fun v14 =>
 VB v14
 (k9 [(.bool true)])
 (O (binV .geq a2 a3) fun v15 =>
 k9 [v15]))))
 (fun x10 j11 =>
 VB (nth x10 0)
 (Ld (some 8) v1 fun v16 =>
 St 8 v2 v16 fun v17 =>
 Ld (some 8) v2 fun v18 =>
 K (.tuple #[v18, (.int .i64 4), (.slice none 0 0)]))
 (BS 86 (bldV (rep [(.int .i64 0), (.int .i64 0), (.slice none 0 0), (.slice none 0 0)] 0) []) 0 fun v19 =>
 O (addV 3 v1) fun v20 =>
 Ld none v20 fun v21 =>
 O (lenL v21) fun v22 =>
 VL [v19, (.int .i64 0), (.bool false), (.int .i64 0)] (fun x24 j25 k23 =>
 O (binV .lss (nth x24 3) v22) fun v26 =>
 VB v26
 (O (idxV 4 v21 (nth x24 3)) fun v27 =>
 Ld (some 4) v27 fun v28 =>
 Nw 86 [(.int .i64 0), (.int .i64 0), (.slice none 0 0), (.slice none 0 0)] ptr fun v29 =>
 St 4 v29 v28 fun v30 =>
 VJ (fun k31 =>
 VJ (fun k34 =>
 O (notV (nth x24 2)) fun v37 =>
 VB v37
 (O (addV 0 v29) fun v38 =>
 Ld none v38 fun v39 =>
 O (binV .gtr v39 a1) fun v40 =>
 k34 [v40])
 (k34 [(.bool false)]))
 (fun x35 j36 =>
 VB (nth x35 0)
 (Cl P 53 [a1, a3, a5] fun v41 =>
 Cl P 52 [v41, a2, a3, a4] fun v42 =>
 O (extV 0 v42) fun v43 =>
 O (extV 1 v42) fun v44 =>
 Nw 86 [(.int .i64 0), (.int .i64 0), (.slice none 0 0), (.slice none 0 0)] ptr fun v45 =>
 St 4 v45 v43 fun v46 =>
 Ld (some 4) v45 fun v47 =>
 BS 86 (bldV (rep [(.int .i64 0), (.int .i64 0), (.slice none 0 0), (.slice none 0 0)] 1) [(0 * 4, 4, v47)]) 1 fun v48 =>
 Runs P (Builtin.append_ #[50, 50] 50 #[(nth x24 0), v48]) fun v49 =>
 k31 [v49, v44, (.bool true)])
 (k31 [(nth x24 0), (nth x24 1), (nth x24 2)])))
 (fun x32 j33 =>
 VJ (fun k50 =>
 O (addV 0 v29) fun v53 =>
 Ld none v53 fun v54 =>
 O (binV .eql v54 a1) fun v55 =>
 VB v55
 (Ld (some 4) v29 fun v56 =>
 Cl P 52 [v56, a2, a3, a4] fun v57 =>
 O (extV 0 v57) fun v58 =>
 O (extV 1 v57) fun v59 =>
 St 4 v29 v58 fun v60 =>
 k50 [v59, (.bool true)])
 (k50 [(nth x32 1), (nth x32 2)]))
 (fun x51 j52 =>
 Ld (some 4) v29 fun v61 =>
 BS 86 (bldV (rep [(.int .i64 0), (.int .i64 0), (.slice none 0 0), (.slice none 0 0)] 1) [(0 * 4, 4, v61)]) 1 fun v62 =>
 Runs P (Builtin.append_ #[50, 50] 50 #[(nth x32 0), v62]) fun v63 =>
 O (binV .add (nth x24 3) (.int .i64 1)) fun v64 =>
 k23 [v63, (nth x51 0), (nth x51 1), v64])))
 (VJ (fun k65 =>
 O (notV (nth x24 2)) fun v68 =>
 VB v68
 (Cl P 53 [a1, a3, a5] fun v69 =>
 Cl P 52 [v69, a2, a3, a4] fun v70 =>
 O (extV 0 v70) fun v71 =>
 O (extV 1 v70) fun v72 =>
 Nw 86 [(.int .i64 0), (.int .i64 0), (.slice none 0 0), (.slice none 0 0)] ptr fun v73 =>
 St 4 v73 v71 fun v74 =>
 Ld (some 4) v73 fun v75 =>
 BS 86 (bldV (rep [(.int .i64 0), (.int .i64 0), (.slice none 0 0), (.slice none 0 0)] 1) [(0 * 4, 4, v75)]) 1 fun v76 =>
 Runs P (Builtin.append_ #[50, 50] 50 #[(nth x24 0), v76]) fun v77 =>
 k65 [v77, v72])
 (k65 [(nth x24 0), (nth x24 1)]))
 (fun x66 j67 =>
 O (addV 3 v1) fun v78 =>
 St 1 v78 (nth x66 0) fun v79 =>
 BS 3 (bldV (rep [(.int .i64 0)] 0) []) 0 fun v80 =>
 VL [(nth x66 1), v80] (fun x82 j83 k81 =>
 Ld (some 8) v1 fun v84 =>
 Cl P 36 [v84] fun v85 =>
 O (extV 0 v85) fun v86 =>
 O (extV 1 v85) fun v87 =>
 VJ (fun k88 =>
 O (addV 3 v1) fun v91 =>
 Ld none v91 fun v92 =>
 O (lenL v92) fun v93 =>
 O (addV 0 v1) fun v94 =>
 O (addV 0 v94) fun v95 =>
 Ld none v95 fun v96 =>
 O (binV .leq v93 v96) fun v97 =>
 VB v97
 (O (addV 0 v1) fun v98 =>
 O (addV 1 v98) fun v99 =>
 Ld none v99 fun v100 =>
 O (binV .leq v86 v100) fun v101 =>
 VB v101
 (O (addV 0 v1) fun v102 =>
 O (addV 2 v102) fun v103 =>
 Ld none v103 fun v104 =>
 O (binV .leq v87 v104) fun v105 =>
 k88 [v105])
 (k88 [(.bool false)]))
 (k88 [(.bool false)]))
 (fun x89 j90 =>
 VB (nth x89 0)
 (Ld (some 8) v1 fun v106 =>
 St 8 v2 v106 fun v107 =>
 Ld (some 8) v2 fun v108 =>
 K (.tuple #[v108, (nth x82 0), (nth x82 1)]))
 (O (addV 3 v1) fun v109 =>
 Ld none v109 fun v110 =>
 O (idxV 4 v110 (.int .i64 0)) fun v111 =>
 O (addV 0 v111) fun v112 =>
 Ld none v112 fun v113 =>
 BS 3 (bldV (rep [(.int .i64 0)] 1) [(0 * 1, 1, v113)]) 1 fun v114 =>
 Runs P (Builtin.append_ #[76, 76] 76 #[(nth x82 1), v114]) fun v115 =>
 VJ (fun k116 =>
 O (binV .eql v113 a1) fun v119 =>
 VB v119
 (k116 [(.int .i64 6)])
 (k116 [(nth x82 0)]))
 (fun x117 j118 =>
 O (addV 3 v1) fun v120 =>
 Ld none v120 fun v121 =>
 O (slcV 4 v121 (some (.int .i64 1)) none none) fun v122 =>
 O (addV 3 v1) fun v123 =>
 St 1 v123 v122 fun v124 =>
 O (addV 4 v1) fun v125 =>
 St 1 v125 v113 fun v126 =>
 O (addV 7 v1) fun v127 =>
 Ld none v127 fun v128 =>
 O (binV .add v128 (.int .i64 1)) fun v129 =>
 O (addV 7 v1) fun v130 =>
 St 1 v130 v129 fun v131 =>
 k81 [(nth x117 0), v115]))))))))))
theorem s35 (a0 a1 a2 a3 a4 a5 : Value) (K : Value → Asn) : vc Try.prog (.seq .leaf (.seq (.seq .leaf (.cond (.seq .leaf .leaf) .leaf)) (.seq (.join .leaf (.cond (.seq .leaf .leaf) .leaf) [47] [1, 2, 3, 4, 5, 6, 12]) (.seq .leaf (.seq .leaf (.seq .leaf (.seq (.seq .leaf (.block (.loop (.seq .leaf (.seq (.cond .leaf .leaf) (.seq (.block (.seq .leaf (.join (.join .leaf (.cond (.seq .leaf (.seq .leaf (.seq .leaf .leaf))) .leaf) [64] [1, 2, 3, 4, 5, 6, 12, 15, 16, 17, 19, 51, 52, 53]) (.join (.seq .leaf (.cond (.seq .leaf .leaf) .leaf)) .leaf [16, 17] [1, 2, 3, 4, 5, 6, 12, 15, 19, 51, 52, 53]) [15, 16, 17] [1, 2, 3, 4, 5, 6, 12, 19, 51, 52, 53]))) .leaf))) [15, 16, 17, 53] [1, 2, 3, 4, 5, 6, 12, 51, 52]))) (.join (.seq .leaf (.cond (.seq .leaf (.seq .leaf .leaf)) .leaf)) (.seq .leaf (.seq .leaf (.block (.loop (.block (.seq .leaf (.seq (.join .leaf (.cond (.seq .leaf .leaf) .leaf) [144] [1, 6, 12, 16, 24]) (.seq .leaf (.seq .leaf (.join (.seq .leaf (.cond .leaf .leaf)) (.seq .leaf (.seq .leaf .leaf)) [16] [1, 6, 12, 24, 27])))))) [16, 24] [1, 6, 12])))) [15, 16] [1, 6, 12])))))))) (Try.f35.body.getD .skip) (Sl.start [a0, a1, a2, a3, a4, a5]) (kret Try.prog Try.f35.results.toList K) (fun _ _ => no) (kret Try.prog Try.f35.results.toList K) = S35 Try.prog a0 a1 a2 a3 a4 a5 K := by kernel_rfl
theorem e35 {a0 a1 a2 a3 a4 a5 : Value} {K : Value → Asn} {h : PH} (s : S35 Try.prog a0 a1 a2 a3 a4 a5 K h) : Cl Try.prog 35 [a0, a1, a2, a3, a4, a5] K h := cl_of_vc Try.func35 rfl rfl rfl (by kernel_rfl) ((s35 a0 a1 a2 a3 a4 a5 K) ▸ s)
def S36 (P : Program) (a0 : Value) (K : Value → Asn) : Asn :=
 Nw 52 (a0 : Value).cells.toList ptr fun v1 =>
 O (addV 3 v1) fun v2 =>
 Ld none v2 fun v3 =>
 O (lenL v3) fun v4 =>
 VL [(.int .i64 0), (.int .i64 0), (.int .i64 0)] (fun x6 j7 k5 =>
 O (binV .lss (nth x6 2) v4) fun v8 =>
 VB v8
 (O (idxV 4 v3 (nth x6 2)) fun v9 =>
 Ld (some 4) v9 fun v10 =>
 Nw 86 [(.int .i64 0), (.int .i64 0), (.slice none 0 0), (.slice none 0 0)] ptr fun v11 =>
 St 4 v11 v10 fun v12 =>
 O (addV 2 v11) fun v13 =>
 Ld none v13 fun v14 =>
 O (lenL v14) fun v15 =>
 Ld (some 4) v11 fun v16 =>
 Cl P 50 [v16] fun v17 =>
 And2 (Ld none v13 (Is v14))
 (O (lenL v17) fun v18 =>
 O (binV .sub v15 v18) fun v19 =>
 O (binV .add (nth x6 0) v19) fun v20 =>
 Ld (some 4) v11 fun v21 =>
 Cl P 51 [v21] fun v22 =>
 O (extV 0 v22) fun v23 =>
 O (extV 1 v22) fun v24 =>
 O (binV .add (nth x6 1) v24) fun v25 =>
 O (binV .add (nth x6 2) (.int .i64 1)) fun v26 =>
 k5 [v20, v25, v26]))
 (K (.tuple #[(nth x6 0), (nth x6 1)])))
theorem s36 (a0 : Value) (K : Value → Asn) : vc Try.prog (.seq .leaf (.seq .leaf (.seq .leaf (.seq (.seq .leaf (.block (.loop (.seq .leaf (.seq (.cond .leaf .leaf) (.seq (.block (.seq .leaf (.seq (.draw [0, 0, 2, 6, 0, 16, 48, 126, 255, 511] [(0, []), (1, []), (2, []), (3, []), (4, []), (5, [2]), (6, []), (7, []), (8, []), (9, [])]) (.seq .leaf .leaf)))) .leaf))) [4, 5, 13] [11, 12]))) (.seq .leaf .leaf))))) (Try.f36.body.getD .skip) (Sl.start [a0]) (kret Try.prog Try.f36.results.toList K) (fun _ _ => no) (kret Try.prog Try.f36.results.toList K) = S36 Try.prog a0 K := by kernel_rfl
theorem e36 {a0 : Value} {K : Value → Asn} {h : PH} (s : S36 Try.prog a0 K h) : Cl Try.prog 36 [a0] K h := cl_of_vc Try.func36 rfl rfl rfl (by kernel_rfl) ((s36 a0 K) ▸ s)
def S37 (P : Program) (a0 : Value) (K : Value → Asn) : Asn :=
 O (nilV a0) fun v1 =>
 O (addV 8 v1) fun v2 =>
 Ld none v2 fun v3 =>
 O (nilV a0) fun v4 =>
 O (addV 9 v4) fun v5 =>
 Ld none v5 fun v6 =>
 O (nilV a0) fun v7 =>
 O (addV 10 v7) fun v8 =>
 Ld none v8 fun v9 =>
 K (.tuple #[v3, v6, v9])
theorem s37 (a0 : Value) (K : Value → Asn) : vc Try.prog (.seq .leaf (.seq (.draw [0, 1, 3, 7, 0, 16, 48, 112, 0, 256, 768, 1792, 15, 4351, 16383] [(0, []), (1, []), (2, []), (3, []), (4, []), (5, []), (6, []), (7, []), (8, []), (9, []), (10, []), (11, []), (12, []), (13, []), (14, [])]) .leaf)) (Try.f37.body.getD .skip) (Sl.start [a0]) (kret Try.prog Try.f37.results.toList K) (fun _ _ => no) (kret Try.prog Try.f37.results.toList K) = S37 Try.prog a0 K := by kernel_rfl
theorem e37 {a0 : Value} {K : Value → Asn} {h : PH} (s : S37 Try.prog a0 K h) : Cl Try.prog 37 [a0] K h := cl_of_vc Try.func37 rfl rfl rfl (by kernel_rfl) ((s37 a0 K) ▸ s)
def S38 (P : Program) (a0 : Value) (K : Value → Asn) : Asn :=
 O (nilV a0) fun v1 =>
 Ld (some 5) v1 fun v2 =>
 Nw 99 [(.int .u32 0), (.int .i64 0), (.int .i64 0), (.map none), (.int .i64 0)] ptr fun v3 =>
 St 5 v3 v2 fun v4 =>
 O (nilV a0) fun v5 =>
 O (addV 3 v5) fun v6 =>
 Ld none v6 fun v7 =>
 Cl P 54 [v7] fun v8 =>
 O (addV 3 v3) fun v9 =>
 St 1 v9 v8 fun v10 =>
 K v3
theorem s38 (a0 : Value) (K : Value → Asn) : vc Try.prog (.seq .leaf (.seq .leaf (.seq .leaf (.seq .leaf .leaf)))) (Try.f38.body.getD .skip) (Sl.start [a0]) (kret Try.prog Try.f38.results.toList K) (fun _ _ => no) (kret Try.prog Try.f38.results.toList K) = S38 Try.prog a0 K := by kernel_rfl
theorem e38 {a0 : Value} {K : Value → Asn} {h : PH} (s : S38 Try.prog a0 K h) : Cl Try.prog 38 [a0] K h := cl_of_vc Try.func38 rfl rfl rfl (by kernel_rfl) ((s38 a0 K) ▸ s)
def S39 (P : Program) (a0 a1 a2 : Value) (K : Value → Asn) : Asn :=
 O (lenL a0) fun v1 =>
 VL [(.int .i64 0), v1] (fun x3 j4 k2 =>
 O (binV .lss (nth x3 0) (nth x3 1)) fun v5 =>
 VB v5
 (O (binV .add (nth x3 0) (nth x3 1)) fun v6 =>
 O (cvV .u64 v6) fun v7 =>
 O (binV .shr v7 (.int .u64 1)) fun v8 =>
 O (cvV .i64 v8) fun v9 =>
 O (idxV 1 a0 v9) fun v10 =>
 Ld none v10 fun v11 =>
 Cv P a2 [v11, a1] fun v12 =>
 O (binV .lss v12 (.int .i64 0)) fun v13 =>
 VB v13
 (O (binV .add v9 (.int .i64 1)) fun v14 =>
 k2 [v14, (nth x3 1)])
 (k2 [(nth x3 0), v9]))
 (O (binV .lss (nth x3 0) v1) fun v15 =>
 VB v15
 (O (idxV 1 a0 (nth x3 0)) fun v16 =>
 Ld none v16 fun v17 =>
 Cv P a2 [v17, a1] fun v18 =>
 O (binV .eql v18 (.int .i64 0)) fun v19 =>
 K (.tuple #[(nth x3 0), v19]))
 (K (.tuple #[(nth x3 0), (.bool false)]))))
theorem s39 (a0 a1 a2 : Value) (K : Value → Asn) : vc Try.prog (.seq .leaf (.seq .leaf (.seq .leaf (.seq (.block (.loop (.seq (.seq .leaf (.cond .leaf .leaf)) (.block (.seq .leaf (.seq .leaf (.cond .leaf .leaf))))) [9, 10] [0, 1, 2, 8])) (.seq .leaf .leaf))))) (Try.f39.body.getD .skip) (Sl.start [a0, a1, a2]) (kret Try.prog Try.f39.results.toList K) (fun _ _ => no) (kret Try.prog Try.f39.results.toList K) = S39 Try.prog a0 a1 a2 K := by kernel_rfl
theorem e39 {a0 a1 a2 : Value} {K : Value → Asn} {h : PH} (s : S39 Try.prog a0 a1 a2 K h) : Cl Try.prog 39 [a0, a1, a2] K h := cl_of_vc Try.func39 rfl rfl rfl (by kernel_rfl) ((s39 a0 a1 a2 K) ▸ s)
def S40 (P : Program) (a0 a1 : Value) (K : Value → Asn) : Asn :=
 Cl P 28 [a0] fun v1 =>
 Cl P 41 [v1, a1] fun v2 =>
 K v2
theorem s40 (a0 a1 : Value) (K : Value → Asn) : vc Try.prog (.seq .leaf (.seq .leaf .leaf)) (Try.f40.body.getD .skip) (Sl.start [a0, a1]) (kret Try.prog Try.f40.results.toList K) (fun _ _ => no) (kret Try.prog Try.f40.results.toList K) = S40 Try.prog a0 a1 K := by kernel_rfl
theorem e40 {a0 a1 : Value} {K : Value → Asn} {h : PH} (s : S40 Try.prog a0 a1 K h) : Cl Try.prog 40 [a0, a1] K h := cl_of_vc Try.func40 rfl rfl rfl (by kernel_rfl) ((s40 a0 a1 K) ▸ s)
def S41 (P : Program) (a0 a1 : Value) (K : Value → Asn) : Asn :=
 Cl P 55 [a0] fun v1 =>
 Cl P 55 [a1] fun v2 =>
 VB v1
 (VB v2
 (K (.int .i64 0))
 (K (.int .i64 (-1))))
 (VB v2
 (K (.int .i64 1))
 (O (binV .lss a0 a1) fun v3 =>
 VB v3
 (K (.int .i64 (-1)))
 (O (binV .gtr a0 a1) fun v4 =>
 VB v4
 (K (.int .i64 1))
 (K (.int .i64 0)))))
theorem s41 (a0 a1 : Value) (K : Value → Asn) : vc Try.prog (.seq .leaf (.seq .leaf (.seq .leaf (.seq (.seq .leaf (.cond (.seq (.seq .leaf (.cond (.seq .leaf .leaf) .leaf)) (.seq .leaf .leaf)) .leaf)) (.seq (.seq .leaf (.cond (.seq .leaf .leaf) .leaf)) (.seq (.seq .leaf (.cond (.seq .leaf .leaf) .leaf)) (.seq (.seq .leaf (.cond (.seq .leaf .leaf) .leaf)) (.seq .leaf .leaf)))))))) (Try.f41.body.getD .skip) (Sl.start [a0, a1]) (kret Try.prog Try.f41.results.toList K) (fun _ _ => no) (kret Try.prog Try.f41.results.toList K) = S41 Try.prog a0 a1 K := by kernel_rfl
theorem e41 {a0 a1 : Value} {K : Value → Asn} {h : PH} (s : S41 Try.prog a0 a1 K h) : Cl Try.prog 41 [a0, a1] K h := cl_of_vc Try.func41 rfl rfl rfl (by kernel_rfl) ((s41 a0 a1 K) ▸ s)
def S42 (P : Program) (a0 a1 a2 : Value) (K : Value → Asn) : Asn :=
 O (minV a1 (.int .i64 255)) fun v1 =>
 O (maxV (.int .i64 1) v1) fun v2 =>
 NwM fun v3 =>
 O (aggO (bldV [(.int .u32 0), (.int .i64 0), (.int .i64 0), (.map none), (.int .i64 0)] [(0, 1, a0), (1, 1, v2), (2, 1, a2), (3, 1, v3)])) fun v4 =>
 Nw 99 (v4 : Value).cells.toList ptr fun v5 =>
 K v5
theorem s42 (a0 a1 a2 : Value) (K : Value → Asn) : vc Try.prog (.seq .leaf (.seq .leaf .leaf)) (Try.f42.body.getD .skip) (Sl.start [a0, a1, a2]) (kret Try.prog Try.f42.results.toList K) (fun _ _ => no) (kret Try.prog Try.f42.results.toList K) = S42 Try.prog a0 a1 a2 K := by kernel_rfl
theorem e42 {a0 a1 a2 : Value} {K : Value → Asn} {h : PH} (s : S42 Try.prog a0 a1 a2 K h) : Cl Try.prog 42 [a0, a1, a2] K h := cl_of_vc Try.func42 rfl rfl rfl (by kernel_rfl) ((s42 a0 a1 a2 K) ▸ s)
def S43 (P : Program) (a0 a1 a2 : Value) (K : Value → Asn) : Asn :=
 O (slcV 1 a0 (some a1) none none) fun v1 =>
 O (lenL a2) fun v2 =>
 O (binV .eql v2 (.int .i64 0)) fun v3 =>
 VB v3
 (K a0)
 (O (lenL a0) fun v4 =>
 O (binV .eql a1 v4) fun v5 =>
 VB v5
 (Runs P (Builtin.append_ #[63, 63] 63 #[a0, a2]) fun v6 =>
 K v6)
 (O (binV .add v4 v2) fun v7 =>
 O (capV a0) fun v8 =>
 O (binV .gtr v7 v8) fun v9 =>
 VB v9
 (O (slcV 1 a0 none (some a1) none) fun v10 =>
 O (binV .add v4 v2) fun v11 =>
 O (binV .sub v11 a1) fun v12 =>
 Runs P (Builtin.append_ #[63, 3] 63 #[v10, v12]) fun v13 =>
 O (slcV 1 v13 (some a1) none none) fun v14 =>
 Runs P (Builtin.copy_ #[63, 63] 3 #[v14, a2]) fun v15 =>
 O (binV .add a1 v2) fun v16 =>
 O (slcV 1 v13 (some v16) none none) fun v17 =>
 O (slcV 1 a0 (some a1) none none) fun v18 =>
 Runs P (Builtin.copy_ #[63, 63] 3 #[v17, v18]) fun v19 =>
 K v13)
 (O (binV .add v4 v2) fun v20 =>
 O (slcV 1 a0 none (some v20) none) fun v21 =>
 O (binV .add a1 v2) fun v22 =>
 O (slcV 1 v21 (some v22) none none) fun v23 =>
 Cl P 56 [a2, v23] fun v24 =>
 O (notV v24) fun v25 =>
 VB v25
 (O (binV .add a1 v2) fun v26 =>
 O (slcV 1 v21 (some v26) none none) fun v27 =>
 O (slcV 1 v21 (some a1) none none) fun v28 =>
 Runs P (Builtin.copy_ #[63, 63] 3 #[v27, v28]) fun v29 =>
 O (slcV 1 v21 (some a1) none none) fun v30 =>
 Runs P (Builtin.copy_ #[63, 63] 3 #[v30, a2]) fun v31 =>
 K v21)
 (O (slcV 1 v21 (some v4) none none) fun v32 =>
 Runs P (Builtin.copy_ #[63, 63] 3 #[v32, a2]) fun v33 =>
 O (slcV 1 v21 (some a1) none none) fun v34 =>
 Cl P 57 [v34, v2] fun v35 =>
 K v21))))
theorem s43 (a0 a1 a2 : Value) (K : Value → Asn) : vc Try.prog (.seq .leaf (.seq .leaf (.seq .leaf (.seq (.seq .leaf (.cond (.seq .leaf .leaf) .leaf)) (.seq .leaf (.seq (.seq .leaf (.cond (.seq .leaf .leaf) .leaf)) (.seq (.seq .leaf (.cond (.seq .leaf (.seq .leaf (.seq (.draw [0, 0, 0, 6, 15, 0, 0, 96, 255] [(0, []), (1, []), (2, []), (3, []), (4, []), (5, []), (6, []), (7, []), (8, [])]) (.seq .leaf .leaf)))) .leaf)) (.seq .leaf (.seq (.seq .leaf (.cond (.seq (.draw [0, 0, 0, 6, 15, 0, 0, 96, 255] [(0, []), (1, []), (2, []), (3, []), (4, []), (5, []), (6, []), (7, []), (8, [])]) (.seq .leaf (.seq .leaf .leaf))) .leaf)) (.seq .leaf (.seq .leaf (.seq .leaf .leaf)))))))))))) (Try.f43.body.getD .skip) (Sl.start [a0, a1, a2]) (kret Try.prog Try.f43.results.toList K) (fun _ _ => no) (kret Try.prog Try.f43.results.toList K) = S43 Try.prog a0 a1 a2 K := by kernel_rfl
theorem e43 {a0 a1 a2 : Value} {K : Value → Asn} {h : PH} (s : S43 Try.prog a0 a1 a2 K h) : Cl Try.prog 43 [a0, a1, a2] K h := cl_of_vc Try.func43 rfl rfl rfl (by kernel_rfl) ((s43 a0 a1 a2 K) ▸ s)
def S44 (P : Program) (a0 : Value) (K : Value → Asn) : Asn :=
 O (nilV a0) fun v1 =>
 O (addV 3 v1) fun v2 =>
 Ld none v2 fun v3 =>
 Rd P (Builtin.len_ #[97] 3 #[v3]) fun v4 =>
 K v4
theorem s44 (a0 : Value) (K : Value → Asn) : vc Try.prog (.seq .leaf (.seq .leaf .leaf)) (Try.f44.body.getD .skip) (Sl.start [a0]) (kret Try.prog Try.f44.results.toList K) (fun _ _ => no) (kret Try.prog Try.f44.results.toList K) = S44 Try.prog a0 K := by kernel_rfl
theorem e44 {a0 : Value} {K : Value → Asn} {h : PH} (s : S44 Try.prog a0 K h) : Cl Try.prog 44 [a0] K h := cl_of_vc Try.func44 rfl rfl rfl (by kernel_rfl) ((s44 a0 K) ▸ s)
def S45 (P : Program) (a0 : Value) (K : Value → Asn) : Asn :=
 O (nilV a0) fun v1 =>
 O (addV 4 v1) fun v2 =>
 Ld none v2 fun v3 =>
 K v3
theorem s45 (a0 : Value) (K : Value → Asn) : vc Try.prog (.seq .leaf (.seq .leaf .leaf)) (Try.f45.body.getD .skip) (Sl.start [a0]) (kret Try.prog Try.f45.results.toList K) (fun _ _ => no) (kret Try.prog Try.f45.results.toList K) = S45 Try.prog a0 K := by kernel_rfl
theorem e45 {a0 : Value} {K : Value → Asn} {h : PH} (s : S45 Try.prog a0 K h) : Cl Try.prog 45 [a0] K h := cl_of_vc Try.func45 rfl rfl rfl (by kernel_rfl) ((s45 a0 K) ▸ s)
def S46 (P : Program) (a0 : Value) (K : Value → Asn) : Asn :=
 O (nilV a0) fun v1 =>
 O (addV 3 v1) fun v2 =>
 Ld none v2 fun v3 =>
 Rd P (Builtin.len_ #[97] 3 #[v3]) fun v4 =>
 O (nilV a0) fun v5 =>
 O (addV 1 v5) fun v6 =>
 Ld none v6 fun v7 =>
 O (binV .eql v4 v7) fun v8 =>
 K v8
theorem s46 (a0 : Value) (K : Value → Asn) : vc Try.prog (.seq .leaf (.seq (.draw [0, 1, 3, 7, 15, 0, 32, 96, 224, 511, 1023] [(0, []), (1, []), (2, []), (3, []), (4, []), (5, []), (6, []), (7, []), (8, []), (9, []), (10, [])]) .leaf)) (Try.f46.body.getD .skip) (Sl.start [a0]) (kret Try.prog Try.f46.results.toList K) (fun _ _ => no) (kret Try.prog Try.f46.results.toList K) = S46 Try.prog a0 K := by kernel_rfl
theorem e46 {a0 : Value} {K : Value → Asn} {h : PH} (s : S46 Try.prog a0 K h) : Cl Try.prog 46 [a0] K h := cl_of_vc Try.func46 rfl rfl rfl (by kernel_rfl) ((s46 a0 K) ▸ s)
def S47 (P : Program) (a0 a1 a2 : Value) (K : Value → Asn) : Asn :=
 O (lenL a0) fun v1 =>
 O (slcV 1 a0 (some a1) (some a2) (some v1)) fun v2 =>
 O (binV .eql a1 a2) fun v3 =>
 VB v3
 (K a0)
 (O (lenL a0) fun v4 =>
 O (slcV 1 a0 none (some a1) none) fun v5 =>
 O (slcV 1 a0 (some a2) none none) fun v6 =>
 Runs P (Builtin.append_ #[63, 63] 63 #[v5, v6]) fun v7 =>
 O (lenL v7) fun v8 =>
 O (slcV 1 v7 (some v8) (some v4) none) fun v9 =>
 Runs P (Builtin.clear_ #[63] 0 #[v9]) fun v10 =>
 K v7)
theorem s47 (a0 a1 a2 : Value) (K : Value → Asn) : vc Try.prog (.seq .leaf (.seq .leaf (.seq (.seq .leaf (.cond (.seq .leaf .leaf) .leaf)) (.seq .leaf (.seq (.draw [0, 0, 3, 0, 0, 24, 63, 127] [(0, []), (1, []), (2, []), (3, []), (4, []), (5, []), (6, []), (7, [])]) (.seq .leaf (.seq .leaf .leaf))))))) (Try.f47.body.getD .skip) (Sl.start [a0, a1, a2]) (kret Try.prog Try.f47.results.toList K) (fun _ _ => no) (kret Try.prog Try.f47.results.toList K) = S47 Try.prog a0 a1 a2 K := by kernel_rfl
theorem e47 {a0 a1 a2 : Value} {K : Value → Asn} {h : PH} (s : S47 Try.prog a0 a1 a2 K h) : Cl Try.prog 47 [a0, a1, a2] K h := cl_of_vc Try.func47 rfl rfl rfl (by kernel_rfl) ((s47 a0 a1 a2 K) ▸ s)
def S48 (P : Program) (a0 a1 : Value) (K : Value → Asn) : Asn :=
 Cl P 58 [a0] fun v1 =>
 O (nilV a0) fun v2 =>
 O (addV 1 v2) fun v3 =>
 Ld none v3 fun v4 =>
 Runs P (Builtin.append_ #[35, 9] 35 #[v4, a1]) fun v5 =>
 O (nilV a0) fun v6 =>
 O (addV 1 v6) fun v7 =>
 St 1 v7 v5 fun v8 =>
 O (lenS a1) fun v9 =>
 K (.tuple #[v9, .nilIface])
theorem s48 (a0 a1 : Value) (K : Value → Asn) : vc Try.prog (.seq .leaf (.seq .leaf (.seq .leaf (.seq .leaf .leaf)))) (Try.f48.body.getD .skip) (Sl.start [a0, a1]) (kret Try.prog Try.f48.results.toList K) (fun _ _ => no) (kret Try.prog Try.f48.results.toList K) = S48 Try.prog a0 a1 K := by kernel_rfl
theorem e48 {a0 a1 : Value} {K : Value → Asn} {h : PH} (s : S48 Try.prog a0 a1 K h) : Cl Try.prog 48 [a0, a1] K h := cl_of_vc Try.func48 rfl rfl rfl (by kernel_rfl) ((s48 a0 a1 K) ▸ s)
def S49 (P : Program) (a0 : Value) (K : Value → Asn) : Asn :=
 O (nilV a0) fun v1 =>
 O (addV 1 v1) fun v2 =>
 Ld none v2 fun v3 =>
 O (nilV a0) fun v4 =>
 O (addV 1 v4) fun v5 =>
 Ld none v5 fun v6 =>
 O (lenL v6) fun v7 =>
 OpR P (builtin .unsafeSliceData #[35] 122 #[false] #[v3]) fun v8 =>
 And2 (Ld none v5 (Is v6))
 (OpR P (builtin .unsafeString #[122, 3] 9 #[false, false] #[v8, v7]) fun v9 =>
 K v9)
theorem s49 (a0 : Value) (K : Value → Asn) : vc Try.prog (.seq .leaf (.seq (.draw [0, 1, 3, 7, 15, 0, 32, 96, 224, 480, 1023, 2047] [(0, []), (1, []), (2, []), (3, []), (5, []), (6, []), (7, []), (8, []), (9, []), (4, [8]), (10, []), (11, [])]) .leaf)) (Try.f49.body.getD .skip) (Sl.start [a0]) (kret Try.prog Try.f49.results.toList K) (fun _ _ => no) (kret Try.prog Try.f49.results.toList K) = S49 Try.prog a0 K := by kernel_rfl
theorem e49 {a0 : Value} {K : Value → Asn} {h : PH} (s : S49 Try.prog a0 K h) : Cl Try.prog 49 [a0] K h := cl_of_vc Try.func49 rfl rfl rfl (by kernel_rfl) ((s49 a0 K) ▸ s)
def S50 (P : Program) (a0 : Value) (K : Value → Asn) : Asn :=
 Nw 86 (a0 : Value).cells.toList ptr fun v1 =>
 BS 3 (bldV (rep [(.int .i64 0)] 0) []) 0 fun v2 =>
 O (addV 2 v1) fun v3 =>
 Ld none v3 fun v4 =>
 O (lenL v4) fun v5 =>
 VL [v2, (.int .i64 0)] (fun x7 j8 k6 =>
 O (binV .lss (nth x7 1) v5) fun v9 =>
 VB v9
 (VJ (fun k10 =>
 O (idxV 1 v4 (nth x7 1)) fun v13 =>
 Ld none v13 fun v14 =>
 O (notV v14) fun v15 =>
 VB v15
 (BS 3 (bldV (rep [(.int .i64 0)] 1) [(0 * 1, 1, (nth x7 1))]) 1 fun v16 =>
 Runs P (Builtin.append_ #[76, 76] 76 #[(nth x7 0), v16]) fun v17 =>
 k10 [v17])
 (k10 [(nth x7 0)]))
 (fun x11 j12 =>
 O (binV .add (nth x7 1) (.int .i64 1)) fun v18 =>
 k6 [(nth x11 0), v18]))
 (K (nth x7 0)))
theorem s50 (a0 : Value) (K : Value → Asn) : vc Try.prog (.seq .leaf (.seq .leaf (.seq (.seq .leaf (.block (.loop (.seq .leaf (.seq (.cond .leaf .leaf) (.join (.block (.seq .leaf (.seq .leaf (.cond .leaf .leaf)))) .leaf [3] [8, 9, 10]))) [3, 10] [8, 9]))) (.seq .leaf .leaf)))) (Try.f50.body.getD .skip) (Sl.start [a0]) (kret Try.prog Try.f50.results.toList K) (fun _ _ => no) (kret Try.prog Try.f50.results.toList K) = S50 Try.prog a0 K := by kernel_rfl
theorem e50 {a0 : Value} {K : Value → Asn} {h : PH} (s : S50 Try.prog a0 K h) : Cl Try.prog 50 [a0] K h := cl_of_vc Try.func50 rfl rfl rfl (by kernel_rfl) ((s50 a0 K) ▸ s)
def S51 (P : Program) (a0 : Value) (K : Value → Asn) : Asn :=
 Nw 86 (a0 : Value).cells.toList ptr fun v1 =>
 O (addV 3 v1) fun v2 =>
 Ld none v2 fun v3 =>
 O (lenL v3) fun v4 =>
 VL [(.string ⟨#[]⟩), (.int .i64 0)] (fun x6 j7 k5 =>
 O (binV .lss (nth x6 1) v4) fun v8 =>
 VB v8
 (O (idxV 1 v3 (nth x6 1)) fun v9 =>
 Ld none v9 fun v10 =>
 O (binV .add (nth x6 0) v10) fun v11 =>
 O (binV .add (nth x6 1) (.int .i64 1)) fun v12 =>
 k5 [v11, v12])
 (Ld (some 4) v1 fun v13 =>
 Cl P 50 [v13] fun v14 =>
 O (lenL v14) fun v15 =>
 O (binV .gtr v15 (.int .i64 0)) fun v16 =>
 VB v16
 (O (lenS (nth x6 0)) fun v17 =>
 K (.tuple #[(.string ⟨#[]⟩), v17]))
 (O (lenS (nth x6 0)) fun v18 =>
 K (.tuple #[(nth x6 0), v18]))))
theorem s51 (a0 : Value) (K : Value → Asn) : vc Try.prog (.seq .leaf (.seq .leaf (.seq (.seq .leaf (.block (.loop (.seq .leaf (.seq (.cond .leaf .leaf) (.seq (.block (.seq .leaf .leaf)) .leaf))) [4, 10] [1, 8, 9]))) (.seq (.seq .leaf (.cond (.seq .leaf .leaf) .leaf)) (.seq .leaf .leaf))))) (Try.f51.body.getD .skip) (Sl.start [a0]) (kret Try.prog Try.f51.results.toList K) (fun _ _ => no) (kret Try.prog Try.f51.results.toList K) = S51 Try.prog a0 K := by kernel_rfl
theorem e51 {a0 : Value} {K : Value → Asn} {h : PH} (s : S51 Try.prog a0 K h) : Cl Try.prog 51 [a0] K h := cl_of_vc Try.func51 rfl rfl rfl (by kernel_rfl) ((s51 a0 K) ▸ s)
def S52 (P : Program) (a0 a1 a2 a3 : Value) (K : Value → Asn) : Asn :=
 Nw 86 (a0 : Value).cells.toList ptr fun v1 =>
 Nw 86 [(.int .i64 0), (.int .i64 0), (.slice none 0 0), (.slice none 0 0)] ptr fun v2 =>
 VJ (fun k3 =>
 O (addV 2 v1) fun v6 =>
 Ld none v6 fun v7 =>
 O (lenL v7) fun v8 =>
 O (binV .neq a2 v8) fun v9 =>
 VB v9
 (k3 [(.bool true)])
 (O (binV .lss a1 (.int .i64 0)) fun v10 =>
 VB v10
 (k3 [(.bool true)])
 (O (binV .geq a1 a2) fun v11 =>
 k3 [v11])))
 (fun x4 j5 =>
 VB (nth x4 0)
 (Ld (some 4) v1 fun v12 =>
 St 4 v2 v12 fun v13 =>
 Ld (some 4) v2 fun v14 =>
 K (.tuple #[v14, (.int .i64 4)]))
 (O (addV 2 v1) fun v15 =>
 Ld none v15 fun v16 =>
 O (idxV 1 v16 a1) fun v17 =>
 Ld none v17 fun v18 =>
 VB v18
 (Ld (some 4) v1 fun v19 =>
 St 4 v2 v19 fun v20 =>
 Ld (some 4) v2 fun v21 =>
 K (.tuple #[v21, (.int .i64 3)]))
 (BS 4 (bldV (rep [(.bool false)] 0) []) 0 fun v22 =>
 O (addV 2 v1) fun v23 =>
 Ld none v23 fun v24 =>
 Runs P (Builtin.append_ #[83, 83] 83 #[v22, v24]) fun v25 =>
 BS 9 (bldV (rep [(.string ⟨#[]⟩)] 0) []) 0 fun v26 =>
 O (addV 3 v1) fun v27 =>
 Ld none v27 fun v28 =>
 Runs P (Builtin.append_ #[84, 84] 84 #[v26, v28]) fun v29 =>
 O (idxV 1 v25 a1) fun v30 =>
 St 1 v30 (.bool true) fun v31 =>
 O (idxV 1 v29 a1) fun v32 =>
 St 1 v32 a3 fun v33 =>
 O (addV 2 v1) fun v34 =>
 St 1 v34 v25 fun v35 =>
 O (addV 3 v1) fun v36 =>
 St 1 v36 v29 fun v37 =>
 Ld (some 4) v1 fun v38 =>
 Cl P 50 [v38] fun v39 =>
 O (lenL v39) fun v40 =>
 O (binV .eql v40 (.int .i64 0)) fun v41 =>
 VB v41
 (Ld (some 4) v1 fun v42 =>
 St 4 v2 v42 fun v43 =>
 Ld (some 4) v2 fun v44 =>
 K (.tuple #[v44, (.int .i64 2)]))
 (Ld (some 4) v1 fun v45 =>
 St 4 v2 v45 fun v46 =>
 Ld (some 4) v2 fun v47 =>
 K (.tuple #[v47, (.int .i64 1)])))))
theorem s52 (a0 a1 a2 a3 : Value) (K : Value → Asn) : vc Try.prog (.seq .leaf (.seq (.join .leaf (.cond (.seq .leaf .leaf) .leaf) [25] [1, 3, 4, 8]) (.seq (.seq .leaf (.cond (.seq .leaf .leaf) .leaf)) (.seq .leaf (.seq .leaf (.seq .leaf (.seq .leaf (.seq .leaf (.seq .leaf (.seq (.seq .leaf (.cond (.seq .leaf .leaf) .leaf)) (.seq .leaf .leaf))))))))))) (Try.f52.body.getD .skip) (Sl.start [a0, a1, a2, a3]) (kret Try.prog Try.f52.results.toList K) (fun _ _ => no) (kret Try.prog Try.f52.results.toList K) = S52 Try.prog a0 a1 a2 a3 K := by kernel_rfl
theorem e52 {a0 a1 a2 a3 : Value} {K : Value → Asn} {h : PH} (s : S52 Try.prog a0 a1 a2 a3 K h) : Cl Try.prog 52 [a0, a1, a2, a3] K h := cl_of_vc Try.func52 rfl rfl rfl (by kernel_rfl) ((s52 a0 a1 a2 a3 K) ▸ s)
def S53 (P : Program) (a0 a1 a2 : Value) (K : Value → Asn) : Asn :=
 Nw 86 [(.int .i64 0), (.int .i64 0), (.slice none 0 0), (.slice none 0 0)] ptr fun v1 =>
 O (minV a1 (.int .i64 255)) fun v2 =>
 O (maxV (.int .i64 1) v2) fun v3 =>
 MSl 4 [(.bool false)] 1 v3 v3 fun v4 =>
 MSl 9 [(.string ⟨#[]⟩)] 16 v3 v3 fun v5 =>
 O (aggO (bldV [(.int .i64 0), (.int .i64 0), (.slice none 0 0), (.slice none 0 0)] [(0, 1, a0), (1, 1, a2), (2, 1, v4), (3, 1, v5)])) fun v6 =>
 St 4 v1 v6 fun v7 =>
 Ld (some 4) v1 fun v8 =>
 K v8
theorem s53 (a0 a1 a2 : Value) (K : Value → Asn) : vc Try.prog (.seq .leaf (.seq .leaf (.seq (.draw [0, 0, 0, 4, 0, 16, 63, 127] [(0, []), (1, []), (2, []), (4, []), (3, []), (5, []), (6, []), (7, [])]) .leaf))) (Try.f53.body.getD .skip) (Sl.start [a0, a1, a2]) (kret Try.prog Try.f53.results.toList K) (fun _ _ => no) (kret Try.prog Try.f53.results.toList K) = S53 Try.prog a0 a1 a2 K := by kernel_rfl
theorem e53 {a0 a1 a2 : Value} {K : Value → Asn} {h : PH} (s : S53 Try.prog a0 a1 a2 K h) : Cl Try.prog 53 [a0, a1, a2] K h := cl_of_vc Try.func53 rfl rfl rfl (by kernel_rfl) ((s53 a0 a1 a2 K) ▸ s)
def S54 (P : Program) (a0 : Value) (K : Value → Asn) : Asn :=
 O ((nilEq .m a0 (.map none)).map .bool) fun v1 =>
 VB v1
 (K (.map none))
 (Runs P (Instr.makeInterface 97 a0) fun v2 =>
 Cl P 59 [v2] fun v3 =>
 Runs P (Instr.typeAssert v3 20 97 false) fun v4 =>
 K v4)
theorem s54 (a0 : Value) (K : Value → Asn) : vc Try.prog (.seq .leaf (.seq (.seq .leaf (.cond (.seq .leaf .leaf) .leaf)) (.seq .leaf .leaf))) (Try.f54.body.getD .skip) (Sl.start [a0]) (kret Try.prog Try.f54.results.toList K) (fun _ _ => no) (kret Try.prog Try.f54.results.toList K) = S54 Try.prog a0 K := by kernel_rfl
theorem e54 {a0 : Value} {K : Value → Asn} {h : PH} (s : S54 Try.prog a0 K h) : Cl Try.prog 54 [a0] K h := cl_of_vc Try.func54 rfl rfl rfl (by kernel_rfl) ((s54 a0 K) ▸ s)
def S55 (P : Program) (a0 : Value) (K : Value → Asn) : Asn :=
 O (binV .neq a0 a0) fun v1 =>
 K v1
theorem s55 (a0 : Value) (K : Value → Asn) : vc Try.prog (.seq .leaf (.seq .leaf .leaf)) (Try.f55.body.getD .skip) (Sl.start [a0]) (kret Try.prog Try.f55.results.toList K) (fun _ _ => no) (kret Try.prog Try.f55.results.toList K) = S55 Try.prog a0 K := by kernel_rfl
theorem e55 {a0 : Value} {K : Value → Asn} {h : PH} (s : S55 Try.prog a0 K h) : Cl Try.prog 55 [a0] K h := cl_of_vc Try.func55 rfl rfl rfl (by kernel_rfl) ((s55 a0 K) ▸ s)
def S57 (P : Program) (a0 a1 : Value) (K : Value → Asn) : Asn :=
 O (lenL a0) fun v1 =>
 O (binV .sub v1 a1) fun v2 =>
 Cl P 60 [a0, v2] fun v3 =>
 K (.tuple #[])
theorem s57 (a0 a1 : Value) (K : Value → Asn) : vc Try.prog .leaf (Try.f57.body.getD .skip) (Sl.start [a0, a1]) (kret Try.prog Try.f57.results.toList K) (fun _ _ => no) (kret Try.prog Try.f57.results.toList K) = S57 Try.prog a0 a1 K := by kernel_rfl
theorem e57 {a0 a1 : Value} {K : Value → Asn} {h : PH} (s : S57 Try.prog a0 a1 K h) : Cl Try.prog 57 [a0, a1] K h := cl_of_vc Try.func57 rfl rfl rfl (by kernel_rfl) ((s57 a0 a1 K) ▸ s)
def S58 (P : Program) (a0 : Value) (K : Value → Asn) : Asn :=
 O (nilV a0) fun v1 =>
 O (addV 0 v1) fun v2 =>
 Ld none v2 fun v3 =>
 O ((nilEq .p v3 (.pointer none)).map .bool) fun v4 =>
 VB v4
 (Runs P (convert 101 124 a0) fun v5 =>
 Cl P 61 [v5] fun v6 =>
 Runs P (convert 124 101 v6) fun v7 =>
 O (nilV a0) fun v8 =>
 O (addV 0 v8) fun v9 =>
 St 1 v9 v7 fun v10 =>
 K (.tuple #[]))
 (O (nilV a0) fun v11 =>
 O (addV 0 v11) fun v12 =>
 Ld none v12 fun v13 =>
 O ((nilEq .p v13 a0).map fun b => .bool !b) fun v14 =>
 VB v14
 (no)
 (K (.tuple #[])))
theorem s58 (a0 : Value) (K : Value → Asn) : vc Try.prog (.seq .leaf (.cond .leaf (.seq .leaf (.cond .leaf .leaf)))) (Try.f58.body.getD .skip) (Sl.start [a0]) (kret Try.prog Try.f58.results.toList K) (fun _ _ => no) (kret Try.prog Try.f58.results.toList K) = S58 Try.prog a0 K := by kernel_rfl
theorem e58 {a0 : Value} {K : Value → Asn} {h : PH} (s : S58 Try.prog a0 K h) : Cl Try.prog 58 [a0] K h := cl_of_vc Try.func58 rfl rfl rfl (by kernel_rfl) ((s58 a0 K) ▸ s)
def S60 (P : Program) (a0 a1 : Value) (K : Value → Asn) : Asn :=
 O (slcV 1 a0 none (some a1) none) fun v1 =>
 Cl P 62 [v1] fun v2 =>
 O (slcV 1 a0 (some a1) none none) fun v3 =>
 Cl P 62 [v3] fun v4 =>
 Cl P 62 [a0] fun v5 =>
 K (.tuple #[])
theorem s60 (a0 a1 : Value) (K : Value → Asn) : vc Try.prog (.seq .leaf (.seq .leaf .leaf)) (Try.f60.body.getD .skip) (Sl.start [a0, a1]) (kret Try.prog Try.f60.results.toList K) (fun _ _ => no) (kret Try.prog Try.f60.results.toList K) = S60 Try.prog a0 a1 K := by kernel_rfl
theorem e60 {a0 a1 : Value} {K : Value → Asn} {h : PH} (s : S60 Try.prog a0 a1 K h) : Cl Try.prog 60 [a0, a1] K h := cl_of_vc Try.func60 rfl rfl rfl (by kernel_rfl) ((s60 a0 a1 K) ▸ s)
def S62 (P : Program) (a0 : Value) (K : Value → Asn) : Asn :=
 O (lenL a0) fun v1 =>
 O (binV .sub v1 (.int .i64 1)) fun v2 =>
 VL [(.int .i64 0), v2] (fun x4 j5 k3 =>
 O (binV .lss (nth x4 0) (nth x4 1)) fun v6 =>
 VB v6
 (O (idxV 1 a0 (nth x4 1)) fun v7 =>
 Ld none v7 fun v8 =>
 O (idxV 1 a0 (nth x4 0)) fun v9 =>
 Ld none v9 fun v10 =>
 O (idxV 1 a0 (nth x4 0)) fun v11 =>
 St 1 v11 v8 fun v12 =>
 O (idxV 1 a0 (nth x4 1)) fun v13 =>
 St 1 v13 v10 fun v14 =>
 O (binV .add (nth x4 0) (.int .i64 1)) fun v15 =>
 O (binV .sub (nth x4 1) (.int .i64 1)) fun v16 =>
 k3 [v15, v16])
 (K (.tuple #[])))
theorem s62 (a0 : Value) (K : Value → Asn) : vc Try.prog (.seq .leaf (.block (.loop (.seq (.seq .leaf (.cond .leaf .leaf)) (.seq (.block (.draw [0, 0, 0, 0, 0, 0, 48, 112, 0, 0, 768, 1792, 4083, 8179, 16383, 32767] [(0, []), (1, []), (2, []), (3, []), (4, []), (5, []), (6, []), (7, []), (8, []), (9, []), (10, []), (11, []), (12, []), (13, []), (14, []), (15, [])])) .leaf)) [2, 3] [0]))) (Try.f62.body.getD .skip) (Sl.start [a0]) (kret Try.prog Try.f62.results.toList K) (fun _ _ => no) (kret Try.prog Try.f62.results.toList K) = S62 Try.prog a0 K := by kernel_rfl
theorem e62 {a0 : Value} {K : Value → Asn} {h : PH} (s : S62 Try.prog a0 K h) : Cl Try.prog 62 [a0] K h := cl_of_vc Try.func62 rfl rfl rfl (by kernel_rfl) ((s62 a0 K) ▸ s)
end Go.Proofs.Ytndanmhgbfjinaa
namespace Go.Sl
open Go
section
variable {P : Program} {l R : List Asn} {K : Value → Asn}
def cl (b : Nat) (cs : List Value) : Asn := fun h => ∃ e, h b = some (true, .cells cs.toArray e (0, 0))
def ro (b : Nat) (cs : List Value) : Asn := fun h => ∃ e fz, h b = some (false, .cells cs.toArray e fz)
def mp (b : Nat) (es : List MapEntry) : Asn := fun h => ∃ clock, h b = some (true, .map es.toArray clock)
class Per (A : Asn) : Prop where
  per : ∀ h, A h → ∃ h0, Le h0 h ∧ (∀ b x, h0 b = some x → x.1 = false) ∧ A h0
theorem un_self (h : PH) : un h h = h := by funext b; simp only [un]; cases h b <;> rfl
theorem Per.dup {A : Asn} [p : Per A] {h : PH} (s : Star (A :: l) h) : Star (A :: A :: l) h := by
  obtain ⟨h1, h2, d, le, a, r⟩ := s
  obtain ⟨h0, l0, f0, a0⟩ := p.per h1 a
  have d0 : Dj h0 h1 := fun b x y hx hy => by
    have := l0 b x hx
    rw [hy] at this; cases this
    exact ⟨rfl, f0 b _ hx⟩
  have d2 : Dj h0 h2 := d.mono l0 (Le.refl _)
  exact ⟨h0, un h1 h2, d0.un_right d2, Le.un (l0.trans ((Le.left _ _).trans le)) le, a0, h1, h2, d, Le.refl _, a, r⟩
instance (b : Nat) (cs : List Value) : Per (ro b cs) where
  per h := by
    rintro ⟨e, fz, hb⟩
    refine ⟨fun c => if c = b then some (false, .cells cs.toArray e fz) else none, ?_, ?_, e, fz, by simp⟩
    · intro c x hx
      by_cases hc : c = b
      · subst hc; simp at hx; rw [hb, hx]
      · simp [hc] at hx
    · intro c x hx
      by_cases hc : c = b
      · simp [hc] at hx; rw [← hx]
      · simp [hc] at hx
theorem Pick.per {A : Asn} [Per A] : Pick (A :: R) A (A :: R) := fun _ s => Per.dup s
def Vs (h h' : PH) : Prop := ∀ hF, Dj h hF → Dj h' hF ∧ ∀ w, Sat h w → Sat h' w
theorem Vs.refl (h : PH) : Vs h h := fun _ d => ⟨d, fun _ s => s⟩
theorem Vs.trans {a b c : PH} (x : Vs a b) (y : Vs b c) : Vs a c := fun hF d => by
  obtain ⟨d1, s1⟩ := x hF d
  obtain ⟨d2, s2⟩ := y hF d1
  exact ⟨d2, fun w s => s2 w (s1 w s)⟩
theorem Vs.of_le {h h' : PH} (l : Le h' h) : Vs h h' := fun _ d => ⟨d.mono l (Le.refl _), fun _ s => s.mono l⟩
theorem OpR.vs {s : Sem Next} {K : Value → Asn} {h : PH} (r : OpR P s (fun v h => ∃ h', Vs h h' ∧ K v h') h) : OpR P s K h := fun hF w d a b =>
  (r hF w d a b).mono fun v w' ⟨h1, ⟨h2, vs, k⟩, d1, s1, f1⟩ => ⟨h2, k, (vs hF.ph d1).1, (vs hF.ph d1).2 w' s1, f1⟩
theorem OpR.vs_pre {s : Sem Next} {K : Value → Asn} {h h' : PH} (v : Vs h h') (r : OpR P s K h') : OpR P s K h := fun hF w d a b => r hF w (v hF.ph d).1 ((v hF.ph d).2 w a) b
theorem Runs.vs_pre {α : Type} {s : Sem α} {K : α → Asn} {h h' : PH} (v : Vs h h') (r : Runs P s K h') : Runs P s K h := fun hF w d a b => r hF w (v hF.ph d).1 ((v hF.ph d).2 w a) b
def Shift (l l' : List Asn) : Prop := ∀ h, Star l h → ∃ h', Vs h h' ∧ Star l' h'
theorem Shift.refl (l : List Asn) : Shift l l := fun h s => ⟨h, Vs.refl h, s⟩
theorem Shift.trans {a b c : List Asn} (x : Shift a b) (y : Shift b c) : Shift a c := fun h s => by
  obtain ⟨h1, v1, s1⟩ := x h s
  obtain ⟨h2, v2, s2⟩ := y h1 s1
  exact ⟨h2, v1.trans v2, s2⟩
theorem Shift.of_picks {l L R : List Asn} (p : Picks l L R) : Shift l (L ++ R) := fun h s => ⟨h, Vs.refl h, p.star s⟩
theorem Star.drop_right {l m : List Asn} {h : PH} (s : Star (l ++ m) h) : Star l h := by
  obtain ⟨h1, h2, _, le, s1, _⟩ := Star.split s
  exact s1.mono ((Le.left h1 h2).trans le)
theorem Shift.froze {b : Nat} {cs : List Value} : Shift (cl b cs :: l) (ro b cs :: l) := by
  rintro h ⟨h1, h2, d, le, ⟨e, hb⟩, r⟩
  refine ⟨un (put emp b (false, .cells cs.toArray e (0, 0))) h2, ?_, _, h2, ?_, Le.refl _, ⟨e, (0, 0), put_same _ _ _⟩, r⟩
  · have hb2 : h2 b = none := by
      cases hh : h2 b with
      | none => rfl
      | some y => have := (d b _ _ hb hh).2; cases this
    have hbh : h b = some (true, .cells cs.toArray e (0, 0)) := le b _ (un_some_left hb)
    have leh2 : Le h2 h := (Le.right d).trans le
    intro hF dF
    constructor
    · intro c x y hx hy
      rcases un_cases hx with hx | hx
      · by_cases hc : c = b
        · subst hc; have := (dF c _ _ hbh hy).2; cases this
        · simp [put, hc, emp] at hx
      · exact dF c x y (leh2 c x hx) hy
    · intro w s c x hx
      rcases un_cases hx with hx | hx
      · by_cases hc : c = b
        · subst hc; rw [put_same] at hx; cases hx; have := s c _ hbh; exact this
        · simp [put, hc, emp] at hx
      · exact s c x (leh2 c x hx)
  · intro c x y hx hy
    by_cases hc : c = b
    · subst hc
      rw [put_same] at hx; cases hx
      have := (d c _ _ hb hy).2; cases this
    · simp [put, hc, emp] at hx
def Ctr (P : Program) (f : FuncId) (args : List Value) (pre : List Asn) {X : Type} (res : X → Value) (φ : X → Prop) (post : X → List Asn) : Prop :=
  Ent pre (Cl P f args fun v h => ∃ h', Vs h h' ∧ ∃ x, v = res x ∧ φ x ∧ Star (post x) h')
theorem ctr_of {f : FuncId} {args : List Value} {pre : List Asn} {X : Type} {res : X → Value} {φ : X → Prop} {post : X → List Asn} {S : (Value → Asn) → Asn}
    (e : ∀ {K : Value → Asn} {h : PH}, S K h → Cl P f args K h) (k : Ent pre (S fun v h => ∃ h', Vs h h' ∧ ∃ x, v = res x ∧ φ x ∧ Star (post x) h')) : Ctr P f args pre res φ post := by
  intro h s
  exact e (k h s)
theorem Ctr.use {f : FuncId} {args : List Value} {pre : List Asn} {X : Type} {res : X → Value} {φ : X → Prop} {post : X → List Asn}
    (F : Ctr P f args pre res φ post) (p : Picks l pre R) (k : ∀ x, φ x → Ent (post x ++ R) (K (res x))) : Ent l (Cl P f args K) := by
  intro h s
  obtain ⟨h1, h2, d, le, s1, s2⟩ := p.split s
  refine OpR.drop le (OpR.frame (OpR.vs (F h1 s1)) d ?_)
  rintro v h' ⟨x, rfl, hφ, s'⟩ d'
  exact k x hφ _ (Star.append d' s' s2)
theorem ent_ret {X : Type} {res : X → Value} {φ : X → Prop} {post : X → List Asn} {v : Value} (x : X) (hv : v = res x) (hφ : φ x) (p : Shift l (post x ++ R)) :
    Ent l (fun h => ∃ h', Vs h h' ∧ ∃ x, v = res x ∧ φ x ∧ Star (post x) h') := by
  intro h s
  obtain ⟨h', vs, s'⟩ := p h s
  exact ⟨h', vs, x, hv, hφ, Star.drop_right s'⟩
theorem Ent.shift_cl {f : FuncId} {args : List Value} {l' : List Asn} (s : Shift l l') (e : Ent l' (Cl P f args K)) : Ent l (Cl P f args K) := fun h q => by
  obtain ⟨h', v, q'⟩ := s h q
  exact OpR.vs_pre v (e h' q')
theorem Ent.perm {φ : Asn} {l' : List Asn} {R : List Asn} (p : Picks l l' R) (e : Ent (l' ++ R) φ) : Ent l φ := fun h s => e h (p.star s)
theorem Ent.open {φ : Asn} {A : Asn} {m : List Asn} (p : Pick l A R) (o : ∀ h, A h → Star m h) (e : Ent (m ++ R) φ) : Ent l φ := fun h s => by
  obtain ⟨h1, h2, d, le, a, r⟩ := p h s
  exact e h ((Star.append d (o h1 a) r).mono le)
theorem Ent.openX {φ : Asn} {A : Asn} {X : Type} {ψ : X → Prop} {m : X → List Asn} (p : Pick l A R) (o : ∀ h, A h → ∃ x, ψ x ∧ Star (m x) h) (e : ∀ x, ψ x → Ent (m x ++ R) φ) : Ent l φ := fun h s => by
  obtain ⟨h1, h2, d, le, a, r⟩ := p h s
  obtain ⟨x, hx, sx⟩ := o h1 a
  exact e x hx h ((Star.append d sx r).mono le)
theorem Shift.close {A : Asn} {m : List Asn} (p : Picks l m R) (o : ∀ h, Star m h → A h) : Shift l (A :: R) := fun h s => by
  obtain ⟨h1, h2, d, le, a, r⟩ := p.split s
  exact ⟨h, Vs.refl h, h1, h2, d, le, o h1 a, r⟩
theorem Ent.close {φ : Asn} {A : Asn} {m : List Asn} (p : Picks l m R) (o : ∀ h, Star m h → A h) (e : Ent (A :: R) φ) : Ent l φ := fun h s => by
  obtain ⟨h1, h2, d, le, a, r⟩ := p.split s
  exact e h ⟨h1, h2, d, le, o h1 a, r⟩
theorem Pick.close {A : Asn} {m : List Asn} (p : Picks l m R) (o : ∀ h, Star m h → A h) : Pick l A R := fun h s => by
  obtain ⟨h1, h2, d, le, a, r⟩ := p.split s
  exact ⟨h1, h2, d, le, o h1 a, r⟩
theorem ent_O {o : Option Value} {v : Value} (e : o = some v) (k : Ent l (K v)) : Ent l (O o K) := fun h s => ⟨v, e, k h s⟩
theorem ent_VB {b : Bool} {x y : Asn} (k1 : b = true → Ent l x) (k2 : b = false → Ent l y) : Ent l (VB (.bool b) x y) := fun h s => by
  cases b
  · exact k2 rfl h s
  · exact k1 rfl h s
theorem ent_true {x y : Asn} (k : Ent l x) : Ent l (VB (.bool true) x y) := k
theorem ent_false {x y : Asn} (k : Ent l y) : Ent l (VB (.bool false) x y) := k
theorem ent_if {p : Prop} [Decidable p] {x y : Asn} (k1 : p → Ent l x) (k2 : ¬ p → Ent l y) : Ent l (VB (.bool (decide p)) x y) :=
  ent_VB (fun e => k1 (of_decide_eq_true e)) (fun e => k2 (of_decide_eq_false e))
theorem ent_And2 {x y : Asn} (k1 : Ent l x) (k2 : Ent l y) : Ent l (And2 x y) := fun h s => ⟨k1 h s, k2 h s⟩
theorem ent_undef : Ent l (isUndef undef) := fun _ _ => rfl
theorem ent_Is {v : Value} : Ent l (Is v v) := fun _ _ => rfl
def Has (l : List Asn) (b : Nat) (cs : List Value) : Prop := ∀ h, Star l h → ∃ t e fz, h b = some (t, .cells cs.toArray e fz)
theorem Has.cl {b : Nat} {cs : List Value} : Has (cl b cs :: R) b cs := fun h ⟨h1, _, _, le, ⟨e, hb⟩, _⟩ => ⟨true, e, (0, 0), le b _ (un_some_left hb)⟩
theorem Has.ro {b : Nat} {cs : List Value} : Has (ro b cs :: R) b cs := fun h ⟨h1, _, _, le, ⟨e, fz, hb⟩, _⟩ => ⟨false, e, fz, le b _ (un_some_left hb)⟩
theorem Has.there {A : Asn} {b : Nat} {cs : List Value} (x : Has R b cs) : Has (A :: R) b cs := fun h ⟨h1, h2, d, le, _, r⟩ => by
  obtain ⟨t, e, fz, hb⟩ := x h2 r
  exact ⟨t, e, fz, le b _ (Le.right d b _ hb)⟩
theorem ent_Ld {k : Option Nat} {b off : Nat} {cs : List Value} {v : Value} (hh : Has l b cs) (e : rdV cs off k = some v) (q : Ent l (K v)) : Ent l (Ld k (.pointer (some ⟨b, off, none⟩)) K) := fun h s => by
  obtain ⟨t, e', fz, hb⟩ := hh h s
  exact ⟨b, off, t, _, e', fz, v, rfl, hb, by simpa using e, q h s⟩
theorem put_le {h k : PH} {b : Nat} {x : Bool × Obj} (hb : h b = none ∨ True) (l : ∀ c y, c ≠ b → k c = some y → h c = some y) : Le (un (put emp b x) k) (put h b x) := fun c y hc => by
  rcases un_cases hc with hx | hx
  · by_cases hxb : c = b
    · subst hxb; rw [put_same] at hx ⊢; exact hx
    · rw [put_ne _ _ hxb] at hx; cases hx
  · by_cases hxb : c = b
    · subst hxb
      have : un (put emp c x) k c = some x := un_some_left (put_same _ _ _)
      rw [this] at hc; rw [put_same]; exact hc
    · rw [put_ne _ _ hxb]; exact l c y hxb hx
theorem ent_Nw {e : TypeId} {c : List Value} {f : Nat → Value} (q : ∀ b, Ent (cl b c :: l) (K (f b))) : Ent l (Nw e c f K) := fun h s b hb =>
  q b _ ⟨put emp b (true, .cells c.toArray e (0, 0)), h, (single_dj.2 hb).symm, put_le (.inl hb) (fun _ _ _ e => e), ⟨e, put_same _ _ _⟩, s⟩
theorem ent_St {n b off : Nat} {cs : List Value} {v : Value} (p : Pick l (cl b cs) R) (h1 : v.cells.size = n) (h2 : off + n ≤ cs.length) (h3 : v.cells.toList.all one = true)
    (q : Ent (cl b (wrCells cs off v.cells.toList) :: R) (K undef)) : Ent l (St n (.pointer (some ⟨b, off, none⟩)) v K) := fun h s => by
  obtain ⟨k1, k2, d, le, ⟨e, hb⟩, r⟩ := p h s
  have hbh : h b = some (true, .cells cs.toArray e (0, 0)) := le b _ (un_some_left hb)
  have hb2 : k2 b = none := by
    cases hh : k2 b with
    | none => rfl
    | some y => have := (d b _ _ hb hh).2; cases this
  exact ⟨b, off, cs.toArray, e, rfl, hbh, h1, by simpa using h2, h3, q _ ⟨put emp b (true, .cells (wrCells cs off v.cells.toList).toArray e (0, 0)), k2, (single_dj.2 hb2).symm,
    put_le (.inr trivial) (fun c y _ e => le c y (Le.right d c y e)), ⟨e, put_same _ _ _⟩, r⟩⟩
theorem ent_BS {t : TypeId} {o : Option (List Value)} {n : Nat} {c : List Value} (e : o = some c) (q : ∀ b, Ent (cl b c :: l) (K (.slice (some ⟨b, 0, none⟩) n n))) : Ent l (BS t o n K) := fun h s => ⟨c, e, ent_Nw q h s⟩
theorem ent_VJ {X : Type} {f : (List Value → Asn) → Asn} {g : List Value → (Nat → Value) → Asn} (vals : X → List Value) (φ : X → Prop) (m : X → List Asn)
    (k1 : Ent l (f fun xs h => ∃ x, xs = vals x ∧ φ x ∧ Star (m x) h)) (k2 : ∀ x, φ x → ∀ j, Ent (m x) (g (vals x) j)) : Ent l (VJ f g) := fun h s =>
  ⟨_, k1 h s, fun xs j h' ⟨x, e, hφ, s'⟩ => by subst e; exact k2 x hφ j h' s'⟩
theorem ent_join {X : Type} {vals : X → List Value} {φ : X → Prop} {m : X → List Asn} {xs : List Value} (x : X) (e : xs = vals x) (hφ : φ x) (p : Picks l (m x) R) :
    Ent l (fun h => ∃ x, xs = vals x ∧ φ x ∧ Star (m x) h) := fun h s => ⟨x, e, hφ, (p.star s).drop_right⟩
theorem ent_VJ' {f : (List Value → Asn) → Asn} {g : List Value → (Nat → Value) → Asn} (k : Ent l (f fun xs h => ∀ j, g xs j h)) : Ent l (VJ f g) := fun h s =>
  ⟨_, k h s, fun _ j _ q => q j⟩
theorem ent_all {α : Type} {φ : α → Asn} (k : ∀ j, Ent l (φ j)) : Ent l (fun h => ∀ j, φ j h) := fun h s j => k j h s
def app (a b : List Asn) : List Asn := a ++ b
theorem ent_VL {X : Type} {init : List Value} {body : List Value → (Nat → Value) → (List Value → Asn) → Asn} (vals : X → List Value) (φ : X → Prop) (μ : X → Nat) (m : X → List Asn)
    (x0 : X) (e0 : init = vals x0) (h0 : φ x0) (p : Picks l (m x0) R)
    (k : ∀ x, φ x → ∀ j, Ent (m x ++ R) (body (vals x) j fun xs h => ∃ n, n < μ x ∧ ∃ x', xs = vals x' ∧ φ x' ∧ μ x' = n ∧ Star (app (m x') R) h)) : Ent l (VL init body) := fun h s =>
  ⟨fun n xs h => ∃ x, xs = vals x ∧ φ x ∧ μ x = n ∧ Star (m x ++ R) h, ⟨_, x0, e0, h0, rfl, p.star s⟩, fun n xs j h' ⟨x, e, hφ, hμ, s'⟩ => by subst e hμ; exact k x hφ j h' s'⟩
theorem ent_again {X : Type} {vals : X → List Value} {φ : X → Prop} {μ : X → Nat} {m : X → List Asn} {R' : List Asn} {xs : List Value} {n0 : Nat} (x : X) (e : xs = vals x) (hφ : φ x) (hμ : μ x < n0)
    {R : List Asn} (p : Picks l (app (m x) R) R') : Ent l (fun h => ∃ n, n < n0 ∧ ∃ x', xs = vals x' ∧ φ x' ∧ μ x' = n ∧ Star (app (m x') R) h) := fun h s =>
  ⟨_, hμ, x, e, hφ, rfl, (p.star s).drop_right⟩
theorem ent_VL0 {X : Type} {init : List Value} {body : List Value → (Nat → Value) → (List Value → Asn) → Asn} (vals : X → List Value) (φ : X → Prop) (μ : X → Nat)
    (x0 : X) (e0 : init = vals x0) (h0 : φ x0)
    (k : ∀ x, φ x → ∀ j, Ent l (body (vals x) j fun xs h => ∃ n, n < μ x ∧ ∃ x', xs = vals x' ∧ φ x' ∧ μ x' = n ∧ Star l h)) : Ent l (VL init body) := fun h s =>
  ⟨fun n xs h => ∃ x, xs = vals x ∧ φ x ∧ μ x = n ∧ Star l h, ⟨_, x0, e0, h0, rfl, s⟩, fun n xs j h' ⟨x, e, hφ, hμ, s'⟩ => by subst e hμ; exact k x hφ j h' s'⟩
theorem ent_again0 {X : Type} {vals : X → List Value} {φ : X → Prop} {μ : X → Nat} {xs : List Value} {n0 : Nat} (x : X) (e : xs = vals x) (hφ : φ x) (hμ : μ x < n0) :
    Ent l (fun h => ∃ n, n < n0 ∧ ∃ x', xs = vals x' ∧ φ x' ∧ μ x' = n ∧ Star l h) := fun _ s => ⟨_, hμ, x, e, hφ, rfl, s⟩
theorem ent_false' {φ : Asn} (h : False) : Ent l φ := h.elim
end
end Go.Sl
namespace Go.Sl
open Go
section
variable {P : Program} {l R : List Asn} {K : Value → Asn}
def ents (k : IntKind) (m : List (Int × Value)) : List (Value × Value) := m.map fun p => (.int k p.1, p.2)
def bornOk (es : List MapEntry) (clock : Nat) : Prop := (es.map (·.born)).Pairwise (· < ·) ∧ ∀ e ∈ es, e.born < clock
def mpI (b : Nat) (k : IntKind) (m : List (Int × Value)) : Asn := fun h =>
  ∃ es clock, h b = some (true, .map es clock) ∧ es.toList.map (fun e => (e.key, e.val)) = ents k m ∧ bornOk es.toList clock
def alook : List (Int × Value) → Int → Option Value
  | [], _ => none
  | p :: r, k => if p.1 = k then some p.2 else alook r k
def aput : List (Int × Value) → Int → Value → List (Int × Value)
  | [], k, v => [(k, v)]
  | p :: r, k, v => if p.1 = k then (k, v) :: r else p :: aput r k v
def adel : List (Int × Value) → Int → List (Int × Value)
  | [], _ => []
  | p :: r, k => if p.1 = k then r else p :: adel r k
theorem findNow_int (kk k : IntKind) (a : Int) : ∀ (es : List MapEntry) (m : List (Int × Value)) (i : Nat), es.map (fun e => (e.key, e.val)) = ents k m →
    ∃ r, Instr.findNow (.int kk) (.int k a) es i = some r ∧ r.map (·.2) = alook m a ∧
      (∀ j v, r = some (j, v) → i ≤ j ∧ ∃ e, es[j - i]? = some e ∧ e.key = .int k a ∧ (es.modify (j - i) (fun e => { e with key := .int k a, val := (undef : Value) })).length = es.length ∧
        ∀ x, (es.modify (j - i) (fun e => { e with key := .int k a, val := x })).map (fun e => (e.key, e.val)) = ents k (aput m a x)) ∧
      (∀ j v, r = some (j, v) → (es.eraseIdx (j - i)).map (fun e => (e.key, e.val)) = ents k (adel m a)) ∧
      (r = none → (∀ x, aput m a x = m ++ [(a, x)]) ∧ adel m a = m) := by
  intro es
  induction es with
  | nil =>
    intro m i h
    cases m with
    | cons p m => simp [ents] at h
    | nil => exact ⟨none, rfl, rfl, fun j v e => (by cases e), fun j v e => (by cases e), fun _ => ⟨fun x => rfl, rfl⟩⟩
  | cons e es ih =>
    intro m i h
    cases m with
    | nil => simp [ents] at h
    | cons p m =>
      simp only [ents, List.map_cons, List.cons.injEq, Prod.mk.injEq] at h
      obtain ⟨⟨h1, h2⟩, h3⟩ := h
      have h3' : es.map (fun e => (e.key, e.val)) = ents k m := h3
      simp only [Instr.findNow, h1, Instr.sameNow, if_true]
      by_cases hp : p.1 = a
      · have hb : (a == p.1) = true := by simp [hp]
        rw [hb]
        refine ⟨some (i, e.val), rfl, by simp [alook, hp, h2], ?_, ?_, fun h => by cases h⟩
        · rintro j v hj
          cases hj
          refine ⟨Nat.le_refl _, e, by simp, by rw [h1, hp], by simp, fun x => ?_⟩
          simp only [Nat.sub_self, List.modify_zero_cons, List.map_cons, h3', aput, if_pos hp, ents]
        · rintro j v hj
          cases hj
          simp only [Nat.sub_self, List.eraseIdx_cons_zero, h3', adel, if_pos hp]
      · have hb : (a == p.1) = false := by simp; exact fun e => hp e.symm
        rw [hb]
        obtain ⟨r, r1, r2, r3, r4, r5⟩ := ih m (i + 1) h3'
        refine ⟨r, r1, by simp [alook, hp, r2], ?_, ?_, ?_⟩
        · rintro j v hj
          obtain ⟨q1, e', q2, q3, q4, q5⟩ := r3 j v hj
          have hji : j - i = (j - (i + 1)) + 1 := by omega
          refine ⟨by omega, e', ?_, q3, by simp, fun x => ?_⟩
          · rw [hji]; simpa using q2
          · rw [hji]
            simp only [List.modify_succ_cons, List.map_cons, q5 x, aput, if_neg hp, ents, h1, h2]
        · rintro j v hj
          obtain ⟨q1, _⟩ := r3 j v hj
          have hji : j - i = (j - (i + 1)) + 1 := by omega
          rw [hji]
          simp only [List.eraseIdx_cons_succ, List.map_cons, r4 j v hj, adel, if_neg hp, ents, h1, h2]
        · intro hr
          obtain ⟨q1, q2⟩ := r5 hr
          exact ⟨fun x => by simp [aput, hp, q1 x], by simp [adel, hp, q2]⟩
theorem findKey_int {kt : TypeId} {kk k : IntKind} {a : Int} {es : List MapEntry} {m : List (Int × Value)} (hk : P.underlying kt = some (.int kk)) (h : es.map (fun e => (e.key, e.val)) = ents k m) (w : World) :
    ∃ r, (Instr.findKey kt (.int k a) es).run P w = .ok r w ∧ Instr.findNow (.int kk) (.int k a) es 0 = some r := by
  obtain ⟨r, r1, _⟩ := findNow_int kk k a es m 0 h
  refine ⟨r, ?_, r1⟩
  simp only [Instr.findKey, Sem.run_bind, und_run hk, Result.andThen_ok, r1, Sem.run_pure]
theorem checkKey_int {kt : TypeId} {kk k : IntKind} {a : Int} (e : Bool) (hk : P.underlying kt = some (.int kk)) (w : World) : (Instr.checkKey e 10000 kt (.int k a)).run P w = .ok () w := by
  have e0 : Instr.checkKey e 10000 kt (.int k a) = Instr.checkKey e (9999 + 1) kt (.int k a) := rfl
  rw [e0]
  unfold Instr.checkKey
  rw [Sem.run_bind, und_run hk]
  rfl
def HasM (l : List Asn) (b : Nat) (k : IntKind) (m : List (Int × Value)) : Prop := ∀ h, Star l h → mpI b k m h
theorem HasM.here {b : Nat} {k : IntKind} {m : List (Int × Value)} : HasM (mpI b k m :: R) b k m := fun h ⟨h1, _, _, le, ⟨es, c, hb, e, o⟩, _⟩ => ⟨es, c, le b _ (un_some_left hb), e, o⟩
theorem HasM.there {A : Asn} {b : Nat} {k : IntKind} {m : List (Int × Value)} (x : HasM R b k m) : HasM (A :: R) b k m := fun h ⟨h1, h2, d, le, _, r⟩ => by
  obtain ⟨es, c, hb, e, o⟩ := x h2 r
  exact ⟨es, c, le b _ (Le.right d b _ hb), e, o⟩
theorem ent_lenM {t kt et ty : TypeId} {b : Nat} {k : IntKind} {m : List (Int × Value)} (ht : P.underlying t = some (.map kt et)) (hm : HasM l b k m) (q : Ent l (K (.int .i64 m.length))) :
    Ent l (Rd P (Builtin.len_ #[t] ty #[.map (some b)]) K) := fun h s => by
  obtain ⟨es, c, hb, e, o⟩ := hm h s
  refine ⟨_, fun w a => ?_, q h s⟩
  have hw := a b _ hb
  have hlen : es.size = m.length := by
    have := congrArg List.length e
    simpa [ents] using this
  simp [Builtin.len_, Sem.run_bind, und_run ht, getObj, Sem.run, hw, goInt, hlen]
theorem ent_lookM {t kt et : TypeId} {b : Nat} {k kk : IntKind} {m : List (Int × Value)} {a : Int} {z : Value} {i : TypeInfo} (ht : P.underlying t = some (.map kt et)) (hk : P.underlying kt = some (.int kk))
    (hi : P.info? et = some i) (hz : i.zero = some z) (hm : HasM l b k m) (ok : Bool)
    (q : Ent l (K (if ok then .tuple #[(alook m a).getD z, .bool (alook m a).isSome] else (alook m a).getD z))) :
    Ent l (Rd P (Instr.lookup t (.map (some b)) (.int k a) ok) K) := fun h s => by
  obtain ⟨es, c, hb, e, o⟩ := hm h s
  refine ⟨_, fun w f => ?_, q h s⟩
  have hw := f b _ hb
  obtain ⟨r, r1, r2⟩ := findKey_int (P := P) (a := a) hk e w
  obtain ⟨r', r1', r2', _⟩ := findNow_int kk k a es.toList m 0 e
  rw [r2] at r1'; cases r1'
  simp only [Instr.lookup, Sem.run_bind, und_run ht, Result.andThen_ok, getObj, Sem.run, hw, Sem.run_pure, checkKey_int _ hk, r1]
  cases r with
  | none =>
    rw [← r2']
    simp only [Sem.run_bind, zero_run hi hz, Result.andThen_ok, Sem.run_pure]
    cases ok <;> rfl
  | some p =>
    rw [← r2']
    cases ok <;> rfl
theorem bornOk.push {es : List MapEntry} {c : Nat} (o : bornOk es c) (k v : Value) : bornOk (es ++ [{ key := k, val := v, born := c }]) (c + 1) := by
  constructor
  · rw [List.map_append, List.pairwise_append]
    refine ⟨o.1, by simp, fun x hx y hy => ?_⟩
    obtain ⟨e, he, rfl⟩ := List.mem_map.1 hx
    simp at hy; subst hy
    exact o.2 e he
  · intro e he
    rcases List.mem_append.1 he with he | he
    · have := o.2 e he; omega
    · simp at he; subst he; simp
theorem bornOk.modify {es : List MapEntry} {c : Nat} (o : bornOk es c) (i : Nat) (k v : Value) : bornOk (es.modify i fun e => { e with key := k, val := v }) c := by
  have hb : ∀ (es : List MapEntry) (i : Nat), (es.modify i fun e => { e with key := k, val := v }).map (·.born) = es.map (·.born) := by
    intro es
    induction es with
    | nil => intro i; simp
    | cons e es ih => intro i; cases i <;> simp [ih]
  constructor
  · rw [hb]; exact o.1
  · intro e he
    have : e.born ∈ (es.modify i fun e => { e with key := k, val := v }).map (·.born) := List.mem_map.2 ⟨e, he, rfl⟩
    rw [hb] at this
    obtain ⟨e', he', h⟩ := List.mem_map.1 this
    rw [← h]; exact o.2 e' he'
theorem mpI_star {b : Nat} {o : Obj} {k : IntKind} {m m' : List (Int × Value)} {es es' : Array MapEntry} {c c' : Nat} {h : PH} (s : Star (mpI b k m :: R) h) (hb : h b = some (true, .map es c))
    (e : es'.toList.map (fun e => (e.key, e.val)) = ents k m') (ok : bornOk es'.toList c') : Star (mpI b k m' :: R) (put h b (true, .map es' c')) := by
  obtain ⟨h1, h2, d, le, ⟨es0, c0, hb0, _⟩, r⟩ := s
  have hb2 : h2 b = none := by
    cases hh : h2 b with
    | none => rfl
    | some y => have := (d b _ _ hb0 hh).2; cases this
  exact ⟨put emp b (true, .map es' c'), h2, (single_dj.2 hb2).symm, put_le (.inr trivial) (fun c y _ e => le c y (Le.right d c y e)), ⟨es', c', put_same _ _ _, e, ok⟩, r⟩
theorem toList_modify' (es : Array MapEntry) (i : Nat) (f : MapEntry → MapEntry) : (es.modify i f).toList = es.toList.modify i f := by
  simp
theorem ent_updM {t kt et : TypeId} {b : Nat} {k kk : IntKind} {m : List (Int × Value)} {a : Int} {x : Value} {K : Unit → Asn} (ht : P.underlying t = some (.map kt et)) (hk : P.underlying kt = some (.int kk))
    (p : Pick l (mpI b k m) R) (q : Ent (mpI b k (aput m a x) :: R) (K ())) : Ent l (Runs P (Instr.mapUpdate t (.map (some b)) (.int k a) x) K) := fun h s => by
  have s' := p h s
  obtain ⟨es, c, hb, e, o⟩ := HasM.here h s'
  refine Runs.bind (Runs.underlying ht ?_)
  dsimp only
  refine Runs.bind (Runs.getObj hb trivial ?_)
  dsimp only
  refine Runs.bind (Runs.val () (fun w _ => checkKey_int false hk w) ?_)
  obtain ⟨r, r1, r2, r3, _, r5⟩ := findNow_int kk k a es.toList m 0 e
  refine Runs.bind (Runs.val r (fun w _ => ?_) ?_)
  · obtain ⟨r', q1, q2⟩ := findKey_int (P := P) (a := a) hk e w
    rw [r1] at q2; cases q2; exact q1
  cases r with
  | none =>
    dsimp only
    refine Runs.setObj hb trivial (q _ (mpI_star (o := .map es c) s' hb ?_ ?_))
    · rw [(r5 rfl).1 x]
      simp [ents, e, Array.toList_push]
    · rw [Array.toList_push]; exact o.push _ _
  | some pr =>
    obtain ⟨j, v⟩ := pr
    dsimp only
    obtain ⟨_, e', q2, q3, _, q5⟩ := r3 j v rfl
    rw [Nat.sub_zero] at q2 q5
    have hkey : (((es[j]?).map (·.key)).getD (.int k a)) = .int k a := by
      have : es[j]? = some e' := by rw [← Array.getElem?_toList]; exact q2
      rw [this]; exact q3
    rw [hkey]
    refine Runs.bind (Runs.val (.int k a) (fun w _ => ?_) ?_)
    · rw [show Instr.keyThatStays (.int k a) (.int k a) = if Instr.sameBits (9999 + 1) (.int k a) (.int k a) then pure (.int k a) else _ from rfl]
      simp [Instr.sameBits]
    · refine Runs.setObj hb trivial (q _ (mpI_star (o := .map es c) s' hb ?_ ?_))
      · rw [toList_modify']; exact q5 x
      · rw [toList_modify']; exact o.modify _ _ _
end
end Go.Sl
namespace Go.Sl
open Go
section
variable {P : Program} {l R : List Asn} {K : Value → Asn}
class HasC (l : List Asn) (b : Nat) (cs : outParam (List Value)) : Prop where has : Has l b cs
instance (priority := 1100) {b : Nat} {cs : List Value} : HasC (cl b cs :: R) b cs := ⟨.cl⟩
instance (priority := 1100) {b : Nat} {cs : List Value} : HasC (ro b cs :: R) b cs := ⟨.ro⟩
instance {A : Asn} {b : Nat} {cs : List Value} [x : HasC R b cs] : HasC (A :: R) b cs := ⟨.there x.has⟩
class PkC (l : List Asn) (b : Nat) (cs : outParam (List Value)) (R : outParam (List Asn)) : Prop where pick : Pick l (cl b cs) R
instance (priority := 1100) {b : Nat} {cs : List Value} : PkC (cl b cs :: R) b cs R := ⟨.here⟩
instance {A : Asn} {b : Nat} {cs : List Value} {S : List Asn} [x : PkC R b cs S] : PkC (A :: R) b cs (A :: S) := ⟨.there x.pick⟩
class HasMC (l : List Asn) (b : Nat) (k : outParam IntKind) (m : outParam (List (Int × Value))) : Prop where has : HasM l b k m
instance (priority := 1100) {b : Nat} {k : IntKind} {m : List (Int × Value)} : HasMC (mpI b k m :: R) b k m := ⟨.here⟩
instance {A : Asn} {b : Nat} {k : IntKind} {m : List (Int × Value)} [x : HasMC R b k m] : HasMC (A :: R) b k m := ⟨.there x.has⟩
class PkMC (l : List Asn) (b : Nat) (k : outParam IntKind) (m : outParam (List (Int × Value))) (R : outParam (List Asn)) : Prop where pick : Pick l (mpI b k m) R
instance (priority := 1100) {b : Nat} {k : IntKind} {m : List (Int × Value)} : PkMC (mpI b k m :: R) b k m R := ⟨.here⟩
instance {A : Asn} {b : Nat} {k : IntKind} {m : List (Int × Value)} {S : List Asn} [x : PkMC R b k m S] : PkMC (A :: R) b k m (A :: S) := ⟨.there x.pick⟩
theorem oL {k : Option Nat} {b off : Nat} {cs : List Value} {v : Value} [x : HasC l b cs] (e : rdV cs off k = some v) (q : Ent l (K v)) : Ent l (Ld k (.pointer (some ⟨b, off, none⟩)) K) := ent_Ld x.has e q
theorem oS {n b off : Nat} {cs : List Value} {v : Value} [x : PkC l b cs R] (h1 : v.cells.size = n) (h2 : Nat.ble (off + n) cs.length = true) (h3 : v.cells.toList.all one = true) {cs' : List Value} (h4 : wrCells cs off v.cells.toList = cs')
    (q : Ent (cl b cs' :: R) (K undef)) : Ent l (St n (.pointer (some ⟨b, off, none⟩)) v K) := ent_St x.pick h1 (Nat.le_of_ble_eq_true h2) h3 (h4 ▸ q)
theorem oN {e : TypeId} {c : List Value} {f : Nat → Value} (q : ∀ b, Ent (cl b c :: l) (K (f b))) : Ent l (Nw e c f K) := ent_Nw q
theorem oM {k : IntKind} (q : ∀ b, Ent (mpI b k [] :: l) (K (.map (some b)))) : Ent l (NwM K) := fun h s b hb =>
  q b _ ⟨put emp b (true, .map #[] 0), h, (single_dj.2 hb).symm, put_le (.inl hb) (fun _ _ _ e => e), ⟨#[], 0, put_same _ _ _, rfl, by simp [bornOk]⟩, s⟩
theorem oI {p : Prop} [Decidable p] {x y : Asn} (k1 : p → Ent l x) (k2 : ¬ p → Ent l y) : Ent l (VB (.bool (decide p)) x y) := ent_if k1 k2
theorem oA {x y : Asn} (k1 : Ent l x) (k2 : Ent l y) : Ent l (And2 x y) := ent_And2 k1 k2
theorem oAdd {x y : Int} (h1 : -9223372036854775808 ≤ x + y) (h2 : x + y ≤ 9223372036854775807) (q : Ent l (K (.int .i64 (x + y)))) : Ent l (O (binV .add (.int .i64 x) (.int .i64 y)) K) :=
  ent_O (by show some (Value.int .i64 (IntKind.i64.wrap (x + y))) = _; rw [IntWalk.i64_in _ ⟨h1, h2⟩]) q
theorem oSub {x y : Int} (h1 : -9223372036854775808 ≤ x - y) (h2 : x - y ≤ 9223372036854775807) (q : Ent l (K (.int .i64 (x - y)))) : Ent l (O (binV .sub (.int .i64 x) (.int .i64 y)) K) :=
  ent_O (by show some (Value.int .i64 (IntKind.i64.wrap (x - y))) = _; rw [IntWalk.i64_in _ ⟨h1, h2⟩]) q
theorem oMul {x y : Int} (h1 : -9223372036854775808 ≤ x * y) (h2 : x * y ≤ 9223372036854775807) (q : Ent l (K (.int .i64 (x * y)))) : Ent l (O (binV .mul (.int .i64 x) (.int .i64 y)) K) :=
  ent_O (by show some (Value.int .i64 (IntKind.i64.wrap (x * y))) = _; rw [IntWalk.i64_in _ ⟨h1, h2⟩]) q
theorem oCv {j : IntKind} {x : Int} (h1 : -9223372036854775808 ≤ x) (h2 : x ≤ 9223372036854775807) (q : Ent l (K (.int .i64 x))) : Ent l (O (cvV .i64 (.int j x)) K) :=
  ent_O (by show some (Value.int .i64 (IntKind.i64.wrap x)) = _; rw [IntWalk.i64_in _ ⟨h1, h2⟩]) q
theorem oIx {size b off len cap : Nat} {k : IntKind} {n : Int} (h1 : 0 ≤ n) (h2 : n < len) (q : Ent l (K (.pointer (some ⟨b, off + n.toNat * size, none⟩)))) :
    Ent l (O (idxV size (.slice (some ⟨b, off, none⟩) len cap) (.int k n)) K) := ent_O (by simp only [idxV]; rw [if_pos ⟨h1, h2⟩]) q
theorem oEq {x y : Int} {k : IntKind} (q : Ent l (K (.bool (decide (x = y))))) : Ent l (O (binV .eql (.int k x) (.int k y)) K) :=
  ent_O (by show (if k = k then arI .eql k x y else none) = _; rw [if_pos rfl]; simp only [arI, cmpI]; congr 2) q
theorem oNe {x y : Int} {k : IntKind} (q : Ent l (K (.bool (decide (x ≠ y))))) : Ent l (O (binV .neq (.int k x) (.int k y)) K) :=
  ent_O (by show (if k = k then arI .neq k x y else none) = _; rw [if_pos rfl]; simp only [arI, cmpI]; congr 2; simp [bne, BEq.beq]) q
theorem P0 {A : Asn} : Pick (A :: R) A R := .here
theorem P1 {A B : Asn} : Pick (B :: A :: R) A (B :: R) := .there .here
theorem P2 {A B C : Asn} : Pick (C :: B :: A :: R) A (C :: B :: R) := .there (.there .here)
theorem P3 {A B C D : Asn} : Pick (D :: C :: B :: A :: R) A (D :: C :: B :: R) := .there (.there (.there .here))
theorem P4 {A B C D E : Asn} : Pick (E :: D :: C :: B :: A :: R) A (E :: D :: C :: B :: R) := .there (.there (.there (.there .here)))
theorem P5 {A B C D E F : Asn} : Pick (F :: E :: D :: C :: B :: A :: R) A (F :: E :: D :: C :: B :: R) := .there (.there (.there (.there (.there .here))))
theorem P6 {A B C D E F G : Asn} : Pick (G :: F :: E :: D :: C :: B :: A :: R) A (G :: F :: E :: D :: C :: B :: R) := .there (.there (.there (.there (.there (.there .here)))))
end
end Go.Sl
namespace Go.Sl
open Go
section
variable {P : Program} {l R : List Asn} {K : Value → Asn}
def RowP (p : TypeId → Prop) (size : Nat) (v : Value) (n : Nat) (cs : List Value) : Asn := fun h =>
  (v = .slice none 0 0 ∧ n = 0 ∧ cs = []) ∨
  ∃ b cap post e, v = .slice (some ⟨b, 0, none⟩) n cap ∧ h b = some (true, .cells (cs ++ post).toArray e (0, 0)) ∧ cs.length = n * size ∧ post.length = (cap - n) * size ∧ n ≤ cap ∧ p e
abbrev Row (size : Nat) (v : Value) (n : Nat) (cs : List Value) : Asn := RowP (fun _ => True) size v n cs
def Z0 (v : Value) : Prop := ∃ base cap, v = .slice base 0 cap ∧ (base = none → cap = 0)
theorem Z0.nil : Z0 (.slice none 0 0) := ⟨none, 0, rfl, fun _ => rfl⟩
def RoRow (size : Nat) (v : Value) (n : Nat) (cs : List Value) : Asn := fun h =>
  (Z0 v ∧ n = 0 ∧ cs = []) ∨
  ∃ b off cap pre post e fz, v = .slice (some ⟨b, off, none⟩) n cap ∧ h b = some (false, .cells (pre ++ cs ++ post).toArray e fz) ∧ pre.length = off ∧ cs.length = n * size ∧ n ≤ cap
instance (size : Nat) (v : Value) (n : Nat) (cs : List Value) : Per (RoRow size v n cs) where
  per h := by
    rintro (⟨h1, h2, h3⟩ | ⟨b, off, cap, pre, post, e, fz, h1, hb, h2, h3, h4⟩)
    · exact ⟨emp, fun _ _ e => by simp [emp] at e, fun _ _ e => by simp [emp] at e, .inl ⟨h1, h2, h3⟩⟩
    · refine ⟨fun c => if c = b then some (false, .cells (pre ++ cs ++ post).toArray e fz) else none, ?_, ?_, .inr ⟨b, off, cap, pre, post, e, fz, h1, by simp, h2, h3, h4⟩⟩
      · intro c x hx
        by_cases hc : c = b
        · subst hc; simp at hx; rw [hb, ← hx]; simp
        · simp [hc] at hx
      · intro c x hx
        by_cases hc : c = b
        · simp [hc] at hx; rw [← hx]
        · simp [hc] at hx
def HasR (l : List Asn) (size : Nat) (v : Value) (n : Nat) (cs : List Value) : Prop := ∀ h, Star l h →
  (Z0 v ∧ n = 0 ∧ cs = []) ∨
  ∃ b off cap pre post t e fz, v = .slice (some ⟨b, off, none⟩) n cap ∧ h b = some (t, .cells (pre ++ cs ++ post).toArray e fz) ∧ pre.length = off ∧ cs.length = n * size ∧ n ≤ cap
theorem HasR.row {p : TypeId → Prop} {size : Nat} {v : Value} {n : Nat} {cs : List Value} : HasR (RowP p size v n cs :: R) size v n cs := fun h ⟨h1, _, _, le, a, _⟩ => by
  rcases a with ⟨rfl, a⟩ | ⟨b, cap, post, e, a1, a2, a3, a4, a5, _⟩
  · exact .inl ⟨.nil, a⟩
  · exact .inr ⟨b, 0, cap, [], post, true, e, (0, 0), a1, by simpa using le b _ (un_some_left a2), rfl, a3, a5⟩
theorem HasR.ro {size : Nat} {v : Value} {n : Nat} {cs : List Value} : HasR (RoRow size v n cs :: R) size v n cs := fun h ⟨h1, _, _, le, a, _⟩ => by
  rcases a with a | ⟨b, off, cap, pre, post, e, fz, a1, a2, a3, a4, a5⟩
  · exact .inl a
  · exact .inr ⟨b, off, cap, pre, post, false, e, fz, a1, le b _ (un_some_left a2), a3, a4, a5⟩
theorem HasR.there {A : Asn} {size : Nat} {v : Value} {n : Nat} {cs : List Value} (x : HasR R size v n cs) : HasR (A :: R) size v n cs := fun h ⟨h1, h2, d, le, _, r⟩ => by
  rcases x h2 r with a | ⟨b, off, cap, pre, post, t, e, fz, a1, a2, a3⟩
  · exact .inl a
  · exact .inr ⟨b, off, cap, pre, post, t, e, fz, a1, le b _ (Le.right d b _ a2), a3⟩
class HasRC (l : List Asn) (v : Value) (size : outParam Nat) (n : outParam Nat) (cs : outParam (List Value)) : Prop where has : HasR l size v n cs
instance (priority := 1100) {p : TypeId → Prop} {size : Nat} {v : Value} {n : Nat} {cs : List Value} : HasRC (RowP p size v n cs :: R) v size n cs := ⟨.row⟩
instance (priority := 1100) {size : Nat} {v : Value} {n : Nat} {cs : List Value} : HasRC (RoRow size v n cs :: R) v size n cs := ⟨.ro⟩
instance {A : Asn} {size : Nat} {v : Value} {n : Nat} {cs : List Value} [x : HasRC R v size n cs] : HasRC (A :: R) v size n cs := ⟨.there x.has⟩
class PkRC (l : List Asn) (v : Value) (size : outParam Nat) (n : outParam Nat) (cs : outParam (List Value)) (R : outParam (List Asn)) (p : outParam (TypeId → Prop)) : Prop where pick : Pick l (RowP p size v n cs) R
instance (priority := 1100) {p : TypeId → Prop} {size : Nat} {v : Value} {n : Nat} {cs : List Value} : PkRC (RowP p size v n cs :: R) v size n cs R p := ⟨.here⟩
instance {A : Asn} {size : Nat} {v : Value} {n : Nat} {cs : List Value} {S : List Asn} {p : TypeId → Prop} [x : PkRC R v size n cs S p] : PkRC (A :: R) v size n cs (A :: S) p := ⟨.there x.pick⟩
theorem HasR.len {size : Nat} {v : Value} {n : Nat} {cs : List Value} (x : HasR l size v n cs) {h : PH} (s : Star l h) : lenL v = some (.int .i64 n) ∧ cs.length = n * size := by
  rcases x h s with ⟨⟨base0, cap0, rfl, _⟩, rfl, rfl⟩ | ⟨b, off, cap, pre, post, t, e, fz, rfl, _, _, h3, _⟩
  · exact ⟨rfl, by simp⟩
  · exact ⟨rfl, h3⟩
theorem oLen {size : Nat} {v : Value} {n : Nat} {cs : List Value} [x : HasRC l v size n cs] (q : cs.length = n * size → Ent l (K (.int .i64 n))) : Ent l (O (lenL v) K) := fun h s =>
  let ⟨a, b⟩ := x.has.len s
  ⟨_, a, q b h s⟩
theorem rdV_mid {pre cs post : List Value} {o : Nat} {m : Option Nat} {u : Value} (hu : rdV cs o m = some u) : rdV (pre ++ cs ++ post) (pre.length + o) m = some u := by
  cases m with
  | none =>
    simp only [rdV, List.append_assoc] at hu ⊢
    have : o < cs.length := (List.getElem?_eq_some_iff.1 hu).1
    rw [List.getElem?_append_right (by omega), List.getElem?_append_left (by omega), ← hu]
    congr 1; omega
  | some w =>
    simp only [rdV, Option.map_eq_some_iff] at hu ⊢
    obtain ⟨lst, hl, rfl⟩ := hu
    obtain ⟨hle, rfl⟩ := rdCells_some hl
    refine ⟨_, ?_, rfl⟩
    simp only [rdCells, List.append_assoc, List.length_append]
    rw [if_pos (by omega)]
    congr 1
    have e1 : (pre ++ (cs ++ post)).drop (pre.length + o) = (cs ++ post).drop o := by simp
    rw [e1, List.drop_append_of_le_length (by omega), List.take_append_of_le_length (by simp; omega)]
theorem oIxL {size : Nat} {v : Value} {n : Nat} {cs : List Value} [x : HasRC l v size n cs] {k : IntKind} {i : Int} {m : Option Nat} {u : Value} (h1 : 0 ≤ i) (h2 : i < n)
    (hu : rdV cs (i.toNat * size) m = some u) (q : Ent l (K u)) : Ent l (O (idxV size v (.int k i)) fun a => Ld m a K) := fun h s => by
  rcases x.has h s with ⟨_, h3, _⟩ | ⟨b, off, cap, pre, post, t, e, fz, rfl, hb, h3, h4, h5⟩
  · omega
  · refine ⟨.pointer (some ⟨b, off + i.toNat * size, none⟩), by simp only [idxV]; rw [if_pos ⟨h1, h2⟩], b, _, t, _, e, fz, u, rfl, hb, ?_, q h s⟩
    subst h3
    simpa using rdV_mid (pre := pre) (post := post) hu
theorem oIxFL {size : Nat} {v : Value} {n : Nat} {cs : List Value} [x : HasRC l v size n cs] {k : IntKind} {i : Int} {m : Option Nat} {u : Value} {o : Nat} (h1 : 0 ≤ i) (h2 : i < n)
    (hu : rdV cs (i.toNat * size + o) m = some u) (q : Ent l (K u)) : Ent l (O (idxV size v (.int k i)) fun a => O (addV o a) fun c => Ld m c K) := fun h s => by
  rcases x.has h s with ⟨_, h3, _⟩ | ⟨b, off, cap, pre, post, t, e, fz, rfl, hb, h3, h4, h5⟩
  · omega
  · refine ⟨.pointer (some ⟨b, off + i.toNat * size, none⟩), by simp only [idxV]; rw [if_pos ⟨h1, h2⟩], .pointer (some ⟨b, off + i.toNat * size + o, none⟩), rfl, b, _, t, _, e, fz, u, rfl, hb, ?_, q h s⟩
    subst h3
    have := rdV_mid (pre := pre) (post := post) hu
    simpa [Nat.add_assoc] using this
theorem wrCells_length (c : List Value) (off : Nat) (l : List Value) : (wrCells c off l).length = c.length := by
  induction l generalizing c off with
  | nil => rfl
  | cons v l ih => simp [wrCells, ih]
theorem wrCells_left {c : List Value} {off : Nat} {l : List Value} {post : List Value} (h : off + l.length ≤ c.length) : wrCells (c ++ post) off l = wrCells c off l ++ post := by
  induction l generalizing c off with
  | nil => rfl
  | cons v l ih =>
    simp only [List.length_cons] at h
    simp only [wrCells]
    rw [List.set_append_left _ _ (by omega), ih (by simp; omega)]
theorem oIxS {size : Nat} {v : Value} {n : Nat} {cs : List Value} {p : TypeId → Prop} [x : PkRC l v size n cs R p] {k : IntKind} {i : Int} {u : Value} (h1 : 0 ≤ i) (h2 : i < n) (hu : u.cells.size = size) (ho : u.cells.toList.all one = true)
    (q : Ent (RowP p size v n (wrCells cs (i.toNat * size) u.cells.toList) :: R) (K undef)) : Ent l (O (idxV size v (.int k i)) fun a => St size a u K) := fun h s => by
  obtain ⟨k1, k2, d, le, a, r⟩ := x.pick h s
  rcases a with ⟨_, h3, _⟩ | ⟨b, cap, post, e, rfl, hb, h4, h5, h6, h7⟩
  · omega
  · have hbh : h b = some (true, .cells (cs ++ post).toArray e (0, 0)) := le b _ (un_some_left hb)
    have hb2 : k2 b = none := by
      cases hh : k2 b with
      | none => rfl
      | some y => have := (d b _ _ hb hh).2; cases this
    have hbd : i.toNat * size + size ≤ cs.length := by
      rw [h4, ← Nat.succ_mul]; exact Nat.mul_le_mul_right _ (by omega)
    refine ⟨.pointer (some ⟨b, 0 + i.toNat * size, none⟩), by simp only [idxV]; rw [if_pos ⟨h1, h2⟩], b, _, _, e, rfl, hbh, hu, by simp; omega, ho, ?_⟩
    rw [Nat.zero_add]
    simp only [wrCells_left (show i.toNat * size + u.cells.toList.length ≤ cs.length by simp [hu]; omega)]
    exact q _ ⟨put emp b (true, .cells (wrCells cs (i.toNat * size) u.cells.toList ++ post).toArray e (0, 0)), k2, (single_dj.2 hb2).symm,
      put_le (.inr trivial) (fun c y _ e => le c y (Le.right d c y e)), .inr ⟨b, cap, post, e, rfl, put_same _ _ _, by rw [wrCells_length]; exact h4, h5, h6, h7⟩, r⟩
theorem Shift.rowSeal {p : TypeId → Prop} {size : Nat} {v : Value} {n : Nat} {cs : List Value} : Shift (RowP p size v n cs :: l) (RoRow size v n cs :: l) := by
  rintro h ⟨h1, h2, d, le, a, r⟩
  rcases a with a | ⟨b, cap, post, e, a1, a2, a3, a4, a5, _⟩
  · exact ⟨h, Vs.refl h, h1, h2, d, le, .inl ⟨a.1 ▸ .nil, a.2⟩, r⟩
  · obtain ⟨h', vs, k1, k2, d', le', ⟨e', fz, q⟩, r'⟩ := Shift.froze (b := b) (cs := cs ++ post) (l := l) h ⟨h1, h2, d, le, ⟨e, a2⟩, r⟩
    exact ⟨h', vs, k1, k2, d', le', .inr ⟨b, 0, cap, [], post, e', fz, a1, by simpa using q, rfl, a3, a5⟩, r'⟩
theorem row_of_cl {size b n : Nat} {cs : List Value} (h : cs.length = n * size) (hh : PH) (a : cl b cs hh) : Row size (.slice (some ⟨b, 0, none⟩) n n) n cs hh := by
  obtain ⟨e, hb⟩ := a
  exact .inr ⟨b, n, [], e, rfl, by simpa using hb, h, by simp, Nat.le_refl _, trivial⟩
theorem row_nil {p : TypeId → Prop} {size : Nat} (h : PH) : RowP p size (.slice none 0 0) 0 [] h := .inl ⟨rfl, rfl, rfl⟩
theorem Ent.rowNil {p : TypeId → Prop} {φ : Asn} {size : Nat} (e : Ent (RowP p size (.slice none 0 0) 0 [] :: l) φ) : Ent l φ := fun h s => e h ⟨emp, h, (Dj.emp h).symm, Le.un (fun _ _ e => by simp [emp] at e) (Le.refl _), row_nil _, s⟩
theorem Ent.roNil {φ : Asn} {size : Nat} (e : Ent (RoRow size (.slice none 0 0) 0 [] :: l) φ) : Ent l φ := fun h s => e h ⟨emp, h, (Dj.emp h).symm, Le.un (fun _ _ e => by simp [emp] at e) (Le.refl _), .inl ⟨.nil, rfl, rfl⟩, s⟩
theorem growBy_le (newLen : Nat) : ∀ (r c : Nat), c ≤ newLen + newLen / 4 + 192 → Builtin.growBy newLen r c ≤ newLen + newLen / 4 + 192 := by
  intro r
  induction r with
  | zero => intro c h; exact h
  | succ r ih =>
    intro c h
    unfold Builtin.growBy
    split
    · exact h
    · exact ih _ (by omega)
theorem next_le {need cap : Nat} (h : cap < need) : Builtin.nextslicecap need cap ≤ 2 * need + 192 := by
  unfold Builtin.nextslicecap
  split
  · omega
  · split
    · omega
    · have := growBy_le need 4 cap (by omega); omega
inductive News (l : List Asn) (size : Nat) : Value → Nat → List Value → Prop
  | row {v : Value} {n : Nat} {cs : List Value} (x : HasR l size v n cs) : News l size v n cs
  | cl {b n : Nat} {cs : List Value} (x : Has l b cs) (h : cs.length = n * size) : News l size (.slice (some ⟨b, 0, none⟩) n n) n cs
  | str {s : ByteArray} (h : size = 1) : News l size (.string s) s.size (s.data.toList.map fun c => .int .u8 c.toNat)
theorem loadCells_runs {b off n : Nat} {t : Bool} {c : Array Value} {e : TypeId} {fz : Nat × Nat} {K : Array Value → Asn} {h : PH} (hb : h b = some (t, .cells c e fz)) (hle : off + n ≤ c.size)
    (k : K ((c.toList.drop off).take n).toArray h) : Runs P (loadCells ⟨b, off, none⟩ n) K h := by
  refine loadCellsFrom_runs (off := off) hb n 0 #[] (by simpa using hle) ?_
  simpa using k
theorem first_zero {size : Nat} {v : Value} (z : Z0 v) {K : Array Value → Asn} {h : PH} (k : K #[] h) : Runs P (Builtin.firstCells size 0 v) K h := by
  obtain ⟨base, cap, rfl, _⟩ := z
  cases base with
  | none => exact Runs.pure k
  | some a =>
    show Runs P (loadCells a (0 * size)) K h
    rw [Nat.zero_mul]; exact Runs.pure k
theorem News.first {size : Nat} {v : Value} {n : Nat} {cs : List Value} (x : News l size v n cs) {h : PH} (s : Star l h) {K : Array Value → Asn} (k : K cs.toArray h) :
    Runs P (Builtin.firstCells size n v) K h := by
  cases x with
  | row x =>
    rcases x h s with ⟨z0, rfl, rfl⟩ | ⟨b, off, cap, pre, post, t, e, fz, rfl, hb, h3, h4, h5⟩
    · exact first_zero z0 k
    · refine loadCells_runs hb (by simp; omega) ?_
      have : ((pre ++ cs ++ post).drop off).take (n * size) = cs := by
        subst h3
        rw [List.append_assoc, List.drop_left, ← h4, List.take_left]
      show K (((pre ++ cs ++ post).drop off).take (n * size)).toArray h
      rw [this]; exact k
  | cl x hl =>
    obtain ⟨t, e, fz, hb⟩ := x h s
    refine loadCells_runs hb (by simp; omega) ?_
    have : (cs.drop 0).take (n * size) = cs := by rw [List.drop_zero, ← hl, List.take_length]
    show K ((cs.drop 0).take (n * size)).toArray h
    rw [this]; exact k
  | str hs =>
    rename_i s'
    refine Runs.pure ?_
    have e : ((s'.extract 0 s'.size).data.map fun b => (Value.int .u8 b.toNat)) = (s'.data.toList.map fun c => Value.int .u8 c.toNat).toArray := by
      apply Array.ext'; simp
    rw [e]; exact k
theorem News.len {size : Nat} {v : Value} {n : Nat} {cs : List Value} (x : News l size v n cs) {h : PH} (s : Star l h) : (∀ w, (Builtin.lenOf v).run P w = .ok n w) ∧ cs.length = n * size := by
  cases x with
  | row x =>
    rcases x h s with ⟨⟨base0, cap0, rfl, _⟩, rfl, rfl⟩ | ⟨b, off, cap, pre, post, t, e, fz, rfl, hb, h3, h4, h5⟩
    · exact ⟨fun _ => rfl, by simp⟩
    · exact ⟨fun _ => rfl, h4⟩
  | cl x hl => exact ⟨fun _ => rfl, hl⟩
  | str hs => exact ⟨fun _ => rfl, by subst hs; rw [List.length_map, Nat.mul_one]; rfl⟩
end
end Go.Sl
namespace Go.Sl
open Go
section
variable {P : Program} {l R : List Asn} {K : Value → Asn}
class UndC (P : Program) (t : TypeId) (d : outParam TypeDesc) : Prop where und : P.underlying t = some d
class InfC (P : Program) (t : TypeId) (size : outParam Nat) (bytes : outParam Nat) (zero : outParam Value) : Prop where
  inf : ∃ i, P.info? t = some i ∧ i.size = size ∧ i.bytes = bytes ∧ i.zero = some zero
theorem InfC.of {t : TypeId} {s b : Nat} {z : Value} (h : (P.info? t).map (fun i => (i.size, i.bytes, i.zero)) = some (s, b, some z)) : InfC P t s b z := by
  rw [Option.map_eq_some_iff] at h
  obtain ⟨i, hi, e⟩ := h
  simp only [Prod.mk.injEq] at e
  exact ⟨i, hi, e.1, e.2.1, e.2.2⟩
def isIntD : TypeDesc → Bool
  | .int _ => true
  | _ => false
theorem zeroCells_size (z : Array Value) (n : Nat) : (Builtin.zeroCells z n).size = n * z.size := by simp [Builtin.zeroCells]
theorem wrCells_end (cs new post : List Value) : wrCells (cs ++ (post : List Value)) cs.length new = cs ++ wrCells post 0 new := by
  induction new generalizing post with
  | nil => rfl
  | cons v l ih =>
    have := @ih
    simp only [wrCells]
    have key : ∀ (cs post : List Value) (k : Nat) (l : List Value), wrCells (cs ++ post) (cs.length + k) l = cs ++ wrCells post k l := by
      intro cs post k l
      induction l generalizing post k with
      | nil => rfl
      | cons v l ih =>
        simp only [wrCells]
        rw [List.set_append_right _ _ (by omega), Nat.add_sub_cancel_left, Nat.add_assoc, ih]
    rw [List.set_append_right _ _ (by omega), Nat.sub_self, key]
theorem wrCells_over : ∀ (new post : List Value), new.length ≤ post.length → wrCells post 0 new = new ++ post.drop new.length := by
  have key : ∀ (new post : List Value) (k : Nat), k + new.length ≤ post.length → wrCells post k new = post.take k ++ new ++ post.drop (k + new.length) := by
    intro new
    induction new with
    | nil => intro post k h; simp [wrCells]
    | cons v l ih =>
      intro post k h
      simp only [List.length_cons] at h
      simp only [wrCells]
      rw [ih _ _ (by simp; omega)]
      have h1 : (post.set k v).take (k + 1) = post.take k ++ [v] := by
        rw [List.take_succ_eq_append_getElem (by simp; omega)]
        rw [List.getElem_set_self, List.take_set, List.set_eq_of_length_le (by rw [List.length_take]; exact Nat.min_le_left _ _)]
      have h2 : (post.set k v).drop (k + 1 + l.length) = post.drop (k + (l.length + 1)) := by
        rw [List.drop_set_of_lt (by omega)]; congr 1; omega
      rw [h1, h2]; simp
  intro new post h
  simpa using key new post 0 (by simpa using h)
theorem app_row {T T2 ty e : TypeId} {d : TypeDesc} {s x : Value} {size n m by_ : Nat} {cs new : List Value} {z : Value}
    {pt : TypeId → Prop} (p : Pick l (RowP pt size s n cs) R) (hpt : pt e) (hT : P.underlying T = some (.slice e)) (h2 : P.underlying T2 = some d) (hd : isIntD d = false)
    (hi : ∃ i, P.info? e = some i ∧ i.size = size ∧ i.bytes = by_ ∧ i.zero = some z) (hz : z.cells.size = size) (nw : News l size x m new) (ho : new.all one = true)
    (hpos : by_ ≠ 0) (hb : (2 * (n + m) + 192) * by_ ≤ 281474976710656)
    (q : ∀ v, Ent (RowP pt size v (n + m) (cs ++ new) :: R) (K v)) : Ent l (Runs P (Builtin.append_ #[T, T2] ty #[s, x]) K) := by
  intro h st
  obtain ⟨i, hi, hsz, hby, hzz⟩ := hi
  have hlen := nw.len (P := P) st
  obtain ⟨k1, k2, dj, le, a, r⟩ := p h st
  have hs : ∃ base cap, s = .slice base n cap ∧ n ≤ cap := by
    rcases a with ⟨rfl, rfl, _⟩ | ⟨b, cap, post, e', rfl, _, _, _, hc, _⟩
    · exact ⟨none, 0, rfl, Nat.le_refl _⟩
    · exact ⟨_, cap, rfl, hc⟩
  have hcs : cs.length = n * size := by
    rcases a with ⟨_, rfl, rfl⟩ | ⟨b, cap, post, e', _, _, hc, _⟩
    · simp
    · exact hc
  have e0 : (#[T, T2] : Array TypeId)[0]? = some T := rfl
  have e1 : (#[T, T2] : Array TypeId)[1]? = some T2 := rfl
  have e2 : (#[s, x] : Array Value)[0]? = some s := rfl
  have e3 : (#[s, x] : Array Value)[1]? = some x := rfl
  unfold Builtin.append_
  rw [e0, e1, e2, e3]
  clear e0 e1 e2 e3
  dsimp only
  obtain ⟨base, cap, rfl, hcap⟩ := hs
  refine Runs.bind (Runs.underlying hT ?_)
  dsimp only
  refine Runs.bind (Runs.sizeOf hi ?_)
  refine Runs.bind (Runs.underlying h2 ?_)
  refine Runs.bind (Runs.pure ?_)
  have hm : Builtin.append_.match_1 (fun _ => Bool) d (fun _ => true) (fun _ => false) = false := by
    cases d <;> first | rfl | (simp [isIntD] at hd)
  simp only [hm, Bool.false_eq_true, if_false, Bool.not_false, if_true, false_or]
  refine Runs.bind (Runs.val m (fun w _ => hlen.1 w) ?_)
  by_cases hfit : n + m ≤ cap
  · rw [if_pos hfit]
    rw [hsz]
    refine Runs.bind ((nw.first st ?_))
    rcases a with ⟨ha, rfl, rfl⟩ | ⟨b, cap', post, e', ha, hk, hc1, hc2, hc3, hc4⟩
    · cases ha
      have hm : m = 0 := by omega
      subst hm
      have hn0 : new = [] := by have := hlen.2; simpa using this
      subst hn0
      dsimp only
      refine Runs.bind (Runs.pure (Runs.pure ?_))
      exact q _ h ⟨k1, k2, dj, le, .inl ⟨rfl, rfl, rfl⟩, r⟩
    · cases ha
      have hbh : h b = some (true, .cells (cs ++ post).toArray e' (0, 0)) := le b _ (un_some_left hk)
      have hb2 : k2 b = none := by
        cases hh : k2 b with
        | none => rfl
        | some y => have := (dj b _ _ hk hh).2; cases this
      have hnl : new.length ≤ post.length := by
        rw [hlen.2, hc2]; exact Nat.mul_le_mul_right _ (by omega)
      dsimp only
      rw [add_off]
      refine Runs.bind (storeCells_runs (off := 0 + n * size) _ 0 _ h hbh (by simp [hc1] ; omega) (by simpa using ho) ?_)
      refine Runs.pure (q _ _ ⟨put emp b (true, .cells ((cs ++ new) ++ post.drop new.length).toArray e' (0, 0)), k2, (single_dj.2 hb2).symm, ?_,
        .inr ⟨b, cap, post.drop new.length, e', rfl, put_same _ _ _, by simp [hc1, hlen.2, Nat.add_mul], ?_, hfit, hc4⟩, r⟩)
      · have e1 : wrCells (cs ++ post).toArray.toList (0 + n * size + 0) new.toArray.toList = cs ++ new ++ post.drop new.length := by
          show wrCells (cs ++ post) (0 + n * size + 0) new = _
          rw [Nat.zero_add, Nat.add_zero, ← hc1, wrCells_end, wrCells_over _ _ hnl, List.append_assoc]
        rw [e1]
        exact put_le (.inr trivial) (fun c y _ e => le c y (Le.right dj c y e))
      · rw [List.length_drop, hc2, hlen.2, ← Nat.sub_mul]
        congr 1; omega
  · rw [if_neg hfit]
    refine Runs.bind (Runs.typeInfo hi ?_)
    have hsm : (n + m) * by_ ≤ 281474976710656 := Nat.le_trans (Nat.mul_le_mul_right _ (by omega)) hb
    rw [if_neg (fun hh => hpos (hby ▸ hh.2))]
    refine Runs.bind (Runs.typeInfo hi ?_)
    have hnx := next_le (need := n + m) (cap := cap) (by omega)
    rw [if_neg (by rw [hby]; have := Nat.le_trans (Nat.mul_le_mul_right by_ hnx) hb; simp only [gt_iff_lt, Nat.not_lt]; exact this)]
    refine Runs.bind (Runs.choose (fun hf => by cases hf) fun _ t => ?_)
    generalize hnc : (Question.appendCap (n + m) cap e).cut t = nc
    have hge : n + m ≤ nc := by rw [← hnc]; simp only [Question.cut]; omega
    refine Runs.bind (Runs.typeInfo hi ?_)
    refine Runs.bind ?_
    have hask : ∀ {K : Unit → Asn} {b : Nat}, K () h → Runs P (askRoom b) K h := by
      intro K b k
      unfold askRoom
      split
      · exact Runs.mark k
      · exact Runs.pure k
    refine hask ?_
    rw [hsz]
    have hst : Star (RowP pt size (.slice base n cap) n cs :: R) h := p h st
    refine Runs.bind ((News.row HasR.row).first hst ?_)
    refine Runs.bind (nw.first st ?_)
    refine Runs.bind (Runs.zeroValue hi hzz ?_)
    refine Runs.bind ?_
    refine Runs.bind (Runs.new fun b hb' => Runs.pure (Runs.pure ?_))
    refine q _ _ ⟨put emp b (true, .cells (cs.toArray ++ new.toArray ++ Builtin.zeroCells z.cells (nc - (n + m))) e (0, 0)), k2, (single_dj.2 ?_).symm, ?_,
      .inr ⟨b, nc, (Builtin.zeroCells z.cells (nc - (n + m))).toList, e, rfl, ?_, ?_, ?_, hge, hpt⟩, r⟩
    · cases hh : k2 b with
      | none => rfl
      | some y => have := le b _ (Le.right dj b _ hh); rw [hb'] at this; cases this
    · exact put_le (.inl hb') (fun c y _ e => le c y (Le.right dj c y e))
    · rw [put_same]; congr 3; apply Array.ext'; simp
    · simp [hcs, hlen.2, Nat.add_mul]
    · rw [Array.length_toList, zeroCells_size, hz]
end
end Go.Sl
namespace Go.Sl
open Go
section
variable {P : Program} {l R : List Asn} {K : Value → Asn}
theorem zeroCells_rep (z : Array Value) (n : Nat) : (Builtin.zeroCells z n).toList = rep z.toList n := by
  rw [← rep_range z z.size rfl n]
  simp [Builtin.zeroCells, List.range_eq_range']
theorem Ent.row {φ : Asn} {size n : Nat} {v : Value} {cs : List Value} {pt : TypeId → Prop} (p : Pick l (RowP pt size v n cs) R) (k0 : v = .slice none 0 0 → n = 0 → cs = [] → Ent R φ)
    (k1 : ∀ b cap post, v = .slice (some ⟨b, 0, none⟩) n cap → cs.length = n * size → post.length = (cap - n) * size → n ≤ cap → Ent (cl b (cs ++ post) :: R) φ) : Ent l φ := fun h s => by
  obtain ⟨h1, h2, d, le, a, r⟩ := p h s
  rcases a with ⟨a1, a2, a3⟩ | ⟨b, cap, post, e, a1, a2, a3, a4, a5, _⟩
  · exact k0 a1 a2 a3 h (r.mono ((Le.right d).trans le))
  · exact k1 b cap post a1 a3 a4 a5 h ⟨h1, h2, d, le, ⟨e, a2⟩, r⟩
theorem row_cap {size b n cap : Nat} {cs post : List Value} (h1 : cs.length = n * size) (h2 : post.length = (cap - n) * size) (h3 : n ≤ cap) (h : PH) (a : cl b (cs ++ post) h) :
    Row size (.slice (some ⟨b, 0, none⟩) n cap) n cs h := let ⟨e, hb⟩ := a; .inr ⟨b, cap, post, e, rfl, hb, h1, h2, h3, trivial⟩
theorem Pick.rowCap {size b n cap : Nat} {cs post : List Value} (p : Pick l (cl b (cs ++ post)) R) (h1 : cs.length = n * size) (h2 : post.length = (cap - n) * size) (h3 : n ≤ cap) :
    Pick l (Row size (.slice (some ⟨b, 0, none⟩) n cap) n cs) R := fun h s => by
  obtain ⟨h1', h2', d, le, a, r⟩ := p h s
  exact ⟨h1', h2', d, le, row_cap h1 h2 h3 _ a, r⟩
theorem HasR.sub {b off n cap size : Nat} {cells : List Value} (x : Has l b cells) (h1 : off + n * size ≤ cells.length) (h2 : n ≤ cap) :
    HasR l size (.slice (some ⟨b, off, none⟩) n cap) n ((cells.drop off).take (n * size)) := fun h s => by
  obtain ⟨t, e, fz, hb⟩ := x h s
  refine .inr ⟨b, off, cap, cells.take off, cells.drop (off + n * size), t, e, fz, rfl, ?_, by rw [List.length_take]; omega, by rw [List.length_take, List.length_drop]; omega, h2⟩
  rw [hb, List.append_assoc]
  have : (cells.drop off).take (n * size) ++ cells.drop (off + n * size) = cells.drop off := by
    rw [← List.drop_drop, List.take_append_drop]
  rw [this, List.take_append_drop]
theorem take_one {size n m : Nat} {new : List Value} (h : new.length = n * size) (hk : m ≤ n) : (new.take (m * size)).length = m * size := by
  rw [List.length_take, h]; exact Nat.min_eq_left (Nat.mul_le_mul_right _ hk)
theorem News.firstK {size : Nat} {v : Value} {n k : Nat} {cs : List Value} (x : News l size v n cs) (hk : k ≤ n) {h : PH} (s : Star l h) {K : Array Value → Asn} (q : K (cs.take (k * size)).toArray h) :
    Runs P (Builtin.firstCells size k v) K h := by
  cases x with
  | row x =>
    rcases x h s with ⟨z0, rfl, rfl⟩ | ⟨b, off, cap, pre, post, t, e, fz, rfl, hb, h3, h4, h5⟩
    · obtain rfl : k = 0 := by omega
      exact first_zero z0 (by simpa using q)
    · have hl : k * size ≤ cs.length := by rw [h4]; exact Nat.mul_le_mul_right _ hk
      refine loadCells_runs hb (by simp; omega) ?_
      have : ((pre ++ cs ++ post).drop off).take (k * size) = cs.take (k * size) := by
        subst h3
        rw [List.append_assoc, List.drop_left, List.take_append_of_le_length hl]
      show K (((pre ++ cs ++ post).drop off).take (k * size)).toArray h
      rw [this]; exact q
  | cl x hl =>
    obtain ⟨t, e, fz, hb⟩ := x h s
    have hl : k * size ≤ cs.length := by rw [hl]; exact Nat.mul_le_mul_right _ hk
    refine loadCells_runs hb (by simp; omega) ?_
    show K ((cs.drop 0).take (k * size)).toArray h
    exact q
  | str hs =>
    rename_i s'
    refine Runs.pure ?_
    have e : ((s'.extract 0 k).data.map fun b => (Value.int .u8 b.toNat)) = ((s'.data.toList.map fun c => Value.int .u8 c.toNat).take (k * size)).toArray := by
      subst hs
      apply Array.ext'
      rw [← List.map_take]
      simp [ByteArray.data_extract]
    rw [e]; exact q
theorem cl_none {b : Nat} {cs : List Value} {k1 k2 : PH} {e : TypeId} (d : Dj k1 k2) (hk : k1 b = some (true, .cells cs.toArray e (0, 0))) : k2 b = none := by
  cases hh : k2 b with
  | none => rfl
  | some y => have := (d b _ _ hk hh).2; cases this
theorem cl_put {b : Nat} {cs cs' : List Value} {h : PH} {e : TypeId} (s : Star (cl b cs :: R) h) (hb : h b = some (true, .cells cs.toArray e (0, 0))) :
    Star (cl b cs' :: R) (put h b (true, .cells cs'.toArray e (0, 0))) := by
  obtain ⟨k1, k2, d, le, ⟨e', hk⟩, r⟩ := s
  have := le b _ (un_some_left hk)
  rw [hb] at this; cases this
  exact ⟨put emp b (true, .cells cs'.toArray e (0, 0)), k2, (single_dj.2 (cl_none d hk)).symm, put_le (.inr trivial) (fun c y _ e => le c y (Le.right d c y e)), ⟨e, put_same _ _ _⟩, r⟩
theorem app_in {T T2 ty e : TypeId} {d : TypeDesc} {x : Value} {size b off n m cap by_ : Nat} {cells new : List Value} {z : Value}
    (p : Pick l (cl b cells) R) (hT : P.underlying T = some (.slice e)) (h2 : P.underlying T2 = some d) (hd : isIntD d = false)
    (hi : ∃ i, P.info? e = some i ∧ i.size = size ∧ i.bytes = by_ ∧ i.zero = some z) (nw : News l size x m new) (ho : new.all one = true)
    (hfit : n + m ≤ cap) (hle : off + (n + m) * size ≤ cells.length)
    (q : Ent (cl b (wrCells cells (off + n * size) new) :: R) (K (.slice (some ⟨b, off, none⟩) (n + m) cap))) :
    Ent l (Runs P (Builtin.append_ #[T, T2] ty #[.slice (some ⟨b, off, none⟩) n cap, x]) K) := by
  intro h st
  obtain ⟨i, hi, hsz, hby, hzz⟩ := hi
  have hlen := nw.len (P := P) st
  have st' := p h st
  obtain ⟨k1, k2, dj, le, ⟨e', hk⟩, r⟩ := p h st
  have hbh : h b = some (true, .cells cells.toArray e' (0, 0)) := le b _ (un_some_left hk)
  have e0 : (#[T, T2] : Array TypeId)[0]? = some T := rfl
  have e1 : (#[T, T2] : Array TypeId)[1]? = some T2 := rfl
  have e2 : (#[.slice (some ⟨b, off, none⟩) n cap, x] : Array Value)[0]? = some (.slice (some ⟨b, off, none⟩) n cap) := rfl
  have e3 : (#[.slice (some ⟨b, off, none⟩) n cap, x] : Array Value)[1]? = some x := rfl
  unfold Builtin.append_
  rw [e0, e1, e2, e3]
  clear e0 e1 e2 e3
  dsimp only
  refine Runs.bind (Runs.underlying hT ?_)
  dsimp only
  refine Runs.bind (Runs.sizeOf hi ?_)
  refine Runs.bind (Runs.underlying h2 ?_)
  refine Runs.bind (Runs.pure ?_)
  have hm : Builtin.append_.match_1 (fun _ => Bool) d (fun _ => true) (fun _ => false) = false := by
    cases d <;> first | rfl | (simp [isIntD] at hd)
  simp only [hm, Bool.false_eq_true, if_false, Bool.not_false, if_true, false_or]
  refine Runs.bind (Runs.val m (fun w _ => hlen.1 w) ?_)
  rw [if_pos hfit, hsz]
  refine Runs.bind (nw.first st ?_)
  rw [add_off]
  rw [Nat.add_mul] at hle
  refine Runs.bind (storeCells_runs (off := off + n * size) _ 0 _ h hbh (by have := hlen.2; simp; omega) (by simpa using ho) ?_)
  exact Runs.pure (q _ (cl_put st' hbh))
theorem app_zero {T T2 ty e : TypeId} {k : IntKind} {base : Option Addr} {size n cap by_ : Nat} {cs : List Value} {z : Value} {m : Int}
    (x : HasR l size (.slice base n cap) n cs) (hT : P.underlying T = some (.slice e)) (h2 : P.underlying T2 = some (.int k))
    (hi : ∃ i, P.info? e = some i ∧ i.size = size ∧ i.bytes = by_ ∧ i.zero = some z) (hz : z.cells.size = size) (hm0 : 0 ≤ m) (hm1 : m ≤ 9223372036854775807) (hc : cap < n + m.toNat)
    (hpos : by_ ≠ 0) (hb : (2 * (n + m.toNat) + 192) * by_ ≤ 281474976710656)
    (q : ∀ v, Ent (Row size v (n + m.toNat) (cs ++ rep z.cells.toList m.toNat) :: l) (K v)) :
    Ent l (Runs P (Builtin.append_ #[T, T2] ty #[.slice base n cap, .int .i64 m]) K) := by
  intro h st
  obtain ⟨i, hi, hsz, hby, hzz⟩ := hi
  have hcs := (x.len st).2
  have e0 : (#[T, T2] : Array TypeId)[0]? = some T := rfl
  have e1 : (#[T, T2] : Array TypeId)[1]? = some T2 := rfl
  have e2 : (#[.slice base n cap, .int .i64 m] : Array Value)[0]? = some (.slice base n cap) := rfl
  have e3 : (#[.slice base n cap, .int .i64 m] : Array Value)[1]? = some (.int .i64 m) := rfl
  unfold Builtin.append_
  rw [e0, e1, e2, e3]
  clear e0 e1 e2 e3
  dsimp only
  refine Runs.bind (Runs.underlying hT ?_)
  dsimp only
  refine Runs.bind (Runs.sizeOf hi ?_)
  refine Runs.bind (Runs.underlying h2 ?_)
  refine Runs.bind (Runs.pure ?_)
  have hm : Builtin.append_.match_1 (fun _ => Bool) (.int k) (fun _ => true) (fun _ => false) = true := rfl
  simp only [hm, Bool.false_eq_true, if_false, Bool.not_true, if_true, true_or, and_true]
  have hw : IntKind.i64.wrap m = m := IntWalk.i64_in _ ⟨by omega, hm1⟩
  refine Runs.bind (Runs.val m (fun w _ => rfl) ?_)
  rw [hw]
  rw [if_neg (by omega)]
  refine Runs.bind (Runs.typeInfo hi ?_)
  have hsm : (n + m.toNat) * by_ ≤ 281474976710656 := Nat.le_trans (Nat.mul_le_mul_right _ (by omega)) hb
  have hmb : m.toNat * by_ ≤ 281474976710656 := Nat.le_trans (Nat.mul_le_mul_right _ (by omega)) hsm
  have hmt : ((m.toNat : Nat) : Int) = m := Int.toNat_of_nonneg hm0
  rw [if_neg (by rw [hby]; have : (m * (by_ : Int)) = ((m.toNat * by_ : Nat) : Int) := by { rw [Int.natCast_mul, hmt] }; rw [this]; omega)]
  refine Runs.bind (Runs.pure ?_)
  rw [if_neg (show ¬ n + m.toNat ≤ cap by omega)]
  refine Runs.bind (Runs.typeInfo hi ?_)
  have hn1 : (n + m.toNat) * 1 ≤ (n + m.toNat) * by_ := Nat.mul_le_mul_left _ (by omega)
  have hmax : IntKind.i64.max = 9223372036854775807 := rfl
  rw [if_neg (show ¬ (((n + m.toNat : Nat) : Int) > IntKind.i64.max) by rw [hmax]; omega)]
  refine Runs.bind (Runs.typeInfo hi ?_)
  have hnx := next_le (need := n + m.toNat) (cap := cap) (by omega)
  rw [if_neg (by rw [hby]; have := Nat.le_trans (Nat.mul_le_mul_right by_ hnx) hb; simp only [gt_iff_lt, Nat.not_lt]; exact this)]
  refine Runs.bind (Runs.choose (fun hf => by cases hf) fun _ t => ?_)
  generalize hnc : (Question.appendCap (n + m.toNat) cap e).cut t = nc
  have hge : n + m.toNat ≤ nc := by rw [← hnc]; simp only [Question.cut]; omega
  refine Runs.bind (Runs.typeInfo hi ?_)
  refine Runs.bind ?_
  have hask : ∀ {K : Unit → Asn} {b : Nat}, K () h → Runs P (askRoom b) K h := by
    intro K b k
    unfold askRoom
    split
    · exact Runs.mark k
    · exact Runs.pure k
  refine hask ?_
  rw [hsz]
  refine Runs.bind ((News.row x).first st ?_)
  have fin : ∀ (new : Array Value), new.toList = rep z.cells.toList m.toNat →
      Runs P (do
        let rest := Builtin.zeroCells (← zeroValue e).cells (nc - (n + m.toNat))
        pure (Value.slice (some (← newRow e (cs.toArray ++ new ++ rest))) (n + m.toNat) nc)) K h := by
    intro new hnew
    refine Runs.bind (Runs.zeroValue hi hzz ?_)
    refine Runs.bind ?_
    refine Runs.bind (Runs.new fun b hb' => Runs.pure (Runs.pure ?_))
    refine q _ _ ⟨put emp b (true, .cells (cs.toArray ++ new ++ Builtin.zeroCells z.cells (nc - (n + m.toNat))) e (0, 0)), h, (single_dj.2 hb').symm, put_le (.inl hb') (fun c y _ e => e),
      .inr ⟨b, nc, (Builtin.zeroCells z.cells (nc - (n + m.toNat))).toList, e, rfl, ?_, ?_, ?_, hge, trivial⟩, st⟩
    · rw [put_same]; congr 3; apply Array.ext'; simp [hnew]
    · rw [List.length_append, hcs, rep_length, Nat.add_mul]; simp [hz]
    · rw [Array.length_toList, zeroCells_size, hz]
  by_cases h0 : m.toNat * size = 0
  · rw [if_pos h0]
    refine Runs.bind (Runs.pure (fin _ ?_))
    have : (rep z.cells.toList m.toNat).length = 0 := by rw [rep_length]; simpa [hz] using h0
    exact (List.length_eq_zero_iff.1 this).symm
  · rw [if_neg h0]
    exact Runs.bind (Runs.bind (Runs.zeroValue hi hzz (Runs.pure (fin _ (zeroCells_rep _ _)))))
theorem copy_in {T T2 ty e : TypeId} {x : Value} {size b off n m cap k : Nat} {cells new : List Value}
    (p : Pick l (cl b cells) R) (hT : P.underlying T = some (.slice e))
    (hi : ∃ i, P.info? e = some i ∧ i.size = size) (nw : News l size x m new) (ho : (new.take (k * size)).all one = true) (hk : Nat.min m n = k) (hle : off + n * size ≤ cells.length)
    (q : Ent (cl b (wrCells cells off (new.take (k * size))) :: R) (K (.int .i64 k))) :
    Ent l (Runs P (Builtin.copy_ #[T, T2] ty #[.slice (some ⟨b, off, none⟩) n cap, x]) K) := by
  intro h st
  obtain ⟨i, hi, hsz⟩ := hi
  have hlen := nw.len (P := P) st
  have st' := p h st
  obtain ⟨k1, k2, dj, le, ⟨e', hkb⟩, r⟩ := p h st
  have hbh : h b = some (true, .cells cells.toArray e' (0, 0)) := le b _ (un_some_left hkb)
  have e0 : (#[T, T2] : Array TypeId)[0]? = some T := rfl
  have e2 : (#[.slice (some ⟨b, off, none⟩) n cap, x] : Array Value)[0]? = some (.slice (some ⟨b, off, none⟩) n cap) := rfl
  have e3 : (#[.slice (some ⟨b, off, none⟩) n cap, x] : Array Value)[1]? = some x := rfl
  unfold Builtin.copy_
  rw [e0, e2, e3]
  clear e0 e2 e3
  dsimp only
  refine Runs.bind (Runs.underlying hT ?_)
  dsimp only
  refine Runs.bind (Runs.val m (fun w _ => hlen.1 w) ?_)
  refine Runs.bind (Runs.sizeOf hi ?_)
  rw [hsz, hk]
  have hkm : k ≤ m := by rw [← hk]; exact Nat.min_le_left _ _
  have hkn : k ≤ n := by rw [← hk]; exact Nat.min_le_right _ _
  refine Runs.bind (nw.firstK hkm st ?_)
  have hks : k * size ≤ n * size := Nat.mul_le_mul_right _ hkn
  refine Runs.bind (storeCells_runs (off := off) _ 0 _ h hbh (by have := take_one hlen.2 hkm; simp at this ⊢; omega) ?_ ?_)
  · exact ho
  exact Runs.pure (q _ (cl_put st' hbh))
end
end Go.Sl
set_option maxRecDepth 100000
namespace Go.Proofs.Ytndanmhgbfjinaa
open Go Go.Sl
instance : UndC Try.prog 2 (.int .i64) := ⟨Try.underlying2⟩
instance : UndC Try.prog 3 (.int .i64) := ⟨Try.underlying3⟩
instance : UndC Try.prog 4 (.bool) := ⟨Try.underlying4⟩
instance : UndC Try.prog 5 (.int .u8) := ⟨Try.underlying5⟩
instance : UndC Try.prog 6 (.int .u8) := ⟨Try.underlying6⟩
instance : UndC Try.prog 9 (.string) := ⟨Try.underlying9⟩
instance : UndC Try.prog 10 (.string) := ⟨Try.underlying10⟩
instance : UndC Try.prog 11 (.string) := ⟨Try.underlying11⟩
instance : UndC Try.prog 12 (.int .u64) := ⟨Try.underlying12⟩
instance : UndC Try.prog 15 (.pointer 128) := ⟨Try.underlying15⟩
instance : UndC Try.prog 16 (.pointer 131) := ⟨Try.underlying16⟩
instance : UndC Try.prog 17 (.pointer 138) := ⟨Try.underlying17⟩
instance : UndC Try.prog 21 (.int .i32) := ⟨Try.underlying21⟩
instance : UndC Try.prog 22 (.slice 32) := ⟨Try.underlying22⟩
instance : UndC Try.prog 24 (.pointer 65) := ⟨Try.underlying24⟩
instance : UndC Try.prog 28 (.map 32 4) := ⟨Try.underlying28⟩
instance : UndC Try.prog 32 (.int .u32) := ⟨Try.underlying32⟩
instance : UndC Try.prog 35 (.slice 5) := ⟨Try.underlying35⟩
instance : UndC Try.prog 36 (.slice 40) := ⟨Try.underlying36⟩
instance : UndC Try.prog 44 (.slice 46) := ⟨Try.underlying44⟩
instance : UndC Try.prog 50 (.slice 86) := ⟨Try.underlying50⟩
instance : UndC Try.prog 63 (.slice 66) := ⟨Try.underlying63⟩
instance : UndC Try.prog 66 (.pointer 99) := ⟨Try.underlying66⟩
instance : UndC Try.prog 75 (.slice 113) := ⟨Try.underlying75⟩
instance : UndC Try.prog 76 (.slice 3) := ⟨Try.underlying76⟩
instance : UndC Try.prog 83 (.slice 4) := ⟨Try.underlying83⟩
instance : UndC Try.prog 84 (.slice 9) := ⟨Try.underlying84⟩
instance : UndC Try.prog 96 (.pointer 62) := ⟨Try.underlying96⟩
instance : UndC Try.prog 97 (.map 3 9) := ⟨Try.underlying97⟩
instance : UndC Try.prog 101 (.pointer 103) := ⟨Try.underlying101⟩
instance : UndC Try.prog 118 (.int .u64) := ⟨Try.underlying118⟩
instance : UndC Try.prog 122 (.pointer 5) := ⟨Try.underlying122⟩
instance : UndC Try.prog 132 (.int .u8) := ⟨Try.underlying132⟩
instance : UndC Try.prog 133 (.int .u8) := ⟨Try.underlying133⟩
instance : UndC Try.prog 135 (.int .i32) := ⟨Try.underlying135⟩
instance : UndC Try.prog 136 (.int .i32) := ⟨Try.underlying136⟩
instance : InfC Try.prog 3 1 8 ((.int .i64 0)) := InfC.of (by kernel_rfl)
instance : InfC Try.prog 4 1 1 ((.bool false)) := InfC.of (by kernel_rfl)
instance : InfC Try.prog 5 1 1 ((.int .u8 0)) := InfC.of (by kernel_rfl)
instance : InfC Try.prog 9 1 16 ((.string ⟨#[]⟩)) := InfC.of (by kernel_rfl)
instance : InfC Try.prog 32 1 4 ((.int .u32 0)) := InfC.of (by kernel_rfl)
instance : InfC Try.prog 40 2 24 ((.agg #[(.int .u32 0), (.string ⟨#[]⟩)])) := InfC.of (by kernel_rfl)
instance : InfC Try.prog 46 8 64 ((.agg #[(.bool false), (.int .u32 0), (.int .i64 0), (.int .i64 0), (.int .i64 0), (.string ⟨#[]⟩), (.int .i64 0), (.int .i64 0)])) := InfC.of (by kernel_rfl)
instance : InfC Try.prog 66 1 8 ((.pointer none)) := InfC.of (by kernel_rfl)
instance : InfC Try.prog 86 4 64 ((.agg #[(.int .i64 0), (.int .i64 0), (.slice none 0 0), (.slice none 0 0)])) := InfC.of (by kernel_rfl)
instance : InfC Try.prog 113 2 24 ((.agg #[(.int .i64 0), (.string ⟨#[]⟩)])) := InfC.of (by kernel_rfl)
end Go.Proofs.Ytndanmhgbfjinaa
namespace Go.Sl
open Go
section
variable {P : Program} {l R : List Asn} {K : Value → Asn} {α : Type}
def flat (f : α → List Value) : List α → List Value
  | [] => []
  | x :: l => f x ++ flat f l
class Sized (f : α → List Value) (size : outParam Nat) : Prop where
  len : ∀ x, (f x).length = size
  ones : ∀ x, (f x).all one = true
theorem flat_append (f : α → List Value) (a b : List α) : flat f (a ++ b) = flat f a ++ flat f b := by
  induction a with
  | nil => rfl
  | cons x a ih => simp [flat, ih]
theorem flat_one (f : α → List Value) (x : α) : flat f [x] = f x := by simp [flat]
theorem flat_snoc (f : α → List Value) (a : List α) (x : α) : flat f (a ++ [x]) = flat f a ++ f x := by rw [flat_append, flat_one]
theorem flat_len (f : α → List Value) {size : Nat} [s : Sized f size] (l : List α) : (flat f l).length = l.length * size := by
  induction l with
  | nil => simp [flat]
  | cons x l ih => simp [flat, s.len, ih, Nat.succ_mul, Nat.add_comm]
theorem flat_ones (f : α → List Value) {size : Nat} [s : Sized f size] (l : List α) : (flat f l).all one = true := by
  induction l with
  | nil => rfl
  | cons x l ih => simp only [flat, List.all_append, s.ones, ih, Bool.and_self]
theorem flat_drop (f : α → List Value) {size : Nat} [s : Sized f size] (l : List α) (k : Nat) : (flat f l).drop (k * size) = flat f (l.drop k) := by
  induction l generalizing k with
  | nil => simp [flat]
  | cons x l ih =>
    cases k with
    | zero => simp
    | succ k =>
      rw [List.drop_succ_cons, ← ih k]
      show (f x ++ flat f l).drop ((k + 1) * size) = _
      have : (k + 1) * size = (f x).length + k * size := by rw [s.len, Nat.succ_mul, Nat.add_comm]
      rw [this, ← List.drop_drop, List.drop_left]
theorem flat_take (f : α → List Value) {size : Nat} [s : Sized f size] (l : List α) (k : Nat) : (flat f l).take (k * size) = flat f (l.take k) := by
  induction l generalizing k with
  | nil => simp [flat]
  | cons x l ih =>
    cases k with
    | zero => simp [flat]
    | succ k =>
      rw [List.take_succ_cons]
      show (f x ++ flat f l).take ((k + 1) * size) = f x ++ flat f (l.take k)
      have : (k + 1) * size = (f x).length + k * size := by rw [s.len, Nat.succ_mul, Nat.add_comm]
      rw [this, List.take_length_add_append, ih k]
theorem flat_at (f : α → List Value) {size : Nat} [s : Sized f size] {l : List α} {i : Nat} {x : α} (h : l[i]? = some x) :
    flat f l = flat f (l.take i) ++ f x ++ flat f (l.drop (i + 1)) := by
  have hlt := (List.getElem?_eq_some_iff.1 h).1
  have he := (List.getElem?_eq_some_iff.1 h).2
  have e : l = l.take i ++ [x] ++ l.drop (i + 1) := by
    rw [List.append_assoc]
    show l = l.take i ++ (x :: l.drop (i + 1))
    rw [← he, ← List.drop_eq_getElem_cons hlt, List.take_append_drop]
  calc flat f l = flat f (l.take i ++ [x] ++ l.drop (i + 1)) := by rw [← e]
    _ = _ := by rw [flat_append, flat_append, flat_one]
theorem rd_one {f : α → List Value} [s : Sized f 1] {l : List α} {i : Nat} {x : α} {v : Value} (h : l[i]? = some x) (hv : f x = [v]) : rdV (flat f l) (i * 1) none = some v := by
  have hlt := (List.getElem?_eq_some_iff.1 h).1
  have := rdV_mid (pre := flat f (l.take i)) (cs := f x) (post := flat f (l.drop (i + 1))) (o := 0) (m := none) (u := v) (by rw [hv]; rfl)
  rw [← flat_at f h, flat_len, List.length_take, Nat.min_eq_left (by omega)] at this
  exact this
theorem rd_agg {f : α → List Value} {size : Nat} [s : Sized f size] {l : List α} {i : Nat} {x : α} (h : l[i]? = some x) : rdV (flat f l) (i * size) (some size) = some (.agg (f x).toArray) := by
  have hlt := (List.getElem?_eq_some_iff.1 h).1
  have := rdV_mid (pre := flat f (l.take i)) (cs := f x) (post := flat f (l.drop (i + 1))) (o := 0) (m := some size) (u := .agg (f x).toArray) (by
    have hl := s.len x
    simp only [rdV, rdCells, Nat.zero_add, Nat.le_refl, hl, if_true, List.drop_zero, Option.map_some]
    rw [← hl, List.take_length])
  rw [← flat_at f h, flat_len, List.length_take, Nat.min_eq_left (by omega)] at this
  exact this
theorem rd_fld {f : α → List Value} {size : Nat} [s : Sized f size] {l : List α} {i o : Nat} {m : Option Nat} {x : α} {v : Value} (h : l[i]? = some x) (hv : rdV (f x) o m = some v) : rdV (flat f l) (i * size + o) m = some v := by
  have hlt := (List.getElem?_eq_some_iff.1 h).1
  have := rdV_mid (pre := flat f (l.take i)) (cs := f x) (post := flat f (l.drop (i + 1))) (o := o) (m := m) (u := v) hv
  rw [← flat_at f h, flat_len, List.length_take, Nat.min_eq_left (by omega)] at this
  exact this
theorem wr_mid {pre cs post new : List Value} (h : new.length = cs.length) : wrCells (pre ++ cs ++ post) pre.length new = pre ++ new ++ post := by
  rw [List.append_assoc, wrCells_end, wrCells_left (by omega), wrCells_over _ _ (by omega), h, List.drop_length, List.append_nil, List.append_assoc]
theorem wr_flat {f : α → List Value} {size : Nat} [s : Sized f size] {l : List α} {i : Nat} (h : i < l.length) (y : α) : wrCells (flat f l) (i * size) (f y) = flat f (l.set i y) := by
  have hx : l[i]? = some l[i] := List.getElem?_eq_getElem h
  have hy : (l.set i y)[i]? = some y := by simp [h]
  rw [flat_at f hx, flat_at f hy]
  have := wr_mid (pre := flat f (l.take i)) (cs := f l[i]) (post := flat f (l.drop (i + 1))) (new := f y) (by rw [s.len, s.len])
  rw [flat_len, List.length_take, Nat.min_eq_left (by omega)] at this
  rw [this, List.take_set_of_le (Nat.le_refl _), List.drop_set_of_lt (by omega)]
class NewsC (l : List Asn) (size : Nat) (x : Value) (m : outParam Nat) (new : outParam (List Value)) : Prop where news : News l size x m new
instance (priority := 900) {size : Nat} {v : Value} {n : Nat} {cs : List Value} [x : HasRC l v size n cs] : NewsC l size v n cs := ⟨.row x.has⟩
instance {s : ByteArray} : NewsC l 1 (.string s) s.size (s.data.toList.map fun c => .int .u8 c.toNat) := ⟨.str rfl⟩
theorem oApp {T T2 ty e : TypeId} {d : TypeDesc} {s x : Value} {size n m by_ : Nat} {cs new : List Value} {z : Value}
    {pt : TypeId → Prop} [p : PkRC l s size n cs R pt] [hT : UndC P T (.slice e)] [h2 : UndC P T2 d] [hi : InfC P e size by_ z] [nw : NewsC l size x m new]
    (hpt : pt e) (hd : isIntD d = false) (hz : z.cells.size = size) (ho : new.all one = true) (hpos : by_ ≠ 0) (hb : (2 * (n + m) + 192) * by_ ≤ 281474976710656)
    (q : ∀ v, Ent (RowP pt size v (n + m) (cs ++ new) :: R) (K v)) : Ent l (Runs P (Builtin.append_ #[T, T2] ty #[s, x]) K) :=
  app_row p.pick hpt hT.und h2.und hd hi.inf hz nw.news ho hpos hb q
theorem oApp1 {T T2 ty e b : TypeId} {d : TypeDesc} {s : Value} {size n k by_ : Nat} {cs new : List Value} {z : Value}
    {pt : TypeId → Prop} [p : PkRC l s size n cs R pt] [hT : UndC P T (.slice e)] [h2 : UndC P T2 d] [hi : InfC P e size by_ z] [nw : HasC l b new]
    (hpt : pt e) (hd : isIntD d = false) (hz : z.cells.size = size) (hn : new.length = k * size) (ho : new.all one = true) (hpos : by_ ≠ 0) (hb : (2 * (n + k) + 192) * by_ ≤ 281474976710656)
    (q : ∀ v, Ent (RowP pt size v (n + k) (cs ++ new) :: R) (K v)) : Ent l (Runs P (Builtin.append_ #[T, T2] ty #[s, .slice (some ⟨b, 0, none⟩) k k]) K) :=
  app_row p.pick hpt hT.und h2.und hd hi.inf hz (.cl nw.has hn) ho hpos hb q
abbrev Rw (f : α → List Value) {size : Nat} [Sized f size] (v : Value) (xs : List α) : Asn := Row size v xs.length (flat f xs)
abbrev Rr (f : α → List Value) {size : Nat} [Sized f size] (v : Value) (xs : List α) : Asn := RoRow size v xs.length (flat f xs)
theorem len_of {size n : Nat} {v : Value} {f : α → List Value} [Sized f size] {xs : List α} (x : HasR l size v n (flat f xs)) (hs : Nat.ble 1 size = true) {h : PH} (st : Star l h) : n = xs.length := by
  have hl := (x.len st).2
  rw [flat_len] at hl
  exact (Nat.eq_of_mul_eq_mul_right (Nat.le_of_ble_eq_true hs) hl).symm
theorem oAt {size : Nat} {v : Value} {n : Nat} {f : α → List Value} {xs : List α} [x : HasRC l v size n (flat f xs)] [s : Sized f size] (hs : Nat.ble 1 size = true) {k : IntKind} {i : Int} {y : α} {u : Value} {m : Option Nat}
    (h1 : 0 ≤ i) (h2 : xs[i.toNat]? = some y) (hm : rdV (f y) 0 m = some u) (q : Ent l (K u)) : Ent l (O (idxV size v (.int k i)) fun a => Ld m a K) := fun h st => by
  have hlt := (List.getElem?_eq_some_iff.1 h2).1
  have := len_of x.has hs st
  exact oIxL h1 (by omega) (by simpa using rd_fld h2 hm) q h st
theorem oAtF {size : Nat} {v : Value} {n : Nat} {f : α → List Value} {xs : List α} [x : HasRC l v size n (flat f xs)] [s : Sized f size] (hs : Nat.ble 1 size = true) {k : IntKind} {i : Int} {y : α} {u : Value} {m : Option Nat} {o : Nat}
    (h1 : 0 ≤ i) (h2 : xs[i.toNat]? = some y) (hm : rdV (f y) o m = some u) (q : Ent l (K u)) : Ent l (O (idxV size v (.int k i)) fun a => O (addV o a) fun c => Ld m c K) := fun h st => by
  have hlt := (List.getElem?_eq_some_iff.1 h2).1
  have := len_of x.has hs st
  exact oIxFL h1 (by omega) (rd_fld h2 hm) q h st
theorem oLenE {size : Nat} {v : Value} {n : Nat} {f : α → List Value} {xs : List α} [x : HasRC l v size n (flat f xs)] [s : Sized f size] (hs : Nat.ble 1 size = true) (q : Ent l (K (.int .i64 xs.length))) :
    Ent l (O (lenL v) K) := fun h st => by
  have := len_of x.has hs st
  subst this
  exact oLen (x := x) (fun _ => q) h st
theorem oPush {T T2 ty e b : TypeId} {d : TypeDesc} {s : Value} {size n by_ : Nat} {f : α → List Value} {xs : List α} {new : List Value} {z : Value}
    {pt : TypeId → Prop} [p : PkRC l s size n (flat f xs) R pt] [hS : Sized f size] [hT : UndC P T (.slice e)] [h2 : UndC P T2 d] [hi : InfC P e size by_ z] [nw : HasC l b new]
    (hs : Nat.ble 1 size = true) (hpt : pt e) (hd : isIntD d = false) (hz : z.cells.size = size) (y : α) (hn : f y = new) (hpos : by_ ≠ 0) (hb : (2 * (xs.length + 1) + 192) * by_ ≤ 281474976710656)
    (q : ∀ v, Ent (RowP pt size v (xs ++ [y]).length (flat f (xs ++ [y])) :: R) (K v)) : Ent l (Runs P (Builtin.append_ #[T, T2] ty #[s, .slice (some ⟨b, 0, none⟩) 1 1]) K) := fun h st => by
  have := len_of (HasR.row (size := size)) hs (p.pick h st)
  subst this
  refine app_row p.pick hpt hT.und h2.und hd hi.inf hz (.cl nw.has (by rw [← hn, hS.len, Nat.one_mul])) (by rw [← hn]; exact hS.ones y) hpos hb (fun v => ?_) h st
  have := q v
  rw [List.length_append, flat_snoc, hn] at this
  exact this
theorem oCat {T T2 ty e : TypeId} {d : TypeDesc} {s x : Value} {size n m by_ : Nat} {f : α → List Value} {xs ys : List α} {z : Value}
    {pt : TypeId → Prop} [p : PkRC l s size n (flat f xs) R pt] [hS : Sized f size] [hT : UndC P T (.slice e)] [h2 : UndC P T2 d] [hi : InfC P e size by_ z] [nw : HasRC l x size m (flat f ys)]
    (hs : Nat.ble 1 size = true) (hpt : pt e) (hd : isIntD d = false) (hz : z.cells.size = size) (hpos : by_ ≠ 0) (hb : (2 * (xs.length + ys.length) + 192) * by_ ≤ 281474976710656)
    (q : ∀ v, Ent (RowP pt size v (xs ++ ys).length (flat f (xs ++ ys)) :: R) (K v)) : Ent l (Runs P (Builtin.append_ #[T, T2] ty #[s, x]) K) := fun h st => by
  have e1 := len_of (HasR.row (size := size)) hs (p.pick h st)
  have e2 := len_of nw.has hs st
  subst e1 e2
  refine app_row p.pick hpt hT.und h2.und hd hi.inf hz (.row nw.has) (flat_ones f ys) hpos hb (fun v => ?_) h st
  have := q v
  rw [List.length_append, flat_append] at this
  exact this
theorem oSet {size : Nat} {v : Value} {n : Nat} {f : α → List Value} {xs : List α} {pt : TypeId → Prop} [x : PkRC l v size n (flat f xs) R pt] [s : Sized f size] (hs : Nat.ble 1 size = true) {k : IntKind} {i : Int} {u : Value} (y : α)
    (h1 : 0 ≤ i) (h2 : i < xs.length) (hu : u.cells.toList = f y) (q : Ent (RowP pt size v (xs.set i.toNat y).length (flat f (xs.set i.toNat y)) :: R) (K undef)) : Ent l (O (idxV size v (.int k i)) fun a => St size a u K) := fun h st => by
  have := len_of (HasR.row (size := size)) hs (x.pick h st)
  subst this
  refine oIxS h1 h2 (by rw [← Array.length_toList, hu, s.len]) (by rw [hu]; exact s.ones y) ?_ h st
  rw [hu, wr_flat (by omega)]
  have := q
  rwa [List.length_set] at this
theorem oNil {φ : Asn} (f : α → List Value) {size : Nat} [Sized f size] (e : Ent (Rw f (.slice none 0 0) ([] : List α) :: l) φ) : Ent l φ := Ent.rowNil e
theorem Pick.row0 {b : Nat} {f : α → List Value} {size : Nat} [Sized f size] (p : Pick l (cl b []) R) : Pick l (Rw f (.slice (some ⟨b, 0, none⟩) 0 0) ([] : List α)) R := fun h s => by
  obtain ⟨h1, h2, d, le, a, r⟩ := p h s
  exact ⟨h1, h2, d, le, row_of_cl (by simp [flat]) _ a, r⟩
theorem Pick.rowN {b n : Nat} {cs : List Value} {f : α → List Value} {size : Nat} [s : Sized f size] (xs : List α) (p : Pick l (cl b cs) R) (hn : xs.length = n) (hc : cs = flat f xs) : Pick l (Rw f (.slice (some ⟨b, 0, none⟩) n n) xs) R := fun h s => by
  obtain ⟨h1, h2, d, le, a, r⟩ := p h s
  subst hn hc
  exact ⟨h1, h2, d, le, row_of_cl (flat_len f xs) _ a, r⟩
theorem ro_cut {size : Nat} {v : Value} {n : Nat} {f : α → List Value} [Sized f size] {xs : List α} {h : PH} (hn : n = xs.length) (a : RoRow size v n (flat f xs) h) {lo hi : Nat} (h1 : lo ≤ hi) (h2 : hi ≤ n) (lo' hi' : Option Value)
    (hlo : (match lo' with | some x => bndV x hi | none => some 0) = some lo) (hhi : ∀ c, n ≤ c → (match hi' with | some x => bndV x c | none => some n) = some hi) :
    ∃ u, slcV size v lo' hi' none = some u ∧ Rr f u ((xs.take hi).drop lo) h := by
  subst hn
  have hlen : ((xs.take hi).drop lo).length = hi - lo := by rw [List.length_drop, List.length_take]; omega
  rcases a with ⟨⟨base0, cap0, rfl, hz0⟩, e2, e3⟩ | ⟨b, off, cap, pre, post, e, fz, rfl, hb, h3, h4, h5⟩
  · have h20 : hi = 0 := by omega
    have h10 : lo = 0 := by omega
    subst h20 h10
    refine ⟨.slice (if cap0 = 0 then base0 else base0.map (addA · (0 * size))) 0 cap0, ?_, .inl ⟨⟨_, _, rfl, fun hn => Classical.byContradiction fun hc => hc (hz0 (by rw [if_neg hc] at hn; cases base0 <;> simp_all))⟩, by simp, by simp [flat]⟩⟩
    have := hhi cap0 (by omega)
    simp only [slcV, Option.bind_some]
    cases hi' <;> cases lo' <;> dsimp only at hlo this ⊢ <;> first | rw [this, Option.bind_some] | skip
    all_goals first | rw [Option.bind_some] | skip
    all_goals first | rw [hlo, Option.bind_some] | skip
    all_goals first | rfl | (rw [e2] at *; rfl)
  · have := hhi cap h5
    have e1 : slcV size (.slice (some ⟨b, off, none⟩) xs.length cap) lo' hi' none = some (.slice (if cap = lo then some ⟨b, off, none⟩ else some ⟨b, off + lo * size, none⟩) (hi - lo) (cap - lo)) := by
      simp only [slcV, Option.bind_some]
      cases hi' <;> cases lo' <;> dsimp only at hlo this ⊢ <;> first | rw [this, Option.bind_some] | skip
      all_goals first | (rw [hlo, Option.bind_some]; rfl) | (cases hlo; rfl)
    refine ⟨_, e1, ?_⟩
    by_cases hc : cap = lo
    · rw [if_pos hc]
      have : hi - lo = 0 := by omega
      refine .inr ⟨b, off, cap - lo, pre, flat f xs ++ post, e, fz, ?_, ?_, h3, ?_, ?_⟩
      · rw [hlen]
      · rw [List.length_eq_zero_iff.1 (hlen.trans this)]; simpa [flat, List.append_assoc] using hb
      · rw [flat_len]
      · rw [hlen]; omega
    · rw [if_neg hc]
      have e2 : flat f xs = flat f (xs.take lo) ++ flat f ((xs.take hi).drop lo) ++ flat f (xs.drop hi) := by
        rw [← flat_append, ← flat_append]
        congr 1
        have : xs.take lo = (xs.take hi).take lo := by rw [List.take_take, Nat.min_eq_left h1]
        rw [this, List.take_append_drop, List.take_append_drop]
      refine .inr ⟨b, off + lo * size, cap - lo, pre ++ flat f (xs.take lo), flat f (xs.drop hi) ++ post, e, fz, ?_, ?_, ?_, flat_len _ _, ?_⟩
      · rw [hlen]
      · rw [hb, e2]; simp only [List.append_assoc]
      · rw [List.length_append, h3, flat_len, List.length_take, Nat.min_eq_left (by omega)]
      · rw [hlen]; omega
theorem oSl {φ : Asn} (v : Value) {size n : Nat} {cs : List Value} [x : HasRC l v size n cs] (k : ∀ base cap, v = .slice base n cap → Ent l φ) : Ent l φ := fun h st => by
  rcases x.has h st with ⟨⟨base0, cap0, e, _⟩, e2, _⟩ | ⟨b, off, cap, _, _, _, _, _, e, _⟩
  · exact k base0 cap0 (e2 ▸ e) h st
  · exact k _ _ e h st
theorem oLk1 {t kt et b by_ : Nat} {k kk : IntKind} {m : List (Int × Value)} {a : Int} {z : Value} [ht : UndC P t (.map kt et)] [hk : UndC P kt (.int kk)] [hi : InfC P et 1 by_ z] [hm : HasMC l b k m]
    (q : Ent l (K ((alook m a).getD z))) : Ent l (Rd P (Instr.lookup t (.map (some b)) (.int k a) false) K) := by
  obtain ⟨i, h1, _, _, h2⟩ := hi.inf
  exact ent_lookM ht.und hk.und h1 h2 hm.has false q
theorem oLk2 {t kt et b by_ : Nat} {k kk : IntKind} {m : List (Int × Value)} {a : Int} {z : Value} [ht : UndC P t (.map kt et)] [hk : UndC P kt (.int kk)] [hi : InfC P et 1 by_ z] [hm : HasMC l b k m]
    (q : Ent l (K (.tuple #[(alook m a).getD z, .bool (alook m a).isSome]))) : Ent l (Rd P (Instr.lookup t (.map (some b)) (.int k a) true) K) := by
  obtain ⟨i, h1, _, _, h2⟩ := hi.inf
  exact ent_lookM ht.und hk.und h1 h2 hm.has true q
theorem oLnM {t kt et ty b : Nat} {k : IntKind} {m : List (Int × Value)} [ht : UndC P t (.map kt et)] [hm : HasMC l b k m] (q : Ent l (K (.int .i64 m.length))) :
    Ent l (Rd P (Builtin.len_ #[t] ty #[.map (some b)]) K) := ent_lenM ht.und hm.has q
theorem oUpM {t kt et b : Nat} {k kk : IntKind} {m : List (Int × Value)} {a : Int} {x : Value} {K : Unit → Asn} [ht : UndC P t (.map kt et)] [hk : UndC P kt (.int kk)] [p : PkMC l b k m R]
    (q : Ent (mpI b k (aput m a x) :: R) (K ())) : Ent l (Runs P (Instr.mapUpdate t (.map (some b)) (.int k a) x) K) := ent_updM ht.und hk.und p.pick q
theorem oJ {X : Type} {f : (List Value → Asn) → Asn} {g : List Value → (Nat → Value) → Asn} (vals : X → List Value) (φ : X → Prop)
    (k1 : Ent l (f fun xs h => ∃ x, xs = vals x ∧ φ x ∧ Star l h)) (k2 : ∀ x, φ x → ∀ j, Ent l (g (vals x) j)) : Ent l (VJ f g) := ent_VJ vals φ (fun _ => l) k1 k2
theorem oJ0 {X : Type} {vals : X → List Value} {φ : X → Prop} {xs : List Value} (x : X) (e : xs = vals x) (hφ : φ x) : Ent l (fun h => ∃ x, xs = vals x ∧ φ x ∧ Star l h) := fun _ s => ⟨x, e, hφ, s⟩
end
end Go.Sl
namespace Go.Cd
open Go Go.Sl
structure AF where
  time : Int
  first : Int
  parts : List (Option ByteArray)
def haveN : List (Option ByteArray) → Nat
  | [] => 0
  | none :: l => haveN l
  | some _ :: l => haveN l + 1
def bytesN : List (Option ByteArray) → Nat
  | [] => 0
  | none :: l => bytesN l
  | some s :: l => s.size + bytesN l
def catP : List (Option ByteArray) → ByteArray
  | [] => ⟨#[]⟩
  | none :: l => catP l
  | some s :: l => s ++ catP l
def pat (ps : List (Option ByteArray)) (i : Int) : Option ByteArray := if 0 ≤ i then (ps[i.toNat]?).join else none
def AF.whole (F : AF) : Bool := decide (haveN F.parts = F.parts.length)
def AF.data (F : AF) : ByteArray := if F.whole then catP F.parts else ⟨#[]⟩
def AF.new (t count now : Int) : AF := ⟨t, now, List.replicate (max 1 (min count 255)).toNat none⟩
def AF.put (F : AF) (i count : Int) (s : ByteArray) : AF × Int :=
  if count ≠ F.parts.length ∨ i < 0 ∨ i ≥ F.parts.length then (F, 4)
  else if (pat F.parts i).isSome then (F, 3)
  else
    let G : AF := ⟨F.time, F.first, F.parts.set i.toNat (some s)⟩
    (G, if G.whole then 2 else 1)
theorem haveN_le (ps : List (Option ByteArray)) : haveN ps ≤ ps.length := by
  induction ps with
  | nil => exact Nat.le_refl _
  | cons p ps ih => cases p <;> simp [haveN] <;> omega
theorem haveN_replicate (n : Nat) : haveN (List.replicate n none) = 0 := by
  induction n with
  | zero => rfl
  | succ n ih => simp [List.replicate_succ, haveN, ih]
theorem bytesN_replicate (n : Nat) : bytesN (List.replicate n none) = 0 := by
  induction n with
  | zero => rfl
  | succ n ih => simp [List.replicate_succ, bytesN, ih]
theorem haveN_set {ps : List (Option ByteArray)} {i : Nat} (h : ps[i]? = some none) (s : ByteArray) : haveN (ps.set i (some s)) = haveN ps + 1 := by
  induction ps generalizing i with
  | nil => simp at h
  | cons p ps ih =>
    cases i with
    | zero => simp at h; subst h; rfl
    | succ i =>
      simp only [List.getElem?_cons_succ] at h
      cases p <;> simp [haveN, ih h]
theorem bytesN_set {ps : List (Option ByteArray)} {i : Nat} (h : ps[i]? = some none) (s : ByteArray) : bytesN (ps.set i (some s)) = bytesN ps + s.size := by
  induction ps generalizing i with
  | nil => simp at h
  | cons p ps ih =>
    cases i with
    | zero => simp at h; subst h; simp [bytesN, Nat.add_comm]
    | succ i =>
      simp only [List.getElem?_cons_succ] at h
      cases p <;> simp [bytesN, ih h]; omega
theorem pat_replicate (n : Nat) (i : Int) : pat (List.replicate n none) i = none := by
  unfold pat
  split
  · rw [List.getElem?_replicate]; split <;> rfl
  · rfl
theorem pat_set {ps : List (Option ByteArray)} {i j : Int} (h0 : 0 ≤ i) (h1 : i < ps.length) (s : ByteArray) : pat (ps.set i.toNat (some s)) j = if i = j then some s else pat ps j := by
  unfold pat
  by_cases hj : 0 ≤ j
  · rw [if_pos hj, if_pos hj, List.getElem?_set]
    by_cases e : i = j
    · subst e
      rw [if_pos rfl, if_pos rfl, if_pos (by omega)]; rfl
    · rw [if_neg e, if_neg (by omega)]
  · rw [if_neg hj, if_neg hj, if_neg (by omega)]
theorem pat_none {ps : List (Option ByteArray)} {i : Int} (h0 : 0 ≤ i) (h1 : i < ps.length) (h : (pat ps i).isSome = false) : ps[i.toNat]? = some none := by
  unfold pat at h
  rw [if_pos h0] at h
  have hl : i.toNat < ps.length := by omega
  rw [List.getElem?_eq_getElem hl] at h ⊢
  cases hp : ps[i.toNat] with
  | none => rfl
  | some s => simp [hp] at h
theorem whole_pat {ps : List (Option ByteArray)} (h : haveN ps = ps.length) {i : Nat} (hi : i < ps.length) : ∃ s, ps[i]? = some (some s) := by
  induction ps generalizing i with
  | nil => simp at hi
  | cons p ps ih =>
    have := haveN_le ps
    cases p with
    | none => simp [haveN] at h; omega
    | some s =>
      cases i with
      | zero => exact ⟨s, rfl⟩
      | succ i => simp [haveN] at h; simp at hi; simpa using ih h hi
theorem catP_snoc (a : List (Option ByteArray)) (s : ByteArray) : catP (a ++ [some s]) = catP a ++ s := by
  induction a with
  | nil => show s ++ ByteArray.empty = ByteArray.empty ++ s; simp
  | cons p a ih => cases p <;> simp [catP, ih, ByteArray.append_assoc]
theorem catP_size (a : List (Option ByteArray)) : (catP a).size = bytesN a := by
  induction a with
  | nil => rfl
  | cons p a ih => cases p <;> simp [catP, bytesN, ih]
theorem bytesN_append (a b : List (Option ByteArray)) : bytesN (a ++ b) = bytesN a + bytesN b := by
  induction a with
  | nil => simp [bytesN]
  | cons p a ih => cases p <;> simp [bytesN, ih]; omega
theorem bytesN_take (a : List (Option ByteArray)) (i : Nat) : bytesN (a.take i) ≤ bytesN a := by
  have := bytesN_append (a.take i) (a.drop i)
  rw [List.take_append_drop] at this; omega
theorem alook_aput (m : List (Int × Value)) (k j : Int) (v : Value) : alook (aput m k v) j = if k = j then some v else alook m j := by
  induction m with
  | nil => simp only [aput, alook]
  | cons p m ih =>
    simp only [aput]
    by_cases h : p.1 = k
    · rw [if_pos h]
      simp only [alook]
      by_cases hj : k = j
      · rw [if_pos hj, if_pos hj]
      · rw [if_neg hj, if_neg hj, if_neg (by rw [h]; exact hj)]
    · rw [if_neg h]
      simp only [alook, ih]
      by_cases hp : p.1 = j
      · rw [if_pos hp, if_pos hp]
        by_cases hj : k = j
        · exact absurd (hp.trans hj.symm) h
        · rw [if_neg hj]
      · rw [if_neg hp, if_neg hp]
theorem aput_len (m : List (Int × Value)) (k : Int) (v : Value) (h : alook m k = none) : (aput m k v).length = m.length + 1 := by
  induction m with
  | nil => rfl
  | cons p m ih =>
    simp only [alook] at h
    split at h
    · cases h
    · rename_i hp
      simp [aput, hp, ih h]
def RepM (m : List (Int × Value)) (ps : List (Option ByteArray)) : Prop := (∀ i, alook m i = (pat ps i).map .string) ∧ m.length = haveN ps
theorem RepM.nil (n : Nat) : RepM [] (List.replicate n none) := ⟨fun i => by rw [pat_replicate]; rfl, by rw [haveN_replicate]; rfl⟩
theorem RepM.put {m : List (Int × Value)} {ps : List (Option ByteArray)} (r : RepM m ps) {i : Int} (h0 : 0 ≤ i) (h1 : i < ps.length) (h : (pat ps i).isSome = false) (s : ByteArray) :
    RepM (aput m i (.string s)) (ps.set i.toNat (some s)) := by
  constructor
  · intro j
    rw [alook_aput, pat_set h0 h1, r.1 j]
    split <;> rfl
  · rw [haveN_set (pat_none h0 h1 h), aput_len, r.2]
    rw [r.1 i]; cases hp : pat ps i <;> simp_all
end Go.Cd
namespace Go.Sl
open Go
section
variable {P : Program} {l R : List Asn} {K : Value → Asn}
theorem cl_ext {f : FuncId} {fn : Func} {e : Array Value → Sem Value} {args : List Value} {h : PH} (hf : P.funcs[f]? = some fn) (hname : (fn.name == "runtime.NumGoroutine") = false) (hb : fn.body.isNone = true)
    (h1 : Extern.findNext fn = none) (h2 : Extern.find fn = some e) (r : Runs P (e args.toArray) K h) : Cl P f args K h := by
  intro hF w d s q
  obtain ⟨v, w', h', e1, k, d', s', q'⟩ := r hF w d s q
  have hrun : (callFunc f args.toArray).run P w = .ok (.value v) w' := by
    simp only [callFunc, Sem.run_bind, program, Sem.run, Result.andThen_ok, hf, hname, hb, mark, h1, h2, if_true, Bool.false_eq_true, if_false]
    simp only [Sem.run_bind, Sem.run, Result.andThen_ok, e1, Sem.run_pure]
  rw [hrun]
  exact ⟨h', k, d', s', q'⟩
theorem opR_runs {s : Sem Value} {h : PH} (r : Runs P s K h) : OpR P (do pure (Next.value (← s))) K h := by
  intro hF w d a b
  obtain ⟨v, w', h', e, k, d', a', b'⟩ := r hF w d a b
  rw [Sem.run_bind, e]
  exact ⟨h', k, d', a', b'⟩
def clT (b : Nat) (t : TypeId) (cs : List Value) : Asn := fun h => h b = some (true, .cells cs.toArray t (0, 0))
theorem Has.clT {b : Nat} {t : TypeId} {cs : List Value} : Has (clT b t cs :: R) b cs := fun h ⟨h1, _, _, le, hb, _⟩ => ⟨true, t, (0, 0), le b _ (un_some_left hb)⟩
instance (priority := 1100) {b : Nat} {t : TypeId} {cs : List Value} : HasC (clT b t cs :: R) b cs := ⟨.clT⟩
class PkTC (l : List Asn) (b : Nat) (t : outParam TypeId) (cs : outParam (List Value)) (R : outParam (List Asn)) : Prop where pick : Pick l (clT b t cs) R
instance (priority := 1100) {b : Nat} {t : TypeId} {cs : List Value} : PkTC (clT b t cs :: R) b t cs R := ⟨.here⟩
instance {A : Asn} {b : Nat} {t : TypeId} {cs : List Value} {S : List Asn} [x : PkTC R b t cs S] : PkTC (A :: R) b t cs (A :: S) := ⟨.there x.pick⟩
theorem oNT {e : TypeId} {c : List Value} {f : Nat → Value} (q : ∀ b, Ent (clT b e c :: l) (K (f b))) : Ent l (Nw e c f K) := fun h s b hb =>
  q b _ ⟨put emp b (true, .cells c.toArray e (0, 0)), h, (single_dj.2 hb).symm, put_le (.inl hb) (fun _ _ _ e => e), put_same _ _ _, s⟩
theorem oST {n b off : Nat} {t : TypeId} {cs : List Value} {v : Value} [x : PkTC l b t cs R] (h1 : v.cells.size = n) (h2 : Nat.ble (off + n) cs.length = true) (h3 : v.cells.toList.all one = true) {cs' : List Value} (h4 : wrCells cs off v.cells.toList = cs')
    (q : Ent (clT b t cs' :: R) (K undef)) : Ent l (St n (.pointer (some ⟨b, off, none⟩)) v K) := fun h s => by
  obtain ⟨k1, k2, d, le, hb, r⟩ := x.pick h s
  have hbh : h b = some (true, .cells cs.toArray t (0, 0)) := le b _ (un_some_left hb)
  subst h4
  exact ⟨b, off, cs.toArray, t, rfl, hbh, h1, by simpa using Nat.le_of_ble_eq_true h2, h3, q _ ⟨put emp b (true, .cells (wrCells cs off v.cells.toList).toArray t (0, 0)), k2, (single_dj.2 (cl_none d hb)).symm,
    put_le (.inr trivial) (fun c y _ e => le c y (Le.right d c y e)), put_same _ _ _, r⟩⟩
def HasT (l : List Asn) (b : Nat) (t : TypeId) (n : Nat) : Prop := ∀ h, Star l h → ∃ c fz tr, h b = some (tr, .cells c t fz) ∧ c.size = n
theorem HasT.pick {b : Nat} {t : TypeId} {cs : List Value} (p : Pick l (clT b t cs) R) : HasT l b t cs.length := fun h s => by
  obtain ⟨k1, k2, d, le, hb, r⟩ := p h s
  exact ⟨_, _, _, le b _ (un_some_left hb), by simp⟩
theorem viewAt_none {b : Nat} {t : Bool} {c : Array Value} {e : TypeId} {fz : Nat × Nat} {K : Option (Addr × TypeId) → Asn} {h : PH} (hb : h b = some (t, .cells c e fz)) (k : K none h) : Runs P (viewAt b) K h := by
  unfold viewAt
  refine Runs.bind (Runs.shape hb ?_)
  exact Runs.pure k
theorem seenAt_same {b off : Nat} {t : Bool} {c : Array Value} {e : TypeId} {fz : Nat × Nat} {K : Addr → Asn} {h : PH} (hb : h b = some (t, .cells c e fz)) (k : K ⟨b, off, none⟩ h) : Runs P (Conv.seenAt ⟨b, off, none⟩) K h := by
  unfold Conv.seenAt
  refine Runs.bind (viewAt_none hb ?_)
  exact Runs.pure k
theorem conv_un {T U t b off n : Nat} {e : TypeId} {i : TypeInfo} (hT : P.underlying T = some (.pointer t)) (hU : P.underlying U = some .unsafePointer) (hi : P.info? t = some i) (hs : i.size ≠ 0) (x : HasT l b e n) (hoff : off < n)
    (q : Ent l (K (.pointer (some ⟨b, off, none⟩)))) : Ent l (Runs P (convert T U (.pointer (some ⟨b, off, none⟩))) K) := fun h st => by
  obtain ⟨c, fz, tr, hb, hc⟩ := x h st
  unfold convert
  refine Runs.bind (Runs.underlying hT ?_)
  refine Runs.bind (Runs.underlying hU ?_)
  show Runs P (Conv.unsafePointer T U (.pointer (some ⟨b, off, none⟩))) K h
  unfold Conv.unsafePointer
  refine Runs.bind (Runs.underlying hT ?_)
  refine Runs.bind (Runs.underlying hU ?_)
  refine Runs.bind (seenAt_same hb ?_)
  refine Runs.bind ?_
  unfold cellsIn
  refine Runs.bind (Runs.shape hb ?_)
  refine Runs.pure ?_
  refine Runs.bind (Runs.sizeOf hi ?_)
  have h1 : (decide (i.size = 0)) = false := by simpa using hs
  have h2 : (decide (off ≥ c.size)) = false := by rw [hc]; simpa using hoff
  simp only [h1, h2, Bool.false_and, Bool.or_false, Bool.false_eq_true, if_false]
  exact Runs.pure (q h st)
theorem conv_ptr {T U u b off n : Nat} {e : TypeId} {i : TypeInfo} (hT : P.underlying T = some .unsafePointer) (hU : P.underlying U = some (.pointer u)) (hi : P.info? u = some i) (x : HasT l b e n)
    (hl : liesAt P P.depth e (n / P.cellsOf e) off u 1 = true) (q : Ent l (K (.pointer (some ⟨b, off, none⟩)))) : Ent l (Runs P (convert T U (.pointer (some ⟨b, off, none⟩))) K) := fun h st => by
  obtain ⟨c, fz, tr, hb, hc⟩ := x h st
  unfold convert
  refine Runs.bind (Runs.underlying hT ?_)
  refine Runs.bind (Runs.underlying hU ?_)
  show Runs P (Conv.unsafePointer T U (.pointer (some ⟨b, off, none⟩))) K h
  unfold Conv.unsafePointer
  refine Runs.bind (Runs.underlying hT ?_)
  refine Runs.bind (Runs.underlying hU ?_)
  refine Runs.bind (seenAt_same hb ?_)
  refine Runs.bind (Runs.sizeOf hi ?_)
  have hv : ∀ {K : Bool → Asn}, K true h → Runs P (variablesAt ⟨b, off, none⟩ u 1) K h := by
    intro K k
    unfold variablesAt
    refine Runs.bind (Runs.program ?_)
    refine Runs.bind (Runs.shape hb ?_)
    refine Runs.pure ?_
    show K (liesAt P P.depth e (c.size / P.cellsOf e) off u 1) h
    rw [hc, hl]; exact k
  refine Runs.bind (hv ?_)
  simp only [Bool.or_true, if_true]
  exact Runs.pure (q h st)
theorem Runs.freeze {b off n : Nat} {c : Array Value} {e : TypeId} {fz : Nat × Nat} {K : Unit → Asn} {h : PH} (hb : h b = some (true, .cells c e fz)) (k : ∀ fz, K () (put h b (true, .cells c e fz))) : Runs P (Go.freeze ⟨b, off, none⟩ n) K h := by
  intro hF w d s f
  have hw := s b _ hb
  by_cases hn : n = 0
  · refine ⟨(), w, put h b (true, .cells c e fz), ?_, k fz, Dj.put_old d hb rfl, ?_, f⟩
    · simp [Go.freeze, Sem.run, World.freeze, hn]
    · have := s.setBlock (y := (true, .cells c e fz)) hb
      intro b' x hx
      by_cases hbb : b' = b
      · subst hbb; rw [put_same] at hx; cases hx; exact hw
      · rw [put_ne _ _ hbb] at hx; exact s b' x hx
  · obtain ⟨lo, hi⟩ := fz
    have hset : w.freeze ⟨b, off, none⟩ n = { w with heap := w.heap.setIfInBounds b (.cells c e (if lo == hi then (off, off + n) else (min lo off, max hi (off + n)))) } := by
      unfold World.freeze
      rw [if_neg hn, modify_eq_set w.heap b _ _ hw]
    refine ⟨(), w.freeze ⟨b, off, none⟩ n, _, rfl, k (if lo == hi then (off, off + n) else (min lo off, max hi (off + n))), Dj.put_old d hb rfl, ?_, ?_⟩
    · rw [hset]; exact s.setBlock (y := (true, .cells c e _)) hb
    · rw [hset]; exact ⟨f.1.setOther d hb rfl, f.2⟩
def SD (v : Value) (p : Option Addr) : Prop := ∃ base n cap, v = .slice base n cap ∧ (base = none → p = none) ∧ (cap ≠ 0 → p = base)
theorem oSD {ts : Array TypeId} {ty e : TypeId} {cs : Array Bool} {v : Value} {size n : Nat} {xs : List Value} {pt : TypeId → Prop} [x : PkRC l v size n xs R pt] [ht : UndC P ty (.pointer e)] (q : ∀ p, SD v p → Ent l (K (.pointer p))) :
    Ent l (OpR P (builtin .unsafeSliceData ts ty cs #[v]) K) := fun h st => by
  have key : ∀ {K : Value → Asn}, (∀ p, SD v p → ∀ h', Le h h' → K (.pointer p) h') → Runs P (Builtin.unsafeSliceData_ ts ty #[v]) K h := by
    intro K k
    obtain ⟨k1, k2, dj, le, a, r⟩ := x.pick h st
    rcases a with ⟨rfl, _, _⟩ | ⟨b, cap, post, e', rfl, hk, _⟩
    · exact Runs.pure (k none ⟨none, 0, 0, rfl, fun _ => rfl, fun _ => rfl⟩ h (Le.refl h))
    · have hb := le b _ (un_some_left hk)
      show Runs P (if cap ≠ 0 then pure (.pointer (some ⟨b, 0, none⟩)) else _) K h
      by_cases hc : cap ≠ 0
      · rw [if_pos hc]
        exact Runs.pure (k _ ⟨_, _, _, rfl, fun h => (by cases h), fun _ => rfl⟩ h (Le.refl h))
      · rw [if_neg hc]
        refine Runs.bind (viewAt_none hb ?_)
        dsimp only [Option.isSome, Bool.false_eq_true, if_false]
        refine Runs.bind ?_
        unfold elemOf
        refine Runs.bind (Runs.underlying ht.und ?_)
        refine Runs.pure ?_
        refine Runs.bind (Runs.new fun b' hb' => Runs.pure ?_)
        exact k _ ⟨_, _, _, rfl, fun h => (by cases h), fun h => absurd h hc⟩ _ (le_put hb')
  refine opR_runs (key ?_)
  intro p hp h' le
  exact q p hp h' (st.mono le)
theorem loadBytes_runs {b : Nat} {t : Bool} {c : Array Value} {e : TypeId} {fz : Nat × Nat} {K : ByteArray → Asn} {h : PH} (hb : h b = some (t, .cells c e fz)) :
    ∀ (bs : List UInt8) (off : Nat) (acc : ByteArray), (∀ i (x : UInt8), bs[i]? = some x → c[off + i]? = some (.int .u8 x.toNat)) → K ⟨acc.data ++ bs.toArray⟩ h → Runs P (loadBytes ⟨b, off, none⟩ acc bs.length) K h := by
  intro bs
  induction bs with
  | nil => intro off acc _ k; exact Runs.pure (by simpa using k)
  | cons x bs ih =>
    intro off acc hc k
    have h0 := hc 0 x rfl
    show Runs P (loadBytes ⟨b, off, none⟩ acc (bs.length + 1)) K h
    unfold loadBytes
    refine Runs.bind (Runs.load hb rfl (by simpa using h0) ?_)
    dsimp only
    rw [add_off]
    refine ih (off + 1) _ (fun i y hy => ?_) ?_
    · have := hc (i + 1) y (by simpa using hy)
      rw [← this]; congr 1; omega
    · have : (x.toNat : Int).toNat.toUInt8 = x := by simp
      rw [this]
      have e2 : (⟨(acc.push x).data ++ bs.toArray⟩ : ByteArray) = ⟨acc.data ++ (x :: bs).toArray⟩ := by
        congr 1
        apply Array.ext'
        simp
      rw [e2]; exact k
theorem lies_row {t : TypeId} {c n d : Nat} (hd : P.depth = d + 1) (h1 : P.cellsOf t = 1) (hs : sameLayout P P.depth t t = true) (hn : n ≤ c) : liesAt P P.depth t c 0 t n = true := by
  have hr : rowAt P (sameLayout P P.depth · t) P.depth t c 0 n = true := by
    rw [hd] at hs ⊢
    unfold rowAt
    simp [h1, hs, hn]
  rw [hd] at hr ⊢
  unfold liesAt
  rw [hd, hr]; rfl
def u8 (c : UInt8) : List Value := [.int .u8 c.toNat]
instance : Sized u8 1 := ⟨fun _ => rfl, fun _ => rfl⟩
theorem flat_u8 (l : List UInt8) : flat u8 l = l.map fun c => .int .u8 c.toNat := by
  induction l with
  | nil => rfl
  | cons x l ih => simp [flat, u8, ih]
theorem oUS {T T2 ty u t : TypeId} {cs : Array Bool} {v : Value} {bs : List UInt8} {p : Option Addr} {n : Nat} [x : PkRC l v 1 n (flat u8 bs) R (· = t)] [ht : UndC P T (.pointer u)]
    (hn : bs.length = n) (hlt : n < 9223372036854775808) (sd : SD v p) (h1 : P.cellsOf t = 1) (h2 : ∀ c, n ≤ c → n ≠ 0 → liesAt P P.depth t c 0 u n = true) (q : Ent R (K (.string ⟨bs.toArray⟩))) :
    Ent l (OpR P (builtin .unsafeString #[T, T2] ty cs #[.pointer p, .int .i64 n]) K) := fun h st => by
  obtain ⟨k1, k2, d, le, a, r⟩ := x.pick h st
  have rest : Star R h := r.mono ((Le.right d).trans le)
  refine opR_runs ?_
  show Runs P (do
    let n ← asInt (.int .i64 n)
    let some pt := (#[T, T2] : Array TypeId)[0]? | stuck "unsafe.String: no argument types"
    if n < 0 then runtimePanic (.error "unsafe.String: len out of range")
    if n > IntKind.i64.max then unsupported (.unsafePointer "String: a length above the largest int")
    match p with
    | none =>
      if n = 0 then pure (.string .empty)
      else runtimePanic (.error "unsafe.String: ptr is nil and len is not zero")
    | some a =>
      if n = 0 then pure (.string .empty)
      else if ← variablesAt a (← elemOf pt) n.toNat then do
        let s ← loadBytes a .empty n.toNat
        freeze a n.toNat
        pure (.string s)
      else unsupported (.unsafePointer "String: not so many bytes at ptr")) K h
  refine Runs.bind (Runs.pure ?_)
  have e0 : (#[T, T2] : Array TypeId)[0]? = some T := rfl
  rw [e0]
  dsimp only
  rw [if_neg (by omega)]
  have hmax : IntKind.i64.max = 9223372036854775807 := rfl
  rw [if_neg (by rw [hmax]; omega)]
  by_cases hz : n = 0
  · have hbs : bs = [] := List.length_eq_zero_iff.1 (hn.trans hz)
    subst hbs
    subst hz
    cases p with
    | none => exact Runs.pure (q h rest)
    | some a => exact Runs.pure (q h rest)
  · obtain ⟨base, n', cap, rfl, s1, s2⟩ := sd
    rcases a with ⟨_, a2, _⟩ | ⟨b, cap', post, e, ha, hk, a3, a4, a5, rfl⟩
    · exact absurd a2 hz
    · cases ha
      have hbh := le b _ (un_some_left hk)
      have hp := s2 (by omega)
      subst hp
      dsimp only
      rw [if_neg (by omega)]
      unfold elemOf
      refine Runs.bind ?_
      refine Runs.bind (Runs.underlying ht.und ?_)
      refine Runs.pure ?_
      refine Runs.bind ?_
      unfold variablesAt
      refine Runs.bind (Runs.program ?_)
      refine Runs.bind (Runs.shape hbh ?_)
      refine Runs.pure ?_
      have hl : liesAt P P.depth e ((flat u8 bs ++ post).toArray.size / P.cellsOf e) 0 u (n : Int).toNat = true := by
        rw [h1, Nat.div_one]
        refine h2 _ ?_ hz
        simp [flat_len]; omega
      rw [hl, if_pos rfl]
      have hnt : (n : Int).toNat = bs.length := by rw [hn]; rfl
      rw [hnt]
      refine Runs.bind (loadBytes_runs hbh bs 0 .empty (fun i y hy => ?_) ?_)
      · have hlt := (List.getElem?_eq_some_iff.1 hy).1
        rw [Nat.zero_add]
        have : ((flat u8 bs ++ post).toArray)[i]? = (flat u8 bs ++ post)[i]? := by simp
        rw [this, List.getElem?_append_left (by rw [flat_len]; omega), flat_u8, List.getElem?_map, hy]; rfl
      refine Runs.bind (Runs.freeze hbh fun fz => ?_)
      refine Runs.pure ?_
      have e2 : (⟨ByteArray.empty.data ++ bs.toArray⟩ : ByteArray) = ⟨bs.toArray⟩ := by
        congr 1
        exact Array.empty_append
      rw [e2]
      refine q _ (r.mono ?_)
      intro c y hc
      have hcb : c ≠ b := fun e => by
        subst e
        have := cl_none d hk
        rw [this] at hc; cases hc
      rw [put_ne _ _ hcb]
      exact le c y (Le.right d c y hc)
def isIfD : TypeDesc → Bool
  | .interface _ => true
  | _ => false
theorem oMkI {t : TypeId} {d : TypeDesc} {x : Value} [ht : UndC P t d] (hd : isIfD d = false) (q : Ent l (K (.iface t x))) : Ent l (Runs P (Instr.makeInterface t x) K) := fun h st => by
  unfold Instr.makeInterface
  refine Runs.bind (Runs.underlying ht.und ?_)
  cases d <;> first | exact Runs.pure (q h st) | (cases hd; done)
theorem oTA {t u : TypeId} {d : TypeDesc} {v : Value} [ht : UndC P t d] (hd : isIfD d = false) (q : Ent l (K v)) : Ent l (Runs P (Instr.typeAssert (.iface t v) u t false) K) := fun h st => by
  unfold Instr.typeAssert
  refine Runs.bind (Runs.underlying ht.und ?_)
  have fin : Runs P (if t = t then pure (if false then .tuple #[v, .bool true] else v) else runtimePanic (.typeAssertion (some u) (some t) t "")) K h := by
    rw [if_pos rfl]; exact Runs.pure (q h st)
  cases d <;> first | (cases hd; done) | exact Runs.val v (fun w _ => by simp [Sem.run_pure]) (q h st)
theorem cl_mclone {f : FuncId} {fn : Func} {t : TypeId} {b : Nat} {k : IntKind} {m : List (Int × Value)} (hf : P.funcs[f]? = some fn) (hname : (fn.name == "runtime.NumGoroutine") = false) (hb : fn.body.isNone = true)
    (h1 : Extern.findNext fn = none) (h2 : Extern.find fn = some Extern.MapsClone.clone) (x : HasM l b k m) (q : ∀ nb, Ent (mpI nb k m :: l) (K (.iface t (.map (some nb))))) :
    Ent l (Cl P f [.iface t (.map (some b))] K) := fun h st => by
  refine cl_ext hf hname hb h1 h2 ?_
  obtain ⟨es, c, hbk, e, o⟩ := x h st
  refine Runs.bind (Runs.getObj hbk trivial ?_)
  dsimp only
  refine Runs.bind (Runs.new fun nb hnb => Runs.pure ?_)
  exact q nb _ ⟨put emp nb (true, .map es c), h, (single_dj.2 hnb).symm, put_le (.inl hnb) (fun _ _ _ e => e), ⟨es, c, put_same _ _ _, e, o⟩, st⟩
end
end Go.Sl
namespace Go.Sl
open Go
section
variable {P : Program} {l R : List Asn} {K : Value → Asn} {α : Type}
theorem take_wr {c l : List Value} {off k : Nat} (h : k ≤ off) : (wrCells c off l).take k = c.take k := by
  induction l generalizing c off with
  | nil => rfl
  | cons v l ih =>
    simp only [wrCells]
    rw [ih (by omega), List.take_set_of_le h]
theorem wr_split {c l : List Value} {off : Nat} (h : off + l.length ≤ c.length) : wrCells c off l = c.take off ++ l ++ c.drop (off + l.length) := by
  have h1 : c = c.take off ++ (c.drop off).take l.length ++ c.drop (off + l.length) := by
    rw [List.append_assoc]
    have : (c.drop off).take l.length ++ c.drop (off + l.length) = c.drop off := by rw [← List.drop_drop, List.take_append_drop]
    rw [this, List.take_append_drop]
  have h2 := wr_mid (pre := c.take off) (cs := (c.drop off).take l.length) (post := c.drop (off + l.length)) (new := l) (by rw [List.length_take, List.length_drop]; omega)
  rw [← h1, List.length_take, Nat.min_eq_left (by omega)] at h2
  exact h2
theorem row_take {size b n cap : Nat} {cells cs : List Value} (h0 : cells.take (n * size) = cs) (h1 : cells.length = cap * size) (h3 : n ≤ cap) (h : PH) (a : cl b cells h) :
    Row size (.slice (some ⟨b, 0, none⟩) n cap) n cs h := by
  have hn : n * size ≤ cap * size := Nat.mul_le_mul_right _ h3
  refine row_cap (post := cells.drop (n * size)) ?_ ?_ h3 h ?_
  · rw [← h0, List.length_take]; omega
  · rw [List.length_drop, h1, Nat.sub_mul]
  · rw [← h0, List.take_append_drop]; exact a
theorem Pick.rowTake {size b n cap : Nat} {cells cs : List Value} (p : Pick l (cl b cells) R) (h0 : cells.take (n * size) = cs) (h1 : cells.length = cap * size) (h3 : n ≤ cap) :
    Pick l (Row size (.slice (some ⟨b, 0, none⟩) n cap) n cs) R := fun h s => by
  obtain ⟨h1', h2', d, le, a, r⟩ := p h s
  exact ⟨h1', h2', d, le, row_take h0 h1 h3 _ a, r⟩
def cutO (off size l m : Nat) : Nat := if m = l then off else off + l * size
theorem cutO_zero (off size m : Nat) : cutO off size 0 m = off := by unfold cutO; split <;> simp
theorem cutO_lt {off size l m : Nat} (h : l < m) : cutO off size l m = off + l * size := by unfold cutO; rw [if_neg (by omega)]
theorem slc_blk {size b off n cap l h m : Nat} {lo hi mx : Option Value}
    (hm : (match mx with | some v => bndV v cap | none => some cap) = some m)
    (hh : (match hi with | some v => bndV v m | none => (match mx with | none => some n | some _ => none)) = some h)
    (hl : (match lo with | some v => bndV v h | none => some 0) = some l) :
    slcV size (.slice (some ⟨b, off, none⟩) n cap) lo hi mx = some (.slice (some ⟨b, cutO off size l m, none⟩) (h - l) (m - l)) := by
  have e : (if m = l then some (⟨b, off, none⟩ : Addr) else (some (⟨b, off, none⟩ : Addr)).map (addA · (l * size))) = some ⟨b, cutO off size l m, none⟩ := by
    unfold cutO
    split <;> rfl
  rw [← e]
  cases mx <;> cases hi <;> cases lo <;> simp_all [slcV]
theorem bnd_i {k : IntKind} {i : Int} {y : Nat} (h0 : 0 ≤ i) (h1 : i ≤ y) : bndV (.int k i) y = some i.toNat := by simp only [bndV]; rw [if_pos ⟨h0, h1⟩]
theorem clear_in {T ty e : TypeId} {size b off n cap by_ : Nat} {cells : List Value} {z : Value}
    (p : Pick l (cl b cells) R) (hT : P.underlying T = some (.slice e)) (hi : ∃ i, P.info? e = some i ∧ i.size = size ∧ i.bytes = by_ ∧ i.zero = some z) (hz : z.cells.size = size) (ho : z.cells.toList.all one = true)
    (hn : n ≠ 0) (hle : off + n * size ≤ cells.length)
    (q : Ent (cl b (wrCells cells off (rep z.cells.toList n)) :: R) (K (.tuple #[]))) :
    Ent l (Runs P (Builtin.clear_ #[T] ty #[.slice (some ⟨b, off, none⟩) n cap]) K) := fun h st => by
  obtain ⟨i, hi, hsz, hby, hzz⟩ := hi
  have st' := p h st
  obtain ⟨k1, k2, dj, le, ⟨e', hkb⟩, r⟩ := p h st
  have hbh : h b = some (true, .cells cells.toArray e' (0, 0)) := le b _ (un_some_left hkb)
  have e0 : (#[T] : Array TypeId)[0]? = some T := rfl
  have e2 : (#[.slice (some ⟨b, off, none⟩) n cap] : Array Value)[0]? = some (.slice (some ⟨b, off, none⟩) n cap) := rfl
  unfold Builtin.clear_
  rw [e0, e2]
  refine Runs.bind (Runs.underlying hT ?_)
  obtain ⟨n', rfl⟩ : ∃ n', n = n' + 1 := ⟨n - 1, by omega⟩
  dsimp only
  refine Runs.bind (Runs.zeroValue hi hzz ?_)
  rw [zeroCells_rep]
  refine Runs.bind (storeCells_runs (off := off) _ 0 _ h hbh ?_ ?_ ?_)
  · rw [rep_length]; simp [hz] at hle ⊢; omega
  · rw [List.all_eq_true]
    intro v hv
    rw [List.all_eq_true] at ho
    have : ∀ k, v ∈ rep z.cells.toList k → v ∈ z.cells.toList := by
      intro k
      induction k with
      | zero => intro h; simp [rep] at h
      | succ k ih => intro h; simp only [rep, List.mem_append] at h; rcases h with h | h; exact h; exact ih h
    exact ho v (this _ hv)
  · exact Runs.pure (q _ (cl_put st' hbh))
def delS (P : Program) (T : TypeId) (size : Nat) (a0 a1 a2 : Value) (K : Value → Asn) : Asn :=
  O (lenL a0) fun v1 =>
  O (slcV size a0 (some a1) (some a2) (some v1)) fun v2 =>
  O (binV .eql a1 a2) fun v3 =>
  VB v3
  (K a0)
  (O (lenL a0) fun v4 =>
  O (slcV size a0 none (some a1) none) fun v5 =>
  O (slcV size a0 (some a2) none none) fun v6 =>
  Runs P (Builtin.append_ #[T, T] T #[v5, v6]) fun v7 =>
  O (lenL v7) fun v8 =>
  O (slcV size v7 (some v8) (some v4) none) fun v9 =>
  Runs P (Builtin.clear_ #[T] 0 #[v9]) fun v10 =>
  K v7)
theorem del_ok {T e : TypeId} {size by_ : Nat} {z : Value} {f : α → List Value} [s : Sized f size] {v : Value} {xs : List α} {i j : Int}
    (hT : P.underlying T = some (.slice e)) (hi : ∃ i, P.info? e = some i ∧ i.size = size ∧ i.bytes = by_ ∧ i.zero = some z) (hz : z.cells.size = size) (ho : z.cells.toList.all one = true)
    (hs : Nat.ble 1 size = true) (h0 : 0 ≤ i) (h1 : i ≤ j) (h2 : j ≤ xs.length) (p : Pick l (Rw f v xs) R)
    (q : ∀ v, Ent (Rw f v (xs.take i.toNat ++ xs.drop j.toNat) :: R) (K v)) : Ent l (delS P T size v (.int .i64 i) (.int .i64 j) K) := by
  unfold delS
  refine Ent.row p (fun e1 e2 e3 => ?_) fun b cap post e1 e2 e3 e4 => ?_
  · have hx : xs = [] := List.length_eq_zero_iff.1 e2
    subst hx e1
    simp only [List.length_nil] at h2
    have hj : j = 0 := by omega
    have hi0 : i = 0 := by omega
    subst hj hi0
    refine ent_O rfl ?_
    refine ent_O rfl ?_
    refine ent_O rfl ?_
    refine ent_true ?_
    exact Ent.rowNil (p := fun _ => True) (q (.slice none 0 0))
  · subst e1
    have hjn : j.toNat ≤ xs.length := by omega
    refine ent_O rfl ?_
    refine ent_O (slc_blk (bnd_i (Int.natCast_nonneg _) (by omega)) (bnd_i (by omega) (by omega)) (bnd_i h0 (by omega))) ?_
    refine oEq ?_
    refine oI (fun he => ?_) fun he => ?_
    · subst he
      have hxs : xs.take i.toNat ++ xs.drop i.toNat = xs := List.take_append_drop _ _
      have := q (.slice (some ⟨b, 0, none⟩) xs.length cap)
      rw [hxs] at this
      exact Ent.perm (R := R) (.cons (Pick.rowCap P0 e2 e3 e4) .nil) this
    have hij : i < j := by omega
    refine ent_O rfl ?_
    refine ent_O (slc_blk (l := 0) (m := cap) rfl (bnd_i h0 (by omega)) rfl) ?_
    refine ent_O (slc_blk (m := cap) rfl rfl (bnd_i (by omega) h2)) ?_
    rw [cutO_zero, Nat.sub_zero, Nat.sub_zero]
    have hcell : (flat f xs ++ post).length = cap * size := by
      rw [List.length_append, e2, e3, ← Nat.add_mul]; congr 1; omega
    have hoff : cutO 0 size j.toNat cap + (xs.length - j.toNat) * size ≤ (flat f xs ++ post).length := by
      rw [hcell]
      unfold cutO
      split
      · have : xs.length - j.toNat = 0 := by omega
        rw [this]; simp
      · rw [Nat.zero_add, ← Nat.add_mul]; exact Nat.mul_le_mul_right _ (by omega)
    have hnew : ((flat f xs ++ post).drop (cutO 0 size j.toNat cap)).take ((xs.length - j.toNat) * size) = flat f (xs.drop j.toNat) := by
      unfold cutO
      split
      · have h0 : xs.length - j.toNat = 0 := by omega
        have h3 : xs.drop j.toNat = [] := List.drop_eq_nil_of_le (by omega)
        rw [h0, h3]; simp [flat]
      · rw [Nat.zero_add, List.drop_append_of_le_length (by rw [e2]; exact Nat.mul_le_mul_right _ hjn), flat_drop, List.take_append_of_le_length (by rw [flat_len, List.length_drop]; exact Nat.le_refl _)]
        have : (flat f (xs.drop j.toNat)).length = (xs.length - j.toNat) * size := by rw [flat_len, List.length_drop]
        rw [← this, List.take_length]
    refine app_in (d := .slice e) P0 hT hT rfl hi (.row (HasR.sub (cap := cap - j.toNat) Has.cl hoff (by omega))) (by rw [hnew]; exact flat_ones f _) (by omega) ?_ ?_
    · rw [hcell, Nat.zero_add]; exact Nat.mul_le_mul_right _ (by omega)
    rw [hnew, Nat.zero_add]
    refine ent_O rfl ?_
    refine ent_O (slc_blk (m := cap) (h := xs.length) (l := i.toNat + (xs.length - j.toNat)) rfl (bnd_i (Int.natCast_nonneg _) (by omega)) (bnd_i (Int.natCast_nonneg _) (by omega))) ?_
    have hl' : i.toNat + (xs.length - j.toNat) < cap := by omega
    rw [cutO_lt hl', Nat.zero_add]
    refine clear_in P0 hT hi hz ho (by omega) ?_ ?_
    · rw [wrCells_length, hcell, ← Nat.add_mul]; exact Nat.mul_le_mul_right _ (by omega)
    refine Ent.perm (R := R) (.cons (Pick.rowTake (cs := flat f (xs.take i.toNat ++ xs.drop j.toNat)) (n := i.toNat + (xs.length - j.toNat)) (cap := cap) (size := size) P0 ?_ ?_ (by omega)) .nil) ?_
    · rw [take_wr (Nat.le_refl _), wr_split, flat_append]
      · have hlen : (flat f (xs.drop j.toNat)).length = (xs.length - j.toNat) * size := by rw [flat_len, List.length_drop]
        have ht : ((flat f xs ++ post).take (i.toNat * size) ++ flat f (xs.drop j.toNat)).length = (i.toNat + (xs.length - j.toNat)) * size := by
          rw [List.length_append, hlen, List.length_take, hcell, Nat.min_eq_left (Nat.mul_le_mul_right _ (by omega)), Nat.add_mul]
        rw [← ht, List.take_left, List.take_append_of_le_length (by rw [flat_len]; exact Nat.mul_le_mul_right _ (by omega)), flat_take]
      · rw [hcell, flat_len, List.length_drop, ← Nat.add_mul]; exact Nat.mul_le_mul_right _ (by omega)
    · rw [wrCells_length, wrCells_length, hcell]
    · have := q (.slice (some ⟨b, 0, none⟩) (i.toNat + (xs.length - j.toNat)) cap)
      have hl2 : (xs.take i.toNat ++ xs.drop j.toNat).length = i.toNat + (xs.length - j.toNat) := by
        rw [List.length_append, List.length_take, List.length_drop]; omega
      unfold Rw at this
      rw [hl2] at this
      exact this
theorem has_pick {b : Nat} {cs : List Value} (p : Pick l (cl b cs) R) : Has l b cs := fun h s => by
  obtain ⟨h1, h2, d, le, ⟨e, hb⟩, r⟩ := p h s
  exact ⟨true, e, (0, 0), le b _ (un_some_left hb)⟩
theorem Runs.frozen {b off : Nat} {t : Bool} {c : Array Value} {e : TypeId} {K : Bool → Asn} {h : PH} (hb : h b = some (t, .cells c e (0, 0))) (k : K false h) : Runs P (Go.frozen ⟨b, off, none⟩) K h := by
  intro hF w d s f
  refine ⟨false, w, h, ?_, k, d, s, f⟩
  have : w.frozen? ⟨b, off, none⟩ = false := by simp [World.frozen?, s b _ hb]
  simp [Go.frozen, Sem.run, this]
theorem stringish_false {b off : Nat} {t : Bool} {c : Array Value} {e : TypeId} {K : Bool → Asn} {h : PH} (hb : h b = some (t, .cells c e (0, 0))) (k : K false h) : Runs P (stringish ⟨b, off, none⟩) K h := by
  unfold stringish
  refine Runs.bind (Runs.frozen hb ?_)
  dsimp only [Bool.false_eq_true, if_false]
  refine Runs.bind (Runs.shape hb ?_)
  exact Runs.frozen hb k
theorem cl_overlaps {f : FuncId} {fn : Func} {t e : TypeId} {i : TypeInfo} {b bv off offv n nv cap capv : Nat} {cs cv : List Value} {R' : List Asn} (hf : P.funcs[f]? = some fn) (hname : (fn.name == "runtime.NumGoroutine") = false) (hb : fn.body.isNone = true)
    (h1 : Extern.findNext fn = none) (h2 : Extern.find fn = some (Extern.SlicesOverlaps.overlaps fn.params fn.resultTypes)) (h3 : fn.params[0]? = some t) (hT : P.underlying t = some (.slice e)) (hi : P.info? e = some i)
    (p : Pick l (cl b cs) R) (pv : Pick R (cl bv cv) R') (q : Ent l (K (.bool false))) :
    Ent l (Cl P f [.slice (some ⟨bv, offv, none⟩) nv capv, .slice (some ⟨b, off, none⟩) n cap] K) := fun h st => by
  refine cl_ext hf hname hb h1 h2 ?_
  obtain ⟨k1, k2, d, le, ⟨e1, hk⟩, r⟩ := p h st
  obtain ⟨m1, m2, d', le', ⟨e2, hm⟩, r'⟩ := pv k2 r
  have hbh : h b = some (true, .cells cs.toArray e1 (0, 0)) := le b _ (un_some_left hk)
  have hv2 : k2 bv = some (true, .cells cv.toArray e2 (0, 0)) := le' bv _ (un_some_left hm)
  have hvh : h bv = some (true, .cells cv.toArray e2 (0, 0)) := le bv _ (Le.right d bv _ hv2)
  have hne : bv ≠ b := fun he => by
    subst he
    have := cl_none d hk
    rw [this] at hv2; cases hv2
  have hne' : (bv != b) = true := by simpa using hne
  have heq' : (bv == b) = false := by simpa using hne
  show Runs P (Extern.SlicesOverlaps.overlaps fn.params fn.resultTypes #[.slice (some ⟨bv, offv, none⟩) nv capv, .slice (some ⟨b, off, none⟩) n cap]) K h
  unfold Extern.SlicesOverlaps.overlaps
  dsimp only
  rw [h3]
  dsimp only
  refine Runs.bind (Runs.underlying hT ?_)
  dsimp only
  refine Runs.bind (Runs.sizeOf hi ?_)
  by_cases h0 : nv = 0 ∨ n = 0 ∨ i.size = 0
  · rw [if_pos h0]; exact Runs.pure (q h st)
  · rw [if_neg h0]
    rw [hne']
    refine Runs.bind (Runs.frozen hvh ?_)
    refine Runs.bind (Runs.frozen hbh ?_)
    rw [if_neg (by decide), if_pos rfl]
    unfold noView
    refine Runs.bind ?_
    refine Runs.bind (viewAt_none hvh ?_)
    dsimp only [Option.isSome, Bool.false_eq_true, if_false]
    refine Runs.pure ?_
    refine Runs.bind ?_
    refine Runs.bind (viewAt_none hbh ?_)
    dsimp only [Option.isSome, Bool.false_eq_true, if_false]
    refine Runs.pure ?_
    refine Runs.bind ?_
    unfold mayBeOne
    refine Runs.bind (stringish_false hvh ?_)
    refine Runs.bind (stringish_false hbh ?_)
    dsimp only
    refine Runs.bind ?_
    refine Runs.bind (Runs.shape hvh ?_)
    refine Runs.pure ?_
    refine Runs.bind ?_
    refine Runs.bind (Runs.shape hbh ?_)
    refine Runs.pure ?_
    refine Runs.pure ?_
    rw [if_neg (by simp), heq']
    exact Runs.pure (q h st)
def insS (P : Program) (T Ti : TypeId) (size : Nat) (fo fr : FuncId) (a0 a1 a2 : Value) (K : Value → Asn) : Asn :=
  O (slcV size a0 (some a1) none none) fun v1 =>
  O (lenL a2) fun v2 =>
  O (binV .eql v2 (.int .i64 0)) fun v3 =>
  VB v3
  (K a0)
  (O (lenL a0) fun v4 =>
  O (binV .eql a1 v4) fun v5 =>
  VB v5
  (Runs P (Builtin.append_ #[T, T] T #[a0, a2]) fun v6 =>
  K v6)
  (O (binV .add v4 v2) fun v7 =>
  O (capV a0) fun v8 =>
  O (binV .gtr v7 v8) fun v9 =>
  VB v9
  (O (slcV size a0 none (some a1) none) fun v10 =>
  O (binV .add v4 v2) fun v11 =>
  O (binV .sub v11 a1) fun v12 =>
  Runs P (Builtin.append_ #[T, Ti] T #[v10, v12]) fun v13 =>
  O (slcV size v13 (some a1) none none) fun v14 =>
  Runs P (Builtin.copy_ #[T, T] Ti #[v14, a2]) fun v15 =>
  O (binV .add a1 v2) fun v16 =>
  O (slcV size v13 (some v16) none none) fun v17 =>
  O (slcV size a0 (some a1) none none) fun v18 =>
  Runs P (Builtin.copy_ #[T, T] Ti #[v17, v18]) fun v19 =>
  K v13)
  (O (binV .add v4 v2) fun v20 =>
  O (slcV size a0 none (some v20) none) fun v21 =>
  O (binV .add a1 v2) fun v22 =>
  O (slcV size v21 (some v22) none none) fun v23 =>
  Cl P fo [a2, v23] fun v24 =>
  O (notV v24) fun v25 =>
  VB v25
  (O (binV .add a1 v2) fun v26 =>
  O (slcV size v21 (some v26) none none) fun v27 =>
  O (slcV size v21 (some a1) none none) fun v28 =>
  Runs P (Builtin.copy_ #[T, T] Ti #[v27, v28]) fun v29 =>
  O (slcV size v21 (some a1) none none) fun v30 =>
  Runs P (Builtin.copy_ #[T, T] Ti #[v30, a2]) fun v31 =>
  K v21)
  (O (slcV size v21 (some v4) none none) fun v32 =>
  Runs P (Builtin.copy_ #[T, T] Ti #[v32, a2]) fun v33 =>
  O (slcV size v21 (some a1) none none) fun v34 =>
  Cl P fr [v34, v2] fun v35 =>
  K v21))))
theorem ins_cells {c a y d : List Value} (h1 : c.take a.length = a) (h2 : a.length + y.length + d.length ≤ c.length) :
    (wrCells (wrCells c a.length y) (a.length + y.length) d).take (a.length + y.length + d.length) = a ++ y ++ d := by
  rw [wr_split (by rw [wrCells_length]; omega)]
  have e : (wrCells c a.length y).take (a.length + y.length) = a ++ y := by
    rw [wr_split (by omega), h1, List.take_append_of_le_length (by simp)]
    have : a.length + y.length = (a ++ y).length := by simp
    rw [this, List.take_length]
  rw [e]
  have : a.length + y.length + d.length = (a ++ y ++ d).length := by simp [Nat.add_assoc]
  rw [this, List.take_left]
theorem ins_cells2 {c a y d : List Value} (h1 : c.take a.length = a) (h2 : a.length + y.length + d.length ≤ c.length) :
    (wrCells (wrCells c (a.length + y.length) d) a.length y).take (a.length + y.length + d.length) = a ++ y ++ d := by
  rw [wr_split (by rw [wrCells_length]; omega), take_wr (by omega), h1]
  have e : (wrCells c (a.length + y.length) d).drop (a.length + y.length) = d ++ c.drop (a.length + y.length + d.length) := by
    rw [wr_split (by omega), List.append_assoc]
    have : (c.take (a.length + y.length)).length = a.length + y.length := by rw [List.length_take]; omega
    rw [List.drop_append_of_le_length (by omega), List.drop_of_length_le (by omega), List.nil_append]
  rw [e, ← List.append_assoc]
  have : a.length + y.length + d.length = (a ++ y ++ d).length := by simp [Nat.add_assoc]
  rw [this, List.take_left]
theorem Ent.skip {φ : Asn} {A : Asn} (e : Ent l φ) : Ent (A :: l) φ := fun h ⟨_, _, d, le, _, r⟩ => e h (r.mono ((Le.right d).trans le))
theorem ins_ok {T Ti e : TypeId} {size by_ : Nat} {z : Value} {f : α → List Value} [s : Sized f size] {v : Value} {xs : List α} {i : Int} {y : α} {bv : Nat} {fo fr : FuncId} {ki : IntKind} {R' : List Asn}
    (hT : P.underlying T = some (.slice e)) (hTi : P.underlying Ti = some (.int ki)) (hi : ∃ i, P.info? e = some i ∧ i.size = size ∧ i.bytes = by_ ∧ i.zero = some z) (hz : z.cells.size = size)
    (hs : Nat.ble 1 size = true) (hpos : by_ ≠ 0) (hbound : (2 * (xs.length + 1) + 192) * by_ ≤ 281474976710656) (h0 : 0 ≤ i) (h1 : i ≤ xs.length)
    (p : Pick l (Rw f v xs) R) (pv : Pick R (cl bv (f y)) R')
    (hov : ∀ {l : List Asn} {R R' : List Asn} {K : Value → Asn} {b off offv n nv cap capv : Nat} {cs cv : List Value}, Pick l (cl b cs) R → Pick R (cl bv cv) R' → Ent l (K (.bool false)) →
      Ent l (Cl P fo [.slice (some ⟨bv, offv, none⟩) nv capv, .slice (some ⟨b, off, none⟩) n cap] K))
    (q : ∀ v, Ent (Rw f v (xs.take i.toNat ++ y :: xs.drop i.toNat) :: R') (K v)) : Ent l (insS P T Ti size fo fr v (.int .i64 i) (.slice (some ⟨bv, 0, none⟩) 1 1) K) := by
  have hsz : 1 ≤ size := Nat.le_of_ble_eq_true hs
  have hbs : xs.length + 1 ≤ 281474976710656 := by
    have : (2 * (xs.length + 1) + 192) * 1 ≤ (2 * (xs.length + 1) + 192) * by_ := Nat.mul_le_mul_left _ (by omega)
    omega
  unfold insS
  refine Ent.row p (fun e1 e2 e3 => ?_) fun b cap post e1 e2 e3 e4 => ?_
  · have hx : xs = [] := List.length_eq_zero_iff.1 e2
    subst hx e1
    simp only [List.length_nil] at h1
    have hi0 : i = 0 := by omega
    subst hi0
    refine ent_O rfl ?_
    refine ent_O rfl ?_
    refine ent_O rfl ?_
    refine ent_false ?_
    refine ent_O rfl ?_
    refine ent_O rfl ?_
    refine ent_true ?_
    refine Ent.rowNil (p := fun _ => True) (size := size) ?_
    refine app_row (m := 1) (new := f y) P0 trivial hT hT rfl hi hz (.cl (Has.there (has_pick pv)) (by rw [s.len]; simp)) (s.ones y) hpos (by simpa using hbound) fun v => ?_
    have := q v
    simp only [List.take_nil, List.drop_nil, List.nil_append, Int.toNat_zero, Rw, flat, List.append_nil, List.length_cons, List.length_nil] at this
    refine Ent.perm (R := _ :: R') (.cons (Pick.there pv) .nil) (Ent.skip ?_)
    simpa using this
  · subst e1
    have hcell : (flat f xs ++ post).length = cap * size := by
      rw [List.length_append, e2, e3, ← Nat.add_mul]; congr 1; omega
    have hin : i.toNat ≤ xs.length := by omega
    refine ent_O (slc_blk (m := cap) (h := xs.length) (l := i.toNat) rfl rfl (bnd_i h0 h1)) ?_
    refine ent_O rfl ?_
    refine ent_O rfl ?_
    refine ent_false ?_
    refine ent_O rfl ?_
    refine oEq ?_
    refine oI (fun he => ?_) fun he => ?_
    · refine app_row (pt := fun _ => True) (n := xs.length) (cs := flat f xs) (m := 1) (new := f y) (R := R) (Pick.rowCap P0 e2 e3 e4) trivial hT hT rfl hi hz (.cl (Has.there (has_pick pv)) (by rw [s.len]; simp)) (s.ones y) hpos hbound fun v => ?_
      have := q v
      have hit : i.toNat = xs.length := by omega
      unfold Rw at this
      rw [hit, List.take_length, List.drop_length, flat_snoc, List.length_append] at this
      exact Ent.perm (R := _ :: R') (.cons (Pick.there pv) .nil) (Ent.skip this)
    have hlt : i.toNat < xs.length := by omega
    have ha : (flat f (xs.take i.toNat)).length = i.toNat * size := by rw [flat_len, List.length_take, Nat.min_eq_left hin]
    have hd : (flat f (xs.drop i.toNat)).length = (xs.length - i.toNat) * size := by rw [flat_len, List.length_drop]
    have hy : (f y).length = size := s.len y
    have hfin : flat f (xs.take i.toNat ++ y :: xs.drop i.toNat) = flat f (xs.take i.toNat) ++ f y ++ flat f (xs.drop i.toNat) := by
      rw [flat_append, List.append_assoc]; rfl
    have hflen : (xs.take i.toNat ++ y :: xs.drop i.toNat).length = xs.length + 1 := by
      rw [List.length_append, List.length_take, List.length_cons, List.length_drop]; omega
    have hsum : i.toNat * size + size + (xs.length - i.toNat) * size = (xs.length + 1) * size := by
      have : i.toNat * size + (xs.length - i.toNat) * size = xs.length * size := by rw [← Nat.add_mul]; congr 1; omega
      rw [Nat.succ_mul]; omega
    have hsuc : (i.toNat + 1) * size = i.toNat * size + size := Nat.succ_mul _ _
    refine oAdd (by omega) (by omega) ?_
    refine ent_O rfl ?_
    refine ent_O rfl ?_
    refine oI (fun hgt => ?_) fun hgt => ?_
    · -- there is no room
      have hc : cap = xs.length := by omega
      refine ent_O (slc_blk (l := 0) (m := cap) (h := i.toNat) rfl (bnd_i h0 (by omega)) rfl) ?_
      rw [cutO_zero, Nat.sub_zero, Nat.sub_zero]
      refine oAdd (by omega) (by omega) ?_
      refine oSub (by omega) (by omega) ?_
      have hnat : ((xs.length : Int) + (1 : Nat) - i).toNat = xs.length + 1 - i.toNat := by omega
      refine app_zero (HasR.sub (size := size) Has.cl (by rw [hcell, Nat.zero_add]; exact Nat.mul_le_mul_right _ (by omega)) (by omega)) hT hTi hi hz (by omega) (by omega) (by omega) hpos ?_ fun v13 => ?_
      · have : i.toNat + ((xs.length : Int) + (1 : Nat) - i).toNat = xs.length + 1 := by omega
        rw [this]; exact hbound
      rw [hnat]
      have hn1 : i.toNat + (xs.length + 1 - i.toNat) = xs.length + 1 := by omega
      rw [hn1]
      have hold : ((flat f xs ++ post).drop 0).take (i.toNat * size) = flat f (xs.take i.toNat) := by
        rw [List.drop_zero, List.take_append_of_le_length (by rw [e2]; exact Nat.mul_le_mul_right _ hin), flat_take]
      rw [hold]
      refine Ent.row P0 (fun _ e _ => by omega) fun b2 cap2 post2 g1 g2 g3 g4 => ?_
      subst g1
      have hcell2 : (flat f (xs.take i.toNat) ++ rep z.cells.toList (xs.length + 1 - i.toNat) ++ post2).length = cap2 * size := by
        rw [List.length_append, g2, g3, ← Nat.add_mul]; congr 1; omega
      refine ent_O (slc_blk (m := cap2) (h := xs.length + 1) (l := i.toNat) rfl rfl (bnd_i h0 (by omega))) ?_
      rw [cutO_lt (show i.toNat < cap2 by omega), Nat.zero_add]
      refine copy_in (k := 1) (m := 1) (new := f y) P0 hT (let ⟨i, a, b, _⟩ := hi; ⟨i, a, b⟩) (.cl (Has.there (Has.there (has_pick pv))) (by rw [hy, Nat.one_mul])) (by rw [Nat.one_mul, ← hy, List.take_length]; exact s.ones y) ?_ ?_ ?_
      · show min 1 _ = 1; omega
      · rw [hcell2, ← Nat.add_mul]; exact Nat.mul_le_mul_right _ (by omega)
      rw [Nat.one_mul, ← hy, List.take_length, hy]
      refine oAdd (by omega) (by omega) ?_
      have hi1 : (i + (1 : Nat)).toNat = i.toNat + 1 := by omega
      refine ent_O (slc_blk (m := cap2) (h := xs.length + 1) (l := i.toNat + 1) rfl rfl (by rw [← hi1]; exact bnd_i (by omega) (by omega))) ?_
      rw [cutO_lt (show i.toNat + 1 < cap2 by omega), Nat.zero_add, hsuc]
      refine ent_O (slc_blk (m := cap) (h := xs.length) (l := i.toNat) rfl rfl (bnd_i h0 h1)) ?_
      rw [cutO_lt (show i.toNat < cap by omega), Nat.zero_add]
      have hnew : ((flat f xs ++ post).drop (i.toNat * size)).take ((xs.length - i.toNat) * size) = flat f (xs.drop i.toNat) := by
        rw [List.drop_append_of_le_length (by rw [e2]; exact Nat.mul_le_mul_right _ hin), flat_drop, List.take_append_of_le_length (by rw [hd]; exact Nat.le_refl _), ← hd, List.take_length]
      refine copy_in (k := xs.length - i.toNat) (m := xs.length - i.toNat) P0 hT (let ⟨i, a, b, _⟩ := hi; ⟨i, a, b⟩) (.row (HasR.sub (size := size) (cells := flat f xs ++ post) (Has.there Has.cl) (by rw [hcell, ← Nat.add_mul]; exact Nat.mul_le_mul_right _ (by omega)) (by omega))) ?_ ?_ ?_ ?_
      · rw [hnew, ← hd, List.take_length]; exact flat_ones f _
      · show min _ _ = _; omega
      · rw [wrCells_length, hcell2, ← hsuc, ← Nat.add_mul]; exact Nat.mul_le_mul_right _ (by omega)
      rw [hnew, ← hd, List.take_length]
      refine Ent.perm (R := cl b (flat f xs ++ post) :: R) (.cons (Pick.rowTake (cs := flat f (xs.take i.toNat ++ y :: xs.drop i.toNat)) (n := xs.length + 1) (cap := cap2) (size := size) P0 ?_ ?_ (by omega)) .nil) ?_
      · have := ins_cells (c := flat f (xs.take i.toNat) ++ rep z.cells.toList (xs.length + 1 - i.toNat) ++ post2) (a := flat f (xs.take i.toNat)) (y := f y) (d := flat f (xs.drop i.toNat))
          (by rw [List.append_assoc, List.take_left]) (by rw [ha, hy, hd, hsum, hcell2]; exact Nat.mul_le_mul_right _ (by omega))
        rw [ha, hy, hd, hsum] at this
        rw [hfin]; exact this
      · rw [wrCells_length, wrCells_length, hcell2]
      · have := q (.slice (some ⟨b2, 0, none⟩) (xs.length + 1) cap2)
        unfold Rw at this
        rw [hflen] at this
        exact Ent.perm (R := _ :: R') (.cons (Pick.there (Pick.there pv)) (.cons (Pick.there P0) .nil)) (Ent.skip (Ent.skip this))
    · -- there is room
      have hc : xs.length < cap := by omega
      have hi1 : (i + (1 : Nat)).toNat = i.toNat + 1 := by omega
      refine oAdd (by omega) (by omega) ?_
      refine ent_O (slc_blk (l := 0) (m := cap) (h := xs.length + 1) rfl (bnd_i (by omega) (by omega)) rfl) ?_
      rw [cutO_zero, Nat.sub_zero, Nat.sub_zero]
      refine oAdd (by omega) (by omega) ?_
      refine ent_O (slc_blk (m := cap) (h := xs.length + 1) (l := i.toNat + 1) rfl rfl (by rw [← hi1]; exact bnd_i (by omega) (by omega))) ?_
      rw [cutO_lt (show i.toNat + 1 < cap by omega), Nat.zero_add, hsuc]
      refine hov P0 pv ?_
      refine ent_O rfl ?_
      refine ent_true ?_
      refine oAdd (by omega) (by omega) ?_
      refine ent_O (slc_blk (m := cap) (h := xs.length + 1) (l := i.toNat + 1) rfl rfl (by rw [← hi1]; exact bnd_i (by omega) (by omega))) ?_
      rw [cutO_lt (show i.toNat + 1 < cap by omega), Nat.zero_add, hsuc]
      refine ent_O (slc_blk (m := cap) (h := xs.length + 1) (l := i.toNat) rfl rfl (bnd_i h0 (by omega))) ?_
      rw [cutO_lt (show i.toNat < cap by omega), Nat.zero_add]
      have hnew : (((flat f xs ++ post).drop (i.toNat * size)).take ((xs.length + 1 - i.toNat) * size)).take ((xs.length - i.toNat) * size) = flat f (xs.drop i.toNat) := by
        rw [List.take_take, Nat.min_eq_left (Nat.mul_le_mul_right _ (by omega))]
        rw [List.drop_append_of_le_length (by rw [e2]; exact Nat.mul_le_mul_right _ hin), flat_drop, List.take_append_of_le_length (by rw [hd]; exact Nat.le_refl _), ← hd, List.take_length]
      refine copy_in (k := xs.length - i.toNat) (m := xs.length + 1 - i.toNat) P0 hT (let ⟨i, a, b, _⟩ := hi; ⟨i, a, b⟩) (.row (HasR.sub (size := size) (cells := flat f xs ++ post) Has.cl (by rw [hcell, ← Nat.add_mul]; exact Nat.mul_le_mul_right _ (by omega)) (by omega))) ?_ ?_ ?_ ?_
      · rw [hnew]; exact flat_ones f _
      · show min _ _ = _; omega
      · rw [hcell, ← hsuc, ← Nat.add_mul]; exact Nat.mul_le_mul_right _ (by omega)
      rw [hnew]
      refine ent_O (slc_blk (m := cap) (h := xs.length + 1) (l := i.toNat) rfl rfl (bnd_i h0 (by omega))) ?_
      rw [cutO_lt (show i.toNat < cap by omega), Nat.zero_add]
      refine copy_in (k := 1) (m := 1) (new := f y) P0 hT (let ⟨i, a, b, _⟩ := hi; ⟨i, a, b⟩) (.cl (Has.there (has_pick pv)) (by rw [hy, Nat.one_mul])) (by rw [Nat.one_mul, ← hy, List.take_length]; exact s.ones y) ?_ ?_ ?_
      · show min 1 _ = 1; omega
      · rw [wrCells_length, hcell, ← Nat.add_mul]; exact Nat.mul_le_mul_right _ (by omega)
      rw [Nat.one_mul, ← hy, List.take_length, hy]
      refine Ent.perm (R := R) (.cons (Pick.rowTake (cs := flat f (xs.take i.toNat ++ y :: xs.drop i.toNat)) (n := xs.length + 1) (cap := cap) (size := size) P0 ?_ ?_ (by omega)) .nil) ?_
      · have := ins_cells2 (c := flat f xs ++ post) (a := flat f (xs.take i.toNat)) (y := f y) (d := flat f (xs.drop i.toNat))
          (by rw [ha, List.take_append_of_le_length (by rw [e2]; exact Nat.mul_le_mul_right _ hin), flat_take]) (by rw [ha, hy, hd, hsum, hcell]; exact Nat.mul_le_mul_right _ (by omega))
        rw [ha, hy, hd, hsum] at this
        rw [hfin]; exact this
      · rw [wrCells_length, wrCells_length, hcell]
      · have := q (.slice (some ⟨b, 0, none⟩) (xs.length + 1) cap)
        unfold Rw at this
        rw [hflen] at this
        exact Ent.perm (R := _ :: R') (.cons (Pick.there pv) .nil) (Ent.skip this)
end
end Go.Sl
namespace Go.Sl
open Go
section
variable {P : Program} {l R : List Asn} {K : Value → Asn} {α : Type}
def bsS (P : Program) (size : Nat) (m : Option Nat) (a0 a1 a2 : Value) (K : Value → Asn) : Asn :=
  O (lenL a0) fun v1 =>
  VL [(.int .i64 0), v1] (fun x3 j4 k2 =>
  O (binV .lss (nth x3 0) (nth x3 1)) fun v5 =>
  VB v5
  (O (binV .add (nth x3 0) (nth x3 1)) fun v6 =>
  O (cvV .u64 v6) fun v7 =>
  O (binV .shr v7 (.int .u64 1)) fun v8 =>
  O (cvV .i64 v8) fun v9 =>
  O (idxV size a0 v9) fun v10 =>
  Ld m v10 fun v11 =>
  Cv P a2 [v11, a1] fun v12 =>
  O (binV .lss v12 (.int .i64 0)) fun v13 =>
  VB v13
  (O (binV .add v9 (.int .i64 1)) fun v14 =>
  k2 [v14, (nth x3 1)])
  (k2 [(nth x3 0), v9]))
  (O (binV .lss (nth x3 0) v1) fun v15 =>
  VB v15
  (O (idxV size a0 (nth x3 0)) fun v16 =>
  Ld m v16 fun v17 =>
  Cv P a2 [v17, a1] fun v18 =>
  O (binV .eql v18 (.int .i64 0)) fun v19 =>
  K (.tuple #[(nth x3 0), v19]))
  (K (.tuple #[(nth x3 0), (.bool false)]))))
def hit (c : α → Int) : Option α → Bool
  | some y => decide (c y = 0)
  | none => false
theorem bs_ok {size : Nat} {m : Option Nat} {v a1 a2 : Value} {f : α → List Value} [s : Sized f size] {xs : List α} (x : HasR l size v xs.length (flat f xs)) (hs : Nat.ble 1 size = true) (hn : xs.length ≤ 281474976710656)
    (el : α → Value) (hel : ∀ y, rdV (f y) 0 m = some (el y)) (c : α → Int)
    (hc : ∀ (k : Nat) (y : α), xs[k]? = some y → ∀ K : Value → Asn, Ent l (K (.int .i64 (c y))) → Ent l (Cv P a2 [el y, a1] K))
    (at_ : Nat) (hat : at_ ≤ xs.length) (hlo : ∀ (k : Nat) (y : α), xs[k]? = some y → k < at_ → c y < 0) (hhi : ∀ (k : Nat) (y : α), xs[k]? = some y → at_ ≤ k → 0 ≤ c y)
    (q : Ent l (K (.tuple #[.int .i64 at_, .bool (hit c xs[at_]?)]))) : Ent l (bsS P size m v a1 a2 K) := by
  unfold bsS
  haveI : HasRC l v size xs.length (flat f xs) := ⟨x⟩
  refine oLenE hs ?_
  refine ent_VL0 (X := Nat × Nat) (fun p => [.int .i64 p.1, .int .i64 p.2]) (fun p => p.1 ≤ at_ ∧ at_ ≤ p.2 ∧ p.2 ≤ xs.length) (fun p => p.2 - p.1) (0, xs.length) rfl ⟨Nat.zero_le _, hat, Nat.le_refl _⟩ ?_
  rintro ⟨i, j⟩ ⟨h1, h2, h3⟩ _
  dsimp only at h1 h2 h3
  refine ent_O rfl ?_
  refine oI (fun hlt => ?_) fun hge => ?_
  · have hlt' : i < j := by omega
    refine oAdd (by omega) (by omega) ?_
    refine ent_O (v := .int .u64 ((i : Int) + j)) ?_ ?_
    · show some (Value.int .u64 (IntKind.u64.wrap ((i : Int) + j))) = _
      rw [IntWalk.u64_in _ ⟨by omega, by omega⟩]
    refine ent_O rfl ?_
    have hmid : (((i : Int) + j).fdiv (2 ^ min (1 : Int).toNat IntKind.u64.bits)) = (((i + j) / 2 : Nat) : Int) := by
      have : (2 ^ min (1 : Int).toNat IntKind.u64.bits : Int) = 2 := rfl
      rw [this, Int.fdiv_eq_ediv_of_nonneg _ (by decide)]; omega
    rw [hmid]
    refine oCv (by omega) (by omega) ?_
    have hm1 : (i + j) / 2 < j := by omega
    have hm2 : i ≤ (i + j) / 2 := by omega
    have hm3 : (i + j) / 2 < xs.length := by omega
    generalize (i + j) / 2 = k at hm1 hm2 hm3
    have hk : xs[k]? = some xs[k] := List.getElem?_eq_getElem hm3
    refine oAt hs (by omega) (by rw [Int.toNat_natCast]; exact hk) (hel _) ?_
    refine hc k _ hk _ ?_
    refine ent_O rfl ?_
    refine oI (fun hneg => ?_) fun hneg => ?_
    · have : k < at_ := by
        rcases Nat.lt_or_ge k at_ with g | g
        · exact g
        · have := hhi k _ hk g; omega
      refine oAdd (by omega) (by omega) ?_
      exact ent_again0 (k + 1, j) (by rfl) ⟨by omega, by omega, by omega⟩ (show j - (k + 1) < j - i by omega)
    · have : at_ ≤ k := by
        rcases Nat.lt_or_ge k at_ with g | g
        · have := hlo k _ hk g; omega
        · exact g
      exact ent_again0 (i, k) (by rfl) ⟨by omega, by omega, by omega⟩ (show k - i < j - i by omega)
  · have he : i = at_ := by omega
    subst he
    refine ent_O rfl ?_
    refine oI (fun hlt => ?_) fun hge2 => ?_
    · have hlt' : i < xs.length := by omega
      have hk : xs[i]? = some xs[i] := List.getElem?_eq_getElem hlt'
      rw [hk] at q
      refine oAt hs (by omega) (by show xs[((i : Nat) : Int).toNat]? = _; rw [Int.toNat_natCast]; exact hk) (hel _) ?_
      refine hc i _ hk _ ?_
      refine oEq ?_
      exact q
    · have : xs[i]? = none := List.getElem?_eq_none (by omega)
      rw [this] at q
      exact q
end
end Go.Sl
namespace Go.Sl
open Go
section
variable {P : Program} {l R : List Asn} {K : Value → Asn} {α : Type}
def Big (A : α → Asn) : List α → Asn
  | [] => fun _ => True
  | x :: l => fun h => Star [A x, Big A l] h
theorem star2 {A B : Asn} {h : PH} : Star [A, B] h ↔ ∃ h1 h2, Dj h1 h2 ∧ Le (un h1 h2) h ∧ A h1 ∧ B h2 := by
  constructor
  · rintro ⟨h1, h2, d, le, a, k1, k2, d', le', b, _⟩
    exact ⟨h1, k1, d.mono (Le.refl _) ((Le.left _ _).trans le'), Le.un ((Le.left _ _).trans le) (((Le.left _ _).trans le').trans ((Le.right d).trans le)), a, b⟩
  · rintro ⟨h1, h2, d, le, a, b⟩
    exact ⟨h1, h2, d, le, a, h2, emp, Dj.emp h2, Le.un (Le.refl _) (fun _ _ e => by simp [emp] at e), b, trivial⟩
theorem Big.swap {A : α → Asn} {x y : α} {l : List α} {h : PH} (s : Big A (x :: y :: l) h) : Big A (y :: x :: l) h := by
  obtain ⟨h1, h2, d, le, a, r⟩ := star2.1 s
  obtain ⟨k1, k2, d', le', b, r'⟩ := star2.1 r
  have e1 : Le k1 h2 := (Le.left _ _).trans le'
  have e2 : Le k2 h2 := (Le.right d').trans le'
  have lh1 : Le h1 h := (Le.left _ _).trans le
  have lh2 : Le h2 h := (Le.right d).trans le
  refine star2.2 ⟨k1, un h1 k2, (d.symm.mono e1 (Le.refl _)).un_right d', Le.un (e1.trans lh2) (Le.un lh1 (e2.trans lh2)), b, star2.2 ⟨h1, k2, d.mono (Le.refl _) e2, Le.refl _, a, r'⟩⟩
theorem Big.perm {A : α → Asn} {l l' : List α} (p : l.Perm l') : ∀ {h : PH}, Big A l h → Big A l' h := by
  induction p with
  | nil => intro h s; exact s
  | cons x _ ih =>
    intro h s
    obtain ⟨h1, h2, d, le, a, r⟩ := star2.1 s
    exact star2.2 ⟨h1, h2, d, le, a, ih r⟩
  | swap x y l => intro h s; exact Big.swap s
  | trans _ _ ih1 ih2 => intro h s; exact ih2 (ih1 s)
theorem Ent.bigTake {φ : Asn} {A : α → Asn} {xs ys : List α} (x : α) (p : Pick l (Big A xs) R) (hp : xs.Perm (x :: ys)) (e : Ent (A x :: Big A ys :: R) φ) : Ent l φ :=
  Ent.open (m := [A x, Big A ys]) p (fun _ a => Big.perm hp a) e
theorem Ent.bigPut {φ : Asn} {A : α → Asn} {xs ys : List α} (x : α) (p : Picks l [A x, Big A ys] R) (hp : (x :: ys).Perm xs) (e : Ent (Big A xs :: R) φ) : Ent l φ :=
  Ent.close p (fun _ s => Big.perm hp s) e
theorem perm_at {xs : List α} {i : Nat} {x : α} (h : xs[i]? = some x) : xs.Perm (x :: xs.eraseIdx i) := by
  induction xs generalizing i with
  | nil => simp at h
  | cons y xs ih =>
    cases i with
    | zero => simp at h; subst h; simp
    | succ i =>
      simp only [List.getElem?_cons_succ] at h
      rw [List.eraseIdx_cons_succ]
      exact ((ih h).cons y).trans (List.Perm.swap x y _)
theorem perm_set {xs : List α} {i : Nat} (h : i < xs.length) (y : α) : (y :: xs.eraseIdx i).Perm (xs.set i y) := by
  have h2 : (xs.set i y)[i]? = some y := by simp [h]
  have := perm_at h2
  rw [List.eraseIdx_set_eq] at this
  exact this.symm
theorem perm_ins (xs : List α) (i : Nat) (y : α) : (y :: xs).Perm (xs.take i ++ y :: xs.drop i) := by
  have : (y :: (xs.take i ++ xs.drop i)).Perm (xs.take i ++ y :: xs.drop i) := List.perm_middle.symm
  rwa [List.take_append_drop] at this
theorem Ent.bigNil {φ : Asn} (A : α → Asn) (e : Ent (Big A [] :: l) φ) : Ent l φ := fun h s => e h ⟨emp, h, (Dj.emp h).symm, Le.un (fun _ _ e => by simp [emp] at e) (Le.refl _), trivial, s⟩
theorem Ctr.useAt {f : FuncId} {args : List Value} {X : Type} {res : X → Value} {φ : X → Prop} {A : α → Asn} {xs : List α} {x : α} {i : Nat}
    (F : Ctr P f args [A x] res φ (fun _ => [A x])) (p : Pick l (Big A xs) R) (hx : xs[i]? = some x) (k : ∀ u, φ u → Ent (Big A xs :: R) (K (res u))) : Ent l (Cl P f args K) := by
  refine Ent.bigTake x p (perm_at hx) ?_
  refine Ctr.use F (.cons Pick.here .nil) fun u hu => ?_
  exact Ent.bigPut x (.cons .here (.cons .here .nil)) (perm_at hx).symm (k u hu)
end
end Go.Sl
namespace Go.Sl
open Go Go.ChangeShapes Go.WideShapes Go.RowKit
def roW (W : World) : PH := fun b => (W.heap[b]?).map fun o => (false, o)
theorem roW_some {W : World} {b : Nat} {o : Obj} (h : W.heap[b]? = some o) : roW W b = some (false, o) := by simp [roW, h]
theorem roW_dj (W : World) : Dj (roW W) (roW W) := fun b x y hx hy => by
  rw [hx] at hy; cases hy
  refine ⟨rfl, ?_⟩
  simp only [roW, Option.map_eq_some_iff] at hx
  obtain ⟨o, _, rfl⟩ := hx; rfl
theorem roW_sat (W : World) : Sat (roW W) W := fun b x hx => by
  simp only [roW, Option.map_eq_some_iff] at hx
  obtain ⟨o, h, rfl⟩ := hx; exact h
structure KeptW (W W' : World) : Prop where
  os : W'.os = W.os
  out : W'.output = W.output
  blk : ∀ k, k < W.heap.size → W'.heap[k]? = W.heap[k]?
theorem KeptW.same {W W' : World} (h : KeptW W W') {p : MemPlace} (hp : p.block < W.heap.size) : W.sameAt W' p := by
  cases p with
  | cell b o => exact World.cell?_of_block (w := W) (h.blk b hp)
  | map b => exact h.blk b hp
theorem KeptW.but {W W' : World} (h : KeptW W W') (may : MemPlace → Prop) : W.keptBut W' may := by
  refine ⟨h.os, h.out, fun i hi => ?_⟩
  rw [h.blk i hi]
  split <;> simp_all
theorem calls_law {P : Program} {f : FuncId} {fn : Func} {args : Array Value} {W : World} {v0 : Value} (hf : P.funcs[f]? = some fn) (hname : (fn.name == "runtime.NumGoroutine") = false) (hb : fn.body.isNone = false)
    (h : Cl P f args.toList (fun v _ => v = v0) (roW W)) : Calls P f args W fun e W' => e = .returned v0 ∧ KeptW W W' := by
  have := h ⟨roW W, W.os, W.output⟩ W (roW_dj W) (roW_sat W) ⟨roW_sat W, rfl, rfl⟩
  have e0 : args.toList.toArray = args := by simp
  have hrun : (callFunc f args.toList.toArray).run P W = .ok (.enter f args) W := by
    rw [e0]
    simp only [callFunc, Sem.run_bind, program, Sem.run, Result.andThen_ok, hf, hname]
    cases hbd : fn.body with
    | none => rw [hbd] at hb; cases hb
    | some c => rfl
  rw [hrun] at this
  refine Calls.mono this ?_
  rintro e W' ⟨v, rfl, h', rfl, _, _, s, so, su⟩
  refine ⟨rfl, so, su, fun k hk => ?_⟩
  have : W.heap[k]? = some W.heap[k] := Array.getElem?_eq_getElem hk
  rw [this]; exact s k _ (roW_some this)
section
variable {H : Type} {enc : TypeId × Value → H} {P : Program}
theorem post_law {f : Func} {s : ChangeSpec} {apart fresh handsOn again : Bool} {W W' : World} {args : Array Value} {v : Value} {ds gs : List (DataW H)} {before pa pv : List MemPlace}
    (hW : DataW.Whole enc P f.params.toList s.vars apart W args.toList ds gs before)
    (hres : ∀ (b : Nat) (sp : Nat → Bool) (hd : Bool), DataW.TrodAll enc P W' b sp hd f.resultTypes.toList (v.resultList f.resultTypes.size) (s.fn H (ds ++ gs)).results [])
    (hargs : ∀ sp : Nat → Bool, (∀ p ∈ before, sp p.block = true) → DataW.TrodAll enc P W' 0 sp true f.params.toList args.toList (s.fn H (ds ++ gs)).args pa)
    (hvars : ∀ sp : Nat → Bool, (∀ p ∈ before, sp p.block = true) → DataW.TrodVars enc P W' sp s.vars (s.fn H (ds ++ gs)).vars pv)
    (hps : before = pa ++ pv) (hk : KeptW W W')
    (hok : ∀ (j : Nat) (t : TypeId) (r : Value), f.resultTypes[j]? = some t → (v.resultList f.resultTypes.size)[j]? = some r → Value.okWide P W' .any 0 t r) :
    s.post enc P f apart fresh handsOn again W args v W' := by
  have hlt := hW.lt
  have hold : ∀ p ∈ before, (fun b => decide (b < W.heap.size)) p.block = true := fun p hp => by simpa using hlt p hp
  refine ⟨ds, gs, before, [], pa, pv, hW, hres _ _ _, hargs _ hold, hvars _ hold, World.keptBut_mono (fun p hp => ⟨hp, ?_⟩) (hk.but (· ∈ before)), fun _ => ?_⟩
  · rw [hps, List.mem_append] at hp
    exact Or.inr hp
  · obtain ⟨_, _, _, _, _, hz, hn⟩ := hW
    refine ⟨hok, _, _, ([] ++ pa) ++ pv, ⟨[] ++ pa, pv, trodAll_append (hargs _ (fun _ _ => rfl)) (hres _ _ _), hvars _ (fun _ _ => rfl), rfl, ?_, ?_⟩, ?_⟩
    · intro b off hp
      have hp' : MemPlace.cell b off ∈ before := by rw [hps]; simpa using hp
      have hb : b < W.heap.size := hlt _ hp'
      have e : W'.frozen? ⟨b, off, none⟩ = W.frozen? ⟨b, off, none⟩ := World.frozen?_of_block (w := W) (hk.blk b hb)
      rw [e]
      exact hz b off hp'
    · intro ha
      have := hn ha
      rw [hps] at this
      simpa using this
    · intro p hp _
      rw [hps]
      simpa using hp
theorem trodAll_stays (hl : laidOutB P = true) {W W' : World} {sp : Nat → Bool} (hk : KeptW W W') : ∀ {ts : List TypeId} {vs : List Value} {ds : List (DataW H)} {ps : List MemPlace},
    (∀ t ∈ ts, P.readableRec t = true ∧ t < P.types.size) → DataW.TrodAll enc P W 0 (fun _ => true) true ts vs ds ps → (∀ p ∈ ps, sp p.block = true) → DataW.TrodAll enc P W' 0 sp true ts vs ds ps
  | [], [], [], _, _, h, _ => h
  | t :: ts, _ :: _, _ :: _, _, hr, ⟨p, q, h1, h2, e⟩, hs => by
    refine ⟨p, q, WideElems.Trod_stays hl (hr t (by simp)).1 (hr t (by simp)).2 h1 (fun x hx => hk.same ?_) (fun x hx => hs x (by rw [e]; exact List.mem_append_left _ hx)),
      trodAll_stays hl hk (fun t ht => hr t (by simp [ht])) h2 (fun x hx => hs x (by rw [e]; exact List.mem_append_right _ hx)), e⟩
    obtain ⟨n, hn⟩ := h1
    exact DataW.trod_lt n _ _ _ hn x hx
theorem law_contract {f : FuncId} {fn : Func} {s : ChangeSpec} {apart fresh handsOn again : Bool} {tb : TypeId}
    (hl : laidOutB P = true) (hf : P.funcs[f]? = some fn) (hname : (fn.name == "runtime.NumGoroutine") = false) (hb : fn.body.isNone = false) (hrt : fn.resultTypes = #[tb]) (htb : P.underlying tb = some .bool)
    (hpar : (fn.params.toList.all fun t => P.readableRec t && decide (t < P.types.size)) = true) (hvars : s.vars = [])
    (hfn : ∀ ds : List (DataW H), ds.length = fn.params.size → s.fn H ds = { results := [.lit (.bool true)], args := ds, vars := [] })
    (W : World) (base : Nat) (args : Array Value) (ds gs : List (DataW H)) (before : List MemPlace)
    (hval : ∀ (j : Nat) t v, fn.params[j]? = some t → args[j]? = some v → Value.okWide P W .any base t v)
    (hW : DataW.Whole enc P fn.params.toList s.vars apart W args.toList ds gs before)
    (law : ∀ p, DataW.TrodAll enc P W 0 (fun _ => true) true fn.params.toList args.toList ds p → Cl P f args.toList (fun v _ => v = .bool true) (roW W)) :
    Calls P f args W fun e W' => ∃ v, e = .returned v ∧ s.post enc P fn apart fresh handsOn again W args v W' := by
  have hW' := hW
  obtain ⟨p, q, hA, hV, rfl, hfz, _⟩ := hW
  rw [hvars] at hV
  obtain ⟨rfl, rfl⟩ : gs = [] ∧ q = [] := by
    cases gs with
    | nil => exact ⟨rfl, by simpa [DataW.TrodVars] using hV⟩
    | cons g gs => simp [DataW.TrodVars] at hV
  have hlen : ds.length = fn.params.size := by
    have key : ∀ {ts : List TypeId} {vs : List Value} {ds : List (DataW H)} {ps : List MemPlace}, DataW.TrodAll enc P W 0 (fun _ => true) true ts vs ds ps → ds.length = ts.length := by
      intro ts
      induction ts with
      | nil => intro vs ds ps h; obtain ⟨_, rfl, _⟩ := trodAll_nil h; rfl
      | cons t ts ih => intro vs ds ps h; obtain ⟨_, _, _, _, _, _, _, rfl, _, _, h2⟩ := trodAll_cons h; simp [ih h2]
    simpa using key hA
  have hs := hfn ds hlen
  refine (calls_law hf hname hb (law p hA)).mono fun e W' ⟨he, hk⟩ => ⟨_, he, ?_⟩
  have hres : ∀ (b : Nat) (sp : Nat → Bool) (hd : Bool), DataW.TrodAll enc P W' b sp hd fn.resultTypes.toList ((Value.bool true).resultList fn.resultTypes.size) (s.fn H (ds ++ [])).results [] := by
    intro b sp hd
    rw [List.append_nil, hs, hrt]
    exact trodAll_mk1 (shut_bool htb true)
  refine post_law (pa := p) (pv := []) hW' hres (fun sp hsp => ?_) (fun sp _ => ?_) rfl hk ?_
  · rw [List.append_nil, hs]
    refine trodAll_stays hl hk (fun t ht => ?_) hA (fun x hx => hsp x (by simpa using hx))
    have := List.all_eq_true.1 hpar t ht
    simpa using this
  · rw [hvars, List.append_nil, hs]; rfl
  · exact ok_one hrt rfl (okWide_bool_mk htb true)
end
section
variable {P : Program} {W : World}
def Rdg (P : Program) (W : World) (t : TypeId) (cs : List Value) : Prop := ∃ (H : Type) (enc : TypeId × Value → H) (fuel : Nat) (x : DataW H × List MemPlace), DataW.trod enc P W 0 (fun _ => true) true fuel t cs = some x
theorem Rdg.of {H : Type} {enc : TypeId × Value → H} {t : TypeId} {v : Value} {d : DataW H} {p : List MemPlace} (h : DataW.Trod enc P W 0 (fun _ => true) true t v d p) : Rdg P W t v.cells.toList :=
  let ⟨n, hn⟩ := h; ⟨H, enc, n, _, hn⟩
theorem Rdg.bool {t : TypeId} {cs : List Value} (ht : P.underlying t = some .bool) (h : Rdg P W t cs) : ∃ b, cs = [.bool b] := by
  obtain ⟨H, enc, n, x, h⟩ := h
  obtain ⟨b, e, _⟩ := DataW.trod_bool ht h; exact ⟨b, e⟩
theorem Rdg.int {t : TypeId} {k : IntKind} {cs : List Value} (ht : P.underlying t = some (.int k)) (h : Rdg P W t cs) : ∃ n, cs = [.int k n] ∧ k.min ≤ n ∧ n ≤ k.max := by
  obtain ⟨H, enc, n, x, h⟩ := h
  obtain ⟨b, e, _, w⟩ := DataW.trod_int ht h
  simp only [Lit.wf, Bool.and_eq_true, decide_eq_true_eq] at w
  exact ⟨b, e, w⟩
theorem Rdg.str {t : TypeId} {cs : List Value} (ht : P.underlying t = some .string) (h : Rdg P W t cs) : ∃ s : ByteArray, cs = [.string s] ∧ s.size ≤ 9223372036854775807 := by
  obtain ⟨H, enc, n, x, h⟩ := h
  obtain ⟨s, e, _, w⟩ := DataW.trod_string ht h
  exact ⟨s, e, w⟩
theorem Rdg.struct {t : TypeId} {fs : Array Field} {cs : List Value} (ht : P.underlying t = some (.struct fs)) (h : Rdg P W t cs) :
    cs.length = P.cellsOf t ∧ ∀ (i : Nat) (f : Field), fs[i]? = some f → Rdg P W f.type ((cs.drop f.offset).take (P.cellsOf f.type)) := by
  obtain ⟨H, enc, n, x, h⟩ := h
  obtain ⟨xs, m, _, _, hl, hs, hf⟩ := DataW.trod_struct ht h
  refine ⟨hl, fun i f hi => ?_⟩
  have hlt : i < xs.length := by rw [hs]; exact (Array.getElem?_eq_some_iff.1 hi).1
  exact ⟨H, enc, m, xs[i], by rw [hf i f hi]; exact List.getElem?_eq_getElem hlt⟩
theorem addr_add_add (a : Addr) (m n : Nat) : (a.add m).add n = a.add (m + n) := by
  unfold Addr.add
  by_cases hm : m = 0 <;> by_cases hn : n = 0 <;> simp [hm, hn, Nat.add_assoc]
theorem cell_none {w : World} {a : Addr} {v : Value} (h : w.cell? a = some v) : ∃ c e fz, w.heap[a.block]? = some (.cells c e fz) ∧ a.spot = none ∧ c[a.off]? = some v := by
  unfold World.cell? at h
  split at h
  · rename_i c e fz hb
    by_cases hs : a.spot.isSome = true
    · rw [if_pos hs] at h; cases h
    · rw [if_neg hs] at h
      exact ⟨c, e, fz, hb, by cases ha : a.spot <;> simp_all, h⟩
  · cases h
theorem Rdg.slice {t e : TypeId} {cs : List Value} (ht : P.underlying t = some (.slice e)) (hp : 0 < P.cellsOf e) (h : Rdg P W t cs) :
    ∃ (v : Value) (rows : List (List Value)), cs = [v] ∧ rows.length ≤ 9223372036854775807 ∧ (∀ r ∈ rows, r.length = P.cellsOf e ∧ Rdg P W e r) ∧ RoRow (P.cellsOf e) v rows.length rows.flatten (roW W) := by
  obtain ⟨H, enc, n, x, h⟩ := h
  rcases DataW.trod_slice ht h with ⟨rfl, _⟩ | ⟨a, len, cap, elems, rest, m, _, rfl, _, _, hlc, hcap, hel, hg, _⟩
  · exact ⟨_, [], rfl, by decide, by simp, .inl ⟨.nil, rfl, rfl⟩⟩
  generalize hz : P.cellsOf e = z at *
  have key : ∀ k, k ≤ len → ∃ rows : List (List Value), rows.length = k ∧ (∀ r ∈ rows, r.length = z ∧ Rdg P W e r) ∧ ∀ i, i < k * z → W.cell? (a.add i) = rows.flatten[i]? := by
    intro k
    induction k with
    | zero => intro _; exact ⟨[], rfl, by simp, fun i hi => by omega⟩
    | succ k ih =>
      intro hk
      obtain ⟨rows, h1, h2, h3⟩ := ih (by omega)
      have hgk := hg k (by omega)
      have hlt : k < elems.length := by omega
      rw [List.getElem?_eq_getElem hlt, Option.bind_eq_some_iff] at hgk
      obtain ⟨r, hr, htr⟩ := hgk
      obtain ⟨_, hrl, hrc⟩ := World.cells?_some hr
      have hfl : rows.flatten.length = k * z := by
        have : ∀ rows : List (List Value), (∀ r ∈ rows, r.length = z) → rows.flatten.length = rows.length * z := by
          intro rows
          induction rows with
          | nil => intro _; simp
          | cons r rows ih => intro h; simp only [List.flatten_cons, List.length_append, List.length_cons, h r (by simp), ih (fun x hx => h x (by simp [hx])), Nat.succ_mul]; omega
        rw [this rows (fun r hr => (h2 r hr).1), h1]
      refine ⟨rows ++ [r], by simp [h1], fun r' hr' => ?_, fun i hi => ?_⟩
      · rcases List.mem_append.1 hr' with h | h
        · exact h2 r' h
        · simp at h; subst h; exact ⟨hrl, H, enc, m, _, htr⟩
      · rw [List.flatten_append]
        by_cases hik : i < k * z
        · rw [List.getElem?_append_left (by omega)]; exact h3 i hik
        · rw [List.getElem?_append_right (by omega), hfl]
          rw [Nat.succ_mul] at hi
          have hrl' : r.length = z := hrl
          have := hrc (i - k * z) (by omega)
          simp only [List.flatten_cons, List.flatten_nil, List.append_nil]
          rw [← this]
          rw [addr_add_add]
          congr 2; omega
  obtain ⟨rows, h1, h2, h3⟩ := key len (Nat.le_refl _)
  refine ⟨_, rows, rfl, by rw [h1]; exact Nat.le_trans hlc hcap, h2, ?_⟩
  have hfl : rows.flatten.length = len * z := by
    have : ∀ rows : List (List Value), (∀ r ∈ rows, r.length = z) → rows.flatten.length = rows.length * z := by
      intro rows
      induction rows with
      | nil => intro _; simp
      | cons r rows ih => intro h; simp only [List.flatten_cons, List.length_append, List.length_cons, h r (by simp), ih (fun x hx => h x (by simp [hx])), Nat.succ_mul]; omega
    rw [this rows (fun r hr => (h2 r hr).1), h1]
  rw [h1]
  by_cases h0 : len = 0
  · subst h0
    obtain rfl : rows = [] := List.length_eq_zero_iff.1 h1
    exact .inl ⟨⟨some a, cap, rfl, fun h => by cases h⟩, rfl, rfl⟩
  have hpos : 0 < len * z := Nat.mul_pos (by omega) hp
  have hc0 := h3 0 hpos
  rw [List.getElem?_eq_getElem (by omega)] at hc0
  obtain ⟨ab, ao, asp⟩ := a
  obtain ⟨c, e', fz, hb, hsp, _⟩ := cell_none hc0
  have hsp' : asp = none := hsp
  subst hsp'
  have hb' : W.heap[ab]? = some (.cells c e' fz) := hb
  have hcell : ∀ i, i < len * z → c[ao + i]? = rows.flatten[i]? := by
    intro i hi
    rw [← h3 i hi, add_off]
    simp [World.cell?, hb']
  have hle : ao + len * z ≤ c.size := by
    have := hcell (len * z - 1) (by omega)
    rw [List.getElem?_eq_getElem (by omega)] at this
    have := (Array.getElem?_eq_some_iff.1 this).1
    omega
  have hsplit : c.toList = c.toList.take ao ++ rows.flatten ++ c.toList.drop (ao + len * z) := by
    have e1 : (c.toList.drop ao).take (len * z) = rows.flatten := by
      apply List.ext_getElem?
      intro i
      by_cases hi : i < len * z
      · rw [List.getElem?_take_of_lt hi, List.getElem?_drop, ← hcell i hi]; simp
      · rw [List.getElem?_eq_none (by rw [List.length_take]; omega), List.getElem?_eq_none (by omega)]
    rw [← e1, List.append_assoc]
    have : (c.toList.drop ao).take (len * z) ++ c.toList.drop (ao + len * z) = c.toList.drop ao := by
      rw [← List.drop_drop, List.take_append_drop]
    rw [this, List.take_append_drop]
  refine .inr ⟨ab, ao, cap, c.toList.take ao, c.toList.drop (ao + len * z), e', fz, rfl, ?_, ?_, hfl, hlc⟩
  · rw [← hsplit]; exact roW_some hb'
  · rw [List.length_take, Array.length_toList]; omega
end
end Go.Sl
