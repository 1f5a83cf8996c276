/- The printed forms of functions, by program out of the compiled code; each is held against it by the kernel. -/
import Derived.Test.YtjcllfkkjagomaaDoorSepZ
import Derived.Test.YtjcllfkkjagomaaDoorProg
import Derived.KernelRfl
namespace Go.Proofs.YtjcllfkkjagomaaDoor.Sep
set_option maxRecDepth 1000000
set_option linter.unusedVariables false

def laws_FnExactWalkOf_F (x0 x1 x2 x3 x4 x5 x6 : V) (hi : Hp) (Rt : Hp → V → Prop) : Prop :=
pbox hi 71 24 (cellsV x0) fun h0 =>
VL (vlenS x2) fun v91_1 =>
VL (lift2 (abin .gtr) v91_1 (.int .i64 1048576)) fun v92_2 =>
pcond (
Rt h0 (.bool true)) (
VL (vlenS x3) fun v94_3 =>
VL (lift2 (abin .gtr) v94_3 (.int .i64 1048576)) fun v95_4 =>
pcond (
Rt h0 (.bool true)) (
VL (vlenT x6) fun v97_5 =>
VL (lift2 (abin .gtr) v97_5 (.int .i64 1048576)) fun v98_6 =>
pcond (
Rt h0 (.bool true)) (
pld h0 (some 33) (fun v100_7 h8 =>
pcal Tryd.prog 10 101 h8 (fun v101_9 h10 =>
pcal Tryd.prog 11 104 h10 (fun v104_11 h12 =>
pcal Tryd.prog 11 106 h12 (fun v106_13 h14 =>
pcal Tryd.prog 9 110 h14 (fun v110_15 h16 =>
VL (vext 0 v110_15) fun v111_17 =>
VL (vext 1 v110_15) fun v112_18 =>
pcal Tryd.prog 11 114 h16 (fun v114_19 h20 =>
pcal Tryd.prog 11 116 h20 (fun v116_21 h22 =>
pld h22 (some 33) (fun v118_23 h24 =>
pcal Tryd.prog 10 119 h24 (fun v119_25 h26 =>
pcal Tryd.prog 12 126 h26 (fun v126_27 h28 =>
VL (vext 0 v126_27) fun v127_29 =>
VL (vext 1 v126_27) fun v128_30 =>
pcal Tryd.prog 13 131 h28 (fun v131_31 h32 =>
VL (lift1 (aun .not) v131_31) fun v132_33 =>
pgk false h32 (fun g34 k35 => k35 v128_30 h32) (fun g36 v70_37 h38 =>
pgk false h38 (fun g39 k40 => k40 v112_18 h38) (fun g41 v71_42 h43 =>
pgk false h43 (fun g44 k45 => VL (lift2 (abin .neq) v70_37 v71_42) fun v136_46 =>
k45 v136_46 h43) (fun g47 v72_48 h49 =>
VL (vpick g47 (.bool true) v72_48) fun v137_50 =>
pcond (
Rt h49 (.bool false)) (
pcal Tryd.prog 11 140 h49 (fun v140_51 h52 =>
pcal Tryd.prog 13 141 h52 (fun v141_53 h54 =>
VL (lift1 (aun .not) v141_53) fun v142_55 =>
pcond (
Rt h54 (.bool false)) (
pcal Tryd.prog 11 145 h54 (fun v145_56 h57 =>
pcal Tryd.prog 13 146 h57 (fun v146_58 h59 =>
VL (lift1 (aun .not) v146_58) fun v147_60 =>
pcond (
Rt h59 (.bool false)) (
pcal Tryd.prog 14 150 h59 (fun v150_61 h62 =>
pcal Tryd.prog 14 153 h62 (fun v153_63 h64 =>
VL (lift2 (abin .lss) v153_63 (.int .i64 0)) fun v155_65 =>
pgk false h64 (fun g66 k67 => k67 v127_29 h64) (fun g68 v93_69 h70 =>
pgk false h70 (fun g71 k72 => k72 v111_17 h70) (fun g73 v94_74 h75 =>
pgk false h75 (fun g76 k77 => pcal Tryd.prog 13 159 h75 (fun v159_78 h79 =>
k77 v159_78 h79) [v93_69, v94_74]) (fun g80 v95_81 h82 =>
pgk false h82 (fun g83 k84 => VL (lift1 (aun .not) v95_81) fun v160_85 =>
k84 v160_85 h82) (fun g86 v96_87 h88 =>
VL (vpick g86 (.bool true) v96_87) fun v161_89 =>
pgk false h88 (fun g90 k91 => k91 v128_30 h88) (fun g92 v99_93 h94 =>
pgk false h94 (fun g95 k96 => k96 v112_18 h94) (fun g97 v100_98 h99 =>
pgk false h99 (fun g100 k101 => VL (lift2 (abin .neq) v99_93 v100_98) fun v165_102 =>
k101 v165_102 h99) (fun g103 v101_104 h105 =>
VL (vpick g103 (.bool true) v101_104) fun v166_106 =>
pcond (
Rt h105 (.bool false)) (
pcal Tryd.prog 14 169 h105 (fun v169_107 h108 =>
pcal Tryd.prog 15 172 h108 (fun v172_109 h110 =>
VL (lift2 (abin .lss) v172_109 (.int .i64 0)) fun v174_111 =>
pcond (
Rt h110 (.bool false)) (
VL (lift2 (abin .neq) v172_109 v169_107) fun v177_112 =>
pcond (
Rt h110 (.bool false)) (
pld h110 (some 33) (fun v179_113 h114 =>
pcal Tryd.prog 10 180 h114 (fun v180_115 h116 =>
pcal Tryd.prog 11 183 h116 (fun v183_117 h118 =>
pcal Tryd.prog 11 185 h118 (fun v185_119 h120 =>
pcal Tryd.prog 12 189 h120 (fun v189_121 h122 =>
VL (vext 0 v189_121) fun v190_123 =>
VL (vext 1 v189_121) fun v191_124 =>
pcal Tryd.prog 13 194 h122 (fun v194_125 h126 =>
VL (lift1 (aun .not) v194_125) fun v195_127 =>
pgk false h126 (fun g128 k129 => k129 v191_124 h126) (fun g130 v133_131 h132 =>
pgk false h132 (fun g133 k134 => k134 v112_18 h132) (fun g135 v134_136 h137 =>
pgk false h137 (fun g138 k139 => VL (lift2 (abin .neq) v133_131 v134_136) fun v199_140 =>
k139 v199_140 h137) (fun g141 v135_142 h143 =>
VL (vpick g141 (.bool true) v135_142) fun v200_144 =>
pcond (
Rt h143 (.bool false)) (
pcal Tryd.prog 15 203 h143 (fun v203_145 h146 =>
VL (lift2 (abin .lss) v203_145 (.int .i64 0)) fun v205_147 =>
pcond (
Rt h146 (.bool false)) (
VL (lift2 (abin .neq) v203_145 v169_107) fun v208_148 =>
pcond (
Rt h146 (.bool false)) (
Rt h146 (.bool true)) v208_148) v205_147) [v127_29, (.int .i64 1)]) v200_144) g135) g130) v195_127) [v190_123, v111_17]) [v180_115, x1, v183_117, v185_119, x4, x5, x6]) [x3]) [x2]) [v179_113]) (.ptr 71 0)) v177_112) v174_111) [v127_29, (.int .i64 1)]) [v127_29, (.int .i64 1)]) v166_106) g97) g92) v161_89) g80) g73) g68) v155_65) [v116_21, v150_61]) [v114_19, (.int .i64 1)]) v147_60) [v116_21, v145_56]) [x3]) v142_55) [v114_19, v140_51]) [x2]) v137_50) g41) g36) v132_33) [v127_29, v111_17]) [v119_25, x1, v114_19, v116_21, x4, x5, x6]) [v118_23]) (.ptr 71 0)) [x3]) [x2]) [v101_9, x1, v104_11, v106_13, x4, x5, x6]) [x3]) [x2]) [v100_7]) (.ptr 71 0)) v98_6) v95_4) v92_2
theorem laws_FnExactWalkOf_f {x0 x1 x2 x3 x4 x5 x6 : V} : Prt Tryd.prog 3 [x0, x1, x2, x3, x4, x5, x6] (laws_FnExactWalkOf_F x0 x1 x2 x3 x4 x5 x6) := pfun (fn := Tryd.f3) (m := [.s, .s, .s, .s, .s, .s, .s, .s, .s, .s, .s, .s, .s, .s, .s, .s, .s, .s, .s, .s, .s, .s, .s, .s, .s, .s, .s, .s, .s, .s, .s, .s, .s, .s, .s, .s, .s, .s, .s, .s, .s, .s, .s, .s, .s, .s, .s, .s, .s, .s, .s, .s]) (c := 7 ≤ 145) rfl (fun h0 Rt => by kernel_rfl) (by decide)

def laws_FnExactIsWord_F (x0 : V) (hi : Hp) (Rt : Hp → V → Prop) : Prop :=
VL (vlenT x0) fun v70_0 =>
VL (lift2 (abin .gtr) v70_0 (.int .i64 1048576)) fun v71_1 =>
pcond (
Rt hi (.bool true)) (
pcal Tryd.prog 16 73 hi (fun v73_2 h3 =>
pcal Tryd.prog 17 75 h3 (fun v75_4 h5 =>
VL (veqa true false [.b] v75_4 v73_2) fun v78_6 =>
pcond (
Rt h5 (.bool false)) (
Rt h5 (.bool true)) v78_6) [x0]) [x0]) v71_1
theorem laws_FnExactIsWord_f {x0 : V} : Prt Tryd.prog 4 [x0] (laws_FnExactIsWord_F x0) := pfun (fn := Tryd.f4) (m := [.s, .s, .s, .s, .s, .s, .s, .s, .s, .s]) (c := 1 ≤ 15) rfl (fun h0 Rt => by kernel_rfl) (by decide)

def laws_FnExactInverseWord_F (x0 : V) (hi : Hp) (Rt : Hp → V → Prop) : Prop :=
VL (vlenT x0) fun v72_0 =>
VL (lift2 (abin .gtr) v72_0 (.int .i64 1048576)) fun v73_1 =>
pcond (
Rt hi (.bool true)) (
pcal Tryd.prog 18 76 hi (fun v76_2 h3 =>
VL (vext 0 v76_2) fun v77_4 =>
VL (vext 1 v76_2) fun v78_5 =>
pcal Tryd.prog 19 81 h3 (fun v81_6 h7 =>
VL (vext 0 v81_6) fun v82_8 =>
VL (vext 1 v81_6) fun v83_9 =>
VL (lift2 (abin .neq) v82_8 v77_4) fun v86_10 =>
pgk false h7 (fun g11 k12 => k12 v83_9 h7) (fun g13 v24_14 h15 =>
pgk false h15 (fun g16 k17 => k17 v78_5 h15) (fun g18 v25_19 h20 =>
pgk false h20 (fun g21 k22 => VL (lift2 (abin .neq) v24_14 v25_19) fun v90_23 =>
k22 v90_23 h20) (fun g24 v26_25 h26 =>
VL (vpick g24 (.bool true) v26_25) fun v91_27 =>
pcond (
Rt h26 (.bool false)) (
Rt h26 (.bool true)) v91_27) g18) g13) v86_10) [x0]) [x0]) v73_1
theorem laws_FnExactInverseWord_f {x0 : V} : Prt Tryd.prog 5 [x0] (laws_FnExactInverseWord_F x0) := pfun (fn := Tryd.f5) (m := [.s, .s, .s, .s, .s, .s, .s, .s, .s, .s]) (c := 1 ≤ 28) rfl (fun h0 Rt => by kernel_rfl) (by decide)

def laws_FnExactReduceWord_F (x0 : V) (hi : Hp) (Rt : Hp → V → Prop) : Prop :=
VL (vlenT x0) fun v72_0 =>
VL (lift2 (abin .gtr) v72_0 (.int .i64 1048576)) fun v73_1 =>
pcond (
Rt hi (.bool true)) (
pcal Tryd.prog 20 76 hi (fun v76_2 h3 =>
VL (vext 0 v76_2) fun v77_4 =>
VL (vext 1 v76_2) fun v78_5 =>
pcal Tryd.prog 21 81 h3 (fun v81_6 h7 =>
VL (vext 0 v81_6) fun v82_8 =>
VL (vext 1 v81_6) fun v83_9 =>
VL (lift2 (abin .neq) v82_8 v77_4) fun v86_10 =>
pgk false h7 (fun g11 k12 => k12 v83_9 h7) (fun g13 v24_14 h15 =>
pgk false h15 (fun g16 k17 => k17 v78_5 h15) (fun g18 v25_19 h20 =>
pgk false h20 (fun g21 k22 => VL (lift2 (abin .neq) v24_14 v25_19) fun v90_23 =>
k22 v90_23 h20) (fun g24 v26_25 h26 =>
VL (vpick g24 (.bool true) v26_25) fun v91_27 =>
pcond (
Rt h26 (.bool false)) (
Rt h26 (.bool true)) v91_27) g18) g13) v86_10) [x0]) [x0]) v73_1
theorem laws_FnExactReduceWord_f {x0 : V} : Prt Tryd.prog 6 [x0] (laws_FnExactReduceWord_F x0) := pfun (fn := Tryd.f6) (m := [.s, .s, .s, .s, .s, .s, .s, .s, .s, .s]) (c := 1 ≤ 28) rfl (fun h0 Rt => by kernel_rfl) (by decide)

def laws_FnExactWordPlaces_F (x0 x1 : V) (hi : Hp) (Rt : Hp → V → Prop) : Prop :=
pbox hi 66 24 (cellsV x0) fun h0 =>
VL (vlenT x1) fun v74_1 =>
VL (lift2 (abin .gtr) v74_1 (.int .i64 1048576)) fun v75_2 =>
pcond (
Rt h0 (.bool true)) (
pld h0 (some 33) (fun v77_3 h4 =>
pcal Tryd.prog 10 78 h4 (fun v78_5 h6 =>
pcal Tryd.prog 22 80 h6 (fun v80_7 h8 =>
VL (vext 0 v80_7) fun v81_9 =>
VL (vext 1 v80_7) fun v82_10 =>
palloc h8 69 28 (vi .u8 (List.replicate 16 0)) fun h11 =>
pst h11 16 (cellsV v81_9) (fun u12 h13 =>
pld h13 (some 33) (fun v84_14 h15 =>
pcal Tryd.prog 10 85 h15 (fun v85_16 h17 =>
pcal Tryd.prog 23 87 h17 (fun v87_18 h19 =>
VL (vext 0 v87_18) fun v88_20 =>
VL (vext 1 v87_18) fun v89_21 =>
palloc h19 71 28 (vi .u8 (List.replicate 16 0)) fun h22 =>
pst h22 16 (cellsV v88_20) (fun u23 h24 =>
pld h24 (some 16) (fun v90_25 h26 =>
pld h26 (some 16) (fun v91_27 h28 =>
pcal Tryd.prog 24 92 h28 (fun v92_29 h30 =>
VL (lift1 (aun .not) v92_29) fun v93_31 =>
pgk false h30 (fun g32 k33 => k33 v89_21 h30) (fun g34 v31_35 h36 =>
pgk false h36 (fun g37 k38 => k38 v82_10 h36) (fun g39 v32_40 h41 =>
pgk false h41 (fun g42 k43 => VL (lift2 (abin .neq) v31_35 v32_40) fun v97_44 =>
k43 v97_44 h41) (fun g45 v33_46 h47 =>
VL (vpick g45 (.bool true) v33_46) fun v98_48 =>
pcond (
Rt h47 (.bool false)) (
Rt h47 (.bool true)) v98_48) g39) g34) v93_31) [v90_25, v91_27]) (.ptr 69 0)) (.ptr 71 0)) (.ptr 71 0)) [v85_16, x1]) [v84_14]) (.ptr 66 0)) (.ptr 69 0)) [v78_5, x1]) [v77_3]) (.ptr 66 0)) v75_2
theorem laws_FnExactWordPlaces_f {x0 x1 : V} : Prt Tryd.prog 7 [x0, x1] (laws_FnExactWordPlaces_F x0 x1) := pfun (fn := Tryd.f7) (m := [.s, .s, .s, .s, .s, .s, .s, .s, .s, .s]) (c := 2 ≤ 35) rfl (fun h0 Rt => by kernel_rfl) (by decide)

def laws_FnExactSatisfiesRelations_F (x0 x1 : V) (hi : Hp) (Rt : Hp → V → Prop) : Prop :=
pbox hi 66 24 (cellsV x0) fun h0 =>
pcal Tryd.prog 25 77 h0 (fun v77_1 h2 =>
VL (lift2 (abin .lss) v77_1 (.int .i64 0)) fun v79_3 =>
pcond (
Rt h2 (.bool true)) (
pld h2 (some 33) (fun v81_4 h5 =>
pcal Tryd.prog 10 82 h5 (fun v82_6 h7 =>
pcal Tryd.prog 27 84 h7 (fun v84_8 h9 =>
pcal Tryd.prog 26 85 h9 (fun v85_10 h11 =>
VL (vext 0 v85_10) fun v86_12 =>
VL (vext 1 v85_10) fun v87_13 =>
pcal Tryd.prog 27 89 h11 (fun v89_14 h15 =>
pld h15 (some 33) (fun v91_16 h17 =>
pcal Tryd.prog 10 92 h17 (fun v92_18 h19 =>
pcal Tryd.prog 28 94 h19 (fun v94_20 h21 =>
VL (vext 0 v94_20) fun v95_22 =>
VL (vext 1 v94_20) fun v96_23 =>
VL (veqa true false [.b] v95_22 v86_12) fun v99_24 =>
pgk false h21 (fun g25 k26 => k26 v96_23 h21) (fun g27 v37_28 h29 =>
pgk false h29 (fun g30 k31 => k31 v87_13 h29) (fun g32 v38_33 h34 =>
pgk false h34 (fun g35 k36 => VL (lift2 (abin .neq) v37_28 v38_33) fun v103_37 =>
k36 v103_37 h34) (fun g38 v39_39 h40 =>
VL (vpick g38 (.bool true) v39_39) fun v104_41 =>
pcond (
Rt h40 (.bool false)) (
pcal Tryd.prog 27 107 h40 (fun v107_42 h43 =>
pcal Tryd.prog 29 108 h43 (fun v108_44 h45 =>
VL (lift1 (aun .not) v108_44) fun v109_46 =>
pcond (
Rt h45 (.bool false)) (
Rt h45 (.bool true)) v109_46) [v89_14, v107_42]) [x1]) v104_41) g32) g27) v99_24) [v92_18, v89_14]) [v91_16]) (.ptr 66 0)) [x1]) [v82_6, v84_8]) [x1]) [v81_4]) (.ptr 66 0)) v79_3) [x1, (.int .i64 1048576)]
theorem laws_FnExactSatisfiesRelations_f {x0 x1 : V} : Prt Tryd.prog 8 [x0, x1] (laws_FnExactSatisfiesRelations_F x0 x1) := pfun (fn := Tryd.f8) (m := [.s, .s, .s, .s, .s, .s, .s, .s, .s, .s, .s, .s, .s, .s, .s, .s]) (c := 2 ≤ 46) rfl (fun h0 Rt => by kernel_rfl) (by decide)

def spec_WalkOf_F (x0 x1 x2 x3 x4 x5 x6 : V) (hi : Hp) (Rt : Hp → V → Prop) : Prop :=
pbox hi 71 30 (cellsV x0) fun h0 =>
pld h0 (some 33) (fun v86_1 h2 =>
pcal Tryd.prog 30 90 h2 (fun v90_3 h4 =>
JN (fun k5 =>
VL (lift2 (abin .eql) v90_3 (.int .i64 0)) fun v92_8 =>
pgk true h4 (fun g9 k10 => k10 x4 h4) (fun g11 v30_12 h13 =>
pgk true h13 (fun g14 k15 => k15 (.ptr 71 0) h13) (fun g16 v31_17 h18 =>
pgk true h18 (fun g19 k20 => pld h18 none (fun v96_21 h22 =>
k20 v96_21 h22) v31_17) (fun g23 v32_24 h25 =>
pgk true h25 (fun g26 k27 => VL (lift2 (abin .sub) v32_24 (.int .i64 1)) fun v97_28 =>
k27 v97_28 h25) (fun g29 v33_30 h31 =>
pgk true h31 (fun g32 k33 => pcal Tryd.prog 31 98 h31 (fun v98_34 h35 =>
k33 v98_34 h35) [v30_12, (.int .i64 0), v33_30]) (fun g36 v34_37 h38 =>
pgk true h38 (fun g39 k40 => VL (lift1 (aun .not) v34_37) fun v99_41 =>
k40 v99_41 h38) (fun g42 v35_43 h44 =>
pgk true h44 (fun g45 k46 => k46 v35_43 h44) (fun g47 v36_48 h49 =>
pgk false h49 (fun g50 k51 => k51 x5 h49) (fun g52 v37_53 h54 =>
pgk false h54 (fun g55 k56 => k56 x1 h54) (fun g57 v38_58 h59 =>
pgk false h59 (fun g60 k61 => VL (lift2 (abin .sub) v38_58 (.int .i64 1)) fun v103_62 =>
k61 v103_62 h59) (fun g63 v39_64 h65 =>
pgk false h65 (fun g66 k67 => pcal Tryd.prog 31 104 h65 (fun v104_68 h69 =>
k67 v104_68 h69) [v37_53, (.int .i64 0), v39_64]) (fun g70 v40_71 h72 =>
pgk false h72 (fun g73 k74 => VL (lift1 (aun .not) v40_71) fun v105_75 =>
k74 v105_75 h72) (fun g76 v41_77 h78 =>
pgk true h78 (fun g79 k80 => VL (vpick g76 (.bool true) v41_77) fun v106_81 =>
k80 v106_81 h78) (fun g82 v42_83 h84 =>
VL (vpick g82 v42_83 (.bool false)) fun v107_85 =>
pcond (
k5 [x1, x2, x3, x4, x5, x6, (.ptr 71 0), (.int .i64 2)] h84) (
k5 [x1, x2, x3, x4, x5, x6, (.ptr 71 0), v90_3] h84) v107_85) g47) g70) g63) g57) g52) v36_48) g42) g36) g29) g23) g16) g11) v92_8) fun o6 h7 =>
VL (lift2 (abin .neq) (o6.getD 7 .und) (.int .i64 0)) fun v109_86 =>
pcond (
Rt h7 (.tup [.nils, (o6.getD 7 .und)])) (
pld h7 (some 33) (fun v112_87 h88 =>
pcal Tryd.prog 32 114 h88 (fun v114_89 h90 =>
VL (vext 0 v114_89) fun v115_91 =>
VL (vext 1 v114_89) fun v116_92 =>
palloc h90 81 28 (vi .u8 (List.replicate 16 0)) fun h93 =>
pst h93 16 (cellsV v115_91) (fun u94 h95 =>
VL (lift1 (aun .not) v116_92) fun v118_96 =>
pcond (
Rt h95 (.tup [.nils, (.int .i64 6)])) (
LP [4, 5, 19] [1, 2, 3, 6, 7] (fun w97 l98 h99 N100 =>
VL (vlenT (l98.getD 3 .und)) fun v121_101 =>
VL (lift2 (abin .lss) (w97.getD 2 .und) v121_101) fun v122_102 =>
pcond (
VL (vixT (l98.getD 3 .und) (w97.getD 2 .und)) fun v127_103 =>
pmks h99 128 5 1 1 (fun h104 =>
VL (vb2s h104 (.rf 128 0 1)) fun v129_105 =>
JN (fun k106 =>
VL (vixT (l98.getD 3 .und) (w97.getD 2 .und)) fun v132_109 =>
VL (lift2 (abin .eql) v132_109 (.int .u8 102)) fun v134_110 =>
pcond (
k106 [(l98.getD 0 .und), (l98.getD 1 .und), (l98.getD 2 .und), (w97.getD 0 .und), (w97.getD 1 .und), (l98.getD 3 .und), (l98.getD 4 .und), (w97.getD 2 .und), (.str [87, 66])] h104) (
VL (lift2 (abin .eql) v132_109 (.int .u8 70)) fun v136_111 =>
pcond (
k106 [(l98.getD 0 .und), (l98.getD 1 .und), (l98.getD 2 .und), (w97.getD 0 .und), (w97.getD 1 .und), (l98.getD 3 .und), (l98.getD 4 .und), (w97.getD 2 .und), (.str [98, 119])] h104) (
k106 [(l98.getD 0 .und), (l98.getD 1 .und), (l98.getD 2 .und), (w97.getD 0 .und), (w97.getD 1 .und), (l98.getD 3 .und), (l98.getD 4 .und), (w97.getD 2 .und), v129_105] h104) v136_111) v134_110) fun o107 h108 =>
LP [4, 5, 21] [1, 2, 3, 6, 7, 19, 20] (fun w112 l113 h114 N115 =>
VL (vlenT (l113.getD 6 .und)) fun v139_116 =>
VL (lift2 (abin .lss) (w112.getD 2 .und) v139_116) fun v140_117 =>
pcond (
JN (fun k118 =>
VL (vixT (l113.getD 6 .und) (w112.getD 2 .und)) fun v145_121 =>
VL (lift2 (abin .eql) v145_121 (.int .u8 98)) fun v147_122 =>
pcond (
VL (vixS 1 (l113.getD 1 .und) (w112.getD 0 .und)) fun v151_123 =>
pld h114 none (fun v152_124 h125 =>
VL (lift2 (abin .add) (w112.getD 1 .und) v152_124) fun v153_126 =>
VL (lift2 (abin .rem) v153_126 (l113.getD 0 .und)) fun v155_127 =>
VL (vfa 1 (l113.getD 4 .und)) fun v157_128 =>
VL (vixA 16 1 v157_128 (w112.getD 0 .und)) fun v158_129 =>
pld h125 none (fun v159_130 h131 =>
VL (lift1 (acvi .i64) v159_130) fun v160_132 =>
k118 [(l113.getD 0 .und), (l113.getD 1 .und), (l113.getD 2 .und), v160_132, v155_127, (l113.getD 3 .und), (l113.getD 4 .und), (l113.getD 5 .und), (l113.getD 6 .und), (w112.getD 2 .und)] h131) v158_129) v151_123) (
VL (lift2 (abin .eql) v145_121 (.int .u8 119)) fun v162_133 =>
pcond (
VL (vixS 1 (l113.getD 2 .und) (w112.getD 0 .und)) fun v166_134 =>
pld h114 none (fun v167_135 h136 =>
VL (lift2 (abin .add) (w112.getD 1 .und) v167_135) fun v168_137 =>
VL (lift2 (abin .rem) v168_137 (l113.getD 0 .und)) fun v170_138 =>
VL (vfa 17 (l113.getD 4 .und)) fun v172_139 =>
VL (vixA 16 1 v172_139 (w112.getD 0 .und)) fun v173_140 =>
pld h136 none (fun v174_141 h142 =>
VL (lift1 (acvi .i64) v174_141) fun v175_143 =>
k118 [(l113.getD 0 .und), (l113.getD 1 .und), (l113.getD 2 .und), v175_143, v170_138, (l113.getD 3 .und), (l113.getD 4 .und), (l113.getD 5 .und), (l113.getD 6 .und), (w112.getD 2 .und)] h142) v173_140) v166_134) (
VL (lift2 (abin .eql) v145_121 (.int .u8 66)) fun v177_144 =>
pcond (
VL (vfa 1 (l113.getD 4 .und)) fun v178_145 =>
pld h114 (some 16) (fun v179_146 h147 =>
VL (vfa 0 (l113.getD 4 .und)) fun v180_148 =>
pld h147 none (fun v181_149 h150 =>
pcal Tryd.prog 33 182 h150 (fun v182_151 h152 =>
VL (vixV 16 1 none v182_151 (w112.getD 0 .und)) fun v184_153 =>
VL (lift1 (acvi .i64) v184_153) fun v185_154 =>
VL (vixS 1 (l113.getD 1 .und) v185_154) fun v189_155 =>
pld h152 none (fun v190_156 h157 =>
VL (lift2 (abin .sub) (w112.getD 1 .und) v190_156) fun v191_158 =>
VL (lift2 (abin .add) v191_158 (l113.getD 0 .und)) fun v193_159 =>
VL (lift2 (abin .rem) v193_159 (l113.getD 0 .und)) fun v195_160 =>
k118 [(l113.getD 0 .und), (l113.getD 1 .und), (l113.getD 2 .und), v185_154, v195_160, (l113.getD 3 .und), (l113.getD 4 .und), (l113.getD 5 .und), (l113.getD 6 .und), (w112.getD 2 .und)] h157) v189_155) [v179_146, v181_149]) v180_148) v178_145) (
VL (lift2 (abin .eql) v145_121 (.int .u8 87)) fun v197_161 =>
pcond (
VL (vfa 17 (l113.getD 4 .und)) fun v198_162 =>
pld h114 (some 16) (fun v199_163 h164 =>
VL (vfa 0 (l113.getD 4 .und)) fun v200_165 =>
pld h164 none (fun v201_166 h167 =>
pcal Tryd.prog 33 202 h167 (fun v202_168 h169 =>
VL (vixV 16 1 none v202_168 (w112.getD 0 .und)) fun v204_170 =>
VL (lift1 (acvi .i64) v204_170) fun v205_171 =>
VL (vixS 1 (l113.getD 2 .und) v205_171) fun v209_172 =>
pld h169 none (fun v210_173 h174 =>
VL (lift2 (abin .sub) (w112.getD 1 .und) v210_173) fun v211_175 =>
VL (lift2 (abin .add) v211_175 (l113.getD 0 .und)) fun v213_176 =>
VL (lift2 (abin .rem) v213_176 (l113.getD 0 .und)) fun v215_177 =>
k118 [(l113.getD 0 .und), (l113.getD 1 .und), (l113.getD 2 .und), v205_171, v215_177, (l113.getD 3 .und), (l113.getD 4 .und), (l113.getD 5 .und), (l113.getD 6 .und), (w112.getD 2 .und)] h174) v209_172) [v199_163, v201_166]) v200_165) v198_162) (
k118 [(l113.getD 0 .und), (l113.getD 1 .und), (l113.getD 2 .und), (w112.getD 0 .und), (w112.getD 1 .und), (l113.getD 3 .und), (l113.getD 4 .und), (l113.getD 5 .und), (l113.getD 6 .und), (w112.getD 2 .und)] h114) v197_161) v177_144) v162_133) v147_122) fun o119 h120 =>
VL (lift2 (abin .add) (o119.getD 9 .und) (.int .i64 1)) fun v142_178 =>
N115 [(o119.getD 3 .und), (o119.getD 4 .und), v142_178] [(o119.getD 0 .und), (o119.getD 1 .und), (o119.getD 2 .und), (o119.getD 5 .und), (o119.getD 6 .und), (o119.getD 7 .und), (o119.getD 8 .und)] h120) (
VL (lift2 (abin .add) (l113.getD 5 .und) (.int .i64 1)) fun v124_179 =>
N100 [(w112.getD 0 .und), (w112.getD 1 .und), v124_179] [(l113.getD 0 .und), (l113.getD 1 .und), (l113.getD 2 .und), (l113.getD 3 .und), (l113.getD 4 .und)] h114) v140_117) [(o107.getD 3 .und), (o107.getD 4 .und), (.int .i64 0)] [(o107.getD 0 .und), (o107.getD 1 .und), (o107.getD 2 .und), (o107.getD 5 .und), (o107.getD 6 .und), (o107.getD 7 .und), (o107.getD 8 .und)] h108) (vfill [(.int .u8 0)] [(0, 1, v127_103)])) (
pmks h99 218 2 2 2 (fun h180 =>
Rt h180 (.tup [(.rf 218 0 2), (.int .i64 0)])) (vfill [(.int .i64 0), (.int .i64 0)] [(0, 1, (w97.getD 0 .und)), (1, 1, (w97.getD 1 .und))])) v122_102) [(o6.getD 3 .und), (o6.getD 4 .und), (.int .i64 0)] [(o6.getD 0 .und), (o6.getD 1 .und), (o6.getD 2 .und), (o6.getD 5 .und), (o6.getD 6 .und)] h95) v118_96) (.ptr 81 0)) [v112_87, (o6.getD 5 .und)]) (o6.getD 6 .und)) v109_86) [v86_1, x1, x2, x3]) (.ptr 71 0)
theorem spec_WalkOf_f {x0 x1 x2 x3 x4 x5 x6 : V} : Prt Tryd.prog 9 [x0, x1, x2, x3, x4, x5, x6] (spec_WalkOf_F x0 x1 x2 x3 x4 x5 x6) := pfun (fn := Tryd.f9) (m := [.s, .s, .j [1, 2, 3, 4, 5, 6, 7, 16], .s, .s, .s, .s, .s, .s, .s, .s, .s, .s, .l [4, 5, 19] [1, 2, 3, 6, 7], .s, .s, .s, .s, .j [1, 2, 3, 4, 5, 6, 7, 19, 20], .s, .s, .s, .s, .l [4, 5, 21] [1, 2, 3, 6, 7, 19, 20], .s, .s, .j [1, 2, 3, 4, 5, 6, 7, 19, 20, 21], .s, .s, .s, .s, .s, .s, .s, .s, .s, .s]) (c := 7 ≤ 155) rfl (fun h0 Rt => by kernel_rfl) (by decide)

def laws_toDessin_F (x0 : V) (hi : Hp) (Rt : Hp → V → Prop) : Prop :=
pbox hi 65 24 (cellsV x0) fun h0 =>
palloc h0 66 30 ([(.int .i64 0)] ++ (vi .u8 (List.replicate 32 0))) fun h1 =>
palloc h1 67 30 ([(.int .i64 0)] ++ (vi .u8 (List.replicate 32 0))) fun h2 =>
pld h2 none (fun v69_3 h4 =>
pst h4 1 (cellsV v69_3) (fun u5 h6 =>
pld h6 (some 16) (fun v72_7 h8 =>
pcal Tryd.prog 34 73 h8 (fun v73_9 h10 =>
pst h10 16 (cellsV v73_9) (fun u11 h12 =>
pld h12 (some 16) (fun v76_13 h14 =>
pcal Tryd.prog 34 77 h14 (fun v77_15 h16 =>
pst h16 16 (cellsV v77_15) (fun u17 h18 =>
pld h18 (some 33) (fun v79_19 h20 =>
pst h20 33 (cellsV v79_19) (fun u21 h22 =>
VL (pcellV h22 (some 33) (.ptr 66 0)) fun r23 =>
Rt h22 r23) (.ptr 66 0)) (.ptr 67 0)) (.ptr 67 17)) [v76_13]) (.ptr 65 17)) (.ptr 67 1)) [v72_7]) (.ptr 65 1)) (.ptr 67 0)) (.ptr 65 0)
theorem laws_toDessin_f {x0 : V} : Prt Tryd.prog 10 [x0] (laws_toDessin_F x0) := pfun (fn := Tryd.f10) (m := [.s, .s, .s, .s, .s, .s]) (c := 1 ≤ 16) rfl (fun h0 Rt => by kernel_rfl) (by decide)

def laws_toInt64S_F (x0 : V) (hi : Hp) (Rt : Hp → V → Prop) : Prop :=
VL (vlenS x0) fun v70_0 =>
pmk hi 71 2 8 [(.int .i64 0)] (fun v71_1 h2 =>
LP [4] [0, 3] (fun w3 l4 h5 N6 =>
VL (vlenS (l4.getD 0 .und)) fun v74_7 =>
VL (lift2 (abin .lss) (w3.getD 0 .und) v74_7) fun v75_8 =>
pcond (
VL (vixS 1 (l4.getD 0 .und) (w3.getD 0 .und)) fun v82_9 =>
pld h5 none (fun v83_10 h11 =>
VL (vixS 1 (l4.getD 1 .und) (w3.getD 0 .und)) fun v84_12 =>
pst h11 1 (cellsV v83_10) (fun u13 h14 =>
VL (lift2 (abin .add) (w3.getD 0 .und) (.int .i64 1)) fun v77_15 =>
N6 [v77_15] [(l4.getD 0 .und), (l4.getD 1 .und)] h14) v84_12) v82_9) (
Rt h5 (l4.getD 1 .und)) v75_8) [(.int .i64 0)] [x0, v71_1] h2) v70_0 v70_0
theorem laws_toInt64S_f {x0 : V} : Prt Tryd.prog 11 [x0] (laws_toInt64S_F x0) := pfun (fn := Tryd.f11) (m := [.s, .s, .s, .s, .l [4] [0, 3], .s, .s, .s, .s]) (c := 1 ≤ 22) rfl (fun h0 Rt => by kernel_rfl) (by decide)

def impl_WalkOf_F (x0 x1 x2 x3 x4 x5 x6 : V) (hi : Hp) (Rt : Hp → V → Prop) : Prop :=
pbox hi 71 30 (cellsV x0) fun h0 =>
pbox h0 72 2 (cellsV x1) fun h1 =>
pbox h1 75 2 (cellsV x4) fun h2 =>
pbox h2 76 2 (cellsV x5) fun h3 =>
pld h3 (some 33) (fun v84_4 h5 =>
pld h5 none (fun v85_6 h7 =>
pcal Tryd.prog 35 88 h7 (fun v88_8 h9 =>
VL (lift2 (abin .neq) v88_8 (.int .i64 0)) fun v90_10 =>
pcond (
Rt h9 (.tup [.nils, v88_8])) (
pld h9 (some 33) (fun v93_11 h12 =>
pld h12 none (fun v94_13 h14 =>
pmks h14 95 2 1 1 (fun h15 =>
pcal Tryd.prog 36 96 h15 (fun v96_16 h17 =>
VL (lift1 (aun .not) v96_16) fun v97_18 =>
pgk false h17 (fun g19 k20 => pld h17 none (fun v99_21 h22 =>
k20 v99_21 h22) (.ptr 76 0)) (fun g23 v35_24 h25 =>
pgk false h25 (fun g26 k27 => VL (lift2 (abin .lss) v35_24 (.int .i64 0)) fun v100_28 =>
k27 v100_28 h25) (fun g29 v36_30 h31 =>
VL (vpick g29 (.bool true) v36_30) fun v101_32 =>
pgk false h31 (fun g33 k34 => pld h31 none (fun v103_35 h36 =>
k34 v103_35 h36) (.ptr 76 0)) (fun g37 v39_38 h39 =>
pgk false h39 (fun g40 k41 => pld h39 none (fun v104_42 h43 =>
k41 v104_42 h43) (.ptr 72 0)) (fun g44 v40_45 h46 =>
pgk false h46 (fun g47 k48 => VL (lift2 (abin .geq) v39_38 v40_45) fun v105_49 =>
k48 v105_49 h46) (fun g50 v41_51 h52 =>
VL (vpick g50 (.bool true) v41_51) fun v106_53 =>
pcond (
Rt h52 (.tup [.nils, (.int .i64 2)])) (
pcal Tryd.prog 37 109 h52 (fun v109_54 h55 =>
VL (lift1 (aun .not) v109_54) fun v110_56 =>
pcond (
Rt h55 (.tup [.nils, (.int .i64 6)])) (
VL (vmkf (.func 38) [] [(.ptr 76 0), (.ptr 75 0), (.ptr 72 0)]) fun v111_57 =>
VL (vmkf (.func 39) [] [(.ptr 71 0), (.ptr 75 0), (.ptr 76 0), (.ptr 72 0)]) fun v112_58 =>
VL (vlenT x6) fun v114_59 =>
LP [51] [2, 3, 6, 7, 11, 12, 17, 18, 50] (fun w60 l61 h62 N63 =>
VL (lift2 (abin .lss) (w60.getD 0 .und) (l61.getD 8 .und)) fun v116_64 =>
pcond (
JN (fun k65 =>
VL (vixT (l61.getD 2 .und) (w60.getD 0 .und)) fun v120_68 =>
VL (lift2 (abin .eql) v120_68 (.int .u8 98)) fun v122_69 =>
pcond (
VL (vfa 1 (l61.getD 3 .und)) fun v124_70 =>
pld h62 (some 16) (fun v125_71 h72 =>
pcallv Tryd.prog [v125_71, (l61.getD 0 .und)] 127 h72 (fun v127_73 h74 =>
k65 [(l61.getD 0 .und), (l61.getD 1 .und), (l61.getD 2 .und), (l61.getD 3 .und), (l61.getD 4 .und), (l61.getD 5 .und), (l61.getD 6 .und), (l61.getD 7 .und), (l61.getD 8 .und), (w60.getD 0 .und)] h74) (l61.getD 6 .und)) v124_70) (
VL (lift2 (abin .eql) v120_68 (.int .u8 119)) fun v129_75 =>
pcond (
VL (vfa 17 (l61.getD 3 .und)) fun v131_76 =>
pld h62 (some 16) (fun v132_77 h78 =>
pcallv Tryd.prog [v132_77, (l61.getD 1 .und)] 134 h78 (fun v134_79 h80 =>
k65 [(l61.getD 0 .und), (l61.getD 1 .und), (l61.getD 2 .und), (l61.getD 3 .und), (l61.getD 4 .und), (l61.getD 5 .und), (l61.getD 6 .und), (l61.getD 7 .und), (l61.getD 8 .und), (w60.getD 0 .und)] h80) (l61.getD 6 .und)) v131_76) (
VL (lift2 (abin .eql) v120_68 (.int .u8 102)) fun v136_81 =>
pcond (
VL (vfa 17 (l61.getD 3 .und)) fun v138_82 =>
pld h62 (some 16) (fun v139_83 h84 =>
pcallv Tryd.prog [v139_83, (l61.getD 1 .und)] 141 h84 (fun v141_85 h86 =>
VL (vfa 1 (l61.getD 3 .und)) fun v143_87 =>
pld h86 (some 16) (fun v144_88 h89 =>
pcallv Tryd.prog [v144_88, (l61.getD 0 .und)] 146 h89 (fun v146_90 h91 =>
k65 [(l61.getD 0 .und), (l61.getD 1 .und), (l61.getD 2 .und), (l61.getD 3 .und), (l61.getD 4 .und), (l61.getD 5 .und), (l61.getD 6 .und), (l61.getD 7 .und), (l61.getD 8 .und), (w60.getD 0 .und)] h91) (l61.getD 7 .und)) v143_87) (l61.getD 7 .und)) v138_82) (
VL (lift2 (abin .eql) v120_68 (.int .u8 66)) fun v148_92 =>
pcond (
VL (vfa 1 (l61.getD 3 .und)) fun v150_93 =>
pld h62 (some 16) (fun v151_94 h95 =>
pcallv Tryd.prog [v151_94, (l61.getD 0 .und)] 153 h95 (fun v153_96 h97 =>
k65 [(l61.getD 0 .und), (l61.getD 1 .und), (l61.getD 2 .und), (l61.getD 3 .und), (l61.getD 4 .und), (l61.getD 5 .und), (l61.getD 6 .und), (l61.getD 7 .und), (l61.getD 8 .und), (w60.getD 0 .und)] h97) (l61.getD 7 .und)) v150_93) (
VL (lift2 (abin .eql) v120_68 (.int .u8 87)) fun v155_98 =>
pcond (
VL (vfa 17 (l61.getD 3 .und)) fun v157_99 =>
pld h62 (some 16) (fun v158_100 h101 =>
pcallv Tryd.prog [v158_100, (l61.getD 1 .und)] 160 h101 (fun v160_102 h103 =>
k65 [(l61.getD 0 .und), (l61.getD 1 .und), (l61.getD 2 .und), (l61.getD 3 .und), (l61.getD 4 .und), (l61.getD 5 .und), (l61.getD 6 .und), (l61.getD 7 .und), (l61.getD 8 .und), (w60.getD 0 .und)] h103) (l61.getD 7 .und)) v157_99) (
VL (lift2 (abin .eql) v120_68 (.int .u8 70)) fun v162_104 =>
pcond (
VL (vfa 1 (l61.getD 3 .und)) fun v164_105 =>
pld h62 (some 16) (fun v165_106 h107 =>
pcallv Tryd.prog [v165_106, (l61.getD 0 .und)] 167 h107 (fun v167_108 h109 =>
VL (vfa 17 (l61.getD 3 .und)) fun v169_110 =>
pld h109 (some 16) (fun v170_111 h112 =>
pcallv Tryd.prog [v170_111, (l61.getD 1 .und)] 172 h112 (fun v172_113 h114 =>
k65 [(l61.getD 0 .und), (l61.getD 1 .und), (l61.getD 2 .und), (l61.getD 3 .und), (l61.getD 4 .und), (l61.getD 5 .und), (l61.getD 6 .und), (l61.getD 7 .und), (l61.getD 8 .und), (w60.getD 0 .und)] h114) (l61.getD 6 .und)) v169_110) (l61.getD 6 .und)) v164_105) (
k65 [(l61.getD 0 .und), (l61.getD 1 .und), (l61.getD 2 .und), (l61.getD 3 .und), (l61.getD 4 .und), (l61.getD 5 .und), (l61.getD 6 .und), (l61.getD 7 .und), (l61.getD 8 .und), (w60.getD 0 .und)] h62) v162_104) v155_98) v148_92) v136_81) v129_75) v122_69) fun o66 h67 =>
VL (lift2 (abin .add) (o66.getD 9 .und) (.int .i64 1)) fun v173_115 =>
N63 [v173_115] [(o66.getD 0 .und), (o66.getD 1 .und), (o66.getD 2 .und), (o66.getD 3 .und), (o66.getD 4 .und), (o66.getD 5 .und), (o66.getD 6 .und), (o66.getD 7 .und), (o66.getD 8 .und)] h67) (
pld h62 none (fun v174_116 h117 =>
pld h117 none (fun v175_118 h119 =>
pmks h119 176 2 2 2 (fun h120 =>
Rt h120 (.tup [(.rf 176 0 2), (.int .i64 0)])) (vfill [(.int .i64 0), (.int .i64 0)] [(0, 1, v174_116), (1, 1, v175_118)])) (l61.getD 5 .und)) (l61.getD 4 .und)) v116_64) [(.int .i64 0)] [x2, x3, x6, (.ptr 71 0), (.ptr 75 0), (.ptr 76 0), v111_57, v112_58, v114_59] h55) v110_56) [x6]) v106_53) g44) g37) v101_32) g23) v97_18) [v93_11, (.rf 95 0 1)]) (vfill [(.int .i64 0)] [(0, 1, v94_13)])) (.ptr 75 0)) (.ptr 71 0)) v90_10) [v84_4, v85_6, x2, x3]) (.ptr 72 0)) (.ptr 71 0)
theorem impl_WalkOf_f {x0 x1 x2 x3 x4 x5 x6 : V} : Prt Tryd.prog 12 [x0, x1, x2, x3, x4, x5, x6] (impl_WalkOf_F x0 x1 x2 x3 x4 x5 x6) := pfun (fn := Tryd.f12) (m := [.s, .s, .s, .s, .s, .s, .s, .s, .s, .s, .s, .s, .s, .s, .l [51] [2, 3, 6, 7, 11, 12, 17, 18, 50], .s, .s, .j [2, 3, 6, 7, 11, 12, 17, 18, 50, 51], .s, .s, .s, .s, .s, .s, .s, .s, .s, .s, .s]) (c := 7 ≤ 113) rfl (fun h0 Rt => by kernel_rfl) (by decide)

def laws_eqInt64S_F (x0 x1 : V) (hi : Hp) (Rt : Hp → V → Prop) : Prop :=
VL (vlenS x0) fun v71_0 =>
VL (vlenS x1) fun v73_1 =>
VL (lift2 (abin .neq) v71_0 v73_1) fun v74_2 =>
pcond (
Rt hi (.bool false)) (
LP [5] [0, 1] (fun w3 l4 h5 N6 =>
VL (vlenS (l4.getD 0 .und)) fun v77_7 =>
VL (lift2 (abin .lss) (w3.getD 0 .und) v77_7) fun v78_8 =>
pcond (
VL (vixS 1 (l4.getD 0 .und) (w3.getD 0 .und)) fun v83_9 =>
pld h5 none (fun v84_10 h11 =>
VL (vixS 1 (l4.getD 1 .und) (w3.getD 0 .und)) fun v87_12 =>
pld h11 none (fun v88_13 h14 =>
VL (lift2 (abin .neq) v84_10 v88_13) fun v89_15 =>
pcond (
Rt h14 (.bool false)) (
VL (lift2 (abin .add) (w3.getD 0 .und) (.int .i64 1)) fun v80_16 =>
N6 [v80_16] [(l4.getD 0 .und), (l4.getD 1 .und)] h14) v89_15) v87_12) v83_9) (
Rt h5 (.bool true)) v78_8) [(.int .i64 0)] [x0, x1] hi) v74_2
theorem laws_eqInt64S_f {x0 x1 : V} : Prt Tryd.prog 13 [x0, x1] (laws_eqInt64S_F x0 x1) := pfun (fn := Tryd.f13) (m := [.s, .s, .s, .s, .s, .s, .l [5] [0, 1], .s, .s, .s, .s, .s, .s]) (c := 2 ≤ 26) rfl (fun h0 Rt => by kernel_rfl) (by decide)

def laws_markInt64S_F (x0 x1 : V) (hi : Hp) (Rt : Hp → V → Prop) : Prop :=
LP [1, 5] [0] (fun w0 l1 h2 N3 =>
VL (vlenS (l1.getD 0 .und)) fun v72_4 =>
VL (lift2 (abin .lss) (w0.getD 1 .und) v72_4) fun v73_5 =>
pcond (
VL (vixS 1 (l1.getD 0 .und) (w0.getD 1 .und)) fun v79_6 =>
pst h2 1 (cellsV (w0.getD 0 .und)) (fun u7 h8 =>
VL (lift2 (abin .add) (w0.getD 0 .und) (.int .i64 1)) fun v81_9 =>
VL (lift2 (abin .add) (w0.getD 1 .und) (.int .i64 1)) fun v75_10 =>
N3 [v81_9, v75_10] [(l1.getD 0 .und)] h8) v79_6) (
Rt h2 (w0.getD 0 .und)) v73_5) [x1, (.int .i64 0)] [x0] hi
theorem laws_markInt64S_f {x0 x1 : V} : Prt Tryd.prog 14 [x0, x1] (laws_markInt64S_F x0 x1) := pfun (fn := Tryd.f14) (m := [.s, .s, .s, .l [1, 5] [0], .s, .s, .s, .s, .s]) (c := 2 ≤ 19) rfl (fun h0 Rt => by kernel_rfl) (by decide)

def laws_heldInt64S_F (x0 x1 : V) (hi : Hp) (Rt : Hp → V → Prop) : Prop :=
LP [1, 5] [0] (fun w0 l1 h2 N3 =>
VL (vlenS (l1.getD 0 .und)) fun v72_4 =>
VL (lift2 (abin .lss) (w0.getD 1 .und) v72_4) fun v73_5 =>
pcond (
VL (vixS 1 (l1.getD 0 .und) (w0.getD 1 .und)) fun v78_6 =>
pld h2 none (fun v79_7 h8 =>
VL (lift2 (abin .neq) v79_7 (w0.getD 0 .und)) fun v81_9 =>
pcond (
Rt h8 (.int .i64 (-1))) (
VL (lift2 (abin .add) (w0.getD 0 .und) (.int .i64 1)) fun v83_10 =>
VL (lift2 (abin .add) (w0.getD 1 .und) (.int .i64 1)) fun v75_11 =>
N3 [v83_10, v75_11] [(l1.getD 0 .und)] h8) v81_9) v78_6) (
Rt h2 (w0.getD 0 .und)) v73_5) [x1, (.int .i64 0)] [x0] hi
theorem laws_heldInt64S_f {x0 x1 : V} : Prt Tryd.prog 15 [x0, x1] (laws_heldInt64S_F x0 x1) := pfun (fn := Tryd.f15) (m := [.s, .s, .s, .l [1, 5] [0], .s, .s, .s, .s, .s, .s, .s]) (c := 2 ≤ 21) rfl (fun h0 Rt => by kernel_rfl) (by decide)

def spec_IsWord_F (x0 : V) (hi : Hp) (Rt : Hp → V → Prop) : Prop :=
pcal Tryd.prog 41 68 hi (fun v68_0 h1 =>
Rt h1 v68_0) [x0]
theorem spec_IsWord_f {x0 : V} : Prt Tryd.prog 16 [x0] (spec_IsWord_F x0) := pfun (fn := Tryd.f16) (m := [.s, .s]) (c := 1 ≤ 5) rfl (fun h0 Rt => by kernel_rfl) (by decide)

def impl_IsWord_F (x0 : V) (hi : Hp) (Rt : Hp → V → Prop) : Prop :=
VL (vlenT x0) fun v68_0 =>
VL (lift2 (abin .leq) v68_0 (.int .i64 60)) fun v69_1 =>
pgk true hi (fun g2 k3 => k3 x0 hi) (fun g4 v7_5 h6 =>
pgk true h6 (fun g7 k8 => pcal Tryd.prog 42 72 h6 (fun v72_9 h10 =>
k8 v72_9 h10) [v7_5, (.str [120, 121, 88, 89])]) (fun g11 v8_12 h13 =>
pgk true h13 (fun g14 k15 => VL (lift2 (abin .eql) v8_12 (.str [])) fun v73_16 =>
k15 v73_16 h13) (fun g17 v9_18 h19 =>
VL (vpick g17 v9_18 (.bool false)) fun v74_20 =>
Rt h19 v74_20) g11) g4) v69_1
theorem impl_IsWord_f {x0 : V} : Prt Tryd.prog 17 [x0] (impl_IsWord_F x0) := pfun (fn := Tryd.f17) (m := [.s, .s]) (c := 1 ≤ 11) rfl (fun h0 Rt => by kernel_rfl) (by decide)

def spec_InverseWord_F (x0 : V) (hi : Hp) (Rt : Hp → V → Prop) : Prop :=
pcal Tryd.prog 41 69 hi (fun v69_0 h1 =>
VL (lift1 (aun .not) v69_0) fun v70_2 =>
pcond (
Rt h1 (.tup [(.str []), (.int .i64 1)])) (
pcal Tryd.prog 43 72 h1 (fun v72_3 h4 =>
Rt h4 (.tup [v72_3, (.int .i64 0)])) [x0]) v70_2) [x0]
theorem spec_InverseWord_f {x0 : V} : Prt Tryd.prog 18 [x0] (spec_InverseWord_F x0) := pfun (fn := Tryd.f18) (m := [.s, .s, .s, .s, .s]) (c := 1 ≤ 9) rfl (fun h0 Rt => by kernel_rfl) (by decide)

def impl_InverseWord_F (x0 : V) (hi : Hp) (Rt : Hp → V → Prop) : Prop :=
pcal Tryd.prog 17 69 hi (fun v69_0 h1 =>
VL (lift1 (aun .not) v69_0) fun v70_2 =>
pcond (
Rt h1 (.tup [(.str []), (.int .i64 1)])) (
pcal Tryd.prog 44 72 h1 (fun v72_3 h4 =>
Rt h4 (.tup [v72_3, (.int .i64 0)])) [x0]) v70_2) [x0]
theorem impl_InverseWord_f {x0 : V} : Prt Tryd.prog 19 [x0] (impl_InverseWord_F x0) := pfun (fn := Tryd.f19) (m := [.s, .s, .s, .s, .s]) (c := 1 ≤ 9) rfl (fun h0 Rt => by kernel_rfl) (by decide)

def spec_ReduceWord_F (x0 : V) (hi : Hp) (Rt : Hp → V → Prop) : Prop :=
pcal Tryd.prog 41 69 hi (fun v69_0 h1 =>
VL (lift1 (aun .not) v69_0) fun v70_2 =>
pcond (
Rt h1 (.tup [(.str []), (.int .i64 1)])) (
pcal Tryd.prog 45 72 h1 (fun v72_3 h4 =>
Rt h4 (.tup [v72_3, (.int .i64 0)])) [x0]) v70_2) [x0]
theorem spec_ReduceWord_f {x0 : V} : Prt Tryd.prog 20 [x0] (spec_ReduceWord_F x0) := pfun (fn := Tryd.f20) (m := [.s, .s, .s, .s, .s]) (c := 1 ≤ 9) rfl (fun h0 Rt => by kernel_rfl) (by decide)

def impl_ReduceWord_F (x0 : V) (hi : Hp) (Rt : Hp → V → Prop) : Prop :=
pcal Tryd.prog 17 69 hi (fun v69_0 h1 =>
VL (lift1 (aun .not) v69_0) fun v70_2 =>
pcond (
Rt h1 (.tup [(.str []), (.int .i64 1)])) (
pcal Tryd.prog 46 72 h1 (fun v72_3 h4 =>
Rt h4 (.tup [v72_3, (.int .i64 0)])) [x0]) v70_2) [x0]
theorem impl_ReduceWord_f {x0 : V} : Prt Tryd.prog 21 [x0] (impl_ReduceWord_F x0) := pfun (fn := Tryd.f21) (m := [.s, .s, .s, .s, .s]) (c := 1 ≤ 9) rfl (fun h0 Rt => by kernel_rfl) (by decide)

def spec_WordPlaces_F (x0 x1 : V) (hi : Hp) (Rt : Hp → V → Prop) : Prop :=
pbox hi 66 30 (cellsV x0) fun h0 =>
palloc h0 68 28 (vi .u8 (List.replicate 16 0)) fun h1 =>
pld h1 (some 33) (fun v70_2 h3 =>
pcal Tryd.prog 47 71 h3 (fun v71_4 h5 =>
VL (lift1 (aun .not) v71_4) fun v72_6 =>
pgk false h5 (fun g7 k8 => k8 x1 h5) (fun g9 v10_10 h11 =>
pgk false h11 (fun g12 k13 => pcal Tryd.prog 41 75 h11 (fun v75_14 h15 =>
k13 v75_14 h15) [v10_10]) (fun g16 v11_17 h18 =>
pgk false h18 (fun g19 k20 => VL (lift1 (aun .not) v11_17) fun v76_21 =>
k20 v76_21 h18) (fun g22 v12_23 h24 =>
VL (vpick g22 (.bool true) v12_23) fun v77_25 =>
pcond (
VL (vbld (vfill (vi .u8 (List.replicate 16 0)) [])) fun v78_26 =>
pst h24 16 (cellsV v78_26) (fun u27 h28 =>
VL (pcellV h28 (some 16) (.ptr 68 0)) fun r29 =>
Rt h28 (.tup [r29, (.int .i64 1)])) (.ptr 68 0)) (
pld h24 (some 33) (fun v79_30 h31 =>
pcal Tryd.prog 48 81 h31 (fun v81_32 h33 =>
pst h33 16 (cellsV v81_32) (fun u34 h35 =>
VL (pcellV h35 (some 16) (.ptr 68 0)) fun r36 =>
Rt h35 (.tup [r36, (.int .i64 0)])) (.ptr 68 0)) [v79_30, x1]) (.ptr 66 0)) v77_25) g16) g9) v72_6) [v70_2]) (.ptr 66 0)
theorem spec_WordPlaces_f {x0 x1 : V} : Prt Tryd.prog 22 [x0, x1] (spec_WordPlaces_F x0 x1) := pfun (fn := Tryd.f22) (m := [.s, .s, .s, .s, .s]) (c := 2 ≤ 18) rfl (fun h0 Rt => by kernel_rfl) (by decide)

def impl_WordPlaces_F (x0 x1 : V) (hi : Hp) (Rt : Hp → V → Prop) : Prop :=
pbox hi 66 30 (cellsV x0) fun h0 =>
palloc h0 68 28 (vi .u8 (List.replicate 16 0)) fun h1 =>
pcal Tryd.prog 17 71 h1 (fun v71_2 h3 =>
VL (lift1 (aun .not) v71_2) fun v72_4 =>
pgk false h3 (fun g5 k6 => pld h3 (some 33) (fun v74_7 h8 =>
k6 v74_7 h8) (.ptr 66 0)) (fun g9 v10_10 h11 =>
pgk false h11 (fun g12 k13 => pcal Tryd.prog 49 75 h11 (fun v75_14 h15 =>
k13 v75_14 h15) [v10_10]) (fun g16 v11_17 h18 =>
pgk false h18 (fun g19 k20 => VL (lift1 (aun .not) v11_17) fun v76_21 =>
k20 v76_21 h18) (fun g22 v12_23 h24 =>
VL (vpick g22 (.bool true) v12_23) fun v77_25 =>
pcond (
VL (vbld (vfill (vi .u8 (List.replicate 16 0)) [])) fun v78_26 =>
pst h24 16 (cellsV v78_26) (fun u27 h28 =>
VL (pcellV h28 (some 16) (.ptr 68 0)) fun r29 =>
Rt h28 (.tup [r29, (.int .i64 1)])) (.ptr 68 0)) (
pld h24 (some 33) (fun v79_30 h31 =>
pcal Tryd.prog 50 81 h31 (fun v81_32 h33 =>
pst h33 16 (cellsV v81_32) (fun u34 h35 =>
VL (pcellV h35 (some 16) (.ptr 68 0)) fun r36 =>
Rt h35 (.tup [r36, (.int .i64 0)])) (.ptr 68 0)) [v79_30, x1]) (.ptr 66 0)) v77_25) g16) g9) v72_4) [x1]
theorem impl_WordPlaces_f {x0 x1 : V} : Prt Tryd.prog 23 [x0, x1] (impl_WordPlaces_F x0 x1) := pfun (fn := Tryd.f23) (m := [.s, .s, .s, .s, .s]) (c := 2 ≤ 18) rfl (fun h0 Rt => by kernel_rfl) (by decide)

def laws_eqPlaces_F (x0 x1 : V) (hi : Hp) (Rt : Hp → V → Prop) : Prop :=
pbox hi 66 28 (cellsV x0) fun h0 =>
pbox h0 67 28 (cellsV x1) fun h1 =>
LP [5] [2, 3] (fun w2 l3 h4 N5 =>
VL (lift2 (abin .lss) (w2.getD 0 .und) (.int .i64 16)) fun v71_6 =>
pcond (
VL (vixA 16 1 (l3.getD 0 .und) (w2.getD 0 .und)) fun v75_7 =>
pld h4 none (fun v76_8 h9 =>
VL (vixA 16 1 (l3.getD 1 .und) (w2.getD 0 .und)) fun v78_10 =>
pld h9 none (fun v79_11 h12 =>
VL (lift2 (abin .neq) v76_8 v79_11) fun v80_13 =>
pcond (
Rt h12 (.bool false)) (
VL (lift2 (abin .add) (w2.getD 0 .und) (.int .i64 1)) fun v73_14 =>
N5 [v73_14] [(l3.getD 0 .und), (l3.getD 1 .und)] h12) v80_13) v78_10) v75_7) (
Rt h4 (.bool true)) v71_6) [(.int .i64 0)] [(.ptr 66 0), (.ptr 67 0)] h1
theorem laws_eqPlaces_f {x0 x1 : V} : Prt Tryd.prog 24 [x0, x1] (laws_eqPlaces_F x0 x1) := pfun (fn := Tryd.f24) (m := [.s, .s, .s, .l [5] [2, 3], .s, .s, .s, .s, .s, .s]) (c := 2 ≤ 17) rfl (fun h0 Rt => by kernel_rfl) (by decide)

def laws_szStringS_F (x0 x1 : V) (hi : Hp) (Rt : Hp → V → Prop) : Prop :=
VL (vlenS x0) fun v72_0 =>
VL (lift2 (abin .sub) x1 v72_0) fun v73_1 =>
VL (lift2 (abin .lss) v73_1 (.int .i64 0)) fun v75_2 =>
pcond (
Rt hi (.int .i64 (-1))) (
LP [1, 5] [0] (fun w3 l4 h5 N6 =>
VL (vlenS (l4.getD 0 .und)) fun v78_7 =>
VL (lift2 (abin .lss) (w3.getD 1 .und) v78_7) fun v79_8 =>
pcond (
VL (vixS 1 (l4.getD 0 .und) (w3.getD 1 .und)) fun v85_9 =>
pld h5 none (fun v86_10 h11 =>
VL (vlenT v86_10) fun v87_12 =>
VL (lift2 (abin .sub) (w3.getD 0 .und) v87_12) fun v88_13 =>
VL (lift2 (abin .lss) v88_13 (.int .i64 0)) fun v90_14 =>
pcond (
Rt h11 (.int .i64 (-1))) (
VL (lift2 (abin .add) (w3.getD 1 .und) (.int .i64 1)) fun v81_15 =>
N6 [v88_13, v81_15] [(l4.getD 0 .und)] h11) v90_14) v85_9) (
Rt h5 (w3.getD 0 .und)) v79_8) [v73_1, (.int .i64 0)] [x0] hi) v75_2
theorem laws_szStringS_f {x0 x1 : V} : Prt Tryd.prog 25 [x0, x1] (laws_szStringS_F x0 x1) := pfun (fn := Tryd.f25) (m := [.s, .s, .s, .s, .s, .s, .s, .l [1, 5] [0], .s, .s, .s, .s, .s, .s, .s]) (c := 2 ≤ 28) rfl (fun h0 Rt => by kernel_rfl) (by decide)

def spec_SatisfiesRelations_F (x0 x1 : V) (hi : Hp) (Rt : Hp → V → Prop) : Prop :=
pbox hi 66 30 (cellsV x0) fun h0 =>
pld h0 (some 33) (fun v71_1 h2 =>
pcal Tryd.prog 47 72 h2 (fun v72_3 h4 =>
VL (lift1 (aun .not) v72_3) fun v73_5 =>
pcond (
Rt h4 (.tup [(.bool false), (.int .i64 1)])) (
pmks h4 75 43 1 1 (fun h6 =>
pcal Tryd.prog 51 76 h6 (fun v76_7 h8 =>
VL (lift2 (abin .neq) v76_7 (.int .i64 0)) fun v78_9 =>
pcond (
Rt h8 (.tup [(.bool false), v76_7])) (
pld h8 (some 33) (fun v80_10 h11 =>
pcal Tryd.prog 52 82 h11 (fun v82_12 h13 =>
Rt h13 (.tup [v82_12, (.int .i64 0)])) [v80_10, x1]) (.ptr 66 0)) v78_9) [(.rf 75 0 1)]) (vfill [.nils] [(0, 1, x1)])) v73_5) [v71_1]) (.ptr 66 0)
theorem spec_SatisfiesRelations_f {x0 x1 : V} : Prt Tryd.prog 26 [x0, x1] (spec_SatisfiesRelations_F x0 x1) := pfun (fn := Tryd.f26) (m := [.s, .s, .s, .s, .s, .s, .s, .s, .s]) (c := 2 ≤ 19) rfl (fun h0 Rt => by kernel_rfl) (by decide)

def laws_toStringS_F (x0 : V) (hi : Hp) (Rt : Hp → V → Prop) : Prop :=
VL (vlenS x0) fun v70_0 =>
pmk hi 71 9 16 [(.str [])] (fun v71_1 h2 =>
LP [4] [0, 3] (fun w3 l4 h5 N6 =>
VL (vlenS (l4.getD 0 .und)) fun v74_7 =>
VL (lift2 (abin .lss) (w3.getD 0 .und) v74_7) fun v75_8 =>
pcond (
VL (vixS 1 (l4.getD 0 .und) (w3.getD 0 .und)) fun v82_9 =>
pld h5 none (fun v83_10 h11 =>
VL (vixS 1 (l4.getD 1 .und) (w3.getD 0 .und)) fun v84_12 =>
pst h11 1 (cellsV v83_10) (fun u13 h14 =>
VL (lift2 (abin .add) (w3.getD 0 .und) (.int .i64 1)) fun v77_15 =>
N6 [v77_15] [(l4.getD 0 .und), (l4.getD 1 .und)] h14) v84_12) v82_9) (
Rt h5 (l4.getD 1 .und)) v75_8) [(.int .i64 0)] [x0, v71_1] h2) v70_0 v70_0
theorem laws_toStringS_f {x0 : V} : Prt Tryd.prog 27 [x0] (laws_toStringS_F x0) := pfun (fn := Tryd.f27) (m := [.s, .s, .s, .s, .l [4] [0, 3], .s, .s, .s, .s]) (c := 1 ≤ 22) rfl (fun h0 Rt => by kernel_rfl) (by decide)

def impl_SatisfiesRelations_F (x0 x1 : V) (hi : Hp) (Rt : Hp → V → Prop) : Prop :=
pbox hi 66 30 (cellsV x0) fun h0 =>
pcal Tryd.prog 53 72 h0 (fun v72_1 h2 =>
VL (lift1 (aun .not) v72_1) fun v73_3 =>
pgk false h2 (fun g4 k5 => pld h2 (some 33) (fun v75_6 h7 =>
k5 v75_6 h7) (.ptr 66 0)) (fun g8 v11_9 h10 =>
pgk false h10 (fun g11 k12 => pcal Tryd.prog 49 76 h10 (fun v76_13 h14 =>
k12 v76_13 h14) [v11_9]) (fun g15 v12_16 h17 =>
pgk false h17 (fun g18 k19 => VL (lift1 (aun .not) v12_16) fun v77_20 =>
k19 v77_20 h17) (fun g21 v13_22 h23 =>
VL (vpick g21 (.bool true) v13_22) fun v78_24 =>
pcond (
Rt h23 (.tup [(.bool false), (.int .i64 1)])) (
VL (vlenS x1) fun v81_25 =>
VL (lift2 (abin .gtr) v81_25 (.int .i64 20)) fun v82_26 =>
pcond (
Rt h23 (.tup [(.bool false), (.int .i64 2)])) (
pld h23 (some 33) (fun v83_27 h28 =>
pcal Tryd.prog 54 85 h28 (fun v85_29 h30 =>
Rt h30 (.tup [v85_29, (.int .i64 0)])) [v83_27, x1]) (.ptr 66 0)) v82_26) v78_24) g15) g8) v73_3) [x1]
theorem impl_SatisfiesRelations_f {x0 x1 : V} : Prt Tryd.prog 28 [x0, x1] (impl_SatisfiesRelations_F x0 x1) := pfun (fn := Tryd.f28) (m := [.s, .s, .s, .s, .s, .s, .s]) (c := 2 ≤ 22) rfl (fun h0 Rt => by kernel_rfl) (by decide)

def laws_eqStringS_F (x0 x1 : V) (hi : Hp) (Rt : Hp → V → Prop) : Prop :=
VL (vlenS x0) fun v71_0 =>
VL (vlenS x1) fun v73_1 =>
VL (lift2 (abin .neq) v71_0 v73_1) fun v74_2 =>
pcond (
Rt hi (.bool false)) (
LP [5] [0, 1] (fun w3 l4 h5 N6 =>
VL (vlenS (l4.getD 0 .und)) fun v77_7 =>
VL (lift2 (abin .lss) (w3.getD 0 .und) v77_7) fun v78_8 =>
pcond (
VL (vixS 1 (l4.getD 0 .und) (w3.getD 0 .und)) fun v83_9 =>
pld h5 none (fun v84_10 h11 =>
VL (vixS 1 (l4.getD 1 .und) (w3.getD 0 .und)) fun v87_12 =>
pld h11 none (fun v88_13 h14 =>
VL (lift2 (abin .neq) v84_10 v88_13) fun v89_15 =>
pcond (
Rt h14 (.bool false)) (
VL (lift2 (abin .add) (w3.getD 0 .und) (.int .i64 1)) fun v80_16 =>
N6 [v80_16] [(l4.getD 0 .und), (l4.getD 1 .und)] h14) v89_15) v87_12) v83_9) (
Rt h5 (.bool true)) v78_8) [(.int .i64 0)] [x0, x1] hi) v74_2
theorem laws_eqStringS_f {x0 x1 : V} : Prt Tryd.prog 29 [x0, x1] (laws_eqStringS_F x0 x1) := pfun (fn := Tryd.f29) (m := [.s, .s, .s, .s, .s, .s, .l [5] [0, 1], .s, .s, .s, .s, .s, .s]) (c := 2 ≤ 26) rfl (fun h0 Rt => by kernel_rfl) (by decide)

def spec_l09Code_F (x0 x1 x2 x3 : V) (hi : Hp) (Rt : Hp → V → Prop) : Prop :=
pbox hi 68 30 (cellsV x0) fun h0 =>
pld h0 (some 33) (fun v74_1 h2 =>
pcal Tryd.prog 47 75 h2 (fun v75_3 h4 =>
VL (lift1 (aun .not) v75_3) fun v76_5 =>
pcond (
Rt h4 (.int .i64 1)) (
pcal Tryd.prog 31 79 h4 (fun v79_6 h7 =>
VL (lift1 (aun .not) v79_6) fun v80_8 =>
pgk false h7 (fun g9 k10 => k10 x2 h7) (fun g11 v18_12 h13 =>
pgk false h13 (fun g14 k15 => k15 (.ptr 68 0) h13) (fun g16 v19_17 h18 =>
pgk false h18 (fun g19 k20 => pld h18 none (fun v84_21 h22 =>
k20 v84_21 h22) v19_17) (fun g23 v20_24 h25 =>
pgk false h25 (fun g26 k27 => k27 x1 h25) (fun g28 v21_29 h30 =>
pgk false h30 (fun g31 k32 => VL (lift2 (abin .sub) v21_29 (.int .i64 1)) fun v86_33 =>
k32 v86_33 h30) (fun g34 v22_35 h36 =>
pgk false h36 (fun g37 k38 => pcal Tryd.prog 55 87 h36 (fun v87_39 h40 =>
k38 v87_39 h40) [v18_12, v20_24, (.int .i64 0), v22_35]) (fun g41 v23_42 h43 =>
pgk false h43 (fun g44 k45 => VL (lift1 (aun .not) v23_42) fun v88_46 =>
k45 v88_46 h43) (fun g47 v24_48 h49 =>
VL (vpick g47 (.bool true) v24_48) fun v89_50 =>
pgk false h49 (fun g51 k52 => k52 x3 h49) (fun g53 v27_54 h55 =>
pgk false h55 (fun g56 k57 => k57 (.ptr 68 0) h55) (fun g58 v28_59 h60 =>
pgk false h60 (fun g61 k62 => pld h60 none (fun v93_63 h64 =>
k62 v93_63 h64) v28_59) (fun g65 v29_66 h67 =>
pgk false h67 (fun g68 k69 => k69 x1 h67) (fun g70 v30_71 h72 =>
pgk false h72 (fun g73 k74 => VL (lift2 (abin .sub) v30_71 (.int .i64 1)) fun v95_75 =>
k74 v95_75 h72) (fun g76 v31_77 h78 =>
pgk false h78 (fun g79 k80 => pcal Tryd.prog 55 96 h78 (fun v96_81 h82 =>
k80 v96_81 h82) [v27_54, v29_66, (.int .i64 0), v31_77]) (fun g83 v32_84 h85 =>
pgk false h85 (fun g86 k87 => VL (lift1 (aun .not) v32_84) fun v97_88 =>
k87 v97_88 h85) (fun g89 v33_90 h91 =>
VL (vpick g89 (.bool true) v33_90) fun v98_92 =>
pcond (
Rt h91 (.int .i64 2)) (
Rt h91 (.int .i64 0)) v98_92) g83) g76) g70) g65) g58) g53) v89_50) g41) g34) g28) g23) g16) g11) v80_8) [x1, (.int .i64 1), (.int .i64 16)]) v76_5) [v74_1]) (.ptr 68 0)
theorem spec_l09Code_f {x0 x1 x2 x3 : V} : Prt Tryd.prog 30 [x0, x1, x2, x3] (spec_l09Code_F x0 x1 x2 x3) := pfun (fn := Tryd.f30) (m := [.s, .s, .s, .s, .s, .s, .s]) (c := 4 ≤ 35) rfl (fun h0 Rt => by kernel_rfl) (by decide)

def spec_l01In_F (x0 x1 x2 : V) (hi : Hp) (Rt : Hp → V → Prop) : Prop :=
VL (lift2 (abin .geq) x0 x1) fun v73_0 =>
pgk true hi (fun g1 k2 => k2 x0 hi) (fun g3 v11_4 h5 =>
pgk true h5 (fun g6 k7 => k7 x2 h5) (fun g8 v12_9 h10 =>
pgk true h10 (fun g11 k12 => VL (lift2 (abin .leq) v11_4 v12_9) fun v77_13 =>
k12 v77_13 h10) (fun g14 v13_15 h16 =>
VL (vpick g14 v13_15 (.bool false)) fun v78_17 =>
Rt h16 v78_17) g8) g3) v73_0
theorem spec_l01In_f {x0 x1 x2 : V} : Prt Tryd.prog 31 [x0, x1, x2] (spec_l01In_F x0 x1 x2) := pfun (fn := Tryd.f31) (m := [.s, .s]) (c := 3 ≤ 15) rfl (fun h0 Rt => by kernel_rfl) (by decide)

def spec_l03Value_F (x0 x1 : V) (hi : Hp) (Rt : Hp → V → Prop) : Prop :=
pbox hi 66 30 (cellsV x0) fun h0 =>
palloc h0 68 28 (vi .u8 (List.replicate 16 0)) fun h1 =>
VL (vlenT x1) fun v76_2 =>
VL (lift2 (abin .gtr) v76_2 (.int .i64 60)) fun v77_3 =>
pcond (
VL (vbld (vfill (vi .u8 (List.replicate 16 0)) [])) fun v78_4 =>
pst h1 16 (cellsV v78_4) (fun u5 h6 =>
VL (pcellV h6 (some 16) (.ptr 68 0)) fun r7 =>
Rt h6 (.tup [r7, (.bool false)])) (.ptr 68 0)) (
pld h1 none (fun v80_8 h9 =>
pld h9 (some 33) (fun v81_10 h11 =>
pld h11 none (fun v84_12 h13 =>
pcalp Tryd.prog 56 82 h13 (fun v82_14 h15 =>
pcalp Tryd.prog 57 85 h15 (fun v85_16 h17 =>
palloc h17 71 28 (vi .u8 (List.replicate 16 0)) fun h18 =>
palloc h18 72 28 (vi .u8 (List.replicate 16 0)) fun h19 =>
pst h19 16 (cellsV v82_14) (fun u20 h21 =>
pst h21 16 (cellsV v85_16) (fun u22 h23 =>
LP [9] [1, 2, 4, 6, 7, 8] (fun w24 l25 h26 N27 =>
VL (vlenT (l25.getD 0 .und)) fun v88_28 =>
VL (lift2 (abin .lss) (w24.getD 0 .und) v88_28) fun v89_29 =>
pcond (
VL (vbld (vfill (vi .u8 (List.replicate 16 0)) [])) fun v92_30 =>
palloc h26 74 28 (vi .u8 (List.replicate 16 0)) fun h31 =>
pst h31 16 (cellsV v92_30) (fun u32 h33 =>
JN (fun k34 =>
VL (vixT (l25.getD 0 .und) (w24.getD 0 .und)) fun v95_37 =>
JN (fun k38 =>
VL (lift2 (abin .eql) v95_37 (.int .u8 98)) fun v98_41 =>
pcond (
k38 [(l25.getD 0 .und), (l25.getD 1 .und), (l25.getD 2 .und), (l25.getD 3 .und), (l25.getD 4 .und), (l25.getD 5 .und), (w24.getD 0 .und), (.ptr 74 0), v95_37, v98_41] h33) (
VL (lift2 (abin .eql) v95_37 (.int .u8 66)) fun v99_42 =>
k38 [(l25.getD 0 .und), (l25.getD 1 .und), (l25.getD 2 .und), (l25.getD 3 .und), (l25.getD 4 .und), (l25.getD 5 .und), (w24.getD 0 .und), (.ptr 74 0), v95_37, v99_42] h33) v98_41) fun o39 h40 =>
pcond (
VL (vfa 1 (o39.getD 1 .und)) fun v100_43 =>
pld h40 (some 16) (fun v101_44 h45 =>
pst h45 16 (cellsV v101_44) (fun u46 h47 =>
k34 [(o39.getD 0 .und), (o39.getD 1 .und), (o39.getD 2 .und), (o39.getD 3 .und), (o39.getD 4 .und), (o39.getD 5 .und), (o39.getD 6 .und), (o39.getD 7 .und)] h47) (o39.getD 7 .und)) v100_43) (
JN (fun k48 =>
VL (lift2 (abin .eql) (o39.getD 8 .und) (.int .u8 119)) fun v103_51 =>
pcond (
k48 [(o39.getD 0 .und), (o39.getD 1 .und), (o39.getD 2 .und), (o39.getD 3 .und), (o39.getD 4 .und), (o39.getD 5 .und), (o39.getD 6 .und), (o39.getD 7 .und), (o39.getD 8 .und), v103_51] h40) (
VL (lift2 (abin .eql) (o39.getD 8 .und) (.int .u8 87)) fun v104_52 =>
k48 [(o39.getD 0 .und), (o39.getD 1 .und), (o39.getD 2 .und), (o39.getD 3 .und), (o39.getD 4 .und), (o39.getD 5 .und), (o39.getD 6 .und), (o39.getD 7 .und), (o39.getD 8 .und), v104_52] h40) v103_51) fun o49 h50 =>
pcond (
VL (vfa 17 (o49.getD 1 .und)) fun v105_53 =>
pld h50 (some 16) (fun v106_54 h55 =>
pst h55 16 (cellsV v106_54) (fun u56 h57 =>
k34 [(o49.getD 0 .und), (o49.getD 1 .und), (o49.getD 2 .und), (o49.getD 3 .und), (o49.getD 4 .und), (o49.getD 5 .und), (o49.getD 6 .und), (o49.getD 7 .und)] h57) (o49.getD 7 .und)) v105_53) (
JN (fun k58 =>
VL (lift2 (abin .eql) (o49.getD 8 .und) (.int .u8 102)) fun v108_61 =>
pcond (
k58 [(o49.getD 0 .und), (o49.getD 1 .und), (o49.getD 2 .und), (o49.getD 3 .und), (o49.getD 4 .und), (o49.getD 5 .und), (o49.getD 6 .und), (o49.getD 7 .und), v108_61] h50) (
VL (lift2 (abin .eql) (o49.getD 8 .und) (.int .u8 70)) fun v109_62 =>
k58 [(o49.getD 0 .und), (o49.getD 1 .und), (o49.getD 2 .und), (o49.getD 3 .und), (o49.getD 4 .und), (o49.getD 5 .und), (o49.getD 6 .und), (o49.getD 7 .und), v109_62] h50) v108_61) fun o59 h60 =>
pcond (
pld h60 (some 16) (fun v110_63 h64 =>
pst h64 16 (cellsV v110_63) (fun u65 h66 =>
k34 [(o59.getD 0 .und), (o59.getD 1 .und), (o59.getD 2 .und), (o59.getD 3 .und), (o59.getD 4 .und), (o59.getD 5 .und), (o59.getD 6 .und), (o59.getD 7 .und)] h66) (o59.getD 7 .und)) (o59.getD 4 .und)) (
VL (vbld (vfill (vi .u8 (List.replicate 16 0)) [])) fun v96_67 =>
pst h60 16 (cellsV v96_67) (fun u68 h69 =>
VL (pcellV h69 (some 16) (o59.getD 2 .und)) fun r70 =>
Rt h69 (.tup [r70, (.bool false)])) (o59.getD 2 .und)) (o59.getD 8 .und)) (o49.getD 9 .und)) (o39.getD 9 .und)) fun o35 h36 =>
JN (fun k71 =>
VL (vixT (o35.getD 0 .und) (o35.getD 6 .und)) fun v113_74 =>
VL (lift2 (abin .lss) v113_74 (.int .u8 97)) fun v114_75 =>
pcond (
pld h36 (some 16) (fun v115_76 h77 =>
pcal Tryd.prog 33 117 h77 (fun v117_78 h79 =>
pst h79 16 (cellsV v117_78) (fun u80 h81 =>
k71 [(o35.getD 0 .und), (o35.getD 1 .und), (o35.getD 2 .und), (o35.getD 3 .und), (o35.getD 4 .und), (o35.getD 5 .und), (o35.getD 6 .und), (o35.getD 7 .und)] h81) (o35.getD 7 .und)) [v115_76, (o35.getD 3 .und)]) (o35.getD 7 .und)) (
k71 [(o35.getD 0 .und), (o35.getD 1 .und), (o35.getD 2 .und), (o35.getD 3 .und), (o35.getD 4 .und), (o35.getD 5 .und), (o35.getD 6 .und), (o35.getD 7 .und)] h36) v114_75) fun o72 h73 =>
pld h73 (some 16) (fun v118_82 h83 =>
pld h83 (some 16) (fun v119_84 h85 =>
pcal Tryd.prog 58 121 h85 (fun v121_86 h87 =>
pst h87 16 (cellsV v121_86) (fun u88 h89 =>
VL (lift2 (abin .add) (o72.getD 6 .und) (.int .i64 1)) fun v91_90 =>
N27 [v91_90] [(o72.getD 0 .und), (o72.getD 1 .und), (o72.getD 2 .und), (o72.getD 3 .und), (o72.getD 4 .und), (o72.getD 5 .und)] h89) (o72.getD 5 .und)) [v118_82, v119_84, (o72.getD 3 .und)]) (o72.getD 7 .und)) (o72.getD 5 .und)) (.ptr 74 0)) (
pld h26 (some 16) (fun v122_91 h92 =>
pst h92 16 (cellsV v122_91) (fun u93 h94 =>
VL (pcellV h94 (some 16) (l25.getD 2 .und)) fun r95 =>
Rt h94 (.tup [r95, (.bool true)])) (l25.getD 2 .und)) (l25.getD 5 .und)) v89_29) [(.int .i64 0)] [x1, (.ptr 66 0), (.ptr 68 0), v80_8, (.ptr 71 0), (.ptr 72 0)] h23) (.ptr 72 0)) (.ptr 71 0)) [v84_12]) [v81_10]) (.ptr 66 0)) (.ptr 66 0)) (.ptr 66 0)) v77_3
theorem spec_l03Value_f {x0 x1 : V} : Prt Tryd.prog 32 [x0, x1] (spec_l03Value_F x0 x1) := pfun (fn := Tryd.f32) (m := [.s, .s, .s, .s, .s, .s, .s, .l [9] [1, 2, 4, 6, 7, 8], .s, .s, .s, .s, .j [1, 2, 4, 6, 7, 8, 9, 10], .s, .j [1, 2, 4, 6, 7, 8, 9, 10, 31, 33], .s, .j [1, 2, 4, 6, 7, 8, 9, 10, 31, 38], .s, .j [1, 2, 4, 6, 7, 8, 9, 10, 43], .s, .s, .j [1, 2, 4, 6, 7, 8, 9, 10], .s, .s]) (c := 2 ≤ 59) rfl (fun h0 Rt => by kernel_rfl) (by decide)

def spec_l01Back_F (x0 x1 : V) (hi : Hp) (Rt : Hp → V → Prop) : Prop :=
pbox hi 66 28 (cellsV x0) fun h0 =>
palloc h0 68 28 (vi .u8 (List.replicate 16 0)) fun h1 =>
VL (vbld (vfill (vi .u8 (List.replicate 16 0)) [])) fun v71_2 =>
palloc h1 69 28 (vi .u8 (List.replicate 16 0)) fun h3 =>
pst h3 16 (cellsV v71_2) (fun u4 h5 =>
LP [6] [1, 2, 4, 5] (fun w6 l7 h8 N9 =>
VL (lift2 (abin .lss) (w6.getD 0 .und) (l7.getD 0 .und)) fun v74_10 =>
pcond (
VL (vixA 16 1 (l7.getD 1 .und) (w6.getD 0 .und)) fun v78_11 =>
pld h8 none (fun v79_12 h13 =>
VL (lift1 (acvi .u8) (w6.getD 0 .und)) fun v81_14 =>
VL (vixA 16 1 (l7.getD 3 .und) v79_12) fun v82_15 =>
pst h13 1 (cellsV v81_14) (fun u16 h17 =>
VL (lift2 (abin .add) (w6.getD 0 .und) (.int .i64 1)) fun v76_18 =>
N9 [v76_18] [(l7.getD 0 .und), (l7.getD 1 .und), (l7.getD 2 .und), (l7.getD 3 .und)] h17) v82_15) v78_11) (
pld h8 (some 16) (fun v83_19 h20 =>
pst h20 16 (cellsV v83_19) (fun u21 h22 =>
VL (pcellV h22 (some 16) (l7.getD 2 .und)) fun r23 =>
Rt h22 r23) (l7.getD 2 .und)) (l7.getD 3 .und)) v74_10) [(.int .i64 0)] [x1, (.ptr 66 0), (.ptr 68 0), (.ptr 69 0)] h5) (.ptr 69 0)
theorem spec_l01Back_f {x0 x1 : V} : Prt Tryd.prog 33 [x0, x1] (spec_l01Back_F x0 x1) := pfun (fn := Tryd.f33) (m := [.s, .s, .s, .s, .l [6] [1, 2, 4, 5], .s, .s, .s, .s]) (c := 2 ≤ 20) rfl (fun h0 Rt => by kernel_rfl) (by decide)

def laws_toPlaces_F (x0 : V) (hi : Hp) (Rt : Hp → V → Prop) : Prop :=
pbox hi 65 22 (cellsV x0) fun h0 =>
palloc h0 66 28 (vi .u8 (List.replicate 16 0)) fun h1 =>
palloc h1 67 28 (vi .u8 (List.replicate 16 0)) fun h2 =>
LP [4] [1, 2, 3] (fun w3 l4 h5 N6 =>
VL (lift2 (abin .lss) (w3.getD 0 .und) (.int .i64 16)) fun v70_7 =>
pcond (
VL (vixA 16 1 (l4.getD 0 .und) (w3.getD 0 .und)) fun v75_8 =>
pld h5 none (fun v76_9 h10 =>
VL (vixA 16 1 (l4.getD 2 .und) (w3.getD 0 .und)) fun v77_11 =>
pst h10 1 (cellsV v76_9) (fun u12 h13 =>
VL (lift2 (abin .add) (w3.getD 0 .und) (.int .i64 1)) fun v72_14 =>
N6 [v72_14] [(l4.getD 0 .und), (l4.getD 1 .und), (l4.getD 2 .und)] h13) v77_11) v75_8) (
pld h5 (some 16) (fun v78_15 h16 =>
pst h16 16 (cellsV v78_15) (fun u17 h18 =>
VL (pcellV h18 (some 16) (l4.getD 1 .und)) fun r19 =>
Rt h18 r19) (l4.getD 1 .und)) (l4.getD 2 .und)) v70_7) [(.int .i64 0)] [(.ptr 65 0), (.ptr 66 0), (.ptr 67 0)] h2
theorem laws_toPlaces_f {x0 : V} : Prt Tryd.prog 34 [x0] (laws_toPlaces_F x0) := pfun (fn := Tryd.f34) (m := [.s, .s, .s, .s, .l [4] [1, 2, 3], .s, .s, .s, .s]) (c := 1 ≤ 15) rfl (fun h0 Rt => by kernel_rfl) (by decide)

def impl_coverCode_F (x0 x1 x2 x3 : V) (hi : Hp) (Rt : Hp → V → Prop) : Prop :=
pbox hi 68 30 (cellsV x0) fun h0 =>
pld h0 (some 33) (fun v74_1 h2 =>
pcal Tryd.prog 49 75 h2 (fun v75_3 h4 =>
VL (lift1 (aun .not) v75_3) fun v76_5 =>
pcond (
Rt h4 (.int .i64 1)) (
pld h4 (some 33) (fun v78_6 h7 =>
pmks h7 82 25 2 2 (fun h8 =>
pcal Tryd.prog 59 83 h8 (fun v83_9 h10 =>
VL (lift1 (aun .not) v83_9) fun v84_11 =>
pcond (
Rt h10 (.int .i64 2)) (
Rt h10 (.int .i64 0)) v84_11) [v78_6, x1, (.rf 82 0 2)]) (vfill [.nils, .nils] [(0, 1, x2), (1, 1, x3)])) (.ptr 68 0)) v76_5) [v74_1]) (.ptr 68 0)
theorem impl_coverCode_f {x0 x1 x2 x3 : V} : Prt Tryd.prog 35 [x0, x1, x2, x3] (impl_coverCode_F x0 x1 x2 x3) := pfun (fn := Tryd.f35) (m := [.s, .s, .s, .s, .s, .s, .s]) (c := 4 ≤ 21) rfl (fun h0 Rt => by kernel_rfl) (by decide)

def impl_isDart_F (x0 x1 : V) (hi : Hp) (Rt : Hp → V → Prop) : Prop :=
pbox hi 66 30 (cellsV x0) fun h0 =>
VL (vlenS x1) fun v72_1 =>
LP [9] [2, 7, 8] (fun w2 l3 h4 N5 =>
VL (lift2 (abin .lss) (w2.getD 0 .und) (l3.getD 2 .und)) fun v74_6 =>
pcond (
VL (vixS 1 (l3.getD 1 .und) (w2.getD 0 .und)) fun v75_7 =>
pld h4 none (fun v76_8 h9 =>
VL (lift2 (abin .lss) v76_8 (.int .i64 0)) fun v78_10 =>
pgk false h9 (fun g11 k12 => k12 v76_8 h9) (fun g13 v16_14 h15 =>
pgk false h15 (fun g16 k17 => VL (vfa 0 (l3.getD 0 .und)) fun v81_18 =>
k17 v81_18 h15) (fun g19 v17_20 h21 =>
pgk false h21 (fun g22 k23 => pld h21 none (fun v82_24 h25 =>
k23 v82_24 h25) v17_20) (fun g26 v18_27 h28 =>
pgk false h28 (fun g29 k30 => VL (lift2 (abin .geq) v16_14 v18_27) fun v83_31 =>
k30 v83_31 h28) (fun g32 v19_33 h34 =>
VL (vpick g32 (.bool true) v19_33) fun v84_35 =>
pcond (
Rt h34 (.bool false)) (
VL (lift2 (abin .add) (w2.getD 0 .und) (.int .i64 1)) fun v85_36 =>
N5 [v85_36] [(l3.getD 0 .und), (l3.getD 1 .und), (l3.getD 2 .und)] h34) v84_35) g26) g19) g13) v78_10) v75_7) (
Rt h4 (.bool true)) v74_6) [(.int .i64 0)] [(.ptr 66 0), x1, v72_1] h0
theorem impl_isDart_f {x0 x1 : V} : Prt Tryd.prog 36 [x0, x1] (impl_isDart_F x0 x1) := pfun (fn := Tryd.f36) (m := [.s, .s, .s, .l [9] [2, 7, 8], .s, .s, .s, .s, .s, .s, .s]) (c := 2 ≤ 22) rfl (fun h0 Rt => by kernel_rfl) (by decide)

def impl_isSpelled_F (x0 : V) (hi : Hp) (Rt : Hp → V → Prop) : Prop :=
VL (vlenT x0) fun v68_0 =>
VL (lift2 (abin .leq) v68_0 (.int .i64 60)) fun v69_1 =>
pgk true hi (fun g2 k3 => k3 x0 hi) (fun g4 v7_5 h6 =>
pgk true h6 (fun g7 k8 => pcal Tryd.prog 42 72 h6 (fun v72_9 h10 =>
k8 v72_9 h10) [v7_5, (.str [98, 119, 102, 66, 87, 70])]) (fun g11 v8_12 h13 =>
pgk true h13 (fun g14 k15 => VL (lift2 (abin .eql) v8_12 (.str [])) fun v73_16 =>
k15 v73_16 h13) (fun g17 v9_18 h19 =>
VL (vpick g17 v9_18 (.bool false)) fun v74_20 =>
Rt h19 v74_20) g11) g4) v69_1
theorem impl_isSpelled_f {x0 : V} : Prt Tryd.prog 37 [x0] (impl_isSpelled_F x0) := pfun (fn := Tryd.f37) (m := [.s, .s]) (c := 1 ≤ 11) rfl (fun h0 Rt => by kernel_rfl) (by decide)

def impl_WalkOf_1_F (x0 x1 x2 x3 x4 : V) (hi : Hp) (Rt : Hp → V → Prop) : Prop :=
pbox hi 69 28 (cellsV x0) fun h0 =>
pld h0 none (fun v71_1 h2 =>
pld h2 none (fun v73_3 h4 =>
VL (vixS 1 x1 v73_3) fun v74_5 =>
pld h4 none (fun v75_6 h7 =>
VL (lift2 (abin .add) v71_1 v75_6) fun v76_8 =>
pld h7 none (fun v77_9 h10 =>
VL (lift2 (abin .rem) v76_8 v77_9) fun v78_11 =>
pst h10 1 (cellsV v78_11) (fun u12 h13 =>
pld h13 none (fun v79_14 h15 =>
VL (vixA 16 1 (.ptr 69 0) v79_14) fun v80_16 =>
pld h15 none (fun v81_17 h18 =>
VL (lift1 (acvi .i64) v81_17) fun v82_19 =>
pst h18 1 (cellsV v82_19) (fun u20 h21 =>
Rt h21 (.tup [])) x3) v80_16) x3) x2) x4) v74_5) x3) x2
theorem impl_WalkOf_1_f {x0 x1 x2 x3 x4 : V} : Prt Tryd.prog 38 [x0, x1, x2, x3, x4] (impl_WalkOf_1_F x0 x1 x2 x3 x4) := pfun (fn := Tryd.f38) (m := [.s, .s]) (c := 5 ≤ 19) rfl (fun h0 Rt => by kernel_rfl) (by decide)

def impl_WalkOf_2_F (x0 x1 x2 x3 x4 x5 : V) (hi : Hp) (Rt : Hp → V → Prop) : Prop :=
pbox hi 70 28 (cellsV x0) fun h0 =>
pld h0 (some 16) (fun v72_1 h2 =>
VL (vfa 0 x2) fun v73_3 =>
pld h2 none (fun v74_4 h5 =>
pld h5 none (fun v76_6 h7 =>
pcalp Tryd.prog 40 75 h7 (fun v75_8 h9 =>
VL (vixV 16 1 none v75_8 v76_6) fun v77_10 =>
VL (lift1 (acvi .i64) v77_10) fun v78_11 =>
pst h9 1 (cellsV v78_11) (fun u12 h13 =>
pld h13 none (fun v79_14 h15 =>
pld h15 none (fun v81_16 h17 =>
VL (vixS 1 x1 v81_16) fun v82_18 =>
pld h17 none (fun v83_19 h20 =>
VL (lift2 (abin .sub) v79_14 v83_19) fun v84_21 =>
pld h20 none (fun v85_22 h23 =>
VL (lift2 (abin .add) v84_21 v85_22) fun v86_24 =>
pld h23 none (fun v87_25 h26 =>
VL (lift2 (abin .rem) v86_24 v87_25) fun v88_27 =>
pst h26 1 (cellsV v88_27) (fun u28 h29 =>
Rt h29 (.tup [])) x4) x5) x5) v82_18) x3) x4) x3) [v72_1, v74_4]) x3) v73_3) (.ptr 70 0)
theorem impl_WalkOf_2_f {x0 x1 x2 x3 x4 x5 : V} : Prt Tryd.prog 39 [x0, x1, x2, x3, x4, x5] (impl_WalkOf_2_F x0 x1 x2 x3 x4 x5) := pfun (fn := Tryd.f39) (m := [.s, .s]) (c := 6 ≤ 25) rfl (fun h0 Rt => by kernel_rfl) (by decide)

def impl_back_F (x0 x1 : V) (hi : Hp) (Rt : Hp → V → Prop) : Prop :=
pbox hi 66 28 (cellsV x0) fun h0 =>
palloc h0 68 28 (vi .u8 (List.replicate 16 0)) fun h1 =>
VL (vbld (vfill (vi .u8 (List.replicate 16 0)) [])) fun v71_2 =>
palloc h1 69 28 (vi .u8 (List.replicate 16 0)) fun h3 =>
pst h3 16 (cellsV v71_2) (fun u4 h5 =>
LP [9] [2, 4, 5, 8] (fun w6 l7 h8 N9 =>
VL (lift2 (abin .lss) (w6.getD 0 .und) (l7.getD 3 .und)) fun v74_10 =>
pcond (
VL (vixA 16 1 (l7.getD 0 .und) (w6.getD 0 .und)) fun v77_11 =>
pld h8 none (fun v78_12 h13 =>
VL (lift1 (acvi .u8) (w6.getD 0 .und)) fun v80_14 =>
VL (vixA 16 1 (l7.getD 2 .und) v78_12) fun v81_15 =>
pst h13 1 (cellsV v80_14) (fun u16 h17 =>
VL (lift2 (abin .add) (w6.getD 0 .und) (.int .i64 1)) fun v82_18 =>
N9 [v82_18] [(l7.getD 0 .und), (l7.getD 1 .und), (l7.getD 2 .und), (l7.getD 3 .und)] h17) v81_15) v77_11) (
pld h8 (some 16) (fun v83_19 h20 =>
pst h20 16 (cellsV v83_19) (fun u21 h22 =>
VL (pcellV h22 (some 16) (l7.getD 1 .und)) fun r23 =>
Rt h22 r23) (l7.getD 1 .und)) (l7.getD 2 .und)) v74_10) [(.int .i64 0)] [(.ptr 66 0), (.ptr 68 0), (.ptr 69 0), x1] h5) (.ptr 69 0)
theorem impl_back_f {x0 x1 : V} : Prt Tryd.prog 40 [x0, x1] (impl_back_F x0 x1) := pfun (fn := Tryd.f40) (m := [.s, .s, .s, .s, .l [9] [2, 4, 5, 8], .s, .s, .s, .s, .s]) (c := 2 ≤ 20) rfl (fun h0 Rt => by kernel_rfl) (by decide)

def spec_l08Word_F (x0 : V) (hi : Hp) (Rt : Hp → V → Prop) : Prop :=
LP [3] [0] (fun w0 l1 h2 N3 =>
VL (vlenT (l1.getD 0 .und)) fun v70_4 =>
VL (lift2 (abin .lss) (w0.getD 0 .und) v70_4) fun v71_5 =>
pcond (
VL (vixT (l1.getD 0 .und) (w0.getD 0 .und)) fun v76_6 =>
pcal Tryd.prog 60 77 h2 (fun v77_7 h8 =>
VL (lift1 (aun .not) v77_7) fun v78_9 =>
pcond (
Rt h8 (.bool false)) (
VL (lift2 (abin .add) (w0.getD 0 .und) (.int .i64 1)) fun v73_10 =>
N3 [v73_10] [(l1.getD 0 .und)] h8) v78_9) [v76_6]) (
VL (vlenT (l1.getD 0 .und)) fun v80_11 =>
VL (lift2 (abin .leq) v80_11 (.int .i64 60)) fun v81_12 =>
Rt h2 v81_12) v71_5) [(.int .i64 0)] [x0] hi
theorem spec_l08Word_f {x0 : V} : Prt Tryd.prog 41 [x0] (spec_l08Word_F x0) := pfun (fn := Tryd.f41) (m := [.s, .s, .s, .l [3] [0], .s, .s, .s, .s, .s, .s]) (c := 1 ≤ 18) rfl (fun h0 Rt => by kernel_rfl) (by decide)

def strings_Trim_F (x0 x1 : V) (hi : Hp) (Rt : Hp → V → Prop) : Prop :=
VL (lift2 (abin .eql) x0 (.str [])) fun v72_0 =>
pgk false hi (fun g1 k2 => k2 x1 hi) (fun g3 v10_4 h5 =>
pgk false h5 (fun g6 k7 => VL (lift2 (abin .eql) v10_4 (.str [])) fun v75_8 =>
k7 v75_8 h5) (fun g9 v11_10 h11 =>
VL (vpick g9 (.bool true) v11_10) fun v76_12 =>
pcond (
Rt h11 x0) (
VL (vlenT x1) fun v79_13 =>
VL (lift2 (abin .eql) v79_13 (.int .i64 1)) fun v80_14 =>
pgk true h11 (fun g15 k16 => k16 x1 h11) (fun g17 v18_18 h19 =>
pgk true h19 (fun g20 k21 => VL (vixT v18_18 (.int .i64 0)) fun v83_22 =>
k21 v83_22 h19) (fun g23 v19_24 h25 =>
pgk true h25 (fun g26 k27 => VL (lift2 (abin .lss) v19_24 (.int .u8 128)) fun v84_28 =>
k27 v84_28 h25) (fun g29 v20_30 h31 =>
VL (vpick g29 v20_30 (.bool false)) fun v85_32 =>
pcond (
VL (vixT x1 (.int .i64 0)) fun v88_33 =>
VL (vixT x1 (.int .i64 0)) fun v91_34 =>
pcal Tryd.prog 62 89 h31 (fun v89_35 h36 =>
pcal Tryd.prog 61 92 h36 (fun v92_37 h38 =>
Rt h38 v92_37) [v89_35, v91_34]) [x0, v88_33]) (
pcal Tryd.prog 63 95 h31 (fun v95_39 h40 =>
VL (vext 0 v95_39) fun v96_41 =>
VL (vext 1 v95_39) fun v97_42 =>
palloc h40 69 74 (vb (List.replicate 256 false)) fun h43 =>
pst h43 256 (cellsV v96_41) (fun u44 h45 =>
pcond (
pcal Tryd.prog 65 100 h45 (fun v100_46 h47 =>
pcal Tryd.prog 64 101 h47 (fun v101_48 h49 =>
Rt h49 v101_48) [v100_46, (.ptr 69 0)]) [x0, (.ptr 69 0)]) (
pcal Tryd.prog 67 104 h45 (fun v104_50 h51 =>
pcal Tryd.prog 66 106 h51 (fun v106_52 h53 =>
Rt h53 v106_52) [v104_50, x1]) [x0, x1]) v97_42) (.ptr 69 0)) [x1]) v85_32) g23) g17) v80_14) v76_12) g3) v72_0
theorem strings_Trim_f {x0 x1 : V} : Prt Tryd.prog 42 [x0, x1] (strings_Trim_F x0 x1) := pfun (fn := Tryd.f42) (m := [.s, .s, .s, .s, .s, .s, .s, .s, .s, .s, .s, .s]) (c := 2 ≤ 43) rfl (fun h0 Rt => by kernel_rfl) (by decide)

def spec_l08Inverse_F (x0 : V) (hi : Hp) (Rt : Hp → V → Prop) : Prop :=
pmks hi 69 5 0 0 (fun h0 =>
VL (vlenT x0) fun v71_1 =>
VL (lift2 (abin .sub) v71_1 (.int .i64 1)) fun v72_2 =>
LP [3, 4] [0] (fun w3 l4 h5 N6 =>
VL (lift2 (abin .geq) (w3.getD 1 .und) (.int .i64 0)) fun v74_7 =>
pcond (
VL (vixT (l4.getD 0 .und) (w3.getD 1 .und)) fun v80_8 =>
pcal Tryd.prog 68 81 h5 (fun v81_9 h10 =>
pmks h10 82 5 1 1 (fun h11 =>
papp h11 (fun m14 s15 => papV 5 1 1 83 h11 (fun v83_12 h13 =>
VL (lift2 (abin .sub) (w3.getD 1 .und) (.int .i64 1)) fun v76_16 =>
N6 [v83_12, v76_16] [(l4.getD 0 .und)] h13) m14 s15 (w3.getD 0 .und)) (pavs h11 (w3.getD 0 .und) []) (preadS 1 h11 (.rf 82 0 1))) (vfill [(.int .u8 0)] [(0, 1, v81_9)])) [v80_8]) (
VL (vb2s h5 (w3.getD 0 .und)) fun v85_17 =>
Rt h5 v85_17) v74_7) [(.rf 69 0 0), v72_2] [x0] h0) (vfill [] [])
theorem spec_l08Inverse_f {x0 : V} : Prt Tryd.prog 43 [x0] (spec_l08Inverse_F x0) := pfun (fn := Tryd.f43) (m := [.s, .s, .s, .s, .l [3, 4] [0], .s, .s, .s, .s]) (c := 1 ≤ 22) rfl (fun h0 Rt => by kernel_rfl) (by decide)

def impl_inverted_F (x0 : V) (hi : Hp) (Rt : Hp → V → Prop) : Prop :=
pmks hi 69 5 0 0 (fun h0 =>
VL (vlenT x0) fun v71_1 =>
VL (lift2 (abin .sub) v71_1 (.int .i64 1)) fun v72_2 =>
LP [3, 4] [0] (fun w3 l4 h5 N6 =>
VL (lift2 (abin .geq) (w3.getD 1 .und) (.int .i64 0)) fun v74_7 =>
pcond (
VL (vixT (l4.getD 0 .und) (w3.getD 1 .und)) fun v80_8 =>
pcal Tryd.prog 69 81 h5 (fun v81_9 h10 =>
pmks h10 82 5 1 1 (fun h11 =>
papp h11 (fun m14 s15 => papV 5 1 1 83 h11 (fun v83_12 h13 =>
VL (lift2 (abin .sub) (w3.getD 1 .und) (.int .i64 1)) fun v76_16 =>
N6 [v83_12, v76_16] [(l4.getD 0 .und)] h13) m14 s15 (w3.getD 0 .und)) (pavs h11 (w3.getD 0 .und) []) (preadS 1 h11 (.rf 82 0 1))) (vfill [(.int .u8 0)] [(0, 1, v81_9)])) [v80_8]) (
VL (vb2s h5 (w3.getD 0 .und)) fun v85_17 =>
Rt h5 v85_17) v74_7) [(.rf 69 0 0), v72_2] [x0] h0) (vfill [] [])
theorem impl_inverted_f {x0 : V} : Prt Tryd.prog 44 [x0] (impl_inverted_F x0) := pfun (fn := Tryd.f44) (m := [.s, .s, .s, .s, .l [3, 4] [0], .s, .s, .s, .s]) (c := 1 ≤ 22) rfl (fun h0 Rt => by kernel_rfl) (by decide)

def spec_l08Reduce_F (x0 : V) (hi : Hp) (Rt : Hp → V → Prop) : Prop :=
pmks hi 70 5 0 0 (fun h0 =>
LP [3, 4] [0] (fun w1 l2 h3 N4 =>
VL (vlenT (l2.getD 0 .und)) fun v73_5 =>
VL (lift2 (abin .lss) (w1.getD 1 .und) v73_5) fun v74_6 =>
pcond (
JN (fun k7 =>
VL (vlenS (w1.getD 0 .und)) fun v78_10 =>
VL (lift2 (abin .gtr) v78_10 (.int .i64 0)) fun v80_11 =>
pgk true h3 (fun g12 k13 => k13 (w1.getD 0 .und) h3) (fun g14 v18_15 h16 =>
pgk true h16 (fun g17 k18 => k18 v78_10 h16) (fun g19 v19_20 h21 =>
pgk true h21 (fun g22 k23 => VL (lift2 (abin .sub) v19_20 (.int .i64 1)) fun v84_24 =>
k23 v84_24 h21) (fun g25 v20_26 h27 =>
pgk true h27 (fun g28 k29 => VL (vixS 1 v18_15 v20_26) fun v85_30 =>
k29 v85_30 h27) (fun g31 v21_32 h33 =>
pgk true h33 (fun g34 k35 => pld h33 none (fun v86_36 h37 =>
k35 v86_36 h37) v21_32) (fun g38 v22_39 h40 =>
pgk true h40 (fun g41 k42 => k42 (l2.getD 0 .und) h40) (fun g43 v23_44 h45 =>
pgk true h45 (fun g46 k47 => k47 (w1.getD 1 .und) h45) (fun g48 v24_49 h50 =>
pgk true h50 (fun g51 k52 => VL (vixT v23_44 v24_49) fun v89_53 =>
k52 v89_53 h50) (fun g54 v25_55 h56 =>
pgk true h56 (fun g57 k58 => pcalp Tryd.prog 68 90 h56 (fun v90_59 h60 =>
k58 v90_59 h60) [v25_55]) (fun g61 v26_62 h63 =>
pgk true h63 (fun g64 k65 => VL (lift2 (abin .eql) v22_39 v26_62) fun v91_66 =>
k65 v91_66 h63) (fun g67 v27_68 h69 =>
VL (vpick g67 v27_68 (.bool false)) fun v92_70 =>
pcond (
VL (lift2 (abin .sub) v78_10 (.int .i64 1)) fun v95_71 =>
VL (vslS 1 (w1.getD 0 .und) none (some v95_71)) fun v96_72 =>
k7 [(l2.getD 0 .und), v96_72, (w1.getD 1 .und)] h69) (
VL (vixT (l2.getD 0 .und) (w1.getD 1 .und)) fun v100_73 =>
pmks h69 101 5 1 1 (fun h74 =>
papp h74 (fun m77 s78 => papV 5 1 1 102 h74 (fun v102_75 h76 =>
k7 [(l2.getD 0 .und), v102_75, (w1.getD 1 .und)] h76) m77 s78 (w1.getD 0 .und)) (pavs h74 (w1.getD 0 .und) []) (preadS 1 h74 (.rf 101 0 1))) (vfill [(.int .u8 0)] [(0, 1, v100_73)])) v92_70) g61) g54) g48) g43) g38) g31) g25) g19) g14) v80_11) fun o8 h9 =>
VL (lift2 (abin .add) (o8.getD 2 .und) (.int .i64 1)) fun v76_79 =>
N4 [(o8.getD 1 .und), v76_79] [(o8.getD 0 .und)] h9) (
VL (vb2s h3 (w1.getD 0 .und)) fun v104_80 =>
Rt h3 v104_80) v74_6) [(.rf 70 0 0), (.int .i64 0)] [x0] h0) (vfill [] [])
theorem spec_l08Reduce_f {x0 : V} : Prt Tryd.prog 45 [x0] (spec_l08Reduce_F x0) := pfun (fn := Tryd.f45) (m := [.s, .s, .s, .s, .l [3, 4] [0], .s, .s, .j [0, 3, 4], .s, .s, .s]) (c := 1 ≤ 41) rfl (fun h0 Rt => by kernel_rfl) (by decide)

def impl_reduced_F (x0 : V) (hi : Hp) (Rt : Hp → V → Prop) : Prop :=
pmks hi 70 5 0 0 (fun h0 =>
VL (vlenT x0) fun v72_1 =>
LP [3, 9] [0, 8] (fun w2 l3 h4 N5 =>
VL (lift2 (abin .lss) (w2.getD 1 .und) (l3.getD 1 .und)) fun v74_6 =>
pcond (
JN (fun k7 =>
VL (vlenS (w2.getD 0 .und)) fun v77_10 =>
VL (lift2 (abin .gtr) v77_10 (.int .i64 0)) fun v79_11 =>
pgk true h4 (fun g12 k13 => k13 (w2.getD 0 .und) h4) (fun g14 v17_15 h16 =>
pgk true h16 (fun g17 k18 => k18 v77_10 h16) (fun g19 v18_20 h21 =>
pgk true h21 (fun g22 k23 => VL (lift2 (abin .sub) v18_20 (.int .i64 1)) fun v83_24 =>
k23 v83_24 h21) (fun g25 v19_26 h27 =>
pgk true h27 (fun g28 k29 => VL (vixS 1 v17_15 v19_26) fun v84_30 =>
k29 v84_30 h27) (fun g31 v20_32 h33 =>
pgk true h33 (fun g34 k35 => pld h33 none (fun v85_36 h37 =>
k35 v85_36 h37) v20_32) (fun g38 v21_39 h40 =>
pgk true h40 (fun g41 k42 => k42 (l3.getD 0 .und) h40) (fun g43 v22_44 h45 =>
pgk true h45 (fun g46 k47 => k47 (w2.getD 1 .und) h45) (fun g48 v23_49 h50 =>
pgk true h50 (fun g51 k52 => VL (vixT v22_44 v23_49) fun v88_53 =>
k52 v88_53 h50) (fun g54 v24_55 h56 =>
pgk true h56 (fun g57 k58 => pcalp Tryd.prog 69 89 h56 (fun v89_59 h60 =>
k58 v89_59 h60) [v24_55]) (fun g61 v25_62 h63 =>
pgk true h63 (fun g64 k65 => VL (lift2 (abin .eql) v21_39 v25_62) fun v90_66 =>
k65 v90_66 h63) (fun g67 v26_68 h69 =>
VL (vpick g67 v26_68 (.bool false)) fun v91_70 =>
pcond (
VL (lift2 (abin .sub) v77_10 (.int .i64 1)) fun v94_71 =>
VL (vslS 1 (w2.getD 0 .und) none (some v94_71)) fun v95_72 =>
k7 [(l3.getD 0 .und), v95_72, (l3.getD 1 .und), (w2.getD 1 .und)] h69) (
VL (vixT (l3.getD 0 .und) (w2.getD 1 .und)) fun v99_73 =>
pmks h69 100 5 1 1 (fun h74 =>
papp h74 (fun m77 s78 => papV 5 1 1 101 h74 (fun v101_75 h76 =>
k7 [(l3.getD 0 .und), v101_75, (l3.getD 1 .und), (w2.getD 1 .und)] h76) m77 s78 (w2.getD 0 .und)) (pavs h74 (w2.getD 0 .und) []) (preadS 1 h74 (.rf 100 0 1))) (vfill [(.int .u8 0)] [(0, 1, v99_73)])) v91_70) g61) g54) g48) g43) g38) g31) g25) g19) g14) v79_11) fun o8 h9 =>
VL (lift2 (abin .add) (o8.getD 3 .und) (.int .i64 1)) fun v102_79 =>
N5 [(o8.getD 1 .und), v102_79] [(o8.getD 0 .und), (o8.getD 2 .und)] h9) (
VL (vb2s h4 (w2.getD 0 .und)) fun v104_80 =>
Rt h4 v104_80) v74_6) [(.rf 70 0 0), (.int .i64 0)] [x0, v72_1] h0) (vfill [] [])
theorem impl_reduced_f {x0 : V} : Prt Tryd.prog 46 [x0] (impl_reduced_F x0) := pfun (fn := Tryd.f46) (m := [.s, .s, .s, .s, .l [3, 9] [0, 8], .s, .s, .j [0, 3, 8, 9], .s, .s, .s, .s]) (c := 1 ≤ 41) rfl (fun h0 Rt => by kernel_rfl) (by decide)

def spec_l01Is_F (x0 : V) (hi : Hp) (Rt : Hp → V → Prop) : Prop :=
pbox hi 65 30 (cellsV x0) fun h0 =>
pld h0 (some 16) (fun v68_1 h2 =>
pld h2 none (fun v70_3 h4 =>
pcal Tryd.prog 70 71 h4 (fun v71_5 h6 =>
pgk true h6 (fun g7 k8 => k8 (.ptr 65 17) h6) (fun g9 v9_10 h11 =>
pgk true h11 (fun g12 k13 => pld h11 (some 16) (fun v74_14 h15 =>
k13 v74_14 h15) v9_10) (fun g16 v10_17 h18 =>
pgk true h18 (fun g19 k20 => k20 (.ptr 65 0) h18) (fun g21 v11_22 h23 =>
pgk true h23 (fun g24 k25 => pld h23 none (fun v76_26 h27 =>
k25 v76_26 h27) v11_22) (fun g28 v12_29 h30 =>
pgk true h30 (fun g31 k32 => pcal Tryd.prog 70 77 h30 (fun v77_33 h34 =>
k32 v77_33 h34) [v10_17, v12_29]) (fun g35 v13_36 h37 =>
VL (vpick g35 v13_36 (.bool false)) fun v78_38 =>
pgk true h37 (fun g39 k40 => k40 (.ptr 65 0) h37) (fun g41 v16_42 h43 =>
pgk true h43 (fun g44 k45 => pld h43 none (fun v81_46 h47 =>
k45 v81_46 h47) v16_42) (fun g48 v17_49 h50 =>
pgk true h50 (fun g51 k52 => k52 (.ptr 65 1) h50) (fun g53 v18_54 h55 =>
pgk true h55 (fun g56 k57 => pld h55 (some 16) (fun v83_58 h59 =>
k57 v83_58 h59) v18_54) (fun g60 v19_61 h62 =>
pgk true h62 (fun g63 k64 => k64 (.ptr 65 17) h62) (fun g65 v20_66 h67 =>
pgk true h67 (fun g68 k69 => pld h67 (some 16) (fun v85_70 h71 =>
k69 v85_70 h71) v20_66) (fun g72 v21_73 h74 =>
pgk true h74 (fun g75 k76 => pcal Tryd.prog 71 86 h74 (fun v86_77 h78 =>
k76 v86_77 h78) [v17_49, v19_61, v21_73]) (fun g79 v22_80 h81 =>
VL (vpick g79 v22_80 (.bool false)) fun v87_82 =>
Rt h81 v87_82) g72) g65) g60) g53) g48) g41) v78_38) g28) g21) g16) g9) v71_5) [v68_1, v70_3]) (.ptr 65 0)) (.ptr 65 1)
theorem spec_l01Is_f {x0 : V} : Prt Tryd.prog 47 [x0] (spec_l01Is_F x0) := pfun (fn := Tryd.f47) (m := [.s, .s]) (c := 1 ≤ 24) rfl (fun h0 Rt => by kernel_rfl) (by decide)

def spec_l08Places_F (x0 x1 : V) (hi : Hp) (Rt : Hp → V → Prop) : Prop :=
pbox hi 66 30 (cellsV x0) fun h0 =>
palloc h0 68 28 (vi .u8 (List.replicate 16 0)) fun h1 =>
pld h1 none (fun v74_2 h3 =>
pldb h3 none (fun v77_4 h5 =>
pcalp Tryd.prog 57 75 h5 (fun v75_6 h7 =>
palloc h7 69 28 (vi .u8 (List.replicate 16 0)) fun h8 =>
Rq (pavsP h8 (.ptr 69 0) [(.ptr 66 0)]) (pst h8 16 (cellsV v75_6) (fun u9 h10 =>
LP [7] [1, 2, 4, 5, 6] (fun w11 l12 h13 N14 =>
VL (vlenT (l12.getD 0 .und)) fun v80_15 =>
VL (lift2 (abin .lss) (w11.getD 0 .und) v80_15) fun v81_16 =>
pcond (
VL (vfa 1 (l12.getD 1 .und)) fun v84_17 =>
pld h13 (some 16) (fun v85_18 h19 =>
palloc h19 72 28 (vi .u8 (List.replicate 16 0)) fun h20 =>
pst h20 16 (cellsV v85_18) (fun u21 h22 =>
JN (fun k23 =>
VL (vixT (l12.getD 0 .und) (w11.getD 0 .und)) fun v88_26 =>
VL (lift2 (abin .eql) v88_26 (.int .u8 121)) fun v89_27 =>
pgk false h22 (fun g28 k29 => k29 (l12.getD 0 .und) h22) (fun g30 v27_31 h32 =>
pgk false h32 (fun g33 k34 => k34 (w11.getD 0 .und) h32) (fun g35 v28_36 h37 =>
pgk false h37 (fun g38 k39 => VL (vixT v27_31 v28_36) fun v93_40 =>
k39 v93_40 h37) (fun g41 v29_42 h43 =>
pgk false h43 (fun g44 k45 => VL (lift2 (abin .eql) v29_42 (.int .u8 89)) fun v94_46 =>
k45 v94_46 h43) (fun g47 v30_48 h49 =>
VL (vpick g47 (.bool true) v30_48) fun v95_50 =>
pcond (
VL (vfa 17 (l12.getD 1 .und)) fun v96_51 =>
pld h49 (some 16) (fun v97_52 h53 =>
pst h53 16 (cellsV v97_52) (fun u54 h55 =>
k23 [(l12.getD 0 .und), (l12.getD 1 .und), (l12.getD 2 .und), (l12.getD 3 .und), (l12.getD 4 .und), (w11.getD 0 .und), (.ptr 72 0)] h55) (.ptr 72 0)) v96_51) (
k23 [(l12.getD 0 .und), (l12.getD 1 .und), (l12.getD 2 .und), (l12.getD 3 .und), (l12.getD 4 .und), (w11.getD 0 .und), (.ptr 72 0)] h49) v95_50) g41) g35) g30) v89_27) fun o24 h25 =>
JN (fun k56 =>
VL (vixT (o24.getD 0 .und) (o24.getD 5 .und)) fun v100_59 =>
VL (lift2 (abin .eql) v100_59 (.int .u8 88)) fun v101_60 =>
pgk false h25 (fun g61 k62 => k62 (o24.getD 0 .und) h25) (fun g63 v39_64 h65 =>
pgk false h65 (fun g66 k67 => k67 (o24.getD 5 .und) h65) (fun g68 v40_69 h70 =>
pgk false h70 (fun g71 k72 => VL (vixT v39_64 v40_69) fun v105_73 =>
k72 v105_73 h70) (fun g74 v41_75 h76 =>
pgk false h76 (fun g77 k78 => VL (lift2 (abin .eql) v41_75 (.int .u8 89)) fun v106_79 =>
k78 v106_79 h76) (fun g80 v42_81 h82 =>
VL (vpick g80 (.bool true) v42_81) fun v107_83 =>
pcond (
pld h82 (some 16) (fun v108_84 h85 =>
pcal Tryd.prog 33 110 h85 (fun v110_86 h87 =>
pst h87 16 (cellsV v110_86) (fun u88 h89 =>
k56 [(o24.getD 0 .und), (o24.getD 1 .und), (o24.getD 2 .und), (o24.getD 3 .und), (o24.getD 4 .und), (o24.getD 5 .und), (o24.getD 6 .und)] h89) (o24.getD 6 .und)) [v108_84, (o24.getD 4 .und)]) (o24.getD 6 .und)) (
k56 [(o24.getD 0 .und), (o24.getD 1 .und), (o24.getD 2 .und), (o24.getD 3 .und), (o24.getD 4 .und), (o24.getD 5 .und), (o24.getD 6 .und)] h82) v107_83) g74) g68) g63) v101_60) fun o57 h58 =>
pld h58 (some 16) (fun v111_90 h91 =>
pld h91 (some 16) (fun v112_92 h93 =>
pcal Tryd.prog 58 114 h93 (fun v114_94 h95 =>
pst h95 16 (cellsV v114_94) (fun u96 h97 =>
VL (lift2 (abin .add) (o57.getD 5 .und) (.int .i64 1)) fun v83_98 =>
N14 [v83_98] [(o57.getD 0 .und), (o57.getD 1 .und), (o57.getD 2 .und), (o57.getD 3 .und), (o57.getD 4 .und)] h97) (o57.getD 3 .und)) [v111_90, v112_92, (o57.getD 4 .und)]) (o57.getD 6 .und)) (o57.getD 3 .und)) (.ptr 72 0)) v84_17) (
pld h13 (some 16) (fun v115_99 h100 =>
pst h100 16 (cellsV v115_99) (fun u101 h102 =>
VL (pcellV h102 (some 16) (l12.getD 2 .und)) fun r103 =>
Rt h102 r103) (l12.getD 2 .und)) (l12.getD 3 .und)) v81_16) [(.int .i64 0)] [x1, (.ptr 66 0), (.ptr 68 0), (.ptr 69 0), v77_4] h10) (.ptr 69 0))) [v74_2]) (.ptr 66 0) (.ptr 66 0)) (.ptr 66 0)
theorem spec_l08Places_f {x0 x1 : V} : Prt Tryd.prog 48 [x0, x1] (spec_l08Places_F x0 x1) := pfun (fn := Tryd.f48) (m := [.s, .s, .s, .s, .l [7] [1, 2, 4, 5, 6], .s, .s, .s, .s, .j [1, 2, 4, 5, 6, 7, 8], .s, .j [1, 2, 4, 5, 6, 7, 8], .s, .s]) (c := 2 ≤ 52) rfl (fun h0 Rt => by kernel_rfl) (by decide)

def impl_IsDessin_F (x0 : V) (hi : Hp) (Rt : Hp → V → Prop) : Prop :=
pbox hi 65 30 (cellsV x0) fun h0 =>
pld h0 none (fun v69_1 h2 =>
pld h2 (some 16) (fun v71_3 h4 =>
pcal Tryd.prog 72 73 h4 (fun v73_5 h6 =>
pgk true h6 (fun g7 k8 => k8 (.ptr 65 17) h6) (fun g9 v11_10 h11 =>
pgk true h11 (fun g12 k13 => pld h11 (some 16) (fun v76_14 h15 =>
k13 v76_14 h15) v11_10) (fun g16 v12_17 h18 =>
pgk true h18 (fun g19 k20 => k20 v69_1 h18) (fun g21 v13_22 h23 =>
pgk true h23 (fun g24 k25 => pcal Tryd.prog 72 78 h23 (fun v78_26 h27 =>
k25 v78_26 h27) [v12_17, v13_22]) (fun g28 v14_29 h30 =>
VL (vpick g28 v14_29 (.bool false)) fun v79_31 =>
pgk true h30 (fun g32 k33 => k33 v69_1 h30) (fun g34 v17_35 h36 =>
pgk true h36 (fun g37 k38 => k38 (.ptr 65 1) h36) (fun g39 v18_40 h41 =>
pgk true h41 (fun g42 k43 => pld h41 (some 16) (fun v83_44 h45 =>
k43 v83_44 h45) v18_40) (fun g46 v19_47 h48 =>
pgk true h48 (fun g49 k50 => k50 (.ptr 65 17) h48) (fun g51 v20_52 h53 =>
pgk true h53 (fun g54 k55 => pld h53 (some 16) (fun v85_56 h57 =>
k55 v85_56 h57) v20_52) (fun g58 v21_59 h60 =>
pgk true h60 (fun g61 k62 => pmks h60 86 28 32 2 (fun h63 =>
k62 (.rf 86 0 2) h63) (vfill (vi .u8 (List.replicate 32 0)) [(0, 16, v19_47), (16, 16, v21_59)])) (fun g64 v22_65 h66 =>
pgk true h66 (fun g67 k68 => pcal Tryd.prog 73 87 h66 (fun v87_69 h70 =>
k68 v87_69 h70) [v17_35, v22_65]) (fun g71 v23_72 h73 =>
pgk true h73 (fun g74 k75 => k75 v69_1 h73) (fun g76 v24_77 h78 =>
pgk true h78 (fun g79 k80 => VL (lift2 (abin .eql) v23_72 v24_77) fun v89_81 =>
k80 v89_81 h78) (fun g82 v25_83 h84 =>
VL (vpick g82 v25_83 (.bool false)) fun v90_85 =>
Rt h84 v90_85) g76) g71) g64) g58) g51) g46) g39) g34) v79_31) g21) g16) g9) v73_5) [v71_3, v69_1]) (.ptr 65 1)) (.ptr 65 0)
theorem impl_IsDessin_f {x0 : V} : Prt Tryd.prog 49 [x0] (impl_IsDessin_F x0) := pfun (fn := Tryd.f49) (m := [.s, .s, .s]) (c := 1 ≤ 27) rfl (fun h0 Rt => by kernel_rfl) (by decide)

def impl_wordPlaces_F (x0 x1 : V) (hi : Hp) (Rt : Hp → V → Prop) : Prop :=
pbox hi 66 30 (cellsV x0) fun h0 =>
palloc h0 68 28 (vi .u8 (List.replicate 16 0)) fun h1 =>
pld h1 none (fun v73_2 h3 =>
pcal Tryd.prog 74 74 h3 (fun v74_4 h5 =>
palloc h5 69 28 (vi .u8 (List.replicate 16 0)) fun h6 =>
pst h6 16 (cellsV v74_4) (fun u7 h8 =>
VL (vlenT x1) fun v76_9 =>
LP [13] [1, 2, 4, 5, 12] (fun w10 l11 h12 N13 =>
VL (lift2 (abin .lss) (w10.getD 0 .und) (l11.getD 4 .und)) fun v78_14 =>
pcond (
VL (vfa 1 (l11.getD 1 .und)) fun v80_15 =>
pld h12 (some 16) (fun v81_16 h17 =>
palloc h17 71 28 (vi .u8 (List.replicate 16 0)) fun h18 =>
pst h18 16 (cellsV v81_16) (fun u19 h20 =>
JN (fun k21 =>
VL (vixT (l11.getD 0 .und) (w10.getD 0 .und)) fun v84_24 =>
VL (lift2 (abin .or) v84_24 (.int .u8 32)) fun v85_25 =>
VL (lift2 (abin .eql) v85_25 (.int .u8 121)) fun v86_26 =>
pcond (
VL (vfa 17 (l11.getD 1 .und)) fun v87_27 =>
pld h20 (some 16) (fun v88_28 h29 =>
pst h29 16 (cellsV v88_28) (fun u30 h31 =>
k21 [(l11.getD 0 .und), (l11.getD 1 .und), (l11.getD 2 .und), (l11.getD 3 .und), (w10.getD 0 .und), (.ptr 71 0), (l11.getD 4 .und), (w10.getD 0 .und)] h31) (.ptr 71 0)) v87_27) (
k21 [(l11.getD 0 .und), (l11.getD 1 .und), (l11.getD 2 .und), (l11.getD 3 .und), (w10.getD 0 .und), (.ptr 71 0), (l11.getD 4 .und), (w10.getD 0 .und)] h20) v86_26) fun o22 h23 =>
JN (fun k32 =>
VL (vixT (o22.getD 0 .und) (o22.getD 4 .und)) fun v91_35 =>
VL (lift2 (abin .lss) v91_35 (.int .u8 97)) fun v92_36 =>
pcond (
pld h23 (some 16) (fun v93_37 h38 =>
VL (vfa 0 (o22.getD 1 .und)) fun v94_39 =>
pld h38 none (fun v95_40 h41 =>
pcal Tryd.prog 40 96 h41 (fun v96_42 h43 =>
pst h43 16 (cellsV v96_42) (fun u44 h45 =>
k32 [(o22.getD 0 .und), (o22.getD 1 .und), (o22.getD 2 .und), (o22.getD 3 .und), (o22.getD 5 .und), (o22.getD 6 .und), (o22.getD 7 .und)] h45) (o22.getD 5 .und)) [v93_37, v95_40]) v94_39) (o22.getD 5 .und)) (
k32 [(o22.getD 0 .und), (o22.getD 1 .und), (o22.getD 2 .und), (o22.getD 3 .und), (o22.getD 5 .und), (o22.getD 6 .und), (o22.getD 7 .und)] h23) v92_36) fun o33 h34 =>
pld h34 (some 16) (fun v97_46 h47 =>
pld h47 (some 16) (fun v98_48 h49 =>
VL (vfa 0 (o33.getD 1 .und)) fun v99_50 =>
pld h49 none (fun v100_51 h52 =>
pcal Tryd.prog 75 101 h52 (fun v101_53 h54 =>
pst h54 16 (cellsV v101_53) (fun u55 h56 =>
VL (lift2 (abin .add) (o33.getD 6 .und) (.int .i64 1)) fun v102_57 =>
N13 [v102_57] [(o33.getD 0 .und), (o33.getD 1 .und), (o33.getD 2 .und), (o33.getD 3 .und), (o33.getD 5 .und)] h56) (o33.getD 3 .und)) [v97_46, v98_48, v100_51]) v99_50) (o33.getD 4 .und)) (o33.getD 3 .und)) (.ptr 71 0)) v80_15) (
pld h12 (some 16) (fun v103_58 h59 =>
pst h59 16 (cellsV v103_58) (fun u60 h61 =>
VL (pcellV h61 (some 16) (l11.getD 2 .und)) fun r62 =>
Rt h61 r62) (l11.getD 2 .und)) (l11.getD 3 .und)) v78_14) [(.int .i64 0)] [x1, (.ptr 66 0), (.ptr 68 0), (.ptr 69 0), v76_9] h8) (.ptr 69 0)) [v73_2]) (.ptr 66 0)
theorem impl_wordPlaces_f {x0 x1 : V} : Prt Tryd.prog 50 [x0, x1] (impl_wordPlaces_F x0 x1) := pfun (fn := Tryd.f50) (m := [.s, .s, .s, .s, .l [13] [1, 2, 4, 5, 12], .s, .s, .s, .s, .s, .j [1, 2, 4, 5, 6, 7, 12, 13], .s, .j [1, 2, 4, 5, 7, 12, 13], .s, .s]) (c := 2 ≤ 40) rfl (fun h0 Rt => by kernel_rfl) (by decide)

def spec_l08Words_F (x0 : V) (hi : Hp) (Rt : Hp → V → Prop) : Prop :=
LP [3] [0] (fun w0 l1 h2 N3 =>
VL (vlenS (l1.getD 0 .und)) fun v72_4 =>
VL (lift2 (abin .lss) (w0.getD 0 .und) v72_4) fun v73_5 =>
pcond (
LP [4] [0, 3] (fun w6 l7 h8 N9 =>
VL (vixS 1 (l7.getD 0 .und) (l7.getD 1 .und)) fun v79_10 =>
pld h8 none (fun v80_11 h12 =>
VL (vlenS v80_11) fun v81_13 =>
VL (lift2 (abin .lss) (w6.getD 0 .und) v81_13) fun v82_14 =>
pcond (
VL (vixS 1 (l7.getD 0 .und) (l7.getD 1 .und)) fun v87_15 =>
pld h12 none (fun v88_16 h17 =>
VL (vixS 1 v88_16 (w6.getD 0 .und)) fun v90_18 =>
pld h17 none (fun v91_19 h20 =>
pcal Tryd.prog 41 92 h20 (fun v92_21 h22 =>
VL (lift1 (aun .not) v92_21) fun v93_23 =>
pcond (
Rt h22 (.int .i64 1)) (
VL (lift2 (abin .add) (w6.getD 0 .und) (.int .i64 1)) fun v84_24 =>
N9 [v84_24] [(l7.getD 0 .und), (l7.getD 1 .und)] h22) v93_23) [v91_19]) v90_18) v87_15) (
VL (lift2 (abin .add) (l7.getD 1 .und) (.int .i64 1)) fun v75_25 =>
N3 [v75_25] [(l7.getD 0 .und)] h12) v82_14) v79_10) [(.int .i64 0)] [(l1.getD 0 .und), (w0.getD 0 .und)] h2) (
LP [5] [0] (fun w26 l27 h28 N29 =>
VL (vlenS (l27.getD 0 .und)) fun v96_30 =>
VL (lift2 (abin .lss) (w26.getD 0 .und) v96_30) fun v97_31 =>
pcond (
VL (vixS 1 (l27.getD 0 .und) (w26.getD 0 .und)) fun v102_32 =>
pld h28 none (fun v103_33 h34 =>
VL (vlenS v103_33) fun v104_35 =>
VL (lift2 (abin .gtr) v104_35 (.int .i64 20)) fun v105_36 =>
pcond (
Rt h34 (.int .i64 2)) (
VL (lift2 (abin .add) (w26.getD 0 .und) (.int .i64 1)) fun v99_37 =>
N29 [v99_37] [(l27.getD 0 .und)] h34) v105_36) v102_32) (
Rt h28 (.int .i64 0)) v97_31) [(.int .i64 0)] [(l1.getD 0 .und)] h2) v73_5) [(.int .i64 0)] [x0] hi
theorem spec_l08Words_f {x0 : V} : Prt Tryd.prog 51 [x0] (spec_l08Words_F x0) := pfun (fn := Tryd.f51) (m := [.s, .s, .s, .l [3] [0], .s, .s, .s, .s, .l [4] [0, 3], .s, .s, .s, .s, .s, .s, .s, .l [5] [0], .s, .s, .s, .s, .s, .s]) (c := 1 ≤ 42) rfl (fun h0 Rt => by kernel_rfl) (by decide)

def spec_l08Fits_F (x0 x1 : V) (hi : Hp) (Rt : Hp → V → Prop) : Prop :=
pbox hi 66 30 (cellsV x0) fun h0 =>
LP [5] [1, 2] (fun w1 l2 h3 N4 =>
VL (vlenS (l2.getD 0 .und)) fun v72_5 =>
VL (lift2 (abin .lss) (w1.getD 0 .und) v72_5) fun v73_6 =>
pcond (
pld h3 (some 33) (fun v76_7 h8 =>
VL (vixS 1 (l2.getD 0 .und) (w1.getD 0 .und)) fun v79_9 =>
pld h8 none (fun v80_10 h11 =>
VL (vfa 0 (l2.getD 1 .und)) fun v82_12 =>
pld h11 none (fun v83_13 h14 =>
pcalp Tryd.prog 48 81 h14 (fun v81_15 h16 =>
pcal Tryd.prog 57 84 h16 (fun v84_17 h18 =>
VL (veqa true true (List.replicate 16 (.i .u8)) v81_15 v84_17) fun v85_19 =>
pcond (
Rt h18 (.bool false)) (
VL (lift2 (abin .add) (w1.getD 0 .und) (.int .i64 1)) fun v75_20 =>
N4 [v75_20] [(l2.getD 0 .und), (l2.getD 1 .und)] h18) v85_19) [v83_13]) [v76_7, v80_10]) v82_12) v79_9) (l2.getD 1 .und)) (
Rt h3 (.bool true)) v73_6) [(.int .i64 0)] [x1, (.ptr 66 0)] h0
theorem spec_l08Fits_f {x0 x1 : V} : Prt Tryd.prog 52 [x0, x1] (spec_l08Fits_F x0 x1) := pfun (fn := Tryd.f52) (m := [.s, .s, .s, .l [5] [1, 2], .s, .s, .s, .s, .s, .s]) (c := 2 ≤ 22) rfl (fun h0 Rt => by kernel_rfl) (by decide)

def impl_areWords_F (x0 : V) (hi : Hp) (Rt : Hp → V → Prop) : Prop :=
VL (vlenS x0) fun v70_0 =>
LP [7] [5, 6] (fun w1 l2 h3 N4 =>
VL (lift2 (abin .lss) (w1.getD 0 .und) (l2.getD 1 .und)) fun v72_5 =>
pcond (
VL (vixS 1 (l2.getD 0 .und) (w1.getD 0 .und)) fun v73_6 =>
pld h3 none (fun v74_7 h8 =>
pcal Tryd.prog 17 76 h8 (fun v76_9 h10 =>
VL (lift1 (aun .not) v76_9) fun v77_11 =>
pcond (
Rt h10 (.bool false)) (
VL (lift2 (abin .add) (w1.getD 0 .und) (.int .i64 1)) fun v78_12 =>
N4 [v78_12] [(l2.getD 0 .und), (l2.getD 1 .und)] h10) v77_11) [v74_7]) v73_6) (
Rt h3 (.bool true)) v72_5) [(.int .i64 0)] [x0, v70_0] hi
theorem impl_areWords_f {x0 : V} : Prt Tryd.prog 53 [x0] (impl_areWords_F x0) := pfun (fn := Tryd.f53) (m := [.s, .s, .s, .l [7] [5, 6], .s, .s, .s, .s, .s, .s, .s]) (c := 1 ≤ 15) rfl (fun h0 Rt => by kernel_rfl) (by decide)

def impl_satisfies_F (x0 x1 : V) (hi : Hp) (Rt : Hp → V → Prop) : Prop :=
pbox hi 66 30 (cellsV x0) fun h0 =>
VL (vlenS x1) fun v72_1 =>
LP [9] [2, 7, 8] (fun w2 l3 h4 N5 =>
VL (lift2 (abin .lss) (w2.getD 0 .und) (l3.getD 2 .und)) fun v74_6 =>
pcond (
VL (vixS 1 (l3.getD 1 .und) (w2.getD 0 .und)) fun v75_7 =>
pld h4 none (fun v76_8 h9 =>
pld h9 (some 33) (fun v77_10 h11 =>
VL (vfa 0 (l3.getD 0 .und)) fun v80_12 =>
pld h11 none (fun v81_13 h14 =>
pcalp Tryd.prog 50 79 h14 (fun v79_15 h16 =>
pcal Tryd.prog 74 82 h16 (fun v82_17 h18 =>
VL (veqa true true (List.replicate 16 (.i .u8)) v79_15 v82_17) fun v83_19 =>
pcond (
Rt h18 (.bool false)) (
VL (lift2 (abin .add) (w2.getD 0 .und) (.int .i64 1)) fun v84_20 =>
N5 [v84_20] [(l3.getD 0 .und), (l3.getD 1 .und), (l3.getD 2 .und)] h18) v83_19) [v81_13]) [v77_10, v76_8]) v80_12) (l3.getD 0 .und)) v75_7) (
Rt h4 (.bool true)) v74_6) [(.int .i64 0)] [(.ptr 66 0), x1, v72_1] h0
theorem impl_satisfies_f {x0 x1 : V} : Prt Tryd.prog 54 [x0, x1] (impl_satisfies_F x0 x1) := pfun (fn := Tryd.f54) (m := [.s, .s, .s, .l [9] [2, 7, 8], .s, .s, .s, .s, .s, .s, .s]) (c := 2 ≤ 21) rfl (fun h0 Rt => by kernel_rfl) (by decide)

def spec_l09List_F (x0 x1 x2 x3 : V) (hi : Hp) (Rt : Hp → V → Prop) : Prop :=
LP [9] [0, 1, 2, 3] (fun w0 l1 h2 N3 =>
VL (vlenS (l1.getD 0 .und)) fun v76_4 =>
VL (lift2 (abin .lss) (w0.getD 0 .und) v76_4) fun v77_5 =>
pcond (
VL (vixS 1 (l1.getD 0 .und) (w0.getD 0 .und)) fun v82_6 =>
pld h2 none (fun v83_7 h8 =>
pcal Tryd.prog 31 86 h8 (fun v86_9 h10 =>
VL (lift1 (aun .not) v86_9) fun v87_11 =>
pcond (
Rt h10 (.bool false)) (
VL (lift2 (abin .add) (w0.getD 0 .und) (.int .i64 1)) fun v79_12 =>
N3 [v79_12] [(l1.getD 0 .und), (l1.getD 1 .und), (l1.getD 2 .und), (l1.getD 3 .und)] h10) v87_11) [v83_7, (l1.getD 2 .und), (l1.getD 3 .und)]) v82_6) (
VL (vlenS (l1.getD 0 .und)) fun v89_13 =>
VL (lift2 (abin .eql) v89_13 (l1.getD 1 .und)) fun v91_14 =>
Rt h2 v91_14) v77_5) [(.int .i64 0)] [x0, x1, x2, x3] hi
theorem spec_l09List_f {x0 x1 x2 x3 : V} : Prt Tryd.prog 55 [x0, x1, x2, x3] (spec_l09List_F x0 x1 x2 x3) := pfun (fn := Tryd.f55) (m := [.s, .s, .s, .l [9] [0, 1, 2, 3], .s, .s, .s, .s, .s, .s]) (c := 4 ≤ 28) rfl (fun h0 Rt => by kernel_rfl) (by decide)

def spec_l01Face_F (x0 : V) (hi : Hp) (Rt : Hp → V → Prop) : Prop :=
pbox hi 65 30 (cellsV x0) fun h0 =>
palloc h0 66 28 (vi .u8 (List.replicate 16 0)) fun h1 =>
pld h1 (some 16) (fun v68_2 h3 =>
pld h3 (some 16) (fun v70_4 h5 =>
pld h5 none (fun v72_6 h7 =>
pld h7 none (fun v75_8 h9 =>
pcalp Tryd.prog 58 73 h9 (fun v73_10 h11 =>
pcal Tryd.prog 33 76 h11 (fun v76_12 h13 =>
pst h13 16 (cellsV v76_12) (fun u14 h15 =>
VL (pcellV h15 (some 16) (.ptr 66 0)) fun r16 =>
Rt h15 r16) (.ptr 66 0)) [v73_10, v75_8]) [v68_2, v70_4, v72_6]) (.ptr 65 0)) (.ptr 65 0)) (.ptr 65 17)) (.ptr 65 1)
theorem spec_l01Face_f {x0 : V} : Prt Tryd.prog 56 [x0] (spec_l01Face_F x0) := pfun (fn := Tryd.f56) (m := [.s, .s]) (c := 1 ≤ 13) rfl (fun h0 Rt => by kernel_rfl) (by decide)

def spec_l01Same_F (x0 : V) (hi : Hp) (Rt : Hp → V → Prop) : Prop :=
palloc hi 66 28 (vi .u8 (List.replicate 16 0)) fun h0 =>
VL (vbld (vfill (vi .u8 (List.replicate 16 0)) [])) fun v69_1 =>
palloc h0 67 28 (vi .u8 (List.replicate 16 0)) fun h2 =>
pst h2 16 (cellsV v69_1) (fun u3 h4 =>
LP [4] [0, 2, 3] (fun w5 l6 h7 N8 =>
VL (lift2 (abin .lss) (w5.getD 0 .und) (l6.getD 0 .und)) fun v72_9 =>
pcond (
VL (lift1 (acvi .u8) (w5.getD 0 .und)) fun v77_10 =>
VL (vixA 16 1 (l6.getD 2 .und) (w5.getD 0 .und)) fun v78_11 =>
pst h7 1 (cellsV v77_10) (fun u12 h13 =>
VL (lift2 (abin .add) (w5.getD 0 .und) (.int .i64 1)) fun v74_14 =>
N8 [v74_14] [(l6.getD 0 .und), (l6.getD 1 .und), (l6.getD 2 .und)] h13) v78_11) (
pld h7 (some 16) (fun v79_15 h16 =>
pst h16 16 (cellsV v79_15) (fun u17 h18 =>
VL (pcellV h18 (some 16) (l6.getD 1 .und)) fun r19 =>
Rt h18 r19) (l6.getD 1 .und)) (l6.getD 2 .und)) v72_9) [(.int .i64 0)] [x0, (.ptr 66 0), (.ptr 67 0)] h4) (.ptr 67 0)
theorem spec_l01Same_f {x0 : V} : Prt Tryd.prog 57 [x0] (spec_l01Same_F x0) := pfun (fn := Tryd.f57) (m := [.s, .s, .s, .s, .l [4] [0, 2, 3], .s, .s, .s, .s]) (c := 1 ≤ 16) rfl (fun h0 Rt => by kernel_rfl) (by decide)

def spec_l01Then_F (x0 x1 x2 : V) (hi : Hp) (Rt : Hp → V → Prop) : Prop :=
pbox hi 67 28 (cellsV x0) fun h0 =>
pbox h0 68 28 (cellsV x1) fun h1 =>
palloc h1 70 28 (vi .u8 (List.replicate 16 0)) fun h2 =>
VL (vbld (vfill (vi .u8 (List.replicate 16 0)) [])) fun v73_3 =>
palloc h2 71 28 (vi .u8 (List.replicate 16 0)) fun h4 =>
pst h4 16 (cellsV v73_3) (fun u5 h6 =>
LP [8] [2, 3, 4, 6, 7] (fun w7 l8 h9 N10 =>
VL (lift2 (abin .lss) (w7.getD 0 .und) (l8.getD 0 .und)) fun v76_11 =>
pcond (
VL (vixA 16 1 (l8.getD 1 .und) (w7.getD 0 .und)) fun v81_12 =>
pld h9 none (fun v82_13 h14 =>
VL (vixA 16 1 (l8.getD 2 .und) v82_13) fun v83_15 =>
pld h14 none (fun v84_16 h17 =>
VL (vixA 16 1 (l8.getD 4 .und) (w7.getD 0 .und)) fun v85_18 =>
pst h17 1 (cellsV v84_16) (fun u19 h20 =>
VL (lift2 (abin .add) (w7.getD 0 .und) (.int .i64 1)) fun v78_21 =>
N10 [v78_21] [(l8.getD 0 .und), (l8.getD 1 .und), (l8.getD 2 .und), (l8.getD 3 .und), (l8.getD 4 .und)] h20) v85_18) v83_15) v81_12) (
pld h9 (some 16) (fun v86_22 h23 =>
pst h23 16 (cellsV v86_22) (fun u24 h25 =>
VL (pcellV h25 (some 16) (l8.getD 3 .und)) fun r26 =>
Rt h25 r26) (l8.getD 3 .und)) (l8.getD 4 .und)) v76_11) [(.int .i64 0)] [x2, (.ptr 67 0), (.ptr 68 0), (.ptr 70 0), (.ptr 71 0)] h6) (.ptr 71 0)
theorem spec_l01Then_f {x0 x1 x2 : V} : Prt Tryd.prog 58 [x0, x1, x2] (spec_l01Then_F x0 x1 x2) := pfun (fn := Tryd.f58) (m := [.s, .s, .s, .s, .l [8] [2, 3, 4, 6, 7], .s, .s, .s, .s]) (c := 3 ≤ 23) rfl (fun h0 Rt => by kernel_rfl) (by decide)

def impl_areVoltages_F (x0 x1 x2 : V) (hi : Hp) (Rt : Hp → V → Prop) : Prop :=
pbox hi 67 30 (cellsV x0) fun h0 =>
VL (lift2 (abin .lss) x1 (.int .i64 1)) fun v76_1 =>
pgk false h0 (fun g2 k3 => k3 x1 h0) (fun g4 v14_5 h6 =>
pgk false h6 (fun g7 k8 => VL (lift2 (abin .gtr) v14_5 (.int .i64 16)) fun v79_9 =>
k8 v79_9 h6) (fun g10 v15_11 h12 =>
VL (vpick g10 (.bool true) v15_11) fun v80_13 =>
pcond (
Rt h12 (.bool false)) (
VL (vlenS x2) fun v82_14 =>
LP [19] [1, 3, 17, 18] (fun w15 l16 h17 N18 =>
VL (lift2 (abin .lss) (w15.getD 0 .und) (l16.getD 3 .und)) fun v84_19 =>
pcond (
VL (vixS 1 (l16.getD 2 .und) (w15.getD 0 .und)) fun v85_20 =>
pld h17 none (fun v86_21 h22 =>
VL (vlenS v86_21) fun v88_23 =>
VL (vfa 0 (l16.getD 1 .und)) fun v89_24 =>
pld h22 none (fun v90_25 h26 =>
VL (lift2 (abin .neq) v88_23 v90_25) fun v91_27 =>
pcond (
Rt h26 (.bool false)) (
VL (vlenS v86_21) fun v93_28 =>
LP [30] [1, 3, 17, 18, 19, 28, 29] (fun w29 l30 h31 N32 =>
VL (lift2 (abin .lss) (w29.getD 0 .und) (l30.getD 6 .und)) fun v95_33 =>
pcond (
VL (vixS 1 (l30.getD 5 .und) (w29.getD 0 .und)) fun v96_34 =>
pld h31 none (fun v97_35 h36 =>
VL (lift2 (abin .lss) v97_35 (.int .i64 0)) fun v99_37 =>
pgk false h36 (fun g38 k39 => k39 v97_35 h36) (fun g40 v37_41 h42 =>
pgk false h42 (fun g43 k44 => k44 (l30.getD 0 .und) h42) (fun g45 v38_46 h47 =>
pgk false h47 (fun g48 k49 => VL (lift2 (abin .geq) v37_41 v38_46) fun v103_50 =>
k49 v103_50 h47) (fun g51 v39_52 h53 =>
VL (vpick g51 (.bool true) v39_52) fun v104_54 =>
pcond (
Rt h53 (.bool false)) (
VL (lift2 (abin .add) (w29.getD 0 .und) (.int .i64 1)) fun v105_55 =>
N32 [v105_55] [(l30.getD 0 .und), (l30.getD 1 .und), (l30.getD 2 .und), (l30.getD 3 .und), (l30.getD 4 .und), (l30.getD 5 .und), (l30.getD 6 .und)] h53) v104_54) g45) g40) v99_37) v96_34) (
VL (lift2 (abin .add) (l30.getD 4 .und) (.int .i64 1)) fun v106_56 =>
N18 [v106_56] [(l30.getD 0 .und), (l30.getD 1 .und), (l30.getD 2 .und), (l30.getD 3 .und)] h31) v95_33) [(.int .i64 0)] [(l16.getD 0 .und), (l16.getD 1 .und), (l16.getD 2 .und), (l16.getD 3 .und), (w15.getD 0 .und), v86_21, v93_28] h26) v91_27) v89_24) v85_20) (
Rt h17 (.bool true)) v84_19) [(.int .i64 0)] [x1, (.ptr 67 0), x2, v82_14] h12) v80_13) g4) v76_1
theorem impl_areVoltages_f {x0 x1 x2 : V} : Prt Tryd.prog 59 [x0, x1, x2] (impl_areVoltages_F x0 x1 x2) := pfun (fn := Tryd.f59) (m := [.s, .s, .s, .s, .s, .s, .l [19] [1, 3, 17, 18], .s, .s, .s, .s, .s, .s, .s, .s, .l [30] [1, 3, 17, 18, 19, 28, 29], .s, .s, .s, .s, .s, .s, .s]) (c := 3 ≤ 43) rfl (fun h0 Rt => by kernel_rfl) (by decide)

def spec_l08Letter_F (x0 : V) (hi : Hp) (Rt : Hp → V → Prop) : Prop :=
VL (lift2 (abin .eql) x0 (.int .u8 120)) fun v68_0 =>
pgk false hi (fun g1 k2 => k2 x0 hi) (fun g3 v6_4 h5 =>
pgk false h5 (fun g6 k7 => VL (lift2 (abin .eql) v6_4 (.int .u8 121)) fun v71_8 =>
k7 v71_8 h5) (fun g9 v7_10 h11 =>
VL (vpick g9 (.bool true) v7_10) fun v72_12 =>
pgk false h11 (fun g13 k14 => k14 x0 h11) (fun g15 v10_16 h17 =>
pgk false h17 (fun g18 k19 => VL (lift2 (abin .eql) v10_16 (.int .u8 88)) fun v75_20 =>
k19 v75_20 h17) (fun g21 v11_22 h23 =>
VL (vpick g21 (.bool true) v11_22) fun v76_24 =>
pgk false h23 (fun g25 k26 => k26 x0 h23) (fun g27 v14_28 h29 =>
pgk false h29 (fun g30 k31 => VL (lift2 (abin .eql) v14_28 (.int .u8 89)) fun v79_32 =>
k31 v79_32 h29) (fun g33 v15_34 h35 =>
VL (vpick g33 (.bool true) v15_34) fun v80_36 =>
Rt h35 v80_36) g27) v76_24) g15) v72_12) g3) v68_0
theorem spec_l08Letter_f {x0 : V} : Prt Tryd.prog 60 [x0] (spec_l08Letter_F x0) := pfun (fn := Tryd.f60) (m := [.s, .s]) (c := 1 ≤ 17) rfl (fun h0 Rt => by kernel_rfl) (by decide)

def strings_trimLeftByte_F (x0 x1 : V) (hi : Hp) (Rt : Hp → V → Prop) : Prop :=
LP [0] [1] (fun w0 l1 h2 N3 =>
VL (vlenT (w0.getD 0 .und)) fun v70_4 =>
VL (lift2 (abin .gtr) v70_4 (.int .i64 0)) fun v71_5 =>
pgk true h2 (fun g6 k7 => k7 (w0.getD 0 .und) h2) (fun g8 v9_9 h10 =>
pgk true h10 (fun g11 k12 => VL (vixT v9_9 (.int .i64 0)) fun v74_13 =>
k12 v74_13 h10) (fun g14 v10_15 h16 =>
pgk true h16 (fun g17 k18 => k18 (l1.getD 0 .und) h16) (fun g19 v11_20 h21 =>
pgk true h21 (fun g22 k23 => VL (lift2 (abin .eql) v10_15 v11_20) fun v76_24 =>
k23 v76_24 h21) (fun g25 v12_26 h27 =>
VL (vpick g25 v12_26 (.bool false)) fun v77_28 =>
pcond (
VL (vslT (w0.getD 0 .und) (some (.int .i64 1)) none) fun v79_29 =>
N3 [v79_29] [(l1.getD 0 .und)] h27) (
Rt h27 (w0.getD 0 .und)) v77_28) g19) g14) g8) v71_5) [x0] [x1] hi
theorem strings_trimLeftByte_f {x0 x1 : V} : Prt Tryd.prog 61 [x0, x1] (strings_trimLeftByte_F x0 x1) := pfun (fn := Tryd.f61) (m := [.s, .s, .l [0] [1], .s, .s, .s]) (c := 2 ≤ 17) rfl (fun h0 Rt => by kernel_rfl) (by decide)

def strings_trimRightByte_F (x0 x1 : V) (hi : Hp) (Rt : Hp → V → Prop) : Prop :=
LP [0] [1] (fun w0 l1 h2 N3 =>
VL (vlenT (w0.getD 0 .und)) fun v70_4 =>
VL (lift2 (abin .gtr) v70_4 (.int .i64 0)) fun v71_5 =>
pgk true h2 (fun g6 k7 => k7 (w0.getD 0 .und) h2) (fun g8 v9_9 h10 =>
pgk true h10 (fun g11 k12 => k12 (w0.getD 0 .und) h10) (fun g13 v10_14 h15 =>
pgk true h15 (fun g16 k17 => VL (vlenT v10_14) fun v75_18 =>
k17 v75_18 h15) (fun g19 v11_20 h21 =>
pgk true h21 (fun g22 k23 => VL (lift2 (abin .sub) v11_20 (.int .i64 1)) fun v76_24 =>
k23 v76_24 h21) (fun g25 v12_26 h27 =>
pgk true h27 (fun g28 k29 => VL (vixT v9_9 v12_26) fun v77_30 =>
k29 v77_30 h27) (fun g31 v13_32 h33 =>
pgk true h33 (fun g34 k35 => k35 (l1.getD 0 .und) h33) (fun g36 v14_37 h38 =>
pgk true h38 (fun g39 k40 => VL (lift2 (abin .eql) v13_32 v14_37) fun v79_41 =>
k40 v79_41 h38) (fun g42 v15_43 h44 =>
VL (vpick g42 v15_43 (.bool false)) fun v80_45 =>
pcond (
VL (vlenT (w0.getD 0 .und)) fun v83_46 =>
VL (lift2 (abin .sub) v83_46 (.int .i64 1)) fun v84_47 =>
VL (vslT (w0.getD 0 .und) none (some v84_47)) fun v85_48 =>
N3 [v85_48] [(l1.getD 0 .und)] h44) (
Rt h44 (w0.getD 0 .und)) v80_45) g36) g31) g25) g19) g13) g8) v71_5) [x0] [x1] hi
theorem strings_trimRightByte_f {x0 x1 : V} : Prt Tryd.prog 62 [x0, x1] (strings_trimRightByte_F x0 x1) := pfun (fn := Tryd.f62) (m := [.s, .s, .l [0] [1], .s, .s, .s]) (c := 2 ≤ 23) rfl (fun h0 Rt => by kernel_rfl) (by decide)

def strings_makeASCIISet_F (x0 : V) (hi : Hp) (Rt : Hp → V → Prop) : Prop :=
palloc hi 66 74 (vb (List.replicate 256 false)) fun h0 =>
LP [4] [0, 2] (fun w1 l2 h3 N4 =>
VL (vlenT (l2.getD 0 .und)) fun v72_5 =>
VL (lift2 (abin .lss) (w1.getD 0 .und) v72_5) fun v73_6 =>
pcond (
VL (vixT (l2.getD 0 .und) (w1.getD 0 .und)) fun v78_7 =>
VL (lift2 (abin .geq) v78_7 (.int .u8 128)) fun v80_8 =>
pcond (
pld h3 (some 256) (fun v81_9 h10 =>
pst h10 256 (cellsV v81_9) (fun u11 h12 =>
VL (pcellV h12 (some 256) (l2.getD 1 .und)) fun r13 =>
Rt h12 (.tup [r13, (.bool false)])) (l2.getD 1 .und)) (l2.getD 1 .und)) (
VL (vixA 256 1 (l2.getD 1 .und) v78_7) fun v83_14 =>
pst h3 1 (cellsV (.bool true)) (fun u15 h16 =>
VL (lift2 (abin .add) (w1.getD 0 .und) (.int .i64 1)) fun v75_17 =>
N4 [v75_17] [(l2.getD 0 .und), (l2.getD 1 .und)] h16) v83_14) v80_8) (
pld h3 (some 256) (fun v84_18 h19 =>
pst h19 256 (cellsV v84_18) (fun u20 h21 =>
VL (pcellV h21 (some 256) (l2.getD 1 .und)) fun r22 =>
Rt h21 (.tup [r22, (.bool true)])) (l2.getD 1 .und)) (l2.getD 1 .und)) v73_6) [(.int .i64 0)] [x0, (.ptr 66 0)] h0
theorem strings_makeASCIISet_f {x0 : V} : Prt Tryd.prog 63 [x0] (strings_makeASCIISet_F x0) := pfun (fn := Tryd.f63) (m := [.s, .s, .s, .l [4] [0, 2], .s, .s, .s, .s, .s, .s, .s, .s]) (c := 1 ≤ 21) rfl (fun h0 Rt => by kernel_rfl) (by decide)

def strings_trimLeftASCII_F (x0 x1 : V) (hi : Hp) (Rt : Hp → V → Prop) : Prop :=
JN (fun k0 =>
LP [0] [1] (fun w3 l4 h5 N6 =>
VL (vlenT (w3.getD 0 .und)) fun v70_7 =>
VL (lift2 (abin .gtr) v70_7 (.int .i64 0)) fun v71_8 =>
pcond (
VL (vixT (w3.getD 0 .und) (.int .i64 0)) fun v74_9 =>
pcal Tryd.prog 76 75 h5 (fun v75_10 h11 =>
VL (lift1 (aun .not) v75_10) fun v76_12 =>
pcond (
k0 [(w3.getD 0 .und)] h11) (
VL (vslT (w3.getD 0 .und) (some (.int .i64 1)) none) fun v78_13 =>
N6 [v78_13] [(l4.getD 0 .und)] h11) v76_12) [(l4.getD 0 .und), v74_9]) (
k0 [(w3.getD 0 .und)] h5) v71_8) [x0] [x1] hi) fun o1 h2 =>
Rt h2 (o1.getD 0 .und)
theorem strings_trimLeftASCII_f {x0 x1 : V} : Prt Tryd.prog 64 [x0, x1] (strings_trimLeftASCII_F x0 x1) := pfun (fn := Tryd.f64) (m := [.s, .j [0], .l [0] [1], .s, .s, .s, .s, .s]) (c := 2 ≤ 16) rfl (fun h0 Rt => by kernel_rfl) (by decide)

def strings_trimRightASCII_F (x0 x1 : V) (hi : Hp) (Rt : Hp → V → Prop) : Prop :=
JN (fun k0 =>
LP [0] [1] (fun w3 l4 h5 N6 =>
VL (vlenT (w3.getD 0 .und)) fun v70_7 =>
VL (lift2 (abin .gtr) v70_7 (.int .i64 0)) fun v71_8 =>
pcond (
VL (vlenT (w3.getD 0 .und)) fun v75_9 =>
VL (lift2 (abin .sub) v75_9 (.int .i64 1)) fun v76_10 =>
VL (vixT (w3.getD 0 .und) v76_10) fun v77_11 =>
pcal Tryd.prog 76 78 h5 (fun v78_12 h13 =>
VL (lift1 (aun .not) v78_12) fun v79_14 =>
pcond (
k0 [(w3.getD 0 .und)] h13) (
VL (vlenT (w3.getD 0 .und)) fun v82_15 =>
VL (lift2 (abin .sub) v82_15 (.int .i64 1)) fun v83_16 =>
VL (vslT (w3.getD 0 .und) none (some v83_16)) fun v84_17 =>
N6 [v84_17] [(l4.getD 0 .und)] h13) v79_14) [(l4.getD 0 .und), v77_11]) (
k0 [(w3.getD 0 .und)] h5) v71_8) [x0] [x1] hi) fun o1 h2 =>
Rt h2 (o1.getD 0 .und)
theorem strings_trimRightASCII_f {x0 x1 : V} : Prt Tryd.prog 65 [x0, x1] (strings_trimRightASCII_F x0 x1) := pfun (fn := Tryd.f65) (m := [.s, .j [0], .l [0] [1], .s, .s, .s, .s, .s]) (c := 2 ≤ 22) rfl (fun h0 Rt => by kernel_rfl) (by decide)

def strings_trimLeftUnicode_F (x0 x1 : V) (hi : Hp) (Rt : Hp → V → Prop) : Prop :=
JN (fun k0 =>
LP [0] [1] (fun w3 l4 h5 N6 =>
VL (vlenT (w3.getD 0 .und)) fun v72_7 =>
VL (lift2 (abin .gtr) v72_7 (.int .i64 0)) fun v73_8 =>
pcond (
pcal Tryd.prog 77 76 h5 (fun v76_9 h10 =>
VL (vext 0 v76_9) fun v77_11 =>
VL (vext 1 v76_9) fun v78_12 =>
pcal Tryd.prog 78 81 h10 (fun v81_13 h14 =>
VL (lift1 (aun .not) v81_13) fun v82_15 =>
pcond (
k0 [(w3.getD 0 .und)] h14) (
VL (vslT (w3.getD 0 .und) (some v78_12) none) fun v85_16 =>
N6 [v85_16] [(l4.getD 0 .und)] h14) v82_15) [(l4.getD 0 .und), v77_11]) [(w3.getD 0 .und)]) (
k0 [(w3.getD 0 .und)] h5) v73_8) [x0] [x1] hi) fun o1 h2 =>
Rt h2 (o1.getD 0 .und)
theorem strings_trimLeftUnicode_f {x0 x1 : V} : Prt Tryd.prog 66 [x0, x1] (strings_trimLeftUnicode_F x0 x1) := pfun (fn := Tryd.f66) (m := [.s, .j [0], .l [0] [1], .s, .s, .s, .s, .s, .s]) (c := 2 ≤ 23) rfl (fun h0 Rt => by kernel_rfl) (by decide)

def strings_trimRightUnicode_F (x0 x1 : V) (hi : Hp) (Rt : Hp → V → Prop) : Prop :=
JN (fun k0 =>
LP [0] [1] (fun w3 l4 h5 N6 =>
VL (vlenT (w3.getD 0 .und)) fun v72_7 =>
VL (lift2 (abin .gtr) v72_7 (.int .i64 0)) fun v73_8 =>
pcond (
VL (vlenT (w3.getD 0 .und)) fun v76_9 =>
VL (lift2 (abin .sub) v76_9 (.int .i64 1)) fun v77_10 =>
VL (vixT (w3.getD 0 .und) v77_10) fun v78_11 =>
VL (lift1 (acvi .i32) v78_11) fun v79_12 =>
JN (fun k13 =>
VL (lift2 (abin .geq) v79_12 (.int .i32 128)) fun v81_16 =>
pcond (
pcal Tryd.prog 79 84 h5 (fun v84_17 h18 =>
VL (vext 0 v84_17) fun v85_19 =>
VL (vext 1 v84_17) fun v86_20 =>
k13 [(w3.getD 0 .und), (l4.getD 0 .und), v85_19, v86_20] h18) [(w3.getD 0 .und)]) (
k13 [(w3.getD 0 .und), (l4.getD 0 .und), v79_12, (.int .i64 1)] h5) v81_16) fun o14 h15 =>
pcal Tryd.prog 78 89 h15 (fun v89_21 h22 =>
VL (lift1 (aun .not) v89_21) fun v90_23 =>
pcond (
k0 [(o14.getD 0 .und)] h22) (
VL (vlenT (o14.getD 0 .und)) fun v93_24 =>
VL (lift2 (abin .sub) v93_24 (o14.getD 3 .und)) fun v95_25 =>
VL (vslT (o14.getD 0 .und) none (some v95_25)) fun v96_26 =>
N6 [v96_26] [(o14.getD 1 .und)] h22) v90_23) [(o14.getD 1 .und), (o14.getD 2 .und)]) (
k0 [(w3.getD 0 .und)] h5) v73_8) [x0] [x1] hi) fun o1 h2 =>
Rt h2 (o1.getD 0 .und)
theorem strings_trimRightUnicode_f {x0 x1 : V} : Prt Tryd.prog 67 [x0, x1] (strings_trimRightUnicode_F x0 x1) := pfun (fn := Tryd.f67) (m := [.s, .j [0], .l [0] [1], .s, .s, .s, .j [0, 1, 5, 6], .s, .s, .s, .s]) (c := 2 ≤ 34) rfl (fun h0 Rt => by kernel_rfl) (by decide)

def spec_l08Other_F (x0 : V) (hi : Hp) (Rt : Hp → V → Prop) : Prop :=
VL (lift2 (abin .eql) x0 (.int .u8 120)) fun v69_0 =>
pcond (
Rt hi (.int .u8 88)) (
VL (lift2 (abin .eql) x0 (.int .u8 88)) fun v71_1 =>
pcond (
Rt hi (.int .u8 120)) (
VL (lift2 (abin .eql) x0 (.int .u8 121)) fun v73_2 =>
pcond (
Rt hi (.int .u8 89)) (
Rt hi (.int .u8 121)) v73_2) v71_1) v69_0
theorem spec_l08Other_f {x0 : V} : Prt Tryd.prog 68 [x0] (spec_l08Other_F x0) := pfun (fn := Tryd.f68) (m := [.s, .s, .s, .s, .s, .s, .s, .s, .s, .s]) (c := 1 ≤ 10) rfl (fun h0 Rt => by kernel_rfl) (by decide)

def impl_inverseLetter_F (x0 : V) (hi : Hp) (Rt : Hp → V → Prop) : Prop :=
VL (lift2 (abin .xor) x0 (.int .u8 32)) fun v68_0 =>
Rt hi v68_0
theorem impl_inverseLetter_f {x0 : V} : Prt Tryd.prog 69 [x0] (impl_inverseLetter_F x0) := pfun (fn := Tryd.f69) (m := [.s, .s]) (c := 1 ≤ 5) rfl (fun h0 Rt => by kernel_rfl) (by decide)

def spec_l01Perm_F (x0 x1 : V) (hi : Hp) (Rt : Hp → V → Prop) : Prop :=
pbox hi 66 28 (cellsV x0) fun h0 =>
pcal Tryd.prog 31 72 h0 (fun v72_1 h2 =>
VL (lift1 (aun .not) v72_1) fun v73_3 =>
pcond (
Rt h2 (.bool false)) (
VL (vbld (vfill (vb (List.replicate 16 false)) [])) fun v74_4 =>
palloc h2 69 88 (vb (List.replicate 16 false)) fun h5 =>
pst h5 16 (cellsV v74_4) (fun u6 h7 =>
LP [6] [1, 2, 5] (fun w8 l9 h10 N11 =>
VL (lift2 (abin .lss) (w8.getD 0 .und) (.int .i64 16)) fun v76_12 =>
pcond (
JN (fun k13 =>
VL (lift2 (abin .geq) (w8.getD 0 .und) (l9.getD 0 .und)) fun v86_16 =>
pcond (
VL (vixA 16 1 (l9.getD 1 .und) (w8.getD 0 .und)) fun v88_17 =>
pld h10 none (fun v89_18 h19 =>
VL (lift2 (abin .neq) v89_18 (.int .u8 0)) fun v90_20 =>
pcond (
Rt h19 (.bool false)) (
k13 [(l9.getD 0 .und), (l9.getD 1 .und), (l9.getD 2 .und), (w8.getD 0 .und)] h19) v90_20) v88_17) (
VL (vixA 16 1 (l9.getD 1 .und) (w8.getD 0 .und)) fun v93_21 =>
pld h10 none (fun v94_22 h23 =>
VL (lift1 (acvi .i64) v94_22) fun v95_24 =>
VL (lift2 (abin .geq) v95_24 (l9.getD 0 .und)) fun v97_25 =>
pgk false h23 (fun g26 k27 => k27 (w8.getD 0 .und) h23) (fun g28 v35_29 h30 =>
pgk false h30 (fun g31 k32 => VL (vixA 16 1 (l9.getD 1 .und) v35_29) fun v100_33 =>
k32 v100_33 h30) (fun g34 v36_35 h36 =>
pgk false h36 (fun g37 k38 => pld h36 none (fun v101_39 h40 =>
k38 v101_39 h40) v36_35) (fun g41 v37_42 h43 =>
pgk false h43 (fun g44 k45 => VL (vixA 16 1 (l9.getD 2 .und) v37_42) fun v102_46 =>
k45 v102_46 h43) (fun g47 v38_48 h49 =>
pgk false h49 (fun g50 k51 => pld h49 none (fun v103_52 h53 =>
k51 v103_52 h53) v38_48) (fun g54 v39_55 h56 =>
VL (vpick g54 (.bool true) v39_55) fun v104_57 =>
pcond (
Rt h56 (.bool false)) (
VL (vixA 16 1 (l9.getD 1 .und) (w8.getD 0 .und)) fun v80_58 =>
pld h56 none (fun v81_59 h60 =>
VL (vixA 16 1 (l9.getD 2 .und) v81_59) fun v82_61 =>
pst h60 1 (cellsV (.bool true)) (fun u62 h63 =>
k13 [(l9.getD 0 .und), (l9.getD 1 .und), (l9.getD 2 .und), (w8.getD 0 .und)] h63) v82_61) v80_58) v104_57) g47) g41) g34) g28) v97_25) v93_21) v86_16) fun o14 h15 =>
VL (lift2 (abin .add) (o14.getD 3 .und) (.int .i64 1)) fun v78_64 =>
N11 [v78_64] [(o14.getD 0 .und), (o14.getD 1 .und), (o14.getD 2 .und)] h15) (
Rt h10 (.bool true)) v76_12) [(.int .i64 0)] [x1, (.ptr 66 0), (.ptr 69 0)] h7) (.ptr 69 0)) v73_3) [x1, (.int .i64 1), (.int .i64 16)]
theorem spec_l01Perm_f {x0 x1 : V} : Prt Tryd.prog 70 [x0, x1] (spec_l01Perm_F x0 x1) := pfun (fn := Tryd.f70) (m := [.s, .s, .s, .s, .s, .s, .s, .l [6] [1, 2, 5], .s, .s, .j [1, 2, 5, 6], .s, .s, .s, .s, .s, .s]) (c := 2 ≤ 41) rfl (fun h0 Rt => by kernel_rfl) (by decide)

def spec_l01Connected_F (x0 x1 x2 : V) (hi : Hp) (Rt : Hp → V → Prop) : Prop :=
pbox hi 68 28 (cellsV x1) fun h0 =>
pbox h0 69 28 (cellsV x2) fun h1 =>
VL (vbld (vfill (vb (List.replicate 16 false)) [])) fun v76_2 =>
pmks h1 77 5 1 1 (fun h3 =>
palloc h3 71 88 (vb (List.replicate 16 false)) fun h4 =>
pst h4 16 (cellsV v76_2) (fun u5 h6 =>
VL (vixA 16 1 (.ptr 71 0) (.int .i64 0)) fun v78_7 =>
pst h6 1 (cellsV (.bool true)) (fun u8 h9 =>
LP [8, 9] [0, 4, 5, 7] (fun w10 l11 h12 N13 =>
VL (vlenS (w10.getD 0 .und)) fun v81_14 =>
VL (lift2 (abin .lss) (w10.getD 1 .und) v81_14) fun v82_15 =>
pcond (
VL (vixS 1 (w10.getD 0 .und) (w10.getD 1 .und)) fun v87_16 =>
pld h12 none (fun v88_17 h18 =>
VL (vixA 16 1 (l11.getD 1 .und) v88_17) fun v89_19 =>
pld h18 none (fun v90_20 h21 =>
VL (vixS 1 (w10.getD 0 .und) (w10.getD 1 .und)) fun v93_22 =>
pld h21 none (fun v94_23 h24 =>
VL (vixA 16 1 (l11.getD 2 .und) v94_23) fun v95_25 =>
pld h24 none (fun v96_26 h27 =>
pmks h27 97 5 2 2 (fun h28 =>
LP [8, 11] [0, 4, 5, 7, 9, 10] (fun w29 l30 h31 N32 =>
VL (lift2 (abin .lss) (w29.getD 1 .und) (.int .i64 2)) fun v99_33 =>
pcond (
JN (fun k34 =>
VL (vixS 1 (l30.getD 5 .und) (w29.getD 1 .und)) fun v104_37 =>
pld h31 none (fun v105_38 h39 =>
VL (vixA 16 1 (l30.getD 3 .und) v105_38) fun v106_40 =>
pld h39 none (fun v107_41 h42 =>
VL (lift1 (aun .not) v107_41) fun v108_43 =>
pcond (
VL (vixS 1 (l30.getD 5 .und) (w29.getD 1 .und)) fun v111_44 =>
pld h42 none (fun v112_45 h46 =>
VL (vixA 16 1 (l30.getD 3 .und) v112_45) fun v113_47 =>
pst h46 1 (cellsV (.bool true)) (fun u48 h49 =>
VL (vixS 1 (l30.getD 5 .und) (w29.getD 1 .und)) fun v117_50 =>
pld h49 none (fun v118_51 h52 =>
pmks h52 119 5 1 1 (fun h53 =>
papp h53 (fun m56 s57 => papV 5 1 1 120 h53 (fun v120_54 h55 =>
k34 [(l30.getD 0 .und), (l30.getD 1 .und), (l30.getD 2 .und), (l30.getD 3 .und), v120_54, (l30.getD 4 .und), (l30.getD 5 .und), (w29.getD 1 .und)] h55) m56 s57 (w29.getD 0 .und)) (pavs h53 (w29.getD 0 .und) []) (preadS 1 h53 (.rf 119 0 1))) (vfill [(.int .u8 0)] [(0, 1, v118_51)])) v117_50) v113_47) v111_44) (
k34 [(l30.getD 0 .und), (l30.getD 1 .und), (l30.getD 2 .und), (l30.getD 3 .und), (w29.getD 0 .und), (l30.getD 4 .und), (l30.getD 5 .und), (w29.getD 1 .und)] h42) v108_43) v106_40) v104_37) fun o35 h36 =>
VL (lift2 (abin .add) (o35.getD 7 .und) (.int .i64 1)) fun v101_58 =>
N32 [(o35.getD 4 .und), v101_58] [(o35.getD 0 .und), (o35.getD 1 .und), (o35.getD 2 .und), (o35.getD 3 .und), (o35.getD 5 .und), (o35.getD 6 .und)] h36) (
VL (lift2 (abin .add) (l30.getD 4 .und) (.int .i64 1)) fun v84_59 =>
N13 [(w29.getD 0 .und), v84_59] [(l30.getD 0 .und), (l30.getD 1 .und), (l30.getD 2 .und), (l30.getD 3 .und)] h31) v99_33) [(w10.getD 0 .und), (.int .i64 0)] [(l11.getD 0 .und), (l11.getD 1 .und), (l11.getD 2 .und), (l11.getD 3 .und), (w10.getD 1 .und), (.rf 97 0 2)] h28) (vfill [(.int .u8 0), (.int .u8 0)] [(0, 1, v90_20), (1, 1, v96_26)])) v95_25) v93_22) v89_19) v87_16) (
VL (vlenS (w10.getD 0 .und)) fun v122_60 =>
VL (lift2 (abin .eql) v122_60 (l11.getD 0 .und)) fun v124_61 =>
Rt h12 v124_61) v82_15) [(.rf 77 0 1), (.int .i64 0)] [x0, (.ptr 68 0), (.ptr 69 0), (.ptr 71 0)] h9) v78_7) (.ptr 71 0)) (vfill [(.int .u8 0)] [(0, 1, (.int .u8 0))])
theorem spec_l01Connected_f {x0 x1 x2 : V} : Prt Tryd.prog 71 [x0, x1, x2] (spec_l01Connected_F x0 x1 x2) := pfun (fn := Tryd.f71) (m := [.s, .s, .s, .s, .s, .l [8, 9] [0, 4, 5, 7], .s, .s, .s, .s, .s, .l [8, 11] [0, 4, 5, 7, 9, 10], .s, .s, .j [0, 4, 5, 7, 8, 9, 10, 11], .s, .s, .s]) (c := 3 ≤ 61) rfl (fun h0 Rt => by kernel_rfl) (by decide)

def impl_IsPermutation_F (x0 x1 : V) (hi : Hp) (Rt : Hp → V → Prop) : Prop :=
pbox hi 66 28 (cellsV x0) fun h0 =>
pcal Tryd.prog 80 73 h0 (fun v73_1 h2 =>
VL (lift1 (aun .not) v73_1) fun v74_3 =>
pcond (
Rt h2 (.bool false)) (
VL (vbld (vfill (vb (List.replicate 16 false)) [])) fun v75_4 =>
palloc h2 69 88 (vb (List.replicate 16 false)) fun h5 =>
pst h5 16 (cellsV v75_4) (fun u6 h7 =>
pld h7 (some 16) (fun v76_8 h9 =>
LP [13] [1, 5, 12] (fun w10 l11 h12 N13 =>
VL (lift2 (abin .lss) (w10.getD 0 .und) (.int .i64 16)) fun v78_14 =>
pcond (
JN (fun k15 =>
VL (vixV 16 1 none (l11.getD 2 .und) (w10.getD 0 .und)) fun v80_18 =>
VL (lift2 (abin .geq) (w10.getD 0 .und) (l11.getD 0 .und)) fun v83_19 =>
pcond (
VL (lift2 (abin .neq) v80_18 (.int .u8 0)) fun v85_20 =>
pcond (
Rt h12 (.bool false)) (
k15 [(l11.getD 0 .und), (l11.getD 1 .und), (l11.getD 2 .und), (w10.getD 0 .und)] h12) v85_20) (
VL (lift1 (acvi .i64) v80_18) fun v87_21 =>
VL (lift2 (abin .geq) v87_21 (l11.getD 0 .und)) fun v89_22 =>
pgk false h12 (fun g23 k24 => k24 v80_18 h12) (fun g25 v27_26 h27 =>
pgk false h27 (fun g28 k29 => VL (vixA 16 1 (l11.getD 1 .und) v27_26) fun v92_30 =>
k29 v92_30 h27) (fun g31 v28_32 h33 =>
pgk false h33 (fun g34 k35 => pld h33 none (fun v93_36 h37 =>
k35 v93_36 h37) v28_32) (fun g38 v29_39 h40 =>
VL (vpick g38 (.bool true) v29_39) fun v94_41 =>
pcond (
Rt h40 (.bool false)) (
VL (vixA 16 1 (l11.getD 1 .und) v80_18) fun v96_42 =>
pst h40 1 (cellsV (.bool true)) (fun u43 h44 =>
k15 [(l11.getD 0 .und), (l11.getD 1 .und), (l11.getD 2 .und), (w10.getD 0 .und)] h44) v96_42) v94_41) g31) g25) v89_22) v83_19) fun o16 h17 =>
VL (lift2 (abin .add) (o16.getD 3 .und) (.int .i64 1)) fun v97_45 =>
N13 [v97_45] [(o16.getD 0 .und), (o16.getD 1 .und), (o16.getD 2 .und)] h17) (
Rt h12 (.bool true)) v78_14) [(.int .i64 0)] [x1, (.ptr 69 0), v76_8] h9) (.ptr 66 0)) (.ptr 69 0)) v74_3) [x1]
theorem impl_IsPermutation_f {x0 x1 : V} : Prt Tryd.prog 72 [x0, x1] (impl_IsPermutation_F x0 x1) := pfun (fn := Tryd.f72) (m := [.s, .s, .s, .s, .s, .s, .s, .l [13] [1, 5, 12], .s, .s, .j [1, 5, 12, 13], .s, .s, .s, .s, .s, .s, .s, .s, .s, .s]) (c := 2 ≤ 34) rfl (fun h0 Rt => by kernel_rfl) (by decide)

def impl_reached_F (x0 x1 : V) (hi : Hp) (Rt : Hp → V → Prop) : Prop :=
VL (vbld (vfill (vb (List.replicate 16 false)) [(0, 1, (.bool true))])) fun v75_0 =>
palloc hi 69 88 (vb (List.replicate 16 false)) fun h1 =>
pst h1 16 (cellsV v75_0) (fun u2 h3 =>
pmks h3 76 5 1 1 (fun h4 =>
LP [6, 7] [1, 5] (fun w5 l6 h7 N8 =>
VL (vlenS (w5.getD 0 .und)) fun v79_9 =>
VL (lift2 (abin .lss) (w5.getD 1 .und) v79_9) fun v80_10 =>
pcond (
VL (vlenS (l6.getD 0 .und)) fun v84_11 =>
LP [6, 21] [1, 5, 7, 19, 20] (fun w12 l13 h14 N15 =>
VL (lift2 (abin .lss) (w12.getD 1 .und) (l13.getD 4 .und)) fun v86_16 =>
pcond (
JN (fun k17 =>
VL (vixS 16 (l13.getD 3 .und) (w12.getD 1 .und)) fun v87_20 =>
pld h14 (some 16) (fun v88_21 h22 =>
palloc h22 73 28 (vi .u8 (List.replicate 16 0)) fun h23 =>
pst h23 16 (cellsV v88_21) (fun u24 h25 =>
VL (vixS 1 (w12.getD 0 .und) (l13.getD 2 .und)) fun v91_26 =>
pld h25 none (fun v92_27 h28 =>
VL (vixA 16 1 (.ptr 73 0) v92_27) fun v93_29 =>
pld h28 none (fun v94_30 h31 =>
VL (vixA 16 1 (l13.getD 1 .und) v94_30) fun v96_32 =>
pld h31 none (fun v97_33 h34 =>
VL (lift1 (aun .not) v97_33) fun v98_35 =>
pcond (
VL (vixA 16 1 (l13.getD 1 .und) v94_30) fun v100_36 =>
pst h34 1 (cellsV (.bool true)) (fun u37 h38 =>
pmks h38 103 5 1 1 (fun h39 =>
papp h39 (fun m42 s43 => papV 5 1 1 104 h39 (fun v104_40 h41 =>
k17 [(l13.getD 0 .und), (l13.getD 1 .und), v104_40, (l13.getD 2 .und), (l13.getD 3 .und), (l13.getD 4 .und), (w12.getD 1 .und)] h41) m42 s43 (w12.getD 0 .und)) (pavs h39 (w12.getD 0 .und) []) (preadS 1 h39 (.rf 103 0 1))) (vfill [(.int .u8 0)] [(0, 1, v94_30)])) v100_36) (
k17 [(l13.getD 0 .und), (l13.getD 1 .und), (w12.getD 0 .und), (l13.getD 2 .und), (l13.getD 3 .und), (l13.getD 4 .und), (w12.getD 1 .und)] h34) v98_35) v96_32) v93_29) v91_26) (.ptr 73 0)) v87_20) fun o18 h19 =>
VL (lift2 (abin .add) (o18.getD 6 .und) (.int .i64 1)) fun v105_44 =>
N15 [(o18.getD 2 .und), v105_44] [(o18.getD 0 .und), (o18.getD 1 .und), (o18.getD 3 .und), (o18.getD 4 .und), (o18.getD 5 .und)] h19) (
VL (lift2 (abin .add) (l13.getD 2 .und) (.int .i64 1)) fun v82_45 =>
N8 [(w12.getD 0 .und), v82_45] [(l13.getD 0 .und), (l13.getD 1 .und)] h14) v86_16) [(w5.getD 0 .und), (.int .i64 0)] [(l6.getD 0 .und), (l6.getD 1 .und), (w5.getD 1 .und), (l6.getD 0 .und), v84_11] h7) (
VL (vlenS (w5.getD 0 .und)) fun v107_46 =>
Rt h7 v107_46) v80_10) [(.rf 76 0 1), (.int .i64 0)] [x1, (.ptr 69 0)] h4) (vfill [(.int .u8 0)] [(0, 1, (.int .u8 0))])) (.ptr 69 0)
theorem impl_reached_f {x0 x1 : V} : Prt Tryd.prog 73 [x0, x1] (impl_reached_F x0 x1) := pfun (fn := Tryd.f73) (m := [.s, .s, .s, .s, .s, .l [6, 7] [1, 5], .s, .s, .s, .s, .l [6, 21] [1, 5, 7, 19, 20], .s, .s, .j [1, 5, 6, 7, 19, 20, 21], .s, .s, .s, .s, .s]) (c := 2 ≤ 44) rfl (fun h0 Rt => by kernel_rfl) (by decide)

def impl_same_F (x0 : V) (hi : Hp) (Rt : Hp → V → Prop) : Prop :=
palloc hi 66 28 (vi .u8 (List.replicate 16 0)) fun h0 =>
VL (vbld (vfill (vi .u8 (List.replicate 16 0)) [])) fun v69_1 =>
palloc h0 67 28 (vi .u8 (List.replicate 16 0)) fun h2 =>
pst h2 16 (cellsV v69_1) (fun u3 h4 =>
LP [7] [2, 3, 6] (fun w5 l6 h7 N8 =>
VL (lift2 (abin .lss) (w5.getD 0 .und) (l6.getD 2 .und)) fun v72_9 =>
pcond (
VL (lift1 (acvi .u8) (w5.getD 0 .und)) fun v76_10 =>
VL (vixA 16 1 (l6.getD 1 .und) (w5.getD 0 .und)) fun v77_11 =>
pst h7 1 (cellsV v76_10) (fun u12 h13 =>
VL (lift2 (abin .add) (w5.getD 0 .und) (.int .i64 1)) fun v78_14 =>
N8 [v78_14] [(l6.getD 0 .und), (l6.getD 1 .und), (l6.getD 2 .und)] h13) v77_11) (
pld h7 (some 16) (fun v79_15 h16 =>
pst h16 16 (cellsV v79_15) (fun u17 h18 =>
VL (pcellV h18 (some 16) (l6.getD 0 .und)) fun r19 =>
Rt h18 r19) (l6.getD 0 .und)) (l6.getD 1 .und)) v72_9) [(.int .i64 0)] [(.ptr 66 0), (.ptr 67 0), x0] h4) (.ptr 67 0)
theorem impl_same_f {x0 : V} : Prt Tryd.prog 74 [x0] (impl_same_F x0) := pfun (fn := Tryd.f74) (m := [.s, .s, .s, .s, .l [7] [2, 3, 6], .s, .s, .s, .s, .s]) (c := 1 ≤ 16) rfl (fun h0 Rt => by kernel_rfl) (by decide)

def impl_then_F (x0 x1 x2 : V) (hi : Hp) (Rt : Hp → V → Prop) : Prop :=
pbox hi 67 28 (cellsV x0) fun h0 =>
pbox h0 68 28 (cellsV x1) fun h1 =>
palloc h1 70 28 (vi .u8 (List.replicate 16 0)) fun h2 =>
VL (vbld (vfill (vi .u8 (List.replicate 16 0)) [])) fun v73_3 =>
palloc h2 71 28 (vi .u8 (List.replicate 16 0)) fun h4 =>
pst h4 16 (cellsV v73_3) (fun u5 h6 =>
LP [11] [3, 4, 6, 7, 10] (fun w7 l8 h9 N10 =>
VL (lift2 (abin .lss) (w7.getD 0 .und) (l8.getD 4 .und)) fun v76_11 =>
pcond (
VL (vixA 16 1 (l8.getD 0 .und) (w7.getD 0 .und)) fun v80_12 =>
pld h9 none (fun v81_13 h14 =>
VL (vixA 16 1 (l8.getD 1 .und) v81_13) fun v82_15 =>
pld h14 none (fun v83_16 h17 =>
VL (vixA 16 1 (l8.getD 3 .und) (w7.getD 0 .und)) fun v84_18 =>
pst h17 1 (cellsV v83_16) (fun u19 h20 =>
VL (lift2 (abin .add) (w7.getD 0 .und) (.int .i64 1)) fun v85_21 =>
N10 [v85_21] [(l8.getD 0 .und), (l8.getD 1 .und), (l8.getD 2 .und), (l8.getD 3 .und), (l8.getD 4 .und)] h20) v84_18) v82_15) v80_12) (
pld h9 (some 16) (fun v86_22 h23 =>
pst h23 16 (cellsV v86_22) (fun u24 h25 =>
VL (pcellV h25 (some 16) (l8.getD 2 .und)) fun r26 =>
Rt h25 r26) (l8.getD 2 .und)) (l8.getD 3 .und)) v76_11) [(.int .i64 0)] [(.ptr 67 0), (.ptr 68 0), (.ptr 70 0), (.ptr 71 0), x2] h6) (.ptr 71 0)
theorem impl_then_f {x0 x1 x2 : V} : Prt Tryd.prog 75 [x0, x1, x2] (impl_then_F x0 x1 x2) := pfun (fn := Tryd.f75) (m := [.s, .s, .s, .s, .l [11] [3, 4, 6, 7, 10], .s, .s, .s, .s, .s]) (c := 3 ≤ 23) rfl (fun h0 Rt => by kernel_rfl) (by decide)

def strings_asciiSet_contains_F (x0 x1 : V) (hi : Hp) (Rt : Hp → V → Prop) : Prop :=
VL (vfa 0 x0) fun v71_0 =>
VL (vixA 256 1 v71_0 x1) fun v72_1 =>
pld hi none (fun v73_2 h3 =>
Rt h3 v73_2) v72_1
theorem strings_asciiSet_contains_f {x0 x1 : V} : Prt Tryd.prog 76 [x0, x1] (strings_asciiSet_contains_F x0 x1) := pfun (fn := Tryd.f76) (m := [.s, .s]) (c := 2 ≤ 10) rfl (fun h0 Rt => by kernel_rfl) (by decide)

def strings_ContainsRune_F (x0 x1 : V) (hi : Hp) (Rt : Hp → V → Prop) : Prop :=
pcal Tryd.prog 82 71 hi (fun v71_0 h1 =>
VL (lift2 (abin .geq) v71_0 (.int .i64 0)) fun v72_2 =>
Rt h1 v72_2) [x0, x1]
theorem strings_ContainsRune_f {x0 x1 : V} : Prt Tryd.prog 78 [x0, x1] (strings_ContainsRune_F x0 x1) := pfun (fn := Tryd.f78) (m := [.s, .s]) (c := 2 ≤ 9) rfl (fun h0 Rt => by kernel_rfl) (by decide)

def impl_isSize_F (x0 : V) (hi : Hp) (Rt : Hp → V → Prop) : Prop :=
VL (lift2 (abin .geq) x0 (.int .i64 1)) fun v68_0 =>
pgk true hi (fun g1 k2 => k2 x0 hi) (fun g3 v6_4 h5 =>
pgk true h5 (fun g6 k7 => VL (lift2 (abin .leq) v6_4 (.int .i64 16)) fun v71_8 =>
k7 v71_8 h5) (fun g9 v7_10 h11 =>
VL (vpick g9 v7_10 (.bool false)) fun v72_12 =>
Rt h11 v72_12) g3) v68_0
theorem impl_isSize_f {x0 : V} : Prt Tryd.prog 80 [x0] (impl_isSize_F x0) := pfun (fn := Tryd.f80) (m := [.s, .s]) (c := 1 ≤ 9) rfl (fun h0 Rt => by kernel_rfl) (by decide)

def strings_IndexByte_F (x0 x1 : V) (hi : Hp) (Rt : Hp → V → Prop) : Prop :=
pcal Tryd.prog 88 71 hi (fun v71_0 h1 =>
Rt h1 v71_0) [x0, x1]
theorem strings_IndexByte_f {x0 x1 : V} : Prt Tryd.prog 84 [x0, x1] (strings_IndexByte_F x0 x1) := pfun (fn := Tryd.f84) (m := [.s, .s]) (c := 2 ≤ 8) rfl (fun h0 Rt => by kernel_rfl) (by decide)

end Go.Proofs.YtjcllfkkjagomaaDoor.Sep
