/- The printed forms of functions, by program out of the compiled code; each is held against it by the kernel. -/
import Derived.Test.YtcleiehdddjicaaSepZ
import Derived.Test.YtcleiehdddjicaaProg
import Derived.KernelRfl
namespace Go.Proofs.Ytcleiehdddjicaa.Sep
set_option maxRecDepth 1000000
set_option linter.unusedVariables false

def laws_FnExactCycleOfEdge_F (x0 x1 : V) (hi : Hp) (Rt : Hp → V → Prop) : Prop :=
pbox hi 66 24 (cellsV x0) fun h0 =>
pld h0 (some 33) (fun v78_1 h2 =>
pcal Try.prog 8 79 h2 (fun v79_3 h4 =>
pcal Try.prog 7 81 h4 (fun v81_5 h6 =>
VL (vext 0 v81_5) fun v82_7 =>
VL (vext 1 v81_5) fun v83_8 =>
pld h6 (some 33) (fun v85_9 h10 =>
pcal Try.prog 8 86 h10 (fun v86_11 h12 =>
pcal Try.prog 9 88 h12 (fun v88_13 h14 =>
VL (vext 0 v88_13) fun v89_15 =>
VL (vext 1 v88_13) fun v90_16 =>
pcal Try.prog 10 93 h14 (fun v93_17 h18 =>
VL (lift1 (aun .not) v93_17) fun v94_19 =>
pgk false h18 (fun g20 k21 => k21 v90_16 h18) (fun g22 v32_23 h24 =>
pgk false h24 (fun g25 k26 => k26 v83_8 h24) (fun g27 v33_28 h29 =>
pgk false h29 (fun g30 k31 => VL (lift2 (abin .neq) v32_23 v33_28) fun v98_32 =>
k31 v98_32 h29) (fun g33 v34_34 h35 =>
VL (vpick g33 (.bool true) v34_34) fun v99_36 =>
pcond (
Rt h35 (.bool false)) (
pcal Try.prog 11 102 h35 (fun v102_37 h38 =>
pcal Try.prog 12 105 h38 (fun v105_39 h40 =>
VL (lift2 (abin .lss) v105_39 (.int .i64 0)) fun v107_41 =>
pcond (
Rt h40 (.bool false)) (
VL (lift2 (abin .neq) v105_39 v102_37) fun v110_42 =>
pcond (
Rt h40 (.bool false)) (
pld h40 (some 33) (fun v112_43 h44 =>
pcal Try.prog 8 113 h44 (fun v113_45 h46 =>
pcal Try.prog 9 115 h46 (fun v115_47 h48 =>
VL (vext 0 v115_47) fun v116_49 =>
VL (vext 1 v115_47) fun v117_50 =>
pcal Try.prog 10 120 h48 (fun v120_51 h52 =>
VL (lift1 (aun .not) v120_51) fun v121_53 =>
pgk false h52 (fun g54 k55 => k55 v117_50 h52) (fun g56 v59_57 h58 =>
pgk false h58 (fun g59 k60 => k60 v83_8 h58) (fun g61 v60_62 h63 =>
pgk false h63 (fun g64 k65 => VL (lift2 (abin .neq) v59_57 v60_62) fun v125_66 =>
k65 v125_66 h63) (fun g67 v61_68 h69 =>
VL (vpick g67 (.bool true) v61_68) fun v126_70 =>
pcond (
Rt h69 (.bool false)) (
pcal Try.prog 12 129 h69 (fun v129_71 h72 =>
VL (lift2 (abin .lss) v129_71 (.int .i64 0)) fun v131_73 =>
pcond (
Rt h72 (.bool false)) (
VL (lift2 (abin .neq) v129_71 v102_37) fun v134_74 =>
pcond (
Rt h72 (.bool false)) (
Rt h72 (.bool true)) v134_74) v131_73) [v89_15, (.int .i64 1)]) v126_70) g61) g56) v121_53) [v116_49, v82_7]) [v113_45, x1]) [v112_43]) (.ptr 66 0)) v110_42) v107_41) [v89_15, (.int .i64 1)]) [v89_15, (.int .i64 1)]) v99_36) g27) g22) v94_19) [v89_15, v82_7]) [v86_11, x1]) [v85_9]) (.ptr 66 0)) [v79_3, x1]) [v78_1]) (.ptr 66 0)
theorem laws_FnExactCycleOfEdge_f {x0 x1 : V} : Prt Try.prog 3 [x0, x1] (laws_FnExactCycleOfEdge_F x0 x1) := pfun (fn := Try.f3) (m := [.s, .s, .s, .s, .s, .s, .s, .s, .s, .s, .s, .s, .s, .s, .s, .s, .s, .s, .s, .s, .s, .s, .s, .s, .s, .s, .s, .s, .s]) (c := 2 ≤ 71) rfl (fun h0 Rt => by kernel_rfl) (by decide)

def laws_FnExactHomologyBasis_F (x0 : V) (hi : Hp) (Rt : Hp → V → Prop) : Prop :=
pbox hi 65 24 (cellsV x0) fun h0 =>
pld h0 (some 33) (fun v76_1 h2 =>
pcal Try.prog 8 77 h2 (fun v77_3 h4 =>
pcal Try.prog 13 78 h4 (fun v78_5 h6 =>
VL (vext 0 v78_5) fun v79_7 =>
VL (vext 1 v78_5) fun v80_8 =>
pld h6 (some 33) (fun v82_9 h10 =>
pcal Try.prog 8 83 h10 (fun v83_11 h12 =>
pcal Try.prog 14 84 h12 (fun v84_13 h14 =>
VL (vext 0 v84_13) fun v85_15 =>
VL (vext 1 v84_13) fun v86_16 =>
pcal Try.prog 15 89 h14 (fun v89_17 h18 =>
VL (lift1 (aun .not) v89_17) fun v90_19 =>
pgk false h18 (fun g20 k21 => k21 v86_16 h18) (fun g22 v28_23 h24 =>
pgk false h24 (fun g25 k26 => k26 v80_8 h24) (fun g27 v29_28 h29 =>
pgk false h29 (fun g30 k31 => VL (lift2 (abin .neq) v28_23 v29_28) fun v94_32 =>
k31 v94_32 h29) (fun g33 v30_34 h35 =>
VL (vpick g33 (.bool true) v30_34) fun v95_36 =>
pcond (
Rt h35 (.bool false)) (
pcal Try.prog 16 98 h35 (fun v98_37 h38 =>
pcal Try.prog 17 101 h38 (fun v101_39 h40 =>
VL (lift2 (abin .lss) v101_39 (.int .i64 0)) fun v103_41 =>
pcond (
Rt h40 (.bool false)) (
VL (lift2 (abin .neq) v101_39 v98_37) fun v106_42 =>
pcond (
Rt h40 (.bool false)) (
pld h40 (some 33) (fun v108_43 h44 =>
pcal Try.prog 8 109 h44 (fun v109_45 h46 =>
pcal Try.prog 14 110 h46 (fun v110_47 h48 =>
VL (vext 0 v110_47) fun v111_49 =>
VL (vext 1 v110_47) fun v112_50 =>
pcal Try.prog 15 115 h48 (fun v115_51 h52 =>
VL (lift1 (aun .not) v115_51) fun v116_53 =>
pgk false h52 (fun g54 k55 => k55 v112_50 h52) (fun g56 v54_57 h58 =>
pgk false h58 (fun g59 k60 => k60 v80_8 h58) (fun g61 v55_62 h63 =>
pgk false h63 (fun g64 k65 => VL (lift2 (abin .neq) v54_57 v55_62) fun v120_66 =>
k65 v120_66 h63) (fun g67 v56_68 h69 =>
VL (vpick g67 (.bool true) v56_68) fun v121_70 =>
pcond (
Rt h69 (.bool false)) (
pcal Try.prog 17 124 h69 (fun v124_71 h72 =>
VL (lift2 (abin .lss) v124_71 (.int .i64 0)) fun v126_73 =>
pcond (
Rt h72 (.bool false)) (
VL (lift2 (abin .neq) v124_71 v98_37) fun v129_74 =>
pcond (
Rt h72 (.bool false)) (
Rt h72 (.bool true)) v129_74) v126_73) [v85_15, (.int .i64 1)]) v121_70) g61) g56) v116_53) [v111_49, v79_7]) [v109_45]) [v108_43]) (.ptr 65 0)) v106_42) v103_41) [v85_15, (.int .i64 1)]) [v85_15, (.int .i64 1)]) v95_36) g27) g22) v90_19) [v85_15, v79_7]) [v83_11]) [v82_9]) (.ptr 65 0)) [v77_3]) [v76_1]) (.ptr 65 0)
theorem laws_FnExactHomologyBasis_f {x0 : V} : Prt Try.prog 4 [x0] (laws_FnExactHomologyBasis_F x0) := pfun (fn := Try.f4) (m := [.s, .s, .s, .s, .s, .s, .s, .s, .s, .s, .s, .s, .s, .s, .s, .s, .s, .s, .s, .s, .s, .s, .s, .s, .s, .s, .s, .s, .s]) (c := 1 ≤ 66) rfl (fun h0 Rt => by kernel_rfl) (by decide)

def laws_FnExactIsBounding_F (x0 x1 : V) (hi : Hp) (Rt : Hp → V → Prop) : Prop :=
pbox hi 66 24 (cellsV x0) fun h0 =>
VL (vlenS x1) fun v75_1 =>
VL (lift2 (abin .gtr) v75_1 (.int .i64 1048576)) fun v76_2 =>
pcond (
Rt h0 (.bool true)) (
pld h0 (some 33) (fun v78_3 h4 =>
pcal Try.prog 8 79 h4 (fun v79_5 h6 =>
pcal Try.prog 19 81 h6 (fun v81_7 h8 =>
pcal Try.prog 18 82 h8 (fun v82_9 h10 =>
VL (vext 0 v82_9) fun v83_11 =>
VL (vext 1 v82_9) fun v84_12 =>
pcal Try.prog 19 86 h10 (fun v86_13 h14 =>
pld h14 (some 33) (fun v88_15 h16 =>
pcal Try.prog 8 89 h16 (fun v89_17 h18 =>
pcal Try.prog 20 91 h18 (fun v91_19 h20 =>
VL (vext 0 v91_19) fun v92_21 =>
VL (vext 1 v91_19) fun v93_22 =>
VL (veqa true false [.b] v92_21 v83_11) fun v96_23 =>
pgk false h20 (fun g24 k25 => k25 v93_22 h20) (fun g26 v34_27 h28 =>
pgk false h28 (fun g29 k30 => k30 v84_12 h28) (fun g31 v35_32 h33 =>
pgk false h33 (fun g34 k35 => VL (lift2 (abin .neq) v34_27 v35_32) fun v100_36 =>
k35 v100_36 h33) (fun g37 v36_38 h39 =>
VL (vpick g37 (.bool true) v36_38) fun v101_40 =>
pcond (
Rt h39 (.bool false)) (
pcal Try.prog 19 104 h39 (fun v104_41 h42 =>
pcal Try.prog 10 105 h42 (fun v105_43 h44 =>
VL (lift1 (aun .not) v105_43) fun v106_45 =>
pcond (
Rt h44 (.bool false)) (
Rt h44 (.bool true)) v106_45) [v86_13, v104_41]) [x1]) v101_40) g31) g26) v96_23) [v89_17, v86_13]) [v88_15]) (.ptr 66 0)) [x1]) [v79_5, v81_7]) [x1]) [v78_3]) (.ptr 66 0)) v76_2
theorem laws_FnExactIsBounding_f {x0 x1 : V} : Prt Try.prog 5 [x0, x1] (laws_FnExactIsBounding_F x0 x1) := pfun (fn := Try.f5) (m := [.s, .s, .s, .s, .s, .s, .s, .s, .s, .s, .s, .s, .s, .s]) (c := 2 ≤ 43) rfl (fun h0 Rt => by kernel_rfl) (by decide)

def laws_FnExactIntersectionTable_F (x0 : V) (hi : Hp) (Rt : Hp → V → Prop) : Prop :=
pbox hi 65 24 (cellsV x0) fun h0 =>
pld h0 (some 33) (fun v76_1 h2 =>
pcal Try.prog 8 77 h2 (fun v77_3 h4 =>
pcal Try.prog 21 78 h4 (fun v78_5 h6 =>
VL (vext 0 v78_5) fun v79_7 =>
VL (vext 1 v78_5) fun v80_8 =>
pld h6 (some 33) (fun v82_9 h10 =>
pcal Try.prog 8 83 h10 (fun v83_11 h12 =>
pcal Try.prog 22 84 h12 (fun v84_13 h14 =>
VL (vext 0 v84_13) fun v85_15 =>
VL (vext 1 v84_13) fun v86_16 =>
pcal Try.prog 15 89 h14 (fun v89_17 h18 =>
VL (lift1 (aun .not) v89_17) fun v90_19 =>
pgk false h18 (fun g20 k21 => k21 v86_16 h18) (fun g22 v28_23 h24 =>
pgk false h24 (fun g25 k26 => k26 v80_8 h24) (fun g27 v29_28 h29 =>
pgk false h29 (fun g30 k31 => VL (lift2 (abin .neq) v28_23 v29_28) fun v94_32 =>
k31 v94_32 h29) (fun g33 v30_34 h35 =>
VL (vpick g33 (.bool true) v30_34) fun v95_36 =>
pcond (
Rt h35 (.bool false)) (
pcal Try.prog 16 98 h35 (fun v98_37 h38 =>
pcal Try.prog 17 101 h38 (fun v101_39 h40 =>
VL (lift2 (abin .lss) v101_39 (.int .i64 0)) fun v103_41 =>
pcond (
Rt h40 (.bool false)) (
VL (lift2 (abin .neq) v101_39 v98_37) fun v106_42 =>
pcond (
Rt h40 (.bool false)) (
pld h40 (some 33) (fun v108_43 h44 =>
pcal Try.prog 8 109 h44 (fun v109_45 h46 =>
pcal Try.prog 22 110 h46 (fun v110_47 h48 =>
VL (vext 0 v110_47) fun v111_49 =>
VL (vext 1 v110_47) fun v112_50 =>
pcal Try.prog 15 115 h48 (fun v115_51 h52 =>
VL (lift1 (aun .not) v115_51) fun v116_53 =>
pgk false h52 (fun g54 k55 => k55 v112_50 h52) (fun g56 v54_57 h58 =>
pgk false h58 (fun g59 k60 => k60 v80_8 h58) (fun g61 v55_62 h63 =>
pgk false h63 (fun g64 k65 => VL (lift2 (abin .neq) v54_57 v55_62) fun v120_66 =>
k65 v120_66 h63) (fun g67 v56_68 h69 =>
VL (vpick g67 (.bool true) v56_68) fun v121_70 =>
pcond (
Rt h69 (.bool false)) (
pcal Try.prog 17 124 h69 (fun v124_71 h72 =>
VL (lift2 (abin .lss) v124_71 (.int .i64 0)) fun v126_73 =>
pcond (
Rt h72 (.bool false)) (
VL (lift2 (abin .neq) v124_71 v98_37) fun v129_74 =>
pcond (
Rt h72 (.bool false)) (
Rt h72 (.bool true)) v129_74) v126_73) [v85_15, (.int .i64 1)]) v121_70) g61) g56) v116_53) [v111_49, v79_7]) [v109_45]) [v108_43]) (.ptr 65 0)) v106_42) v103_41) [v85_15, (.int .i64 1)]) [v85_15, (.int .i64 1)]) v95_36) g27) g22) v90_19) [v85_15, v79_7]) [v83_11]) [v82_9]) (.ptr 65 0)) [v77_3]) [v76_1]) (.ptr 65 0)
theorem laws_FnExactIntersectionTable_f {x0 : V} : Prt Try.prog 6 [x0] (laws_FnExactIntersectionTable_F x0) := pfun (fn := Try.f6) (m := [.s, .s, .s, .s, .s, .s, .s, .s, .s, .s, .s, .s, .s, .s, .s, .s, .s, .s, .s, .s, .s, .s, .s, .s, .s, .s, .s, .s, .s]) (c := 1 ≤ 66) rfl (fun h0 Rt => by kernel_rfl) (by decide)

def spec_CycleOfEdge_F (x0 x1 : V) (hi : Hp) (Rt : Hp → V → Prop) : Prop :=
pbox hi 66 30 (cellsV x0) fun h0 =>
pld h0 (some 33) (fun v72_1 h2 =>
pcal Try.prog 23 73 h2 (fun v73_3 h4 =>
VL (lift1 (aun .not) v73_3) fun v74_5 =>
pcond (
Rt h4 (.tup [.nils, (.int .i64 1)])) (
pld h4 none (fun v78_6 h7 =>
VL (lift2 (abin .sub) v78_6 (.int .i64 1)) fun v79_8 =>
pcal Try.prog 24 80 h7 (fun v80_9 h10 =>
VL (lift1 (aun .not) v80_9) fun v81_11 =>
pcond (
Rt h10 (.tup [.nils, (.int .i64 2)])) (
pld h10 (some 33) (fun v82_12 h13 =>
pcal Try.prog 25 83 h13 (fun v83_14 h15 =>
palloc h15 70 47 (vb (List.replicate 16 false)) fun h16 =>
pst h16 16 (cellsV v83_14) (fun u17 h18 =>
VL (vixA 16 1 (.ptr 70 0) x1) fun v85_19 =>
pld h18 none (fun v86_20 h21 =>
pcond (
Rt h21 (.tup [.nils, (.int .i64 5)])) (
pld h21 (some 33) (fun v87_22 h23 =>
pld h23 (some 16) (fun v88_24 h25 =>
pcal Try.prog 26 90 h25 (fun v90_26 h27 =>
Rt h27 (.tup [v90_26, (.int .i64 0)])) [v87_22, v88_24, x1]) (.ptr 70 0)) (.ptr 66 0)) v86_20) v85_19) (.ptr 70 0)) [v82_12]) (.ptr 66 0)) v81_11) [x1, (.int .i64 0), v79_8]) (.ptr 66 0)) v74_5) [v72_1]) (.ptr 66 0)
theorem spec_CycleOfEdge_f {x0 x1 : V} : Prt Try.prog 7 [x0, x1] (spec_CycleOfEdge_F x0 x1) := pfun (fn := Try.f7) (m := [.s, .s, .s, .s, .s, .s, .s, .s, .s, .s, .s]) (c := 2 ≤ 27) rfl (fun h0 Rt => by kernel_rfl) (by decide)

def laws_toDessin_F (x0 : V) (hi : Hp) (Rt : Hp → V → Prop) : Prop :=
pbox hi 65 24 (cellsV x0) fun h0 =>
palloc h0 66 30 ([(.int .i64 0)] ++ (vi .u8 (List.replicate 32 0))) fun h1 =>
palloc h1 67 30 ([(.int .i64 0)] ++ (vi .u8 (List.replicate 32 0))) fun h2 =>
pld h2 none (fun v69_3 h4 =>
pst h4 1 (cellsV v69_3) (fun u5 h6 =>
pld h6 (some 16) (fun v72_7 h8 =>
pcal Try.prog 27 73 h8 (fun v73_9 h10 =>
pst h10 16 (cellsV v73_9) (fun u11 h12 =>
pld h12 (some 16) (fun v76_13 h14 =>
pcal Try.prog 27 77 h14 (fun v77_15 h16 =>
pst h16 16 (cellsV v77_15) (fun u17 h18 =>
pld h18 (some 33) (fun v79_19 h20 =>
pst h20 33 (cellsV v79_19) (fun u21 h22 =>
VL (pcellV h22 (some 33) (.ptr 66 0)) fun r23 =>
Rt h22 r23) (.ptr 66 0)) (.ptr 67 0)) (.ptr 67 17)) [v76_13]) (.ptr 65 17)) (.ptr 67 1)) [v72_7]) (.ptr 65 1)) (.ptr 67 0)) (.ptr 65 0)
theorem laws_toDessin_f {x0 : V} : Prt Try.prog 8 [x0] (laws_toDessin_F x0) := pfun (fn := Try.f8) (m := [.s, .s, .s, .s, .s, .s]) (c := 1 ≤ 16) rfl (fun h0 Rt => by kernel_rfl) (by decide)

def impl_CycleOfEdge_F (x0 x1 : V) (hi : Hp) (Rt : Hp → V → Prop) : Prop :=
pbox hi 66 30 (cellsV x0) fun h0 =>
pld h0 (some 33) (fun v72_1 h2 =>
pcal Try.prog 28 73 h2 (fun v73_3 h4 =>
VL (lift1 (aun .not) v73_3) fun v74_5 =>
pcond (
Rt h4 (.tup [.nils, (.int .i64 1)])) (
pld h4 (some 33) (fun v76_6 h7 =>
pmks h7 78 2 1 1 (fun h8 =>
pcal Try.prog 29 79 h8 (fun v79_9 h10 =>
VL (lift1 (aun .not) v79_9) fun v80_11 =>
pcond (
Rt h10 (.tup [.nils, (.int .i64 2)])) (
pld h10 (some 33) (fun v81_12 h13 =>
pcal Try.prog 30 82 h13 (fun v82_14 h15 =>
pcal Try.prog 31 85 h15 (fun v85_16 h17 =>
pcond (
Rt h17 (.tup [.nils, (.int .i64 5)])) (
pld h17 (some 33) (fun v86_18 h19 =>
pcal Try.prog 32 89 h19 (fun v89_20 h21 =>
Rt h21 (.tup [v89_20, (.int .i64 0)])) [v86_18, x1, v82_14]) (.ptr 66 0)) v85_16) [v82_14, x1]) [v81_12]) (.ptr 66 0)) v80_11) [v76_6, (.rf 78 0 1)]) (vfill [(.int .i64 0)] [(0, 1, x1)])) (.ptr 66 0)) v74_5) [v72_1]) (.ptr 66 0)
theorem impl_CycleOfEdge_f {x0 x1 : V} : Prt Try.prog 9 [x0, x1] (impl_CycleOfEdge_F x0 x1) := pfun (fn := Try.f9) (m := [.s, .s, .s, .s, .s, .s, .s, .s, .s, .s, .s]) (c := 2 ≤ 26) rfl (fun h0 Rt => by kernel_rfl) (by decide)

def laws_eqInt64S_F (x0 x1 : V) (hi : Hp) (Rt : Hp → V → Prop) : Prop :=
VL (vlenS x0) fun v71_0 =>
VL (vlenS x1) fun v73_1 =>
VL (lift2 (abin .neq) v71_0 v73_1) fun v74_2 =>
pcond (
Rt hi (.bool false)) (
LP [5] [0, 1] (fun w3 l4 h5 N6 =>
VL (vlenS (l4.getD 0 .und)) fun v77_7 =>
VL (lift2 (abin .lss) (w3.getD 0 .und) v77_7) fun v78_8 =>
pcond (
VL (vixS 1 (l4.getD 0 .und) (w3.getD 0 .und)) fun v83_9 =>
pld h5 none (fun v84_10 h11 =>
VL (vixS 1 (l4.getD 1 .und) (w3.getD 0 .und)) fun v87_12 =>
pld h11 none (fun v88_13 h14 =>
VL (lift2 (abin .neq) v84_10 v88_13) fun v89_15 =>
pcond (
Rt h14 (.bool false)) (
VL (lift2 (abin .add) (w3.getD 0 .und) (.int .i64 1)) fun v80_16 =>
N6 [v80_16] [(l4.getD 0 .und), (l4.getD 1 .und)] h14) v89_15) v87_12) v83_9) (
Rt h5 (.bool true)) v78_8) [(.int .i64 0)] [x0, x1] hi) v74_2
theorem laws_eqInt64S_f {x0 x1 : V} : Prt Try.prog 10 [x0, x1] (laws_eqInt64S_F x0 x1) := pfun (fn := Try.f10) (m := [.s, .s, .s, .s, .s, .s, .l [5] [0, 1], .s, .s, .s, .s, .s, .s]) (c := 2 ≤ 26) rfl (fun h0 Rt => by kernel_rfl) (by decide)

def laws_markInt64S_F (x0 x1 : V) (hi : Hp) (Rt : Hp → V → Prop) : Prop :=
LP [1, 5] [0] (fun w0 l1 h2 N3 =>
VL (vlenS (l1.getD 0 .und)) fun v72_4 =>
VL (lift2 (abin .lss) (w0.getD 1 .und) v72_4) fun v73_5 =>
pcond (
VL (vixS 1 (l1.getD 0 .und) (w0.getD 1 .und)) fun v79_6 =>
pst h2 1 (cellsV (w0.getD 0 .und)) (fun u7 h8 =>
VL (lift2 (abin .add) (w0.getD 0 .und) (.int .i64 1)) fun v81_9 =>
VL (lift2 (abin .add) (w0.getD 1 .und) (.int .i64 1)) fun v75_10 =>
N3 [v81_9, v75_10] [(l1.getD 0 .und)] h8) v79_6) (
Rt h2 (w0.getD 0 .und)) v73_5) [x1, (.int .i64 0)] [x0] hi
theorem laws_markInt64S_f {x0 x1 : V} : Prt Try.prog 11 [x0, x1] (laws_markInt64S_F x0 x1) := pfun (fn := Try.f11) (m := [.s, .s, .s, .l [1, 5] [0], .s, .s, .s, .s, .s]) (c := 2 ≤ 19) rfl (fun h0 Rt => by kernel_rfl) (by decide)

def laws_heldInt64S_F (x0 x1 : V) (hi : Hp) (Rt : Hp → V → Prop) : Prop :=
LP [1, 5] [0] (fun w0 l1 h2 N3 =>
VL (vlenS (l1.getD 0 .und)) fun v72_4 =>
VL (lift2 (abin .lss) (w0.getD 1 .und) v72_4) fun v73_5 =>
pcond (
VL (vixS 1 (l1.getD 0 .und) (w0.getD 1 .und)) fun v78_6 =>
pld h2 none (fun v79_7 h8 =>
VL (lift2 (abin .neq) v79_7 (w0.getD 0 .und)) fun v81_9 =>
pcond (
Rt h8 (.int .i64 (-1))) (
VL (lift2 (abin .add) (w0.getD 0 .und) (.int .i64 1)) fun v83_10 =>
VL (lift2 (abin .add) (w0.getD 1 .und) (.int .i64 1)) fun v75_11 =>
N3 [v83_10, v75_11] [(l1.getD 0 .und)] h8) v81_9) v78_6) (
Rt h2 (w0.getD 0 .und)) v73_5) [x1, (.int .i64 0)] [x0] hi
theorem laws_heldInt64S_f {x0 x1 : V} : Prt Try.prog 12 [x0, x1] (laws_heldInt64S_F x0 x1) := pfun (fn := Try.f12) (m := [.s, .s, .s, .l [1, 5] [0], .s, .s, .s, .s, .s, .s, .s]) (c := 2 ≤ 21) rfl (fun h0 Rt => by kernel_rfl) (by decide)

def spec_HomologyBasis_F (x0 : V) (hi : Hp) (Rt : Hp → V → Prop) : Prop :=
pbox hi 65 30 (cellsV x0) fun h0 =>
pld h0 (some 33) (fun v68_1 h2 =>
pcal Try.prog 23 69 h2 (fun v69_3 h4 =>
VL (lift1 (aun .not) v69_3) fun v70_5 =>
pcond (
Rt h4 (.tup [.nils, (.int .i64 1)])) (
pld h4 (some 33) (fun v71_6 h7 =>
pcal Try.prog 33 72 h7 (fun v72_8 h9 =>
Rt h9 (.tup [v72_8, (.int .i64 0)])) [v71_6]) (.ptr 65 0)) v70_5) [v68_1]) (.ptr 65 0)
theorem spec_HomologyBasis_f {x0 : V} : Prt Try.prog 13 [x0] (spec_HomologyBasis_F x0) := pfun (fn := Try.f13) (m := [.s, .s, .s, .s, .s]) (c := 1 ≤ 9) rfl (fun h0 Rt => by kernel_rfl) (by decide)

def impl_HomologyBasis_F (x0 : V) (hi : Hp) (Rt : Hp → V → Prop) : Prop :=
pbox hi 65 30 (cellsV x0) fun h0 =>
pld h0 (some 33) (fun v68_1 h2 =>
pcal Try.prog 28 69 h2 (fun v69_3 h4 =>
VL (lift1 (aun .not) v69_3) fun v70_5 =>
pcond (
Rt h4 (.tup [.nils, (.int .i64 1)])) (
pld h4 (some 33) (fun v71_6 h7 =>
pcal Try.prog 34 72 h7 (fun v72_8 h9 =>
Rt h9 (.tup [v72_8, (.int .i64 0)])) [v71_6]) (.ptr 65 0)) v70_5) [v68_1]) (.ptr 65 0)
theorem impl_HomologyBasis_f {x0 : V} : Prt Try.prog 14 [x0] (impl_HomologyBasis_F x0) := pfun (fn := Try.f14) (m := [.s, .s, .s, .s, .s]) (c := 1 ≤ 9) rfl (fun h0 Rt => by kernel_rfl) (by decide)

def laws_eqInt64SS_F (x0 x1 : V) (hi : Hp) (Rt : Hp → V → Prop) : Prop :=
VL (vlenS x0) fun v71_0 =>
VL (vlenS x1) fun v73_1 =>
VL (lift2 (abin .neq) v71_0 v73_1) fun v74_2 =>
pcond (
Rt hi (.bool false)) (
LP [5] [0, 1] (fun w3 l4 h5 N6 =>
VL (vlenS (l4.getD 0 .und)) fun v77_7 =>
VL (lift2 (abin .lss) (w3.getD 0 .und) v77_7) fun v78_8 =>
pcond (
VL (vixS 1 (l4.getD 0 .und) (w3.getD 0 .und)) fun v83_9 =>
pld h5 none (fun v84_10 h11 =>
VL (vixS 1 (l4.getD 1 .und) (w3.getD 0 .und)) fun v87_12 =>
pld h11 none (fun v88_13 h14 =>
pcal Try.prog 10 89 h14 (fun v89_15 h16 =>
VL (lift1 (aun .not) v89_15) fun v90_17 =>
pcond (
Rt h16 (.bool false)) (
VL (lift2 (abin .add) (w3.getD 0 .und) (.int .i64 1)) fun v80_18 =>
N6 [v80_18] [(l4.getD 0 .und), (l4.getD 1 .und)] h16) v90_17) [v84_10, v88_13]) v87_12) v83_9) (
Rt h5 (.bool true)) v78_8) [(.int .i64 0)] [x0, x1] hi) v74_2
theorem laws_eqInt64SS_f {x0 x1 : V} : Prt Try.prog 15 [x0, x1] (laws_eqInt64SS_F x0 x1) := pfun (fn := Try.f15) (m := [.s, .s, .s, .s, .s, .s, .l [5] [0, 1], .s, .s, .s, .s, .s, .s]) (c := 2 ≤ 27) rfl (fun h0 Rt => by kernel_rfl) (by decide)

def laws_markInt64SS_F (x0 x1 : V) (hi : Hp) (Rt : Hp → V → Prop) : Prop :=
LP [1, 5] [0] (fun w0 l1 h2 N3 =>
VL (vlenS (l1.getD 0 .und)) fun v72_4 =>
VL (lift2 (abin .lss) (w0.getD 1 .und) v72_4) fun v73_5 =>
pcond (
VL (vixS 1 (l1.getD 0 .und) (w0.getD 1 .und)) fun v78_6 =>
pld h2 none (fun v79_7 h8 =>
pcal Try.prog 11 81 h8 (fun v81_9 h10 =>
VL (lift2 (abin .add) (w0.getD 1 .und) (.int .i64 1)) fun v75_11 =>
N3 [v81_9, v75_11] [(l1.getD 0 .und)] h10) [v79_7, (w0.getD 0 .und)]) v78_6) (
Rt h2 (w0.getD 0 .und)) v73_5) [x1, (.int .i64 0)] [x0] hi
theorem laws_markInt64SS_f {x0 x1 : V} : Prt Try.prog 16 [x0, x1] (laws_markInt64SS_F x0 x1) := pfun (fn := Try.f16) (m := [.s, .s, .s, .l [1, 5] [0], .s, .s, .s, .s]) (c := 2 ≤ 19) rfl (fun h0 Rt => by kernel_rfl) (by decide)

def laws_heldInt64SS_F (x0 x1 : V) (hi : Hp) (Rt : Hp → V → Prop) : Prop :=
LP [1, 5] [0] (fun w0 l1 h2 N3 =>
VL (vlenS (l1.getD 0 .und)) fun v72_4 =>
VL (lift2 (abin .lss) (w0.getD 1 .und) v72_4) fun v73_5 =>
pcond (
VL (vixS 1 (l1.getD 0 .und) (w0.getD 1 .und)) fun v78_6 =>
pld h2 none (fun v79_7 h8 =>
pcal Try.prog 12 81 h8 (fun v81_9 h10 =>
VL (lift2 (abin .lss) v81_9 (.int .i64 0)) fun v83_11 =>
pcond (
Rt h10 (.int .i64 (-1))) (
VL (lift2 (abin .add) (w0.getD 1 .und) (.int .i64 1)) fun v75_12 =>
N3 [v81_9, v75_12] [(l1.getD 0 .und)] h10) v83_11) [v79_7, (w0.getD 0 .und)]) v78_6) (
Rt h2 (w0.getD 0 .und)) v73_5) [x1, (.int .i64 0)] [x0] hi
theorem laws_heldInt64SS_f {x0 x1 : V} : Prt Try.prog 17 [x0, x1] (laws_heldInt64SS_F x0 x1) := pfun (fn := Try.f17) (m := [.s, .s, .s, .l [1, 5] [0], .s, .s, .s, .s, .s, .s, .s]) (c := 2 ≤ 21) rfl (fun h0 Rt => by kernel_rfl) (by decide)

def spec_IsBounding_F (x0 x1 : V) (hi : Hp) (Rt : Hp → V → Prop) : Prop :=
pbox hi 66 30 (cellsV x0) fun h0 =>
pld h0 (some 33) (fun v73_1 h2 =>
pcal Try.prog 23 74 h2 (fun v74_3 h4 =>
VL (lift1 (aun .not) v74_3) fun v75_5 =>
pcond (
Rt h4 (.tup [(.bool false), (.int .i64 1)])) (
pld h4 (some 33) (fun v77_6 h7 =>
pcal Try.prog 35 79 h7 (fun v79_8 h9 =>
VL (lift1 (aun .not) v79_8) fun v80_10 =>
pcond (
Rt h9 (.tup [(.bool false), (.int .i64 2)])) (
pld h9 (some 33) (fun v82_11 h12 =>
pcal Try.prog 36 84 h12 (fun v84_13 h14 =>
VL (lift1 (aun .not) v84_13) fun v85_15 =>
pcond (
Rt h14 (.tup [(.bool false), (.int .i64 0)])) (
pld h14 (some 33) (fun v86_16 h17 =>
pcal Try.prog 25 87 h17 (fun v87_18 h19 =>
palloc h19 70 47 (vb (List.replicate 16 false)) fun h20 =>
pst h20 16 (cellsV v87_18) (fun u21 h22 =>
LP [7] [1, 2, 6] (fun w23 l24 h25 N26 =>
VL (vfa 0 (l24.getD 1 .und)) fun v89_27 =>
pld h25 none (fun v90_28 h29 =>
VL (lift2 (abin .lss) (w23.getD 0 .und) v90_28) fun v91_30 =>
pcond (
VL (vixA 16 1 (l24.getD 2 .und) (w23.getD 0 .und)) fun v95_31 =>
pld h29 none (fun v96_32 h33 =>
VL (lift1 (aun .not) v96_32) fun v97_34 =>
pgk true h33 (fun g35 k36 => pld h33 (some 33) (fun v99_37 h38 =>
k36 v99_37 h38) (l24.getD 1 .und)) (fun g39 v35_40 h41 =>
pgk true h41 (fun g42 k43 => k43 (l24.getD 0 .und) h41) (fun g44 v36_45 h46 =>
pgk true h46 (fun g47 k48 => pld h46 (some 33) (fun v101_49 h50 =>
k48 v101_49 h50) (l24.getD 1 .und)) (fun g51 v37_52 h53 =>
pgk true h53 (fun g54 k55 => pld h53 (some 16) (fun v102_56 h57 =>
k55 v102_56 h57) (l24.getD 2 .und)) (fun g58 v38_59 h60 =>
pgk true h60 (fun g61 k62 => k62 (w23.getD 0 .und) h60) (fun g63 v39_64 h65 =>
pgk true h65 (fun g66 k67 => pcalp Try.prog 26 104 h65 (fun v104_68 h69 =>
k67 v104_68 h69) [v37_52, v38_59, v39_64]) (fun g70 v40_71 h72 =>
pgk true h72 (fun g73 k74 => pcal Try.prog 37 105 h72 (fun v105_75 h76 =>
k74 v105_75 h76) [v35_40, v36_45, v40_71]) (fun g77 v41_78 h79 =>
pgk true h79 (fun g80 k81 => VL (lift2 (abin .neq) v41_78 (.int .i64 0)) fun v106_82 =>
k81 v106_82 h79) (fun g83 v42_84 h85 =>
VL (vpick g83 v42_84 (.bool false)) fun v107_86 =>
pcond (
Rt h85 (.tup [(.bool false), (.int .i64 0)])) (
VL (lift2 (abin .add) (w23.getD 0 .und) (.int .i64 1)) fun v93_87 =>
N26 [v93_87] [(l24.getD 0 .und), (l24.getD 1 .und), (l24.getD 2 .und)] h85) v107_86) g77) g70) g63) g58) g51) g44) g39) v97_34) v95_31) (
Rt h29 (.tup [(.bool true), (.int .i64 0)])) v91_30) v89_27) [(.int .i64 0)] [x1, (.ptr 66 0), (.ptr 70 0)] h22) (.ptr 70 0)) [v86_16]) (.ptr 66 0)) v85_15) [v82_11, x1]) (.ptr 66 0)) v80_10) [v77_6, x1]) (.ptr 66 0)) v75_5) [v73_1]) (.ptr 66 0)
theorem spec_IsBounding_f {x0 x1 : V} : Prt Try.prog 18 [x0, x1] (spec_IsBounding_F x0 x1) := pfun (fn := Try.f18) (m := [.s, .s, .s, .s, .s, .s, .s, .s, .s, .s, .s, .l [7] [1, 2, 6], .s, .s, .s, .s, .s, .s]) (c := 2 ≤ 44) rfl (fun h0 Rt => by kernel_rfl) (by decide)

def laws_toInt64S_F (x0 : V) (hi : Hp) (Rt : Hp → V → Prop) : Prop :=
VL (vlenS x0) fun v70_0 =>
pmk hi 71 2 8 [(.int .i64 0)] (fun v71_1 h2 =>
LP [4] [0, 3] (fun w3 l4 h5 N6 =>
VL (vlenS (l4.getD 0 .und)) fun v74_7 =>
VL (lift2 (abin .lss) (w3.getD 0 .und) v74_7) fun v75_8 =>
pcond (
VL (vixS 1 (l4.getD 0 .und) (w3.getD 0 .und)) fun v82_9 =>
pld h5 none (fun v83_10 h11 =>
VL (vixS 1 (l4.getD 1 .und) (w3.getD 0 .und)) fun v84_12 =>
pst h11 1 (cellsV v83_10) (fun u13 h14 =>
VL (lift2 (abin .add) (w3.getD 0 .und) (.int .i64 1)) fun v77_15 =>
N6 [v77_15] [(l4.getD 0 .und), (l4.getD 1 .und)] h14) v84_12) v82_9) (
Rt h5 (l4.getD 1 .und)) v75_8) [(.int .i64 0)] [x0, v71_1] h2) v70_0 v70_0
theorem laws_toInt64S_f {x0 : V} : Prt Try.prog 19 [x0] (laws_toInt64S_F x0) := pfun (fn := Try.f19) (m := [.s, .s, .s, .s, .l [4] [0, 3], .s, .s, .s, .s]) (c := 1 ≤ 22) rfl (fun h0 Rt => by kernel_rfl) (by decide)

def impl_IsBounding_F (x0 x1 : V) (hi : Hp) (Rt : Hp → V → Prop) : Prop :=
pbox hi 66 30 (cellsV x0) fun h0 =>
pld h0 (some 33) (fun v75_1 h2 =>
pcal Try.prog 38 77 h2 (fun v77_3 h4 =>
VL (vext 0 v77_3) fun v78_5 =>
VL (vext 1 v77_3) fun v79_6 =>
VL (lift2 (abin .neq) v79_6 (.int .i64 0)) fun v81_7 =>
pgk false h4 (fun g8 k9 => k9 v78_5 h4) (fun g10 v19_11 h12 =>
pgk false h12 (fun g13 k14 => VL (lift1 (aun .not) v19_11) fun v84_15 =>
k14 v84_15 h12) (fun g16 v20_17 h18 =>
VL (vpick g16 (.bool true) v20_17) fun v85_19 =>
pcond (
Rt h18 (.tup [(.bool false), v79_6])) (
pld h18 (some 33) (fun v87_20 h21 =>
pcal Try.prog 39 88 h21 (fun v88_22 h23 =>
VL (vlenS v88_22) fun v89_24 =>
LP [26] [1, 2, 24, 25] (fun w25 l26 h27 N28 =>
VL (lift2 (abin .lss) (w25.getD 0 .und) (l26.getD 3 .und)) fun v91_29 =>
pcond (
VL (vixS 1 (l26.getD 2 .und) (w25.getD 0 .und)) fun v92_30 =>
pld h27 none (fun v93_31 h32 =>
pld h32 (some 33) (fun v94_33 h34 =>
pcal Try.prog 40 97 h34 (fun v97_35 h36 =>
VL (lift2 (abin .neq) v97_35 (.int .i64 0)) fun v98_37 =>
pcond (
Rt h36 (.tup [(.bool false), (.int .i64 0)])) (
VL (lift2 (abin .add) (w25.getD 0 .und) (.int .i64 1)) fun v99_38 =>
N28 [v99_38] [(l26.getD 0 .und), (l26.getD 1 .und), (l26.getD 2 .und), (l26.getD 3 .und)] h36) v98_37) [v94_33, (l26.getD 0 .und), v93_31]) (l26.getD 1 .und)) v92_30) (
Rt h27 (.tup [(.bool true), (.int .i64 0)])) v91_29) [(.int .i64 0)] [x1, (.ptr 66 0), v88_22, v89_24] h23) [v87_20]) (.ptr 66 0)) v85_19) g10) v81_7) [v75_1, x1]) (.ptr 66 0)
theorem impl_IsBounding_f {x0 x1 : V} : Prt Try.prog 20 [x0, x1] (impl_IsBounding_F x0 x1) := pfun (fn := Try.f20) (m := [.s, .s, .s, .s, .s, .s, .s, .l [26] [1, 2, 24, 25], .s, .s, .s, .s, .s, .s, .s]) (c := 2 ≤ 36) rfl (fun h0 Rt => by kernel_rfl) (by decide)

def spec_IntersectionTable_F (x0 : V) (hi : Hp) (Rt : Hp → V → Prop) : Prop :=
pbox hi 65 30 (cellsV x0) fun h0 =>
pld h0 (some 33) (fun v73_1 h2 =>
pcal Try.prog 23 74 h2 (fun v74_3 h4 =>
VL (lift1 (aun .not) v74_3) fun v75_5 =>
pcond (
Rt h4 (.tup [.nils, (.int .i64 1)])) (
pld h4 (some 33) (fun v76_6 h7 =>
pcal Try.prog 33 77 h7 (fun v77_8 h9 =>
pmks h9 78 25 0 0 (fun h10 =>
LP [5, 6] [1, 4] (fun w11 l12 h13 N14 =>
VL (vlenS (l12.getD 1 .und)) fun v81_15 =>
VL (lift2 (abin .lss) (w11.getD 1 .und) v81_15) fun v82_16 =>
pcond (
pmks h13 85 2 0 0 (fun h17 =>
LP [7, 8] [1, 4, 5, 6] (fun w18 l19 h20 N21 =>
VL (vlenS (l19.getD 1 .und)) fun v88_22 =>
VL (lift2 (abin .lss) (w18.getD 1 .und) v88_22) fun v89_23 =>
pcond (
pld h20 (some 33) (fun v93_24 h25 =>
VL (vixS 1 (l19.getD 1 .und) (l19.getD 3 .und)) fun v96_26 =>
pld h25 none (fun v97_27 h28 =>
VL (vixS 1 (l19.getD 1 .und) (w18.getD 1 .und)) fun v100_29 =>
pld h28 none (fun v101_30 h31 =>
pcal Try.prog 37 102 h31 (fun v102_32 h33 =>
pmks h33 103 2 1 1 (fun h34 =>
papp h34 (fun m37 s38 => papV 2 1 8 104 h34 (fun v104_35 h36 =>
VL (lift2 (abin .add) (w18.getD 1 .und) (.int .i64 1)) fun v91_39 =>
N21 [v104_35, v91_39] [(l19.getD 0 .und), (l19.getD 1 .und), (l19.getD 2 .und), (l19.getD 3 .und)] h36) m37 s38 (w18.getD 0 .und)) (pavs h34 (w18.getD 0 .und) []) (preadS 1 h34 (.rf 103 0 1))) (vfill [(.int .i64 0)] [(0, 1, v102_32)])) [v93_24, v97_27, v101_30]) v100_29) v96_26) (l19.getD 0 .und)) (
pmks h20 107 25 1 1 (fun h40 =>
papp h40 (fun m43 s44 => papV 25 1 24 108 h40 (fun v108_41 h42 =>
VL (lift2 (abin .add) (l19.getD 3 .und) (.int .i64 1)) fun v84_45 =>
N14 [v108_41, v84_45] [(l19.getD 0 .und), (l19.getD 1 .und)] h42) m43 s44 (l19.getD 2 .und)) (pavs h40 (l19.getD 2 .und) []) (preadS 1 h40 (.rf 107 0 1))) (vfill [.nils] [(0, 1, (w18.getD 0 .und))])) v89_23) [(.rf 85 0 0), (.int .i64 0)] [(l12.getD 0 .und), (l12.getD 1 .und), (w11.getD 0 .und), (w11.getD 1 .und)] h17) (vfill [] [])) (
Rt h13 (.tup [(w11.getD 0 .und), (.int .i64 0)])) v82_16) [(.rf 78 0 0), (.int .i64 0)] [(.ptr 65 0), v77_8] h10) (vfill [] [])) [v76_6]) (.ptr 65 0)) v75_5) [v73_1]) (.ptr 65 0)
theorem spec_IntersectionTable_f {x0 : V} : Prt Try.prog 21 [x0] (spec_IntersectionTable_F x0) := pfun (fn := Try.f21) (m := [.s, .s, .s, .s, .s, .s, .s, .l [5, 6] [1, 4], .s, .s, .s, .s, .s, .s, .l [7, 8] [1, 4, 5, 6], .s, .s, .s, .s]) (c := 1 ≤ 46) rfl (fun h0 Rt => by kernel_rfl) (by decide)

def impl_IntersectionTable_F (x0 : V) (hi : Hp) (Rt : Hp → V → Prop) : Prop :=
pbox hi 65 30 (cellsV x0) fun h0 =>
pld h0 (some 33) (fun v75_1 h2 =>
pcal Try.prog 28 76 h2 (fun v76_3 h4 =>
VL (lift1 (aun .not) v76_3) fun v77_5 =>
pcond (
Rt h4 (.tup [.nils, (.int .i64 1)])) (
pld h4 (some 33) (fun v78_6 h7 =>
pcal Try.prog 34 79 h7 (fun v79_8 h9 =>
pmks h9 80 25 0 0 (fun h10 =>
VL (vlenS v79_8) fun v82_11 =>
LP [5, 19] [1, 4, 17, 18] (fun w12 l13 h14 N15 =>
VL (lift2 (abin .lss) (w12.getD 1 .und) (l13.getD 3 .und)) fun v84_16 =>
pcond (
VL (vixS 1 (l13.getD 2 .und) (w12.getD 1 .und)) fun v85_17 =>
pld h14 none (fun v86_18 h19 =>
pmks h19 87 2 0 0 (fun h20 =>
VL (vlenS (l13.getD 1 .und)) fun v89_21 =>
LP [8, 26] [1, 4, 5, 7, 17, 18, 19, 24, 25] (fun w22 l23 h24 N25 =>
VL (lift2 (abin .lss) (w22.getD 1 .und) (l23.getD 8 .und)) fun v91_26 =>
pcond (
VL (vixS 1 (l23.getD 7 .und) (w22.getD 1 .und)) fun v92_27 =>
pld h24 none (fun v93_28 h29 =>
pld h29 (some 33) (fun v95_30 h31 =>
pcal Try.prog 40 98 h31 (fun v98_32 h33 =>
pmks h33 99 2 1 1 (fun h34 =>
papp h34 (fun m37 s38 => papV 2 1 8 100 h34 (fun v100_35 h36 =>
VL (lift2 (abin .add) (w22.getD 1 .und) (.int .i64 1)) fun v101_39 =>
N25 [v100_35, v101_39] [(l23.getD 0 .und), (l23.getD 1 .und), (l23.getD 2 .und), (l23.getD 3 .und), (l23.getD 4 .und), (l23.getD 5 .und), (l23.getD 6 .und), (l23.getD 7 .und), (l23.getD 8 .und)] h36) m37 s38 (w22.getD 0 .und)) (pavs h34 (w22.getD 0 .und) []) (preadS 1 h34 (.rf 99 0 1))) (vfill [(.int .i64 0)] [(0, 1, v98_32)])) [v95_30, (l23.getD 3 .und), v93_28]) (l23.getD 0 .und)) v92_27) (
pmks h24 104 25 1 1 (fun h40 =>
papp h40 (fun m43 s44 => papV 25 1 24 105 h40 (fun v105_41 h42 =>
VL (lift2 (abin .add) (l23.getD 6 .und) (.int .i64 1)) fun v106_45 =>
N15 [v105_41, v106_45] [(l23.getD 0 .und), (l23.getD 1 .und), (l23.getD 4 .und), (l23.getD 5 .und)] h42) m43 s44 (l23.getD 2 .und)) (pavs h40 (l23.getD 2 .und) []) (preadS 1 h40 (.rf 104 0 1))) (vfill [.nils] [(0, 1, (w22.getD 0 .und))])) v91_26) [(.rf 87 0 0), (.int .i64 0)] [(l13.getD 0 .und), (l13.getD 1 .und), (w12.getD 0 .und), v86_18, (l13.getD 2 .und), (l13.getD 3 .und), (w12.getD 1 .und), (l13.getD 1 .und), v89_21] h20) (vfill [] [])) v85_17) (
Rt h14 (.tup [(w12.getD 0 .und), (.int .i64 0)])) v84_16) [(.rf 80 0 0), (.int .i64 0)] [(.ptr 65 0), v79_8, v79_8, v82_11] h10) (vfill [] [])) [v78_6]) (.ptr 65 0)) v77_5) [v75_1]) (.ptr 65 0)
theorem impl_IntersectionTable_f {x0 : V} : Prt Try.prog 22 [x0] (impl_IntersectionTable_F x0) := pfun (fn := Try.f22) (m := [.s, .s, .s, .s, .s, .s, .s, .s, .l [5, 19] [1, 4, 17, 18], .s, .s, .s, .s, .s, .s, .s, .l [8, 26] [1, 4, 5, 7, 17, 18, 19, 24, 25], .s, .s, .s, .s, .s]) (c := 1 ≤ 44) rfl (fun h0 Rt => by kernel_rfl) (by decide)

def spec_l01Is_F (x0 : V) (hi : Hp) (Rt : Hp → V → Prop) : Prop :=
pbox hi 65 30 (cellsV x0) fun h0 =>
pld h0 (some 16) (fun v68_1 h2 =>
pld h2 none (fun v70_3 h4 =>
pcal Try.prog 41 71 h4 (fun v71_5 h6 =>
pgk true h6 (fun g7 k8 => k8 (.ptr 65 17) h6) (fun g9 v9_10 h11 =>
pgk true h11 (fun g12 k13 => pld h11 (some 16) (fun v74_14 h15 =>
k13 v74_14 h15) v9_10) (fun g16 v10_17 h18 =>
pgk true h18 (fun g19 k20 => k20 (.ptr 65 0) h18) (fun g21 v11_22 h23 =>
pgk true h23 (fun g24 k25 => pld h23 none (fun v76_26 h27 =>
k25 v76_26 h27) v11_22) (fun g28 v12_29 h30 =>
pgk true h30 (fun g31 k32 => pcal Try.prog 41 77 h30 (fun v77_33 h34 =>
k32 v77_33 h34) [v10_17, v12_29]) (fun g35 v13_36 h37 =>
VL (vpick g35 v13_36 (.bool false)) fun v78_38 =>
pgk true h37 (fun g39 k40 => k40 (.ptr 65 0) h37) (fun g41 v16_42 h43 =>
pgk true h43 (fun g44 k45 => pld h43 none (fun v81_46 h47 =>
k45 v81_46 h47) v16_42) (fun g48 v17_49 h50 =>
pgk true h50 (fun g51 k52 => k52 (.ptr 65 1) h50) (fun g53 v18_54 h55 =>
pgk true h55 (fun g56 k57 => pld h55 (some 16) (fun v83_58 h59 =>
k57 v83_58 h59) v18_54) (fun g60 v19_61 h62 =>
pgk true h62 (fun g63 k64 => k64 (.ptr 65 17) h62) (fun g65 v20_66 h67 =>
pgk true h67 (fun g68 k69 => pld h67 (some 16) (fun v85_70 h71 =>
k69 v85_70 h71) v20_66) (fun g72 v21_73 h74 =>
pgk true h74 (fun g75 k76 => pcal Try.prog 42 86 h74 (fun v86_77 h78 =>
k76 v86_77 h78) [v17_49, v19_61, v21_73]) (fun g79 v22_80 h81 =>
VL (vpick g79 v22_80 (.bool false)) fun v87_82 =>
Rt h81 v87_82) g72) g65) g60) g53) g48) g41) v78_38) g28) g21) g16) g9) v71_5) [v68_1, v70_3]) (.ptr 65 0)) (.ptr 65 1)
theorem spec_l01Is_f {x0 : V} : Prt Try.prog 23 [x0] (spec_l01Is_F x0) := pfun (fn := Try.f23) (m := [.s, .s]) (c := 1 ≤ 24) rfl (fun h0 Rt => by kernel_rfl) (by decide)

def spec_l01In_F (x0 x1 x2 : V) (hi : Hp) (Rt : Hp → V → Prop) : Prop :=
VL (lift2 (abin .geq) x0 x1) fun v73_0 =>
pgk true hi (fun g1 k2 => k2 x0 hi) (fun g3 v11_4 h5 =>
pgk true h5 (fun g6 k7 => k7 x2 h5) (fun g8 v12_9 h10 =>
pgk true h10 (fun g11 k12 => VL (lift2 (abin .leq) v11_4 v12_9) fun v77_13 =>
k12 v77_13 h10) (fun g14 v13_15 h16 =>
VL (vpick g14 v13_15 (.bool false)) fun v78_17 =>
Rt h16 v78_17) g8) g3) v73_0
theorem spec_l01In_f {x0 x1 x2 : V} : Prt Try.prog 24 [x0, x1, x2] (spec_l01In_F x0 x1 x2) := pfun (fn := Try.f24) (m := [.s, .s]) (c := 3 ≤ 15) rfl (fun h0 Rt => by kernel_rfl) (by decide)

def spec_l09Tree_F (x0 : V) (hi : Hp) (Rt : Hp → V → Prop) : Prop :=
pbox hi 65 30 (cellsV x0) fun h0 =>
palloc h0 66 47 (vb (List.replicate 16 false)) fun h1 =>
pld h1 (some 16) (fun v73_2 h3 =>
pld h3 none (fun v75_4 h5 =>
pld h5 (some 16) (fun v78_6 h7 =>
pld h7 none (fun v80_8 h9 =>
VL (vbld (vfill (vb (List.replicate 16 false)) [])) fun v82_10 =>
pcalp Try.prog 43 76 h9 (fun v76_11 h12 =>
pcalp Try.prog 43 81 h12 (fun v81_13 h14 =>
palloc h14 67 60 (vi .i64 (List.replicate 16 0)) fun h15 =>
palloc h15 68 60 (vi .i64 (List.replicate 16 0)) fun h16 =>
palloc h16 69 47 (vb (List.replicate 16 false)) fun h17 =>
pst h17 16 (cellsV v76_11) (fun u18 h19 =>
pst h19 16 (cellsV v81_13) (fun u20 h21 =>
pst h21 16 (cellsV v82_10) (fun u22 h23 =>
pcal Try.prog 44 83 h23 (fun v83_24 h25 =>
LP [7] [1, 2, 3, 4, 5, 6] (fun w26 l27 h28 N29 =>
VL (vfa 0 (l27.getD 0 .und)) fun v85_30 =>
pld h28 none (fun v86_31 h32 =>
VL (lift2 (abin .lss) (w26.getD 0 .und) v86_31) fun v87_33 =>
pcond (
VL (vixA 16 1 (l27.getD 2 .und) (w26.getD 0 .und)) fun v93_34 =>
pld h32 none (fun v94_35 h36 =>
VL (vixA 16 1 (l27.getD 3 .und) (w26.getD 0 .und)) fun v96_37 =>
pld h36 none (fun v97_38 h39 =>
VL (lift2 (abin .add) (.int .i64 16) v97_38) fun v98_40 =>
pcal Try.prog 45 99 h39 (fun v99_41 h42 =>
VL (vixA 16 1 (l27.getD 4 .und) (w26.getD 0 .und)) fun v100_43 =>
pst h42 1 (cellsV v99_41) (fun u44 h45 =>
VL (lift2 (abin .add) (w26.getD 0 .und) (.int .i64 1)) fun v89_46 =>
N29 [v89_46] [(l27.getD 0 .und), (l27.getD 1 .und), (l27.getD 2 .und), (l27.getD 3 .und), (l27.getD 4 .und), (l27.getD 5 .und)] h45) v100_43) [(l27.getD 5 .und), v94_35, v98_40]) v96_37) v93_34) (
pld h32 (some 16) (fun v101_47 h48 =>
pst h48 16 (cellsV v101_47) (fun u49 h50 =>
VL (pcellV h50 (some 16) (l27.getD 1 .und)) fun r51 =>
Rt h50 r51) (l27.getD 1 .und)) (l27.getD 4 .und)) v87_33) v85_30) [(.int .i64 0)] [(.ptr 65 0), (.ptr 66 0), (.ptr 67 0), (.ptr 68 0), (.ptr 69 0), v83_24] h25) [(.int .i64 32)]) (.ptr 69 0)) (.ptr 68 0)) (.ptr 67 0)) [v78_6, v80_8]) [v73_2, v75_4]) (.ptr 65 0)) (.ptr 65 17)) (.ptr 65 0)) (.ptr 65 1)
theorem spec_l09Tree_f {x0 : V} : Prt Try.prog 25 [x0] (spec_l09Tree_F x0) := pfun (fn := Try.f25) (m := [.s, .s, .s, .s, .s, .l [7] [1, 2, 3, 4, 5, 6], .s, .s, .s, .s]) (c := 1 ≤ 38) rfl (fun h0 Rt => by kernel_rfl) (by decide)

def spec_l09Of_F (x0 x1 x2 : V) (hi : Hp) (Rt : Hp → V → Prop) : Prop :=
pbox hi 67 30 (cellsV x0) fun h0 =>
pbox h0 68 47 (cellsV x1) fun h1 =>
pld h1 none (fun v83_2 h3 =>
pmk h3 84 2 8 [(.int .i64 0)] (fun v84_4 h5 =>
VL (vbld (vfill (vb (List.replicate 16 false)) [])) fun v85_6 =>
palloc h5 72 47 (vb (List.replicate 16 false)) fun h7 =>
pst h7 16 (cellsV v85_6) (fun u8 h9 =>
LP [9] [2, 3, 4, 7, 8] (fun w10 l11 h12 N13 =>
VL (vfa 0 (l11.getD 1 .und)) fun v87_14 =>
pld h12 none (fun v88_15 h16 =>
VL (lift2 (abin .lss) (w10.getD 0 .und) v88_15) fun v89_17 =>
pcond (
VL (vixA 16 1 (l11.getD 2 .und) (w10.getD 0 .und)) fun v94_18 =>
pld h16 none (fun v95_19 h20 =>
VL (lift1 (aun .not) v95_19) fun v96_21 =>
VL (vixA 16 1 (l11.getD 4 .und) (w10.getD 0 .und)) fun v97_22 =>
pst h20 1 (cellsV v96_21) (fun u23 h24 =>
VL (lift2 (abin .add) (w10.getD 0 .und) (.int .i64 1)) fun v91_25 =>
N13 [v91_25] [(l11.getD 0 .und), (l11.getD 1 .und), (l11.getD 2 .und), (l11.getD 3 .und), (l11.getD 4 .und)] h24) v97_22) v94_18) (
VL (vixS 1 (l11.getD 3 .und) (l11.getD 0 .und)) fun v100_26 =>
pst h16 1 (cellsV (.int .i64 1)) (fun u27 h28 =>
VL (vfa 1 (l11.getD 1 .und)) fun v102_29 =>
pld h28 (some 16) (fun v103_30 h31 =>
VL (vfa 0 (l11.getD 1 .und)) fun v104_32 =>
pld h31 none (fun v105_33 h34 =>
VL (vfa 17 (l11.getD 1 .und)) fun v108_35 =>
pldb h34 (some 16) (fun v109_36 h37 =>
VL (vfa 0 (l11.getD 1 .und)) fun v110_38 =>
pldb h37 none (fun v111_39 h40 =>
pcalp Try.prog 46 106 h40 (fun v106_41 h42 =>
pmks h42 101 25 0 0 (fun h43 =>
papp h43 (fun m46 s47 => papV 25 1 24 107 h43 (fun v107_44 h45 =>
pcal Try.prog 46 112 h45 (fun v112_48 h49 =>
papp h49 (fun m52 s53 => papV 25 1 24 113 h49 (fun v113_50 h51 =>
LP [11] [3, 7, 8, 10] (fun w54 l55 h56 N57 =>
VL (vfa 0 (l55.getD 0 .und)) fun v115_58 =>
pld h56 none (fun v116_59 h60 =>
VL (lift2 (abin .leq) (w54.getD 0 .und) v116_59) fun v117_61 =>
pcond (
LP [12] [3, 7, 8, 10, 11] (fun w62 l63 h64 N65 =>
VL (vlenS (l63.getD 3 .und)) fun v122_66 =>
VL (lift2 (abin .lss) (w62.getD 0 .und) v122_66) fun v123_67 =>
pcond (
JN (fun k68 =>
LP [13, 14, 15, 16] [3, 7, 8, 10, 11, 12] (fun w71 l72 h73 N74 =>
VL (vixS 1 (l72.getD 3 .und) (l72.getD 5 .und)) fun v129_75 =>
pld h73 none (fun v130_76 h77 =>
VL (vlenS v130_76) fun v131_78 =>
VL (lift2 (abin .lss) (w71.getD 3 .und) v131_78) fun v132_79 =>
pcond (
JN (fun k80 =>
VL (vixS 1 (l72.getD 3 .und) (l72.getD 5 .und)) fun v137_83 =>
pld h77 none (fun v138_84 h85 =>
VL (vixS 1 v138_84 (w71.getD 3 .und)) fun v140_86 =>
pld h85 none (fun v141_87 h88 =>
VL (vixS 1 (l72.getD 1 .und) v141_87) fun v145_89 =>
pld h88 none (fun v146_90 h91 =>
VL (lift2 (abin .add) (w71.getD 0 .und) v146_90) fun v147_92 =>
VL (vixA 16 1 (l72.getD 2 .und) v141_87) fun v149_93 =>
pld h91 none (fun v150_94 h95 =>
VL (lift1 (aun .not) v150_94) fun v151_96 =>
pcond (
VL (lift2 (abin .add) (w71.getD 1 .und) (.int .i64 1)) fun v153_97 =>
k80 [(l72.getD 0 .und), (l72.getD 1 .und), (l72.getD 2 .und), (l72.getD 3 .und), (l72.getD 4 .und), (l72.getD 5 .und), v147_92, v153_97, v141_87, (w71.getD 3 .und)] h95) (
k80 [(l72.getD 0 .und), (l72.getD 1 .und), (l72.getD 2 .und), (l72.getD 3 .und), (l72.getD 4 .und), (l72.getD 5 .und), v147_92, (w71.getD 1 .und), (w71.getD 2 .und), (w71.getD 3 .und)] h95) v151_96) v149_93) v145_89) v140_86) v137_83) fun o81 h82 =>
VL (lift2 (abin .add) (o81.getD 9 .und) (.int .i64 1)) fun v134_98 =>
N74 [(o81.getD 6 .und), (o81.getD 7 .und), (o81.getD 8 .und), v134_98] [(o81.getD 0 .und), (o81.getD 1 .und), (o81.getD 2 .und), (o81.getD 3 .und), (o81.getD 4 .und), (o81.getD 5 .und)] h82) (
VL (lift2 (abin .eql) (w71.getD 1 .und) (.int .i64 1)) fun v156_99 =>
pcond (
VL (lift1 (aun .neg) (w71.getD 0 .und)) fun v160_100 =>
VL (vixS 1 (l72.getD 1 .und) (w71.getD 2 .und)) fun v161_101 =>
pst h77 1 (cellsV v160_100) (fun u102 h103 =>
VL (vixA 16 1 (l72.getD 2 .und) (w71.getD 2 .und)) fun v163_104 =>
pst h103 1 (cellsV (.bool true)) (fun u105 h106 =>
k68 [(l72.getD 0 .und), (l72.getD 1 .und), (l72.getD 2 .und), (l72.getD 3 .und), (l72.getD 4 .und), (l72.getD 5 .und)] h106) v163_104) v161_101) (
k68 [(l72.getD 0 .und), (l72.getD 1 .und), (l72.getD 2 .und), (l72.getD 3 .und), (l72.getD 4 .und), (l72.getD 5 .und)] h77) v156_99) v132_79) v129_75) [(.int .i64 0), (.int .i64 0), (.int .i64 0), (.int .i64 0)] [(l63.getD 0 .und), (l63.getD 1 .und), (l63.getD 2 .und), (l63.getD 3 .und), (l63.getD 4 .und), (w62.getD 0 .und)] h64) fun o69 h70 =>
VL (lift2 (abin .add) (o69.getD 5 .und) (.int .i64 1)) fun v125_107 =>
N65 [v125_107] [(o69.getD 0 .und), (o69.getD 1 .und), (o69.getD 2 .und), (o69.getD 3 .und), (o69.getD 4 .und)] h70) (
VL (lift2 (abin .add) (l63.getD 4 .und) (.int .i64 1)) fun v119_108 =>
N57 [v119_108] [(l63.getD 0 .und), (l63.getD 1 .und), (l63.getD 2 .und), (l63.getD 3 .und)] h64) v123_67) [(.int .i64 0)] [(l55.getD 0 .und), (l55.getD 1 .und), (l55.getD 2 .und), (l55.getD 3 .und), (w54.getD 0 .und)] h60) (
Rt h60 (l55.getD 1 .und)) v117_61) v115_58) [(.int .i64 0)] [(l11.getD 1 .und), (l11.getD 3 .und), (l11.getD 4 .und), v113_50] h51) m52 s53 v107_44) (pavs h49 v107_44 []) (preadS 1 h49 v112_48)) [v109_36, v111_39]) m46 s47 (.rf 101 0 0)) (pavs h43 (.rf 101 0 0) [(l11.getD 1 .und), (l11.getD 1 .und)]) (preadS 1 h43 v106_41)) (vfill [] [])) [v103_30, v105_33]) v110_38 (l11.getD 1 .und)) v108_35 (l11.getD 1 .und)) v104_32) v102_29) v100_26) v89_17) v87_14) [(.int .i64 0)] [x2, (.ptr 67 0), (.ptr 68 0), v84_4, (.ptr 72 0)] h9) (.ptr 72 0)) v83_2 v83_2) (.ptr 67 0)
theorem spec_l09Of_f {x0 x1 x2 : V} : Prt Try.prog 26 [x0, x1, x2] (spec_l09Of_F x0 x1 x2) := pfun (fn := Try.f26) (m := [.s, .s, .s, .s, .l [9] [2, 3, 4, 7, 8], .s, .s, .s, .s, .s, .s, .s, .l [11] [3, 7, 8, 10], .s, .s, .s, .s, .l [12] [3, 7, 8, 10, 11], .s, .s, .j [3, 7, 8, 10, 11, 12], .s, .s, .s, .l [13, 14, 15, 16] [3, 7, 8, 10, 11, 12], .s, .s, .j [3, 7, 8, 10, 11, 12, 13, 14, 15, 16], .s, .s, .s, .s, .s, .s, .s]) (c := 3 ≤ 101) rfl (fun h0 Rt => by kernel_rfl) (by decide)

def laws_toPlaces_F (x0 : V) (hi : Hp) (Rt : Hp → V → Prop) : Prop :=
pbox hi 65 22 (cellsV x0) fun h0 =>
palloc h0 66 28 (vi .u8 (List.replicate 16 0)) fun h1 =>
palloc h1 67 28 (vi .u8 (List.replicate 16 0)) fun h2 =>
LP [4] [1, 2, 3] (fun w3 l4 h5 N6 =>
VL (lift2 (abin .lss) (w3.getD 0 .und) (.int .i64 16)) fun v70_7 =>
pcond (
VL (vixA 16 1 (l4.getD 0 .und) (w3.getD 0 .und)) fun v75_8 =>
pld h5 none (fun v76_9 h10 =>
VL (vixA 16 1 (l4.getD 2 .und) (w3.getD 0 .und)) fun v77_11 =>
pst h10 1 (cellsV v76_9) (fun u12 h13 =>
VL (lift2 (abin .add) (w3.getD 0 .und) (.int .i64 1)) fun v72_14 =>
N6 [v72_14] [(l4.getD 0 .und), (l4.getD 1 .und), (l4.getD 2 .und)] h13) v77_11) v75_8) (
pld h5 (some 16) (fun v78_15 h16 =>
pst h16 16 (cellsV v78_15) (fun u17 h18 =>
VL (pcellV h18 (some 16) (l4.getD 1 .und)) fun r19 =>
Rt h18 r19) (l4.getD 1 .und)) (l4.getD 2 .und)) v70_7) [(.int .i64 0)] [(.ptr 65 0), (.ptr 66 0), (.ptr 67 0)] h2
theorem laws_toPlaces_f {x0 : V} : Prt Try.prog 27 [x0] (laws_toPlaces_F x0) := pfun (fn := Try.f27) (m := [.s, .s, .s, .s, .l [4] [1, 2, 3], .s, .s, .s, .s]) (c := 1 ≤ 15) rfl (fun h0 Rt => by kernel_rfl) (by decide)

def impl_IsDessin_F (x0 : V) (hi : Hp) (Rt : Hp → V → Prop) : Prop :=
pbox hi 65 30 (cellsV x0) fun h0 =>
pld h0 none (fun v69_1 h2 =>
pld h2 (some 16) (fun v71_3 h4 =>
pcal Try.prog 47 73 h4 (fun v73_5 h6 =>
pgk true h6 (fun g7 k8 => k8 (.ptr 65 17) h6) (fun g9 v11_10 h11 =>
pgk true h11 (fun g12 k13 => pld h11 (some 16) (fun v76_14 h15 =>
k13 v76_14 h15) v11_10) (fun g16 v12_17 h18 =>
pgk true h18 (fun g19 k20 => k20 v69_1 h18) (fun g21 v13_22 h23 =>
pgk true h23 (fun g24 k25 => pcal Try.prog 47 78 h23 (fun v78_26 h27 =>
k25 v78_26 h27) [v12_17, v13_22]) (fun g28 v14_29 h30 =>
VL (vpick g28 v14_29 (.bool false)) fun v79_31 =>
pgk true h30 (fun g32 k33 => k33 v69_1 h30) (fun g34 v17_35 h36 =>
pgk true h36 (fun g37 k38 => k38 (.ptr 65 1) h36) (fun g39 v18_40 h41 =>
pgk true h41 (fun g42 k43 => pld h41 (some 16) (fun v83_44 h45 =>
k43 v83_44 h45) v18_40) (fun g46 v19_47 h48 =>
pgk true h48 (fun g49 k50 => k50 (.ptr 65 17) h48) (fun g51 v20_52 h53 =>
pgk true h53 (fun g54 k55 => pld h53 (some 16) (fun v85_56 h57 =>
k55 v85_56 h57) v20_52) (fun g58 v21_59 h60 =>
pgk true h60 (fun g61 k62 => pmks h60 86 28 32 2 (fun h63 =>
k62 (.rf 86 0 2) h63) (vfill (vi .u8 (List.replicate 32 0)) [(0, 16, v19_47), (16, 16, v21_59)])) (fun g64 v22_65 h66 =>
pgk true h66 (fun g67 k68 => pcal Try.prog 48 87 h66 (fun v87_69 h70 =>
k68 v87_69 h70) [v17_35, v22_65]) (fun g71 v23_72 h73 =>
pgk true h73 (fun g74 k75 => k75 v69_1 h73) (fun g76 v24_77 h78 =>
pgk true h78 (fun g79 k80 => VL (lift2 (abin .eql) v23_72 v24_77) fun v89_81 =>
k80 v89_81 h78) (fun g82 v25_83 h84 =>
VL (vpick g82 v25_83 (.bool false)) fun v90_85 =>
Rt h84 v90_85) g76) g71) g64) g58) g51) g46) g39) g34) v79_31) g21) g16) g9) v73_5) [v71_3, v69_1]) (.ptr 65 1)) (.ptr 65 0)
theorem impl_IsDessin_f {x0 : V} : Prt Try.prog 28 [x0] (impl_IsDessin_F x0) := pfun (fn := Try.f28) (m := [.s, .s, .s]) (c := 1 ≤ 27) rfl (fun h0 Rt => by kernel_rfl) (by decide)

def impl_isDart_F (x0 x1 : V) (hi : Hp) (Rt : Hp → V → Prop) : Prop :=
pbox hi 66 30 (cellsV x0) fun h0 =>
VL (vlenS x1) fun v72_1 =>
LP [9] [2, 7, 8] (fun w2 l3 h4 N5 =>
VL (lift2 (abin .lss) (w2.getD 0 .und) (l3.getD 2 .und)) fun v74_6 =>
pcond (
VL (vixS 1 (l3.getD 1 .und) (w2.getD 0 .und)) fun v75_7 =>
pld h4 none (fun v76_8 h9 =>
VL (lift2 (abin .lss) v76_8 (.int .i64 0)) fun v78_10 =>
pgk false h9 (fun g11 k12 => k12 v76_8 h9) (fun g13 v16_14 h15 =>
pgk false h15 (fun g16 k17 => VL (vfa 0 (l3.getD 0 .und)) fun v81_18 =>
k17 v81_18 h15) (fun g19 v17_20 h21 =>
pgk false h21 (fun g22 k23 => pld h21 none (fun v82_24 h25 =>
k23 v82_24 h25) v17_20) (fun g26 v18_27 h28 =>
pgk false h28 (fun g29 k30 => VL (lift2 (abin .geq) v16_14 v18_27) fun v83_31 =>
k30 v83_31 h28) (fun g32 v19_33 h34 =>
VL (vpick g32 (.bool true) v19_33) fun v84_35 =>
pcond (
Rt h34 (.bool false)) (
VL (lift2 (abin .add) (w2.getD 0 .und) (.int .i64 1)) fun v85_36 =>
N5 [v85_36] [(l3.getD 0 .und), (l3.getD 1 .und), (l3.getD 2 .und)] h34) v84_35) g26) g19) g13) v78_10) v75_7) (
Rt h4 (.bool true)) v74_6) [(.int .i64 0)] [(.ptr 66 0), x1, v72_1] h0
theorem impl_isDart_f {x0 x1 : V} : Prt Try.prog 29 [x0, x1] (impl_isDart_F x0 x1) := pfun (fn := Try.f29) (m := [.s, .s, .s, .l [9] [2, 7, 8], .s, .s, .s, .s, .s, .s, .s]) (c := 2 ≤ 22) rfl (fun h0 Rt => by kernel_rfl) (by decide)

def impl_treeEdges_F (x0 : V) (hi : Hp) (Rt : Hp → V → Prop) : Prop :=
pbox hi 65 30 (cellsV x0) fun h0 =>
pld h0 (some 33) (fun v73_1 h2 =>
pcal Try.prog 49 74 h2 (fun v74_3 h4 =>
VL (vext 0 v74_3) fun v75_5 =>
VL (vext 1 v74_3) fun v76_6 =>
VL (vlenS v75_5) fun v78_7 =>
pcal Try.prog 50 79 h4 (fun v79_8 h9 =>
pmks h9 80 2 0 0 (fun h10 =>
pld h10 none (fun v82_11 h12 =>
LP [6, 19] [4, 5, 18] (fun w13 l14 h15 N16 =>
VL (lift2 (abin .lss) (w13.getD 1 .und) (l14.getD 2 .und)) fun v84_17 =>
pcond (
JN (fun k18 =>
VL (vixS 2 (l14.getD 0 .und) (w13.getD 1 .und)) fun v89_21 =>
VL (vixA 2 1 v89_21 (.int .i64 0)) fun v90_22 =>
pld h15 none (fun v91_23 h24 =>
VL (vixS 2 (l14.getD 0 .und) (w13.getD 1 .und)) fun v94_25 =>
VL (vixA 2 1 v94_25 (.int .i64 1)) fun v95_26 =>
pld h24 none (fun v96_27 h28 =>
pcal Try.prog 51 97 h28 (fun v97_29 h30 =>
pcond (
pmks h30 100 2 1 1 (fun h31 =>
papp h31 (fun m34 s35 => papV 2 1 8 101 h31 (fun v101_32 h33 =>
k18 [(l14.getD 0 .und), (l14.getD 1 .und), v101_32, (l14.getD 2 .und), (w13.getD 1 .und)] h33) m34 s35 (w13.getD 0 .und)) (pavs h31 (w13.getD 0 .und) []) (preadS 1 h31 (.rf 100 0 1))) (vfill [(.int .i64 0)] [(0, 1, (w13.getD 1 .und))])) (
k18 [(l14.getD 0 .und), (l14.getD 1 .und), (w13.getD 0 .und), (l14.getD 2 .und), (w13.getD 1 .und)] h30) v97_29) [(l14.getD 1 .und), v91_23, v96_27]) v95_26) v90_22) fun o19 h20 =>
VL (lift2 (abin .add) (o19.getD 4 .und) (.int .i64 1)) fun v102_36 =>
N16 [(o19.getD 2 .und), v102_36] [(o19.getD 0 .und), (o19.getD 1 .und), (o19.getD 3 .und)] h20) (
Rt h15 (w13.getD 0 .und)) v84_17) [(.rf 80 0 0), (.int .i64 0)] [v76_6, v79_8, v82_11] h12) (.ptr 65 0)) (vfill [] [])) [v78_7]) [v73_1]) (.ptr 65 0)
theorem impl_treeEdges_f {x0 : V} : Prt Try.prog 30 [x0] (impl_treeEdges_F x0) := pfun (fn := Try.f30) (m := [.s, .s, .s, .s, .s, .s, .l [6, 19] [4, 5, 18], .s, .s, .j [4, 5, 6, 18, 19], .s, .s, .s]) (c := 1 ≤ 40) rfl (fun h0 Rt => by kernel_rfl) (by decide)

def slices_Contains_int64_int64_i_F (x0 x1 : V) (hi : Hp) (Rt : Hp → V → Prop) : Prop :=
pcal Try.prog 52 71 hi (fun v71_0 h1 =>
VL (lift2 (abin .geq) v71_0 (.int .i64 0)) fun v72_2 =>
Rt h1 v72_2) [x0, x1]
theorem slices_Contains_int64_int64_i_f {x0 x1 : V} : Prt Try.prog 31 [x0, x1] (slices_Contains_int64_int64_i_F x0 x1) := pfun (fn := Try.f31) (m := [.s, .s]) (c := 2 ≤ 9) rfl (fun h0 Rt => by kernel_rfl) (by decide)

def impl_cycleOf_F (x0 x1 x2 : V) (hi : Hp) (Rt : Hp → V → Prop) : Prop :=
pbox hi 67 30 (cellsV x0) fun h0 =>
pld h0 (some 33) (fun v86_1 h2 =>
pcal Try.prog 49 87 h2 (fun v87_3 h4 =>
VL (vext 0 v87_3) fun v88_5 =>
VL (vext 1 v87_3) fun v89_6 =>
pld h4 none (fun v91_7 h8 =>
pmk h8 92 2 8 [(.int .i64 0)] (fun v92_9 h10 =>
VL (vixS 1 v92_9 x1) fun v95_11 =>
pst h10 1 (cellsV (.int .i64 1)) (fun u12 h13 =>
VL (vlenS v88_5) fun v97_14 =>
pmk h13 98 2 8 [(.int .i64 0)] (fun v98_15 h16 =>
VL (vixS 2 v89_6 x1) fun v102_17 =>
VL (vixA 2 1 v102_17 (.int .i64 0)) fun v103_18 =>
pld h16 none (fun v104_19 h20 =>
VL (vixS 1 v98_15 v104_19) fun v105_21 =>
pst h20 1 (cellsV (.int .i64 1)) (fun u22 h23 =>
VL (vixS 2 v89_6 x1) fun v109_24 =>
VL (vixA 2 1 v109_24 (.int .i64 1)) fun v110_25 =>
pld h23 none (fun v111_26 h27 =>
VL (vixS 1 v98_15 v111_26) fun v112_28 =>
pst h27 1 (cellsV (.int .i64 1)) (fun u29 h30 =>
pcal Try.prog 53 114 h30 (fun v114_31 h32 =>
LP [11] [7, 8, 9, 10] (fun w33 l34 h35 N36 =>
VL (vlenS (w33.getD 0 .und)) fun v116_37 =>
VL (lift2 (abin .gtr) v116_37 (.int .i64 0)) fun v117_38 =>
pcond (
VL (vlenS (w33.getD 0 .und)) fun v119_39 =>
LP [56] [7, 8, 9, 10, 11, 54, 55] (fun w40 l41 h42 N43 =>
VL (lift2 (abin .lss) (w40.getD 0 .und) (l41.getD 6 .und)) fun v121_44 =>
pcond (
VL (vixS 1 (l41.getD 5 .und) (w40.getD 0 .und)) fun v123_45 =>
pld h42 none (fun v124_46 h47 =>
VL (vixS 2 (l41.getD 1 .und) v124_46) fun v127_48 =>
pld h47 (some 2) (fun v128_49 h50 =>
LP [14, 65] [7, 8, 9, 10, 11, 12, 13, 54, 55, 56, 64] (fun w51 l52 h53 N54 =>
VL (lift2 (abin .lss) (w51.getD 1 .und) (.int .i64 2)) fun v130_55 =>
pcond (
JN (fun k56 =>
VL (vixV 2 1 none (l52.getD 10 .und) (w51.getD 1 .und)) fun v131_59 =>
VL (vlenS (l52.getD 4 .und)) fun v133_60 =>
LP [17, 70] [7, 8, 9, 10, 11, 12, 13, 14, 16, 54, 55, 56, 64, 65, 68, 69] (fun w61 l62 h63 N64 =>
VL (lift2 (abin .lss) (w61.getD 1 .und) (l62.getD 15 .und)) fun v135_65 =>
pcond (
JN (fun k66 =>
VL (vixS 1 (l62.getD 14 .und) (w61.getD 1 .und)) fun v136_69 =>
pld h63 none (fun v137_70 h71 =>
VL (vixS 1 (l62.getD 0 .und) (l62.getD 8 .und)) fun v140_72 =>
pld h71 none (fun v141_73 h74 =>
pcal Try.prog 31 143 h74 (fun v143_75 h76 =>
pcond (
VL (lift2 (abin .add) (w61.getD 0 .und) (.int .i64 1)) fun v145_77 =>
k66 [(l62.getD 0 .und), (l62.getD 1 .und), (l62.getD 2 .und), (l62.getD 3 .und), (l62.getD 4 .und), (l62.getD 5 .und), (l62.getD 6 .und), (l62.getD 7 .und), (l62.getD 8 .und), v145_77, (l62.getD 9 .und), (l62.getD 10 .und), (l62.getD 11 .und), (l62.getD 12 .und), (l62.getD 13 .und), (l62.getD 14 .und), (l62.getD 15 .und), (w61.getD 1 .und)] h76) (
k66 [(l62.getD 0 .und), (l62.getD 1 .und), (l62.getD 2 .und), (l62.getD 3 .und), (l62.getD 4 .und), (l62.getD 5 .und), (l62.getD 6 .und), (l62.getD 7 .und), (l62.getD 8 .und), (w61.getD 0 .und), (l62.getD 9 .und), (l62.getD 10 .und), (l62.getD 11 .und), (l62.getD 12 .und), (l62.getD 13 .und), (l62.getD 14 .und), (l62.getD 15 .und), (w61.getD 1 .und)] h76) v143_75) [v141_73, v137_70]) v140_72) v136_69) fun o67 h68 =>
VL (lift2 (abin .add) (o67.getD 17 .und) (.int .i64 1)) fun v146_78 =>
N64 [(o67.getD 9 .und), v146_78] [(o67.getD 0 .und), (o67.getD 1 .und), (o67.getD 2 .und), (o67.getD 3 .und), (o67.getD 4 .und), (o67.getD 5 .und), (o67.getD 6 .und), (o67.getD 7 .und), (o67.getD 8 .und), (o67.getD 10 .und), (o67.getD 11 .und), (o67.getD 12 .und), (o67.getD 13 .und), (o67.getD 14 .und), (o67.getD 15 .und), (o67.getD 16 .und)] h68) (
VL (lift2 (abin .eql) (w61.getD 0 .und) (.int .i64 1)) fun v148_79 =>
pcond (
k56 [(l62.getD 0 .und), (l62.getD 1 .und), (l62.getD 2 .und), (l62.getD 3 .und), (l62.getD 4 .und), (l62.getD 5 .und), (l62.getD 6 .und), (l62.getD 8 .und), (l62.getD 9 .und), (l62.getD 10 .und), (l62.getD 11 .und), (l62.getD 12 .und), (l62.getD 13 .und)] h63) (
k56 [(l62.getD 0 .und), (l62.getD 1 .und), (l62.getD 2 .und), (l62.getD 3 .und), (l62.getD 4 .und), (l62.getD 5 .und), (l62.getD 6 .und), (l62.getD 7 .und), (l62.getD 9 .und), (l62.getD 10 .und), (l62.getD 11 .und), (l62.getD 12 .und), (l62.getD 13 .und)] h63) v148_79) v135_65) [(.int .i64 0), (.int .i64 0)] [(l52.getD 0 .und), (l52.getD 1 .und), (l52.getD 2 .und), (l52.getD 3 .und), (l52.getD 4 .und), (l52.getD 5 .und), (l52.getD 6 .und), (w51.getD 0 .und), v131_59, (l52.getD 7 .und), (l52.getD 8 .und), (l52.getD 9 .und), (l52.getD 10 .und), (w51.getD 1 .und), (l52.getD 4 .und), v133_60] h53) fun o57 h58 =>
VL (lift2 (abin .add) (o57.getD 12 .und) (.int .i64 1)) fun v150_80 =>
N54 [(o57.getD 7 .und), v150_80] [(o57.getD 0 .und), (o57.getD 1 .und), (o57.getD 2 .und), (o57.getD 3 .und), (o57.getD 4 .und), (o57.getD 5 .und), (o57.getD 6 .und), (o57.getD 8 .und), (o57.getD 9 .und), (o57.getD 10 .und), (o57.getD 11 .und)] h58) (
VL (lift2 (abin .lss) (w51.getD 0 .und) (.int .i64 0)) fun v152_81 =>
pcond (
VL (lift2 (abin .add) (l52.getD 9 .und) (.int .i64 1)) fun v189_82 =>
N43 [v189_82] [(l52.getD 0 .und), (l52.getD 1 .und), (l52.getD 2 .und), (l52.getD 3 .und), (l52.getD 4 .und), (l52.getD 7 .und), (l52.getD 8 .und)] h53) (
VL (vixS 1 (l52.getD 3 .und) (w51.getD 0 .und)) fun v155_83 =>
pld h53 none (fun v156_84 h85 =>
VL (lift1 (aun .neg) v156_84) fun v157_86 =>
VL (vixS 1 (l52.getD 2 .und) (l52.getD 6 .und)) fun v161_87 =>
pst h85 1 (cellsV v157_86) (fun u88 h89 =>
VL (vixS 2 (l52.getD 1 .und) (l52.getD 6 .und)) fun v165_90 =>
VL (vixA 2 1 v165_90 (.int .i64 0)) fun v166_91 =>
pld h89 none (fun v167_92 h93 =>
VL (vixS 1 (l52.getD 3 .und) v167_92) fun v168_94 =>
pld h93 none (fun v169_95 h96 =>
VL (lift2 (abin .add) v169_95 v157_86) fun v171_97 =>
VL (vixS 1 (l52.getD 3 .und) v167_92) fun v172_98 =>
pst h96 1 (cellsV v171_97) (fun u99 h100 =>
VL (vixS 2 (l52.getD 1 .und) (l52.getD 6 .und)) fun v176_101 =>
VL (vixA 2 1 v176_101 (.int .i64 1)) fun v177_102 =>
pld h100 none (fun v178_103 h104 =>
VL (vixS 1 (l52.getD 3 .und) v178_103) fun v179_105 =>
pld h104 none (fun v180_106 h107 =>
VL (lift2 (abin .add) v180_106 v157_86) fun v182_108 =>
VL (vixS 1 (l52.getD 3 .und) v178_103) fun v183_109 =>
pst h107 1 (cellsV v182_108) (fun u110 h111 =>
VL (lift2 (abin .add) (l52.getD 5 .und) (.int .i64 1)) fun v187_112 =>
pcal Try.prog 54 188 h111 (fun v188_113 h114 =>
N36 [v188_113] [(l52.getD 0 .und), (l52.getD 1 .und), (l52.getD 2 .und), (l52.getD 3 .und)] h114) [(l52.getD 4 .und), (l52.getD 5 .und), v187_112]) v183_109) v179_105) v177_102) v172_98) v168_94) v166_91) v161_87) v155_83) v152_81) v130_55) [(.int .i64 (-1)), (.int .i64 0)] [(l41.getD 0 .und), (l41.getD 1 .und), (l41.getD 2 .und), (l41.getD 3 .und), (l41.getD 4 .und), (w40.getD 0 .und), v124_46, (l41.getD 5 .und), (l41.getD 6 .und), (w40.getD 0 .und), v128_49] h50) v127_48) v123_45) (
N36 [(l41.getD 4 .und)] [(l41.getD 0 .und), (l41.getD 1 .und), (l41.getD 2 .und), (l41.getD 3 .und)] h42) v121_44) [(.int .i64 0)] [(l34.getD 0 .und), (l34.getD 1 .und), (l34.getD 2 .und), (l34.getD 3 .und), (w33.getD 0 .und), (w33.getD 0 .und), v119_39] h35) (
Rt h35 (l34.getD 2 .und)) v117_38) [v114_31] [v88_5, v89_6, v92_9, v98_15] h32) [x2]) v112_28) v110_25) v105_21) v103_18) v97_14 v97_14) v95_11) v91_7 v91_7) (.ptr 67 0)) [v86_1]) (.ptr 67 0)
theorem impl_cycleOf_f {x0 x1 x2 : V} : Prt Try.prog 32 [x0, x1, x2] (impl_cycleOf_F x0 x1 x2) := pfun (fn := Try.f32) (m := [.s, .s, .s, .s, .s, .s, .s, .s, .s, .l [11] [7, 8, 9, 10], .s, .s, .s, .l [56] [7, 8, 9, 10, 11, 54, 55], .s, .s, .s, .s, .s, .s, .s, .l [14, 65] [7, 8, 9, 10, 11, 12, 13, 54, 55, 56, 64], .s, .s, .j [7, 8, 9, 10, 11, 12, 13, 14, 54, 55, 56, 64, 65], .s, .s, .s, .s, .l [17, 70] [7, 8, 9, 10, 11, 12, 13, 14, 16, 54, 55, 56, 64, 65, 68, 69], .s, .s, .j [7, 8, 9, 10, 11, 12, 13, 14, 16, 17, 54, 55, 56, 64, 65, 68, 69, 70], .s, .s, .s, .s, .s, .s, .s, .s, .s, .s, .s]) (c := 3 ≤ 127) rfl (fun h0 Rt => by kernel_rfl) (by decide)

def spec_l09Basis_F (x0 : V) (hi : Hp) (Rt : Hp → V → Prop) : Prop :=
pbox hi 65 30 (cellsV x0) fun h0 =>
pld h0 (some 33) (fun v73_1 h2 =>
pld h2 (some 33) (fun v75_3 h4 =>
pld h4 none (fun v78_5 h6 =>
pld h6 (some 16) (fun v81_7 h8 =>
pld h8 none (fun v83_9 h10 =>
pcalp Try.prog 25 74 h10 (fun v74_11 h12 =>
pcalp Try.prog 55 76 h12 (fun v76_13 h14 =>
pcalp Try.prog 43 79 h14 (fun v79_15 h16 =>
pcalp Try.prog 56 84 h16 (fun v84_17 h18 =>
pcalp Try.prog 44 85 h18 (fun v85_19 h20 =>
palloc h20 67 47 (vb (List.replicate 16 false)) fun h21 =>
palloc h21 68 60 (vi .i64 (List.replicate 16 0)) fun h22 =>
palloc h22 69 28 (vi .u8 (List.replicate 16 0)) fun h23 =>
pst h23 16 (cellsV v74_11) (fun u24 h25 =>
pst h25 16 (cellsV v79_15) (fun u26 h27 =>
pst h27 16 (cellsV v84_17) (fun u28 h29 =>
pmks h29 86 25 0 0 (fun h30 =>
LP [7, 8] [1, 3, 4, 5, 6] (fun w31 l32 h33 N34 =>
VL (vfa 0 (l32.getD 0 .und)) fun v88_35 =>
pld h33 none (fun v89_36 h37 =>
VL (lift2 (abin .lss) (w31.getD 1 .und) v89_36) fun v90_38 =>
pcond (
JN (fun k39 =>
VL (vixA 16 1 (l32.getD 1 .und) (w31.getD 1 .und)) fun v94_42 =>
pld h37 none (fun v95_43 h44 =>
VL (lift1 (aun .not) v95_43) fun v96_45 =>
pgk true h44 (fun g46 k47 => k47 (l32.getD 4 .und) h44) (fun g48 v34_49 h50 =>
pgk true h50 (fun g51 k52 => k52 (w31.getD 1 .und) h50) (fun g53 v35_54 h55 =>
pgk true h55 (fun g56 k57 => VL (vixA 16 1 (l32.getD 2 .und) v35_54) fun v100_58 =>
k57 v100_58 h55) (fun g59 v36_60 h61 =>
pgk true h61 (fun g62 k63 => pld h61 none (fun v101_64 h65 =>
k63 v101_64 h65) v36_60) (fun g66 v37_67 h68 =>
pgk true h68 (fun g69 k70 => k70 (w31.getD 1 .und) h68) (fun g71 v38_72 h73 =>
pgk true h73 (fun g74 k75 => VL (vixA 16 1 (l32.getD 3 .und) v38_72) fun v103_76 =>
k75 v103_76 h73) (fun g77 v39_78 h79 =>
pgk true h79 (fun g80 k81 => pld h79 none (fun v104_82 h83 =>
k81 v104_82 h83) v39_78) (fun g84 v40_85 h86 =>
pgk true h86 (fun g87 k88 => VL (vixA 16 1 (l32.getD 2 .und) v40_85) fun v105_89 =>
k88 v105_89 h86) (fun g90 v41_91 h92 =>
pgk true h92 (fun g93 k94 => pld h92 none (fun v106_95 h96 =>
k94 v106_95 h96) v41_91) (fun g97 v42_98 h99 =>
pgk true h99 (fun g100 k101 => pcal Try.prog 45 107 h99 (fun v107_102 h103 =>
k101 v107_102 h103) [v34_49, v37_67, v42_98]) (fun g104 v43_105 h106 =>
pgk true h106 (fun g107 k108 => VL (lift1 (aun .not) v43_105) fun v108_109 =>
k108 v108_109 h106) (fun g110 v44_111 h112 =>
VL (vpick g110 v44_111 (.bool false)) fun v109_113 =>
pcond (
pld h112 (some 33) (fun v111_114 h115 =>
pld h115 (some 16) (fun v112_116 h117 =>
pcal Try.prog 26 114 h117 (fun v114_118 h119 =>
pmks h119 115 25 1 1 (fun h120 =>
papp h120 (fun m123 s124 => papV 25 1 24 116 h120 (fun v116_121 h122 =>
k39 [(l32.getD 0 .und), (l32.getD 1 .und), (l32.getD 2 .und), (l32.getD 3 .und), (l32.getD 4 .und), v116_121, (w31.getD 1 .und)] h122) m123 s124 (w31.getD 0 .und)) (pavs h120 (w31.getD 0 .und) []) (preadS 1 h120 (.rf 115 0 1))) (vfill [.nils] [(0, 1, v114_118)])) [v111_114, v112_116, (w31.getD 1 .und)]) (l32.getD 1 .und)) (l32.getD 0 .und)) (
k39 [(l32.getD 0 .und), (l32.getD 1 .und), (l32.getD 2 .und), (l32.getD 3 .und), (l32.getD 4 .und), (w31.getD 0 .und), (w31.getD 1 .und)] h112) v109_113) g104) g97) g90) g84) g77) g71) g66) g59) g53) g48) v96_45) v94_42) fun o40 h41 =>
VL (lift2 (abin .add) (o40.getD 6 .und) (.int .i64 1)) fun v92_125 =>
N34 [(o40.getD 5 .und), v92_125] [(o40.getD 0 .und), (o40.getD 1 .und), (o40.getD 2 .und), (o40.getD 3 .und), (o40.getD 4 .und)] h41) (
Rt h37 (w31.getD 0 .und)) v90_38) v88_35) [(.rf 86 0 0), (.int .i64 0)] [(.ptr 65 0), (.ptr 67 0), (.ptr 68 0), (.ptr 69 0), v85_19] h30) (vfill [] [])) (.ptr 69 0)) (.ptr 68 0)) (.ptr 67 0)) [(.int .i64 16)]) [v81_7, v83_9]) [v76_13, v78_5]) [v75_3]) [v73_1]) (.ptr 65 0)) (.ptr 65 1)) (.ptr 65 0)) (.ptr 65 0)) (.ptr 65 0)
theorem spec_l09Basis_f {x0 : V} : Prt Try.prog 33 [x0] (spec_l09Basis_F x0) := pfun (fn := Try.f33) (m := [.s, .s, .s, .s, .s, .l [7, 8] [1, 3, 4, 5, 6], .s, .s, .j [1, 3, 4, 5, 6, 7, 8], .s, .s]) (c := 1 ≤ 54) rfl (fun h0 Rt => by kernel_rfl) (by decide)

def impl_basis_F (x0 : V) (hi : Hp) (Rt : Hp → V → Prop) : Prop :=
pbox hi 65 30 (cellsV x0) fun h0 =>
pld h0 (some 33) (fun v77_1 h2 =>
pcal Try.prog 30 78 h2 (fun v78_3 h4 =>
pld h4 (some 33) (fun v79_5 h6 =>
pld h6 none (fun v82_7 h8 =>
pcalp Try.prog 58 80 h8 (fun v80_9 h10 =>
pcal Try.prog 57 83 h10 (fun v83_11 h12 =>
pld h12 none (fun v85_13 h14 =>
pmk h14 86 2 8 [(.int .i64 0)] (fun v86_15 h16 =>
VL (vlenS v83_11) fun v88_17 =>
LP [25] [1, 3, 4, 5, 23, 24] (fun w18 l19 h20 N21 =>
VL (lift2 (abin .lss) (w18.getD 0 .und) (l19.getD 5 .und)) fun v90_22 =>
pcond (
VL (vixS 1 (l19.getD 4 .und) (w18.getD 0 .und)) fun v92_23 =>
pld h20 none (fun v93_24 h25 =>
VL (vlenS v93_24) fun v95_26 =>
LP [32] [1, 3, 4, 5, 6, 23, 24, 25, 30, 31] (fun w27 l28 h29 N30 =>
VL (lift2 (abin .lss) (w27.getD 0 .und) (l28.getD 9 .und)) fun v97_31 =>
pcond (
VL (vixS 1 (l28.getD 8 .und) (w27.getD 0 .und)) fun v98_32 =>
pld h29 none (fun v99_33 h34 =>
VL (vixS 1 (l28.getD 3 .und) v99_33) fun v103_35 =>
pst h34 1 (cellsV (l28.getD 4 .und)) (fun u36 h37 =>
VL (lift2 (abin .add) (w27.getD 0 .und) (.int .i64 1)) fun v104_38 =>
N30 [v104_38] [(l28.getD 0 .und), (l28.getD 1 .und), (l28.getD 2 .und), (l28.getD 3 .und), (l28.getD 4 .und), (l28.getD 5 .und), (l28.getD 6 .und), (l28.getD 7 .und), (l28.getD 8 .und), (l28.getD 9 .und)] h37) v103_35) v98_32) (
VL (lift2 (abin .add) (l28.getD 7 .und) (.int .i64 1)) fun v105_39 =>
N21 [v105_39] [(l28.getD 0 .und), (l28.getD 1 .und), (l28.getD 2 .und), (l28.getD 3 .und), (l28.getD 5 .und), (l28.getD 6 .und)] h29) v97_31) [(.int .i64 0)] [(l19.getD 0 .und), (l19.getD 1 .und), (l19.getD 2 .und), (l19.getD 3 .und), (w18.getD 0 .und), (l19.getD 4 .und), (l19.getD 5 .und), (w18.getD 0 .und), v93_24, v95_26] h25) v92_23) (
VL (vlenS (l19.getD 2 .und)) fun v107_40 =>
pcal Try.prog 50 108 h20 (fun v108_41 h42 =>
pmks h42 109 25 0 0 (fun h43 =>
VL (vfa 0 (l19.getD 0 .und)) fun v110_44 =>
pld h43 none (fun v111_45 h46 =>
LP [11, 48] [1, 3, 5, 10, 47] (fun w47 l48 h49 N50 =>
VL (lift2 (abin .lss) (w47.getD 1 .und) (l48.getD 4 .und)) fun v113_51 =>
pcond (
JN (fun k52 =>
pcal Try.prog 31 117 h49 (fun v117_55 h56 =>
pcond (
k52 [(l48.getD 0 .und), (l48.getD 1 .und), (l48.getD 2 .und), (l48.getD 3 .und), (w47.getD 0 .und), (l48.getD 4 .und), (w47.getD 1 .und)] h56) (
VL (vixS 1 (l48.getD 2 .und) (w47.getD 1 .und)) fun v121_57 =>
pld h56 none (fun v122_58 h59 =>
VL (vfa 1 (l48.getD 0 .und)) fun v124_60 =>
pld h59 (some 16) (fun v125_61 h62 =>
VL (vfa 0 (l48.getD 0 .und)) fun v126_63 =>
pld h62 none (fun v127_64 h65 =>
pcalp Try.prog 59 128 h65 (fun v128_66 h67 =>
VL (vixV 16 1 none v128_66 (w47.getD 1 .und)) fun v130_68 =>
VL (vixS 1 (l48.getD 2 .und) v130_68) fun v131_69 =>
pld h67 none (fun v132_70 h71 =>
pcal Try.prog 51 133 h71 (fun v133_72 h73 =>
VL (lift1 (aun .not) v133_72) fun v134_74 =>
pcond (
pld h73 (some 33) (fun v136_75 h76 =>
pcal Try.prog 32 139 h76 (fun v139_77 h78 =>
pmks h78 140 25 1 1 (fun h79 =>
papp h79 (fun m82 s83 => papV 25 1 24 141 h79 (fun v141_80 h81 =>
k52 [(l48.getD 0 .und), (l48.getD 1 .und), (l48.getD 2 .und), (l48.getD 3 .und), v141_80, (l48.getD 4 .und), (w47.getD 1 .und)] h81) m82 s83 (w47.getD 0 .und)) (pavs h79 (w47.getD 0 .und) []) (preadS 1 h79 (.rf 140 0 1))) (vfill [.nils] [(0, 1, v139_77)])) [v136_75, (w47.getD 1 .und), (l48.getD 1 .und)]) (l48.getD 0 .und)) (
k52 [(l48.getD 0 .und), (l48.getD 1 .und), (l48.getD 2 .und), (l48.getD 3 .und), (w47.getD 0 .und), (l48.getD 4 .und), (w47.getD 1 .und)] h73) v134_74) [(l48.getD 3 .und), v122_58, v132_70]) v131_69) [v125_61, v127_64]) v126_63) v124_60) v121_57) v117_55) [(l48.getD 1 .und), (w47.getD 1 .und)]) fun o53 h54 =>
VL (lift2 (abin .add) (o53.getD 6 .und) (.int .i64 1)) fun v142_84 =>
N50 [(o53.getD 4 .und), v142_84] [(o53.getD 0 .und), (o53.getD 1 .und), (o53.getD 2 .und), (o53.getD 3 .und), (o53.getD 5 .und)] h54) (
Rt h49 (w47.getD 0 .und)) v113_51) [(.rf 109 0 0), (.int .i64 0)] [(l19.getD 0 .und), (l19.getD 1 .und), (l19.getD 3 .und), v108_41, v111_45] h46) v110_44) (vfill [] [])) [v107_40]) v90_22) [(.int .i64 0)] [(.ptr 65 0), v78_3, v83_11, v86_15, v83_11, v88_17] h16) v85_13 v85_13) (.ptr 65 0)) [v80_9, v82_7]) [v79_5]) (.ptr 65 0)) (.ptr 65 0)) [v77_1]) (.ptr 65 0)
theorem impl_basis_f {x0 : V} : Prt Try.prog 34 [x0] (impl_basis_F x0) := pfun (fn := Try.f34) (m := [.s, .s, .s, .s, .s, .s, .l [25] [1, 3, 4, 5, 23, 24], .s, .s, .s, .s, .s, .l [32] [1, 3, 4, 5, 6, 23, 24, 25, 30, 31], .s, .s, .s, .s, .s, .s, .s, .s, .l [11, 48] [1, 3, 5, 10, 47], .s, .s, .j [1, 3, 5, 10, 11, 47, 48], .s, .s, .s, .s, .s]) (c := 1 ≤ 80) rfl (fun h0 Rt => by kernel_rfl) (by decide)

def spec_l09Chain_F (x0 x1 : V) (hi : Hp) (Rt : Hp → V → Prop) : Prop :=
pbox hi 66 30 (cellsV x0) fun h0 =>
pld h0 none (fun v71_1 h2 =>
pcal Try.prog 60 72 h2 (fun v72_3 h4 =>
Rt h4 v72_3) [x1, v71_1, (.int .i64 (-1000)), (.int .i64 1000)]) (.ptr 66 0)
theorem spec_l09Chain_f {x0 x1 : V} : Prt Try.prog 35 [x0, x1] (spec_l09Chain_F x0 x1) := pfun (fn := Try.f35) (m := [.s, .s]) (c := 2 ≤ 9) rfl (fun h0 Rt => by kernel_rfl) (by decide)

def spec_l09Cycle_F (x0 x1 : V) (hi : Hp) (Rt : Hp → V → Prop) : Prop :=
pbox hi 66 30 (cellsV x0) fun h0 =>
pld h0 (some 16) (fun v75_1 h2 =>
pld h2 none (fun v77_3 h4 =>
pldb h4 (some 16) (fun v81_5 h6 =>
pldb h6 none (fun v83_7 h8 =>
pcalp Try.prog 46 78 h8 (fun v78_9 h10 =>
pmks h10 73 25 0 0 (fun h11 =>
papp h11 (fun m14 s15 => papV 25 1 24 79 h11 (fun v79_12 h13 =>
pcal Try.prog 46 84 h13 (fun v84_16 h17 =>
papp h17 (fun m20 s21 => papV 25 1 24 85 h17 (fun v85_18 h19 =>
LP [6] [1, 5] (fun w22 l23 h24 N25 =>
VL (vlenS (l23.getD 1 .und)) fun v88_26 =>
VL (lift2 (abin .lss) (w22.getD 0 .und) v88_26) fun v89_27 =>
pcond (
LP [7, 8] [1, 5, 6] (fun w28 l29 h30 N31 =>
VL (vixS 1 (l29.getD 1 .und) (l29.getD 2 .und)) fun v95_32 =>
pld h30 none (fun v96_33 h34 =>
VL (vlenS v96_33) fun v97_35 =>
VL (lift2 (abin .lss) (w28.getD 1 .und) v97_35) fun v98_36 =>
pcond (
VL (vixS 1 (l29.getD 1 .und) (l29.getD 2 .und)) fun v105_37 =>
pld h34 none (fun v106_38 h39 =>
VL (vixS 1 v106_38 (w28.getD 1 .und)) fun v108_40 =>
pld h39 none (fun v109_41 h42 =>
VL (vixS 1 (l29.getD 0 .und) v109_41) fun v110_43 =>
pld h42 none (fun v111_44 h45 =>
VL (lift2 (abin .add) (w28.getD 0 .und) v111_44) fun v112_46 =>
VL (lift2 (abin .add) (w28.getD 1 .und) (.int .i64 1)) fun v100_47 =>
N31 [v112_46, v100_47] [(l29.getD 0 .und), (l29.getD 1 .und), (l29.getD 2 .und)] h45) v110_43) v108_40) v105_37) (
VL (lift2 (abin .neq) (w28.getD 0 .und) (.int .i64 0)) fun v114_48 =>
pcond (
Rt h34 (.bool false)) (
VL (lift2 (abin .add) (l29.getD 2 .und) (.int .i64 1)) fun v91_49 =>
N25 [v91_49] [(l29.getD 0 .und), (l29.getD 1 .und)] h34) v114_48) v98_36) v95_32) [(.int .i64 0), (.int .i64 0)] [(l23.getD 0 .und), (l23.getD 1 .und), (w22.getD 0 .und)] h24) (
Rt h24 (.bool true)) v89_27) [(.int .i64 0)] [x1, v85_18] h19) m20 s21 v79_12) (pavs h17 v79_12 []) (preadS 1 h17 v84_16)) [v81_5, v83_7]) m14 s15 (.rf 73 0 0)) (pavs h11 (.rf 73 0 0) [(.ptr 66 0), (.ptr 66 0)]) (preadS 1 h11 v78_9)) (vfill [] [])) [v75_1, v77_3]) (.ptr 66 0) (.ptr 66 0)) (.ptr 66 17) (.ptr 66 0)) (.ptr 66 0)) (.ptr 66 1)
theorem spec_l09Cycle_f {x0 x1 : V} : Prt Try.prog 36 [x0, x1] (spec_l09Cycle_F x0 x1) := pfun (fn := Try.f36) (m := [.s, .s, .s, .s, .l [6] [1, 5], .s, .s, .s, .s, .s, .s, .l [7, 8] [1, 5, 6], .s, .s, .s, .s, .s, .s]) (c := 2 ≤ 51) rfl (fun h0 Rt => by kernel_rfl) (by decide)

def spec_l09Meet_F (x0 x1 x2 : V) (hi : Hp) (Rt : Hp → V → Prop) : Prop :=
pbox hi 67 30 (cellsV x0) fun h0 =>
pld h0 (some 16) (fun v80_1 h2 =>
pld h2 none (fun v82_3 h4 =>
pldb h4 (some 16) (fun v86_5 h6 =>
pldb h6 none (fun v88_7 h8 =>
pcalp Try.prog 46 83 h8 (fun v83_9 h10 =>
pmks h10 78 25 0 0 (fun h11 =>
papp h11 (fun m14 s15 => papV 25 1 24 84 h11 (fun v84_12 h13 =>
pcal Try.prog 46 89 h13 (fun v89_16 h17 =>
papp h17 (fun m20 s21 => papV 25 1 24 90 h17 (fun v90_18 h19 =>
LP [8, 9] [1, 2, 7] (fun w22 l23 h24 N25 =>
VL (vlenS (l23.getD 2 .und)) fun v93_26 =>
VL (lift2 (abin .lss) (w22.getD 1 .und) v93_26) fun v94_27 =>
pcond (
LP [8, 10] [1, 2, 7, 9] (fun w28 l29 h30 N31 =>
VL (vixS 1 (l29.getD 2 .und) (l29.getD 3 .und)) fun v100_32 =>
pld h30 none (fun v101_33 h34 =>
VL (vlenS v101_33) fun v102_35 =>
VL (lift2 (abin .lss) (w28.getD 1 .und) v102_35) fun v103_36 =>
pcond (
LP [8, 11] [1, 2, 7, 9, 10] (fun w37 l38 h39 N40 =>
VL (lift2 (abin .lss) (w37.getD 1 .und) (l38.getD 4 .und)) fun v108_41 =>
pcond (
VL (vixS 1 (l38.getD 2 .und) (l38.getD 3 .und)) fun v113_42 =>
pld h39 none (fun v114_43 h44 =>
VL (vixS 1 v114_43 (w37.getD 1 .und)) fun v116_45 =>
pld h44 none (fun v117_46 h47 =>
VL (vixS 1 (l38.getD 2 .und) (l38.getD 3 .und)) fun v120_48 =>
pld h47 none (fun v121_49 h50 =>
VL (vixS 1 v121_49 (l38.getD 4 .und)) fun v123_51 =>
pld h50 none (fun v124_52 h53 =>
VL (vixS 1 (l38.getD 0 .und) v117_46) fun v128_54 =>
pld h53 none (fun v129_55 h56 =>
VL (vixS 1 (l38.getD 1 .und) v124_52) fun v132_57 =>
pld h56 none (fun v133_58 h59 =>
VL (lift2 (abin .mul) v129_55 v133_58) fun v134_60 =>
VL (lift2 (abin .add) (w37.getD 0 .und) v134_60) fun v135_61 =>
VL (vixS 1 (l38.getD 0 .und) v124_52) fun v138_62 =>
pld h59 none (fun v139_63 h64 =>
VL (vixS 1 (l38.getD 1 .und) v117_46) fun v142_65 =>
pld h64 none (fun v143_66 h67 =>
VL (lift2 (abin .mul) v139_63 v143_66) fun v144_68 =>
VL (lift2 (abin .sub) v135_61 v144_68) fun v145_69 =>
VL (lift2 (abin .add) (w37.getD 1 .und) (.int .i64 1)) fun v110_70 =>
N40 [v145_69, v110_70] [(l38.getD 0 .und), (l38.getD 1 .und), (l38.getD 2 .und), (l38.getD 3 .und), (l38.getD 4 .und)] h67) v142_65) v138_62) v132_57) v128_54) v123_51) v120_48) v116_45) v113_42) (
VL (lift2 (abin .add) (l38.getD 4 .und) (.int .i64 1)) fun v105_71 =>
N31 [(w37.getD 0 .und), v105_71] [(l38.getD 0 .und), (l38.getD 1 .und), (l38.getD 2 .und), (l38.getD 3 .und)] h39) v108_41) [(w28.getD 0 .und), (.int .i64 0)] [(l29.getD 0 .und), (l29.getD 1 .und), (l29.getD 2 .und), (l29.getD 3 .und), (w28.getD 1 .und)] h34) (
VL (lift2 (abin .add) (l29.getD 3 .und) (.int .i64 1)) fun v96_72 =>
N25 [(w28.getD 0 .und), v96_72] [(l29.getD 0 .und), (l29.getD 1 .und), (l29.getD 2 .und)] h34) v103_36) v100_32) [(w22.getD 0 .und), (.int .i64 0)] [(l23.getD 0 .und), (l23.getD 1 .und), (l23.getD 2 .und), (w22.getD 1 .und)] h24) (
VL (lift2 (abin .quo) (w22.getD 0 .und) (.int .i64 2)) fun v147_73 =>
Rt h24 v147_73) v94_27) [(.int .i64 0), (.int .i64 0)] [x1, x2, v90_18] h19) m20 s21 v84_12) (pavs h17 v84_12 []) (preadS 1 h17 v89_16)) [v86_5, v88_7]) m14 s15 (.rf 78 0 0)) (pavs h11 (.rf 78 0 0) [(.ptr 67 0), (.ptr 67 0)]) (preadS 1 h11 v83_9)) (vfill [] [])) [v80_1, v82_3]) (.ptr 67 0) (.ptr 67 0)) (.ptr 67 17) (.ptr 67 0)) (.ptr 67 0)) (.ptr 67 1)
theorem spec_l09Meet_f {x0 x1 x2 : V} : Prt Try.prog 37 [x0, x1, x2] (spec_l09Meet_F x0 x1 x2) := pfun (fn := Try.f37) (m := [.s, .s, .s, .s, .s, .l [8, 9] [1, 2, 7], .s, .s, .s, .s, .l [8, 10] [1, 2, 7, 9], .s, .s, .s, .s, .l [8, 11] [1, 2, 7, 9, 10], .s, .s, .s, .s, .s]) (c := 3 ≤ 84) rfl (fun h0 Rt => by kernel_rfl) (by decide)

def impl_IsCycle_F (x0 x1 : V) (hi : Hp) (Rt : Hp → V → Prop) : Prop :=
pbox hi 66 30 (cellsV x0) fun h0 =>
pld h0 (some 33) (fun v71_1 h2 =>
pcal Try.prog 28 72 h2 (fun v72_3 h4 =>
VL (lift1 (aun .not) v72_3) fun v73_5 =>
pcond (
Rt h4 (.tup [(.bool false), (.int .i64 1)])) (
pld h4 (some 33) (fun v75_6 h7 =>
pcal Try.prog 61 77 h7 (fun v77_8 h9 =>
VL (lift1 (aun .not) v77_8) fun v78_10 =>
pcond (
Rt h9 (.tup [(.bool false), (.int .i64 2)])) (
pld h9 (some 33) (fun v79_11 h12 =>
pcal Try.prog 62 81 h12 (fun v81_13 h14 =>
Rt h14 (.tup [v81_13, (.int .i64 0)])) [v79_11, x1]) (.ptr 66 0)) v78_10) [v75_6, x1]) (.ptr 66 0)) v73_5) [v71_1]) (.ptr 66 0)
theorem impl_IsCycle_f {x0 x1 : V} : Prt Try.prog 38 [x0, x1] (impl_IsCycle_F x0 x1) := pfun (fn := Try.f38) (m := [.s, .s, .s, .s, .s, .s, .s]) (c := 2 ≤ 18) rfl (fun h0 Rt => by kernel_rfl) (by decide)

def impl_allCycles_F (x0 : V) (hi : Hp) (Rt : Hp → V → Prop) : Prop :=
pbox hi 65 30 (cellsV x0) fun h0 =>
pld h0 (some 33) (fun v70_1 h2 =>
pcal Try.prog 30 71 h2 (fun v71_3 h4 =>
pmks h4 72 25 0 0 (fun h5 =>
pld h5 none (fun v74_6 h7 =>
LP [4, 11] [1, 3, 10] (fun w8 l9 h10 N11 =>
VL (lift2 (abin .lss) (w8.getD 1 .und) (l9.getD 2 .und)) fun v76_12 =>
pcond (
JN (fun k13 =>
pcal Try.prog 31 80 h10 (fun v80_16 h17 =>
VL (lift1 (aun .not) v80_16) fun v81_18 =>
pcond (
pld h17 (some 33) (fun v83_19 h20 =>
pcal Try.prog 32 86 h20 (fun v86_21 h22 =>
pmks h22 87 25 1 1 (fun h23 =>
papp h23 (fun m26 s27 => papV 25 1 24 88 h23 (fun v88_24 h25 =>
k13 [(l9.getD 0 .und), (l9.getD 1 .und), v88_24, (l9.getD 2 .und), (w8.getD 1 .und)] h25) m26 s27 (w8.getD 0 .und)) (pavs h23 (w8.getD 0 .und) []) (preadS 1 h23 (.rf 87 0 1))) (vfill [.nils] [(0, 1, v86_21)])) [v83_19, (w8.getD 1 .und), (l9.getD 1 .und)]) (l9.getD 0 .und)) (
k13 [(l9.getD 0 .und), (l9.getD 1 .und), (w8.getD 0 .und), (l9.getD 2 .und), (w8.getD 1 .und)] h17) v81_18) [(l9.getD 1 .und), (w8.getD 1 .und)]) fun o14 h15 =>
VL (lift2 (abin .add) (o14.getD 4 .und) (.int .i64 1)) fun v89_28 =>
N11 [(o14.getD 2 .und), v89_28] [(o14.getD 0 .und), (o14.getD 1 .und), (o14.getD 3 .und)] h15) (
Rt h10 (w8.getD 0 .und)) v76_12) [(.rf 72 0 0), (.int .i64 0)] [(.ptr 65 0), v71_3, v74_6] h7) (.ptr 65 0)) (vfill [] [])) [v70_1]) (.ptr 65 0)
theorem impl_allCycles_f {x0 : V} : Prt Try.prog 39 [x0] (impl_allCycles_F x0) := pfun (fn := Try.f39) (m := [.s, .s, .s, .s, .s, .l [4, 11] [1, 3, 10], .s, .s, .j [1, 3, 4, 10, 11], .s, .s, .s]) (c := 1 ≤ 27) rfl (fun h0 Rt => by kernel_rfl) (by decide)

def impl_intersection_F (x0 x1 x2 : V) (hi : Hp) (Rt : Hp → V → Prop) : Prop :=
pbox hi 67 30 (cellsV x0) fun h0 =>
pld h0 (some 33) (fun v81_1 h2 =>
pcal Try.prog 49 82 h2 (fun v82_3 h4 =>
VL (vext 0 v82_3) fun v83_5 =>
VL (vext 1 v82_3) fun v84_6 =>
VL (vlenS v83_5) fun v86_7 =>
LP [9, 23] [1, 2, 21, 22] (fun w8 l9 h10 N11 =>
VL (lift2 (abin .lss) (w8.getD 1 .und) (l9.getD 3 .und)) fun v88_12 =>
pcond (
VL (vixS 1 (l9.getD 2 .und) (w8.getD 1 .und)) fun v89_13 =>
pld h10 none (fun v90_14 h15 =>
VL (vlenS v90_14) fun v92_16 =>
LP [9, 29] [1, 2, 11, 21, 22, 23, 27, 28] (fun w17 l18 h19 N20 =>
VL (lift2 (abin .lss) (w17.getD 1 .und) (l18.getD 7 .und)) fun v94_21 =>
pcond (
VL (vixS 1 (l18.getD 6 .und) (w17.getD 1 .und)) fun v96_22 =>
pld h19 none (fun v97_23 h24 =>
VL (vslS 1 (l18.getD 2 .und) none (some (w17.getD 1 .und))) fun v100_25 =>
VL (vlenS v100_25) fun v101_26 =>
LP [9, 38] [1, 2, 11, 13, 21, 22, 23, 27, 28, 29, 36, 37] (fun w27 l28 h29 N30 =>
VL (lift2 (abin .lss) (w27.getD 1 .und) (l28.getD 11 .und)) fun v103_31 =>
pcond (
VL (vixS 1 (l28.getD 10 .und) (w27.getD 1 .und)) fun v104_32 =>
pld h29 none (fun v105_33 h34 =>
VL (vixS 1 (l28.getD 0 .und) v105_33) fun v109_35 =>
pld h34 none (fun v110_36 h37 =>
VL (vixS 1 (l28.getD 1 .und) (l28.getD 3 .und)) fun v113_38 =>
pld h37 none (fun v114_39 h40 =>
VL (lift2 (abin .mul) v110_36 v114_39) fun v115_41 =>
VL (vixS 1 (l28.getD 0 .und) (l28.getD 3 .und)) fun v118_42 =>
pld h40 none (fun v119_43 h44 =>
VL (vixS 1 (l28.getD 1 .und) v105_33) fun v122_45 =>
pld h44 none (fun v123_46 h47 =>
VL (lift2 (abin .mul) v119_43 v123_46) fun v124_48 =>
VL (lift2 (abin .sub) v115_41 v124_48) fun v125_49 =>
VL (lift2 (abin .add) (w27.getD 0 .und) v125_49) fun v126_50 =>
VL (lift2 (abin .add) (w27.getD 1 .und) (.int .i64 1)) fun v127_51 =>
N30 [v126_50, v127_51] [(l28.getD 0 .und), (l28.getD 1 .und), (l28.getD 2 .und), (l28.getD 3 .und), (l28.getD 4 .und), (l28.getD 5 .und), (l28.getD 6 .und), (l28.getD 7 .und), (l28.getD 8 .und), (l28.getD 9 .und), (l28.getD 10 .und), (l28.getD 11 .und)] h47) v122_45) v118_42) v113_38) v109_35) v104_32) (
VL (lift2 (abin .add) (l28.getD 9 .und) (.int .i64 1)) fun v128_52 =>
N20 [(w27.getD 0 .und), v128_52] [(l28.getD 0 .und), (l28.getD 1 .und), (l28.getD 2 .und), (l28.getD 4 .und), (l28.getD 5 .und), (l28.getD 6 .und), (l28.getD 7 .und), (l28.getD 8 .und)] h29) v103_31) [(w17.getD 0 .und), (.int .i64 0)] [(l18.getD 0 .und), (l18.getD 1 .und), (l18.getD 2 .und), v97_23, (l18.getD 3 .und), (l18.getD 4 .und), (l18.getD 5 .und), (l18.getD 6 .und), (l18.getD 7 .und), (w17.getD 1 .und), v100_25, v101_26] h24) v96_22) (
VL (lift2 (abin .add) (l18.getD 5 .und) (.int .i64 1)) fun v129_53 =>
N11 [(w17.getD 0 .und), v129_53] [(l18.getD 0 .und), (l18.getD 1 .und), (l18.getD 3 .und), (l18.getD 4 .und)] h19) v94_21) [(w8.getD 0 .und), (.int .i64 0)] [(l9.getD 0 .und), (l9.getD 1 .und), v90_14, (l9.getD 2 .und), (l9.getD 3 .und), (w8.getD 1 .und), v90_14, v92_16] h15) v89_13) (
VL (lift2 (abin .quo) (w8.getD 0 .und) (.int .i64 2)) fun v131_54 =>
Rt h10 v131_54) v88_12) [(.int .i64 0), (.int .i64 0)] [x1, x2, v83_5, v86_7] h4) [v81_1]) (.ptr 67 0)
theorem impl_intersection_f {x0 x1 x2 : V} : Prt Try.prog 40 [x0, x1, x2] (impl_intersection_F x0 x1 x2) := pfun (fn := Try.f40) (m := [.s, .s, .s, .s, .s, .l [9, 23] [1, 2, 21, 22], .s, .s, .s, .s, .s, .l [9, 29] [1, 2, 11, 21, 22, 23, 27, 28], .s, .s, .s, .s, .s, .l [9, 38] [1, 2, 11, 13, 21, 22, 23, 27, 28, 29, 36, 37], .s, .s, .s, .s, .s]) (c := 3 ≤ 68) rfl (fun h0 Rt => by kernel_rfl) (by decide)

def spec_l01Perm_F (x0 x1 : V) (hi : Hp) (Rt : Hp → V → Prop) : Prop :=
pbox hi 66 28 (cellsV x0) fun h0 =>
pcal Try.prog 24 72 h0 (fun v72_1 h2 =>
VL (lift1 (aun .not) v72_1) fun v73_3 =>
pcond (
Rt h2 (.bool false)) (
VL (vbld (vfill (vb (List.replicate 16 false)) [])) fun v74_4 =>
palloc h2 69 47 (vb (List.replicate 16 false)) fun h5 =>
pst h5 16 (cellsV v74_4) (fun u6 h7 =>
LP [6] [1, 2, 5] (fun w8 l9 h10 N11 =>
VL (lift2 (abin .lss) (w8.getD 0 .und) (.int .i64 16)) fun v76_12 =>
pcond (
JN (fun k13 =>
VL (lift2 (abin .geq) (w8.getD 0 .und) (l9.getD 0 .und)) fun v86_16 =>
pcond (
VL (vixA 16 1 (l9.getD 1 .und) (w8.getD 0 .und)) fun v88_17 =>
pld h10 none (fun v89_18 h19 =>
VL (lift2 (abin .neq) v89_18 (.int .u8 0)) fun v90_20 =>
pcond (
Rt h19 (.bool false)) (
k13 [(l9.getD 0 .und), (l9.getD 1 .und), (l9.getD 2 .und), (w8.getD 0 .und)] h19) v90_20) v88_17) (
VL (vixA 16 1 (l9.getD 1 .und) (w8.getD 0 .und)) fun v93_21 =>
pld h10 none (fun v94_22 h23 =>
VL (lift1 (acvi .i64) v94_22) fun v95_24 =>
VL (lift2 (abin .geq) v95_24 (l9.getD 0 .und)) fun v97_25 =>
pgk false h23 (fun g26 k27 => k27 (w8.getD 0 .und) h23) (fun g28 v35_29 h30 =>
pgk false h30 (fun g31 k32 => VL (vixA 16 1 (l9.getD 1 .und) v35_29) fun v100_33 =>
k32 v100_33 h30) (fun g34 v36_35 h36 =>
pgk false h36 (fun g37 k38 => pld h36 none (fun v101_39 h40 =>
k38 v101_39 h40) v36_35) (fun g41 v37_42 h43 =>
pgk false h43 (fun g44 k45 => VL (vixA 16 1 (l9.getD 2 .und) v37_42) fun v102_46 =>
k45 v102_46 h43) (fun g47 v38_48 h49 =>
pgk false h49 (fun g50 k51 => pld h49 none (fun v103_52 h53 =>
k51 v103_52 h53) v38_48) (fun g54 v39_55 h56 =>
VL (vpick g54 (.bool true) v39_55) fun v104_57 =>
pcond (
Rt h56 (.bool false)) (
VL (vixA 16 1 (l9.getD 1 .und) (w8.getD 0 .und)) fun v80_58 =>
pld h56 none (fun v81_59 h60 =>
VL (vixA 16 1 (l9.getD 2 .und) v81_59) fun v82_61 =>
pst h60 1 (cellsV (.bool true)) (fun u62 h63 =>
k13 [(l9.getD 0 .und), (l9.getD 1 .und), (l9.getD 2 .und), (w8.getD 0 .und)] h63) v82_61) v80_58) v104_57) g47) g41) g34) g28) v97_25) v93_21) v86_16) fun o14 h15 =>
VL (lift2 (abin .add) (o14.getD 3 .und) (.int .i64 1)) fun v78_64 =>
N11 [v78_64] [(o14.getD 0 .und), (o14.getD 1 .und), (o14.getD 2 .und)] h15) (
Rt h10 (.bool true)) v76_12) [(.int .i64 0)] [x1, (.ptr 66 0), (.ptr 69 0)] h7) (.ptr 69 0)) v73_3) [x1, (.int .i64 1), (.int .i64 16)]
theorem spec_l01Perm_f {x0 x1 : V} : Prt Try.prog 41 [x0, x1] (spec_l01Perm_F x0 x1) := pfun (fn := Try.f41) (m := [.s, .s, .s, .s, .s, .s, .s, .l [6] [1, 2, 5], .s, .s, .j [1, 2, 5, 6], .s, .s, .s, .s, .s, .s]) (c := 2 ≤ 41) rfl (fun h0 Rt => by kernel_rfl) (by decide)

def spec_l01Connected_F (x0 x1 x2 : V) (hi : Hp) (Rt : Hp → V → Prop) : Prop :=
pbox hi 68 28 (cellsV x1) fun h0 =>
pbox h0 69 28 (cellsV x2) fun h1 =>
VL (vbld (vfill (vb (List.replicate 16 false)) [])) fun v76_2 =>
pmks h1 77 5 1 1 (fun h3 =>
palloc h3 71 47 (vb (List.replicate 16 false)) fun h4 =>
pst h4 16 (cellsV v76_2) (fun u5 h6 =>
VL (vixA 16 1 (.ptr 71 0) (.int .i64 0)) fun v78_7 =>
pst h6 1 (cellsV (.bool true)) (fun u8 h9 =>
LP [8, 9] [0, 4, 5, 7] (fun w10 l11 h12 N13 =>
VL (vlenS (w10.getD 0 .und)) fun v81_14 =>
VL (lift2 (abin .lss) (w10.getD 1 .und) v81_14) fun v82_15 =>
pcond (
VL (vixS 1 (w10.getD 0 .und) (w10.getD 1 .und)) fun v87_16 =>
pld h12 none (fun v88_17 h18 =>
VL (vixA 16 1 (l11.getD 1 .und) v88_17) fun v89_19 =>
pld h18 none (fun v90_20 h21 =>
VL (vixS 1 (w10.getD 0 .und) (w10.getD 1 .und)) fun v93_22 =>
pld h21 none (fun v94_23 h24 =>
VL (vixA 16 1 (l11.getD 2 .und) v94_23) fun v95_25 =>
pld h24 none (fun v96_26 h27 =>
pmks h27 97 5 2 2 (fun h28 =>
LP [8, 11] [0, 4, 5, 7, 9, 10] (fun w29 l30 h31 N32 =>
VL (lift2 (abin .lss) (w29.getD 1 .und) (.int .i64 2)) fun v99_33 =>
pcond (
JN (fun k34 =>
VL (vixS 1 (l30.getD 5 .und) (w29.getD 1 .und)) fun v104_37 =>
pld h31 none (fun v105_38 h39 =>
VL (vixA 16 1 (l30.getD 3 .und) v105_38) fun v106_40 =>
pld h39 none (fun v107_41 h42 =>
VL (lift1 (aun .not) v107_41) fun v108_43 =>
pcond (
VL (vixS 1 (l30.getD 5 .und) (w29.getD 1 .und)) fun v111_44 =>
pld h42 none (fun v112_45 h46 =>
VL (vixA 16 1 (l30.getD 3 .und) v112_45) fun v113_47 =>
pst h46 1 (cellsV (.bool true)) (fun u48 h49 =>
VL (vixS 1 (l30.getD 5 .und) (w29.getD 1 .und)) fun v117_50 =>
pld h49 none (fun v118_51 h52 =>
pmks h52 119 5 1 1 (fun h53 =>
papp h53 (fun m56 s57 => papV 5 1 1 120 h53 (fun v120_54 h55 =>
k34 [(l30.getD 0 .und), (l30.getD 1 .und), (l30.getD 2 .und), (l30.getD 3 .und), v120_54, (l30.getD 4 .und), (l30.getD 5 .und), (w29.getD 1 .und)] h55) m56 s57 (w29.getD 0 .und)) (pavs h53 (w29.getD 0 .und) []) (preadS 1 h53 (.rf 119 0 1))) (vfill [(.int .u8 0)] [(0, 1, v118_51)])) v117_50) v113_47) v111_44) (
k34 [(l30.getD 0 .und), (l30.getD 1 .und), (l30.getD 2 .und), (l30.getD 3 .und), (w29.getD 0 .und), (l30.getD 4 .und), (l30.getD 5 .und), (w29.getD 1 .und)] h42) v108_43) v106_40) v104_37) fun o35 h36 =>
VL (lift2 (abin .add) (o35.getD 7 .und) (.int .i64 1)) fun v101_58 =>
N32 [(o35.getD 4 .und), v101_58] [(o35.getD 0 .und), (o35.getD 1 .und), (o35.getD 2 .und), (o35.getD 3 .und), (o35.getD 5 .und), (o35.getD 6 .und)] h36) (
VL (lift2 (abin .add) (l30.getD 4 .und) (.int .i64 1)) fun v84_59 =>
N13 [(w29.getD 0 .und), v84_59] [(l30.getD 0 .und), (l30.getD 1 .und), (l30.getD 2 .und), (l30.getD 3 .und)] h31) v99_33) [(w10.getD 0 .und), (.int .i64 0)] [(l11.getD 0 .und), (l11.getD 1 .und), (l11.getD 2 .und), (l11.getD 3 .und), (w10.getD 1 .und), (.rf 97 0 2)] h28) (vfill [(.int .u8 0), (.int .u8 0)] [(0, 1, v90_20), (1, 1, v96_26)])) v95_25) v93_22) v89_19) v87_16) (
VL (vlenS (w10.getD 0 .und)) fun v122_60 =>
VL (lift2 (abin .eql) v122_60 (l11.getD 0 .und)) fun v124_61 =>
Rt h12 v124_61) v82_15) [(.rf 77 0 1), (.int .i64 0)] [x0, (.ptr 68 0), (.ptr 69 0), (.ptr 71 0)] h9) v78_7) (.ptr 71 0)) (vfill [(.int .u8 0)] [(0, 1, (.int .u8 0))])
theorem spec_l01Connected_f {x0 x1 x2 : V} : Prt Try.prog 42 [x0, x1, x2] (spec_l01Connected_F x0 x1 x2) := pfun (fn := Try.f42) (m := [.s, .s, .s, .s, .s, .l [8, 9] [0, 4, 5, 7], .s, .s, .s, .s, .s, .l [8, 11] [0, 4, 5, 7, 9, 10], .s, .s, .j [0, 4, 5, 7, 8, 9, 10, 11], .s, .s, .s]) (c := 3 ≤ 61) rfl (fun h0 Rt => by kernel_rfl) (by decide)

def spec_l01Which_F (x0 x1 : V) (hi : Hp) (Rt : Hp → V → Prop) : Prop :=
pbox hi 66 28 (cellsV x0) fun h0 =>
palloc h0 68 60 (vi .i64 (List.replicate 16 0)) fun h1 =>
VL (vbld (vfill (vi .i64 (List.replicate 16 0)) [])) fun v73_2 =>
pld h1 (some 16) (fun v74_3 h4 =>
pcal Try.prog 46 76 h4 (fun v76_5 h6 =>
palloc h6 69 60 (vi .i64 (List.replicate 16 0)) fun h7 =>
pst h7 16 (cellsV v73_2) (fun u8 h9 =>
LP [7] [4, 5, 6] (fun w10 l11 h12 N13 =>
VL (vlenS (l11.getD 2 .und)) fun v79_14 =>
VL (lift2 (abin .lss) (w10.getD 0 .und) v79_14) fun v80_15 =>
pcond (
LP [8] [4, 5, 6, 7] (fun w16 l17 h18 N19 =>
VL (vixS 1 (l17.getD 2 .und) (l17.getD 3 .und)) fun v86_20 =>
pld h18 none (fun v87_21 h22 =>
VL (vlenS v87_21) fun v88_23 =>
VL (lift2 (abin .lss) (w16.getD 0 .und) v88_23) fun v89_24 =>
pcond (
VL (vixS 1 (l17.getD 2 .und) (l17.getD 3 .und)) fun v94_25 =>
pld h22 none (fun v95_26 h27 =>
VL (vixS 1 v95_26 (w16.getD 0 .und)) fun v97_28 =>
pld h27 none (fun v98_29 h30 =>
VL (vixA 16 1 (l17.getD 1 .und) v98_29) fun v100_31 =>
pst h30 1 (cellsV (l17.getD 3 .und)) (fun u32 h33 =>
VL (lift2 (abin .add) (w16.getD 0 .und) (.int .i64 1)) fun v91_34 =>
N19 [v91_34] [(l17.getD 0 .und), (l17.getD 1 .und), (l17.getD 2 .und), (l17.getD 3 .und)] h33) v100_31) v97_28) v94_25) (
VL (lift2 (abin .add) (l17.getD 3 .und) (.int .i64 1)) fun v82_35 =>
N13 [v82_35] [(l17.getD 0 .und), (l17.getD 1 .und), (l17.getD 2 .und)] h22) v89_24) v86_20) [(.int .i64 0)] [(l11.getD 0 .und), (l11.getD 1 .und), (l11.getD 2 .und), (w10.getD 0 .und)] h12) (
pld h12 (some 16) (fun v101_36 h37 =>
pst h37 16 (cellsV v101_36) (fun u38 h39 =>
VL (pcellV h39 (some 16) (l11.getD 0 .und)) fun r40 =>
Rt h39 r40) (l11.getD 0 .und)) (l11.getD 1 .und)) v80_15) [(.int .i64 0)] [(.ptr 68 0), (.ptr 69 0), v76_5] h9) (.ptr 69 0)) [v74_3, x1]) (.ptr 66 0)
theorem spec_l01Which_f {x0 x1 : V} : Prt Try.prog 43 [x0, x1] (spec_l01Which_F x0 x1) := pfun (fn := Try.f43) (m := [.s, .s, .s, .s, .l [7] [4, 5, 6], .s, .s, .s, .s, .l [8] [4, 5, 6, 7], .s, .s, .s, .s]) (c := 2 ≤ 38) rfl (fun h0 Rt => by kernel_rfl) (by decide)

def spec_l09Alone_F (x0 : V) (hi : Hp) (Rt : Hp → V → Prop) : Prop :=
pmks hi 69 2 0 0 (fun h0 =>
LP [3, 4] [0] (fun w1 l2 h3 N4 =>
VL (lift2 (abin .lss) (w1.getD 1 .und) (l2.getD 0 .und)) fun v72_5 =>
pcond (
pmks h3 77 2 1 1 (fun h6 =>
papp h6 (fun m9 s10 => papV 2 1 8 78 h6 (fun v78_7 h8 =>
VL (lift2 (abin .add) (w1.getD 1 .und) (.int .i64 1)) fun v74_11 =>
N4 [v78_7, v74_11] [(l2.getD 0 .und)] h8) m9 s10 (w1.getD 0 .und)) (pavs h6 (w1.getD 0 .und) []) (preadS 1 h6 (.rf 77 0 1))) (vfill [(.int .i64 0)] [(0, 1, (w1.getD 1 .und))])) (
Rt h3 (w1.getD 0 .und)) v72_5) [(.rf 69 0 0), (.int .i64 0)] [x0] h0) (vfill [] [])
theorem spec_l09Alone_f {x0 : V} : Prt Try.prog 44 [x0] (spec_l09Alone_F x0) := pfun (fn := Try.f44) (m := [.s, .s, .s, .s, .l [3, 4] [0], .s, .s, .s, .s]) (c := 1 ≤ 16) rfl (fun h0 Rt => by kernel_rfl) (by decide)

def spec_l09Join_F (x0 x1 x2 : V) (hi : Hp) (Rt : Hp → V → Prop) : Prop :=
VL (vixS 1 x0 x2) fun v76_0 =>
pld hi none (fun v77_1 h2 =>
VL (vixS 1 x0 x1) fun v80_3 =>
pld h2 none (fun v81_4 h5 =>
VL (lift2 (abin .eql) v77_1 v81_4) fun v84_6 =>
pcond (
Rt h5 (.bool false)) (
LP [9] [0, 7, 8] (fun w7 l8 h9 N10 =>
VL (vlenS (l8.getD 0 .und)) fun v87_11 =>
VL (lift2 (abin .lss) (w7.getD 0 .und) v87_11) fun v88_12 =>
pcond (
JN (fun k13 =>
VL (vixS 1 (l8.getD 0 .und) (w7.getD 0 .und)) fun v93_16 =>
pld h9 none (fun v94_17 h18 =>
VL (lift2 (abin .eql) v94_17 (l8.getD 1 .und)) fun v96_19 =>
pcond (
VL (vixS 1 (l8.getD 0 .und) (w7.getD 0 .und)) fun v100_20 =>
pst h18 1 (cellsV (l8.getD 2 .und)) (fun u21 h22 =>
k13 [(l8.getD 0 .und), (l8.getD 1 .und), (l8.getD 2 .und), (w7.getD 0 .und)] h22) v100_20) (
k13 [(l8.getD 0 .und), (l8.getD 1 .und), (l8.getD 2 .und), (w7.getD 0 .und)] h18) v96_19) v93_16) fun o14 h15 =>
VL (lift2 (abin .add) (o14.getD 3 .und) (.int .i64 1)) fun v90_23 =>
N10 [v90_23] [(o14.getD 0 .und), (o14.getD 1 .und), (o14.getD 2 .und)] h15) (
Rt h9 (.bool true)) v88_12) [(.int .i64 0)] [x0, v77_1, v81_4] h5) v84_6) v80_3) v76_0
theorem spec_l09Join_f {x0 x1 x2 : V} : Prt Try.prog 45 [x0, x1, x2] (spec_l09Join_F x0 x1 x2) := pfun (fn := Try.f45) (m := [.s, .s, .s, .s, .s, .s, .s, .l [9] [0, 7, 8], .s, .s, .j [0, 7, 8, 9], .s, .s]) (c := 3 ≤ 37) rfl (fun h0 Rt => by kernel_rfl) (by decide)

def spec_l01Cycles_F (x0 x1 : V) (hi : Hp) (Rt : Hp → V → Prop) : Prop :=
pbox hi 66 28 (cellsV x0) fun h0 =>
pmks h0 74 25 0 0 (fun h1 =>
VL (vbld (vfill (vb (List.replicate 16 false)) [])) fun v75_2 =>
palloc h1 70 47 (vb (List.replicate 16 false)) fun h3 =>
pst h3 16 (cellsV v75_2) (fun u4 h5 =>
LP [5, 7] [1, 2, 6] (fun w6 l7 h8 N9 =>
VL (lift2 (abin .lss) (w6.getD 1 .und) (l7.getD 0 .und)) fun v78_10 =>
pcond (
JN (fun k11 =>
pmks h8 81 2 0 0 (fun h14 =>
LP [8, 9] [1, 2, 5, 6, 7] (fun w15 l16 h17 N18 =>
VL (vixA 16 1 (l16.getD 3 .und) (w15.getD 1 .und)) fun v84_19 =>
pld h17 none (fun v85_20 h21 =>
VL (lift1 (aun .not) v85_20) fun v86_22 =>
pcond (
VL (vixA 16 1 (l16.getD 3 .und) (w15.getD 1 .und)) fun v92_23 =>
pst h21 1 (cellsV (.bool true)) (fun u24 h25 =>
pmks h25 95 2 1 1 (fun h26 =>
papp h26 (fun m29 s30 => papV 2 1 8 96 h26 (fun v96_27 h28 =>
VL (vixA 16 1 (l16.getD 1 .und) (w15.getD 1 .und)) fun v88_31 =>
pld h28 none (fun v89_32 h33 =>
VL (lift1 (acvi .i64) v89_32) fun v90_34 =>
N18 [v96_27, v90_34] [(l16.getD 0 .und), (l16.getD 1 .und), (l16.getD 2 .und), (l16.getD 3 .und), (l16.getD 4 .und)] h33) v88_31) m29 s30 (w15.getD 0 .und)) (pavs h26 (w15.getD 0 .und) []) (preadS 1 h26 (.rf 95 0 1))) (vfill [(.int .i64 0)] [(0, 1, (w15.getD 1 .und))])) v92_23) (
VL (vlenS (w15.getD 0 .und)) fun v98_35 =>
VL (lift2 (abin .gtr) v98_35 (.int .i64 0)) fun v99_36 =>
pcond (
pmks h21 102 25 1 1 (fun h37 =>
papp h37 (fun m40 s41 => papV 25 1 24 103 h37 (fun v103_38 h39 =>
k11 [(l16.getD 0 .und), (l16.getD 1 .und), v103_38, (l16.getD 3 .und), (l16.getD 4 .und)] h39) m40 s41 (l16.getD 2 .und)) (pavs h37 (l16.getD 2 .und) []) (preadS 1 h37 (.rf 102 0 1))) (vfill [.nils] [(0, 1, (w15.getD 0 .und))])) (
k11 [(l16.getD 0 .und), (l16.getD 1 .und), (l16.getD 2 .und), (l16.getD 3 .und), (l16.getD 4 .und)] h21) v99_36) v86_22) v84_19) [(.rf 81 0 0), (w6.getD 1 .und)] [(l7.getD 0 .und), (l7.getD 1 .und), (w6.getD 0 .und), (l7.getD 2 .und), (w6.getD 1 .und)] h14) (vfill [] [])) fun o12 h13 =>
VL (lift2 (abin .add) (o12.getD 4 .und) (.int .i64 1)) fun v80_42 =>
N9 [(o12.getD 2 .und), v80_42] [(o12.getD 0 .und), (o12.getD 1 .und), (o12.getD 3 .und)] h13) (
Rt h8 (w6.getD 0 .und)) v78_10) [(.rf 74 0 0), (.int .i64 0)] [x1, (.ptr 66 0), (.ptr 70 0)] h5) (.ptr 70 0)) (vfill [] [])
theorem spec_l01Cycles_f {x0 x1 : V} : Prt Try.prog 46 [x0, x1] (spec_l01Cycles_F x0 x1) := pfun (fn := Try.f46) (m := [.s, .s, .s, .s, .l [5, 7] [1, 2, 6], .s, .s, .j [1, 2, 5, 6, 7], .s, .s, .s, .l [8, 9] [1, 2, 5, 6, 7], .s, .s, .s, .s, .s, .s]) (c := 2 ≤ 41) rfl (fun h0 Rt => by kernel_rfl) (by decide)

def impl_IsPermutation_F (x0 x1 : V) (hi : Hp) (Rt : Hp → V → Prop) : Prop :=
pbox hi 66 28 (cellsV x0) fun h0 =>
pcal Try.prog 63 73 h0 (fun v73_1 h2 =>
VL (lift1 (aun .not) v73_1) fun v74_3 =>
pcond (
Rt h2 (.bool false)) (
VL (vbld (vfill (vb (List.replicate 16 false)) [])) fun v75_4 =>
palloc h2 69 47 (vb (List.replicate 16 false)) fun h5 =>
pst h5 16 (cellsV v75_4) (fun u6 h7 =>
pld h7 (some 16) (fun v76_8 h9 =>
LP [13] [1, 5, 12] (fun w10 l11 h12 N13 =>
VL (lift2 (abin .lss) (w10.getD 0 .und) (.int .i64 16)) fun v78_14 =>
pcond (
JN (fun k15 =>
VL (vixV 16 1 none (l11.getD 2 .und) (w10.getD 0 .und)) fun v80_18 =>
VL (lift2 (abin .geq) (w10.getD 0 .und) (l11.getD 0 .und)) fun v83_19 =>
pcond (
VL (lift2 (abin .neq) v80_18 (.int .u8 0)) fun v85_20 =>
pcond (
Rt h12 (.bool false)) (
k15 [(l11.getD 0 .und), (l11.getD 1 .und), (l11.getD 2 .und), (w10.getD 0 .und)] h12) v85_20) (
VL (lift1 (acvi .i64) v80_18) fun v87_21 =>
VL (lift2 (abin .geq) v87_21 (l11.getD 0 .und)) fun v89_22 =>
pgk false h12 (fun g23 k24 => k24 v80_18 h12) (fun g25 v27_26 h27 =>
pgk false h27 (fun g28 k29 => VL (vixA 16 1 (l11.getD 1 .und) v27_26) fun v92_30 =>
k29 v92_30 h27) (fun g31 v28_32 h33 =>
pgk false h33 (fun g34 k35 => pld h33 none (fun v93_36 h37 =>
k35 v93_36 h37) v28_32) (fun g38 v29_39 h40 =>
VL (vpick g38 (.bool true) v29_39) fun v94_41 =>
pcond (
Rt h40 (.bool false)) (
VL (vixA 16 1 (l11.getD 1 .und) v80_18) fun v96_42 =>
pst h40 1 (cellsV (.bool true)) (fun u43 h44 =>
k15 [(l11.getD 0 .und), (l11.getD 1 .und), (l11.getD 2 .und), (w10.getD 0 .und)] h44) v96_42) v94_41) g31) g25) v89_22) v83_19) fun o16 h17 =>
VL (lift2 (abin .add) (o16.getD 3 .und) (.int .i64 1)) fun v97_45 =>
N13 [v97_45] [(o16.getD 0 .und), (o16.getD 1 .und), (o16.getD 2 .und)] h17) (
Rt h12 (.bool true)) v78_14) [(.int .i64 0)] [x1, (.ptr 69 0), v76_8] h9) (.ptr 66 0)) (.ptr 69 0)) v74_3) [x1]
theorem impl_IsPermutation_f {x0 x1 : V} : Prt Try.prog 47 [x0, x1] (impl_IsPermutation_F x0 x1) := pfun (fn := Try.f47) (m := [.s, .s, .s, .s, .s, .s, .s, .l [13] [1, 5, 12], .s, .s, .j [1, 5, 12, 13], .s, .s, .s, .s, .s, .s, .s, .s, .s, .s]) (c := 2 ≤ 34) rfl (fun h0 Rt => by kernel_rfl) (by decide)

def impl_reached_F (x0 x1 : V) (hi : Hp) (Rt : Hp → V → Prop) : Prop :=
VL (vbld (vfill (vb (List.replicate 16 false)) [(0, 1, (.bool true))])) fun v75_0 =>
palloc hi 69 47 (vb (List.replicate 16 false)) fun h1 =>
pst h1 16 (cellsV v75_0) (fun u2 h3 =>
pmks h3 76 5 1 1 (fun h4 =>
LP [6, 7] [1, 5] (fun w5 l6 h7 N8 =>
VL (vlenS (w5.getD 0 .und)) fun v79_9 =>
VL (lift2 (abin .lss) (w5.getD 1 .und) v79_9) fun v80_10 =>
pcond (
VL (vlenS (l6.getD 0 .und)) fun v84_11 =>
LP [6, 21] [1, 5, 7, 19, 20] (fun w12 l13 h14 N15 =>
VL (lift2 (abin .lss) (w12.getD 1 .und) (l13.getD 4 .und)) fun v86_16 =>
pcond (
JN (fun k17 =>
VL (vixS 16 (l13.getD 3 .und) (w12.getD 1 .und)) fun v87_20 =>
pld h14 (some 16) (fun v88_21 h22 =>
palloc h22 73 28 (vi .u8 (List.replicate 16 0)) fun h23 =>
pst h23 16 (cellsV v88_21) (fun u24 h25 =>
VL (vixS 1 (w12.getD 0 .und) (l13.getD 2 .und)) fun v91_26 =>
pld h25 none (fun v92_27 h28 =>
VL (vixA 16 1 (.ptr 73 0) v92_27) fun v93_29 =>
pld h28 none (fun v94_30 h31 =>
VL (vixA 16 1 (l13.getD 1 .und) v94_30) fun v96_32 =>
pld h31 none (fun v97_33 h34 =>
VL (lift1 (aun .not) v97_33) fun v98_35 =>
pcond (
VL (vixA 16 1 (l13.getD 1 .und) v94_30) fun v100_36 =>
pst h34 1 (cellsV (.bool true)) (fun u37 h38 =>
pmks h38 103 5 1 1 (fun h39 =>
papp h39 (fun m42 s43 => papV 5 1 1 104 h39 (fun v104_40 h41 =>
k17 [(l13.getD 0 .und), (l13.getD 1 .und), v104_40, (l13.getD 2 .und), (l13.getD 3 .und), (l13.getD 4 .und), (w12.getD 1 .und)] h41) m42 s43 (w12.getD 0 .und)) (pavs h39 (w12.getD 0 .und) []) (preadS 1 h39 (.rf 103 0 1))) (vfill [(.int .u8 0)] [(0, 1, v94_30)])) v100_36) (
k17 [(l13.getD 0 .und), (l13.getD 1 .und), (w12.getD 0 .und), (l13.getD 2 .und), (l13.getD 3 .und), (l13.getD 4 .und), (w12.getD 1 .und)] h34) v98_35) v96_32) v93_29) v91_26) (.ptr 73 0)) v87_20) fun o18 h19 =>
VL (lift2 (abin .add) (o18.getD 6 .und) (.int .i64 1)) fun v105_44 =>
N15 [(o18.getD 2 .und), v105_44] [(o18.getD 0 .und), (o18.getD 1 .und), (o18.getD 3 .und), (o18.getD 4 .und), (o18.getD 5 .und)] h19) (
VL (lift2 (abin .add) (l13.getD 2 .und) (.int .i64 1)) fun v82_45 =>
N8 [(w12.getD 0 .und), v82_45] [(l13.getD 0 .und), (l13.getD 1 .und)] h14) v86_16) [(w5.getD 0 .und), (.int .i64 0)] [(l6.getD 0 .und), (l6.getD 1 .und), (w5.getD 1 .und), (l6.getD 0 .und), v84_11] h7) (
VL (vlenS (w5.getD 0 .und)) fun v107_46 =>
Rt h7 v107_46) v80_10) [(.rf 76 0 1), (.int .i64 0)] [x1, (.ptr 69 0)] h4) (vfill [(.int .u8 0)] [(0, 1, (.int .u8 0))])) (.ptr 69 0)
theorem impl_reached_f {x0 x1 : V} : Prt Try.prog 48 [x0, x1] (impl_reached_F x0 x1) := pfun (fn := Try.f48) (m := [.s, .s, .s, .s, .s, .l [6, 7] [1, 5], .s, .s, .s, .s, .l [6, 21] [1, 5, 7, 19, 20], .s, .s, .j [1, 5, 6, 7, 19, 20, 21], .s, .s, .s, .s, .s]) (c := 2 ≤ 44) rfl (fun h0 Rt => by kernel_rfl) (by decide)

def impl_vertices_F (x0 : V) (hi : Hp) (Rt : Hp → V → Prop) : Prop :=
pbox hi 65 30 (cellsV x0) fun h0 =>
pld h0 (some 16) (fun v76_1 h2 =>
pld h2 none (fun v78_3 h4 =>
pcal Try.prog 57 79 h4 (fun v79_5 h6 =>
pld h6 (some 16) (fun v83_7 h8 =>
pld h8 none (fun v85_9 h10 =>
pcalp Try.prog 64 81 h10 (fun v81_11 h12 =>
pcal Try.prog 57 86 h12 (fun v86_13 h14 =>
papp h14 (fun m17 s18 => papV 25 1 24 87 h14 (fun v87_15 h16 =>
pld h16 none (fun v89_19 h20 =>
pmk h20 90 72 16 [(.int .i64 0), (.int .i64 0)] (fun v90_21 h22 =>
VL (vlenS v87_15) fun v92_23 =>
LP [29] [4, 5, 6, 27, 28] (fun w24 l25 h26 N27 =>
VL (lift2 (abin .lss) (w24.getD 0 .und) (l25.getD 4 .und)) fun v94_28 =>
pcond (
VL (vixS 1 (l25.getD 3 .und) (w24.getD 0 .und)) fun v96_29 =>
pld h26 none (fun v97_30 h31 =>
VL (vlenS v97_30) fun v99_32 =>
LP [36] [4, 5, 6, 7, 27, 28, 29, 34, 35] (fun w33 l34 h35 N36 =>
VL (lift2 (abin .lss) (w33.getD 0 .und) (l34.getD 8 .und)) fun v101_37 =>
pcond (
JN (fun k38 =>
VL (vixS 1 (l34.getD 7 .und) (w33.getD 0 .und)) fun v102_41 =>
pld h35 none (fun v103_42 h43 =>
VL (vlenS (l34.getD 0 .und)) fun v106_44 =>
VL (lift2 (abin .lss) (l34.getD 3 .und) v106_44) fun v107_45 =>
pcond (
VL (vixS 2 (l34.getD 2 .und) v103_42) fun v111_46 =>
VL (vixA 2 1 v111_46 (.int .i64 0)) fun v112_47 =>
pst h43 1 (cellsV (l34.getD 3 .und)) (fun u48 h49 =>
k38 [(l34.getD 0 .und), (l34.getD 1 .und), (l34.getD 2 .und), (l34.getD 3 .und), (l34.getD 4 .und), (l34.getD 5 .und), (l34.getD 6 .und), (l34.getD 7 .und), (l34.getD 8 .und), (w33.getD 0 .und)] h49) v112_47) (
VL (vixS 2 (l34.getD 2 .und) v103_42) fun v116_50 =>
VL (vixA 2 1 v116_50 (.int .i64 1)) fun v117_51 =>
pst h43 1 (cellsV (l34.getD 3 .und)) (fun u52 h53 =>
k38 [(l34.getD 0 .und), (l34.getD 1 .und), (l34.getD 2 .und), (l34.getD 3 .und), (l34.getD 4 .und), (l34.getD 5 .und), (l34.getD 6 .und), (l34.getD 7 .und), (l34.getD 8 .und), (w33.getD 0 .und)] h53) v117_51) v107_45) v102_41) fun o39 h40 =>
VL (lift2 (abin .add) (o39.getD 9 .und) (.int .i64 1)) fun v118_54 =>
N36 [v118_54] [(o39.getD 0 .und), (o39.getD 1 .und), (o39.getD 2 .und), (o39.getD 3 .und), (o39.getD 4 .und), (o39.getD 5 .und), (o39.getD 6 .und), (o39.getD 7 .und), (o39.getD 8 .und)] h40) (
VL (lift2 (abin .add) (l34.getD 6 .und) (.int .i64 1)) fun v119_55 =>
N27 [v119_55] [(l34.getD 0 .und), (l34.getD 1 .und), (l34.getD 2 .und), (l34.getD 4 .und), (l34.getD 5 .und)] h35) v101_37) [(.int .i64 0)] [(l25.getD 0 .und), (l25.getD 1 .und), (l25.getD 2 .und), (w24.getD 0 .und), (l25.getD 3 .und), (l25.getD 4 .und), (w24.getD 0 .und), v97_30, v99_32] h31) v96_29) (
Rt h26 (.tup [(l25.getD 1 .und), (l25.getD 2 .und)])) v94_28) [(.int .i64 0)] [v79_5, v87_15, v90_21, v87_15, v92_23] h22) v89_19 v89_19) (.ptr 65 0)) m17 s18 v81_11) (pavs h14 v81_11 []) (preadS 1 h14 v86_13)) [v83_7, v85_9]) [v79_5]) (.ptr 65 0)) (.ptr 65 17)) [v76_1, v78_3]) (.ptr 65 0)) (.ptr 65 1)
theorem impl_vertices_f {x0 : V} : Prt Try.prog 49 [x0] (impl_vertices_F x0) := pfun (fn := Try.f49) (m := [.s, .s, .s, .s, .s, .s, .l [29] [4, 5, 6, 27, 28], .s, .s, .s, .s, .s, .l [36] [4, 5, 6, 7, 27, 28, 29, 34, 35], .s, .s, .j [4, 5, 6, 7, 27, 28, 29, 34, 35, 36], .s, .s, .s]) (c := 1 ≤ 58) rfl (fun h0 Rt => by kernel_rfl) (by decide)

def impl_newClasses_F (x0 : V) (hi : Hp) (Rt : Hp → V → Prop) : Prop :=
pmks hi 69 2 0 0 (fun h0 =>
LP [3, 7] [6] (fun w1 l2 h3 N4 =>
VL (lift2 (abin .lss) (w1.getD 1 .und) (l2.getD 0 .und)) fun v72_5 =>
pcond (
pmks h3 76 2 1 1 (fun h6 =>
papp h6 (fun m9 s10 => papV 2 1 8 77 h6 (fun v77_7 h8 =>
VL (lift2 (abin .add) (w1.getD 1 .und) (.int .i64 1)) fun v78_11 =>
N4 [v77_7, v78_11] [(l2.getD 0 .und)] h8) m9 s10 (w1.getD 0 .und)) (pavs h6 (w1.getD 0 .und) []) (preadS 1 h6 (.rf 76 0 1))) (vfill [(.int .i64 0)] [(0, 1, (w1.getD 1 .und))])) (
Rt h3 (w1.getD 0 .und)) v72_5) [(.rf 69 0 0), (.int .i64 0)] [x0] h0) (vfill [] [])
theorem impl_newClasses_f {x0 : V} : Prt Try.prog 50 [x0] (impl_newClasses_F x0) := pfun (fn := Try.f50) (m := [.s, .s, .s, .s, .l [3, 7] [6], .s, .s, .s, .s, .s]) (c := 1 ≤ 16) rfl (fun h0 Rt => by kernel_rfl) (by decide)

def impl_classes_join_F (x0 x1 x2 : V) (hi : Hp) (Rt : Hp → V → Prop) : Prop :=
VL (vixS 1 x0 x1) fun v77_0 =>
pld hi none (fun v78_1 h2 =>
VL (vixS 1 x0 x2) fun v81_3 =>
pld h2 none (fun v82_4 h5 =>
VL (lift2 amin v78_1 v82_4) fun v83_6 =>
VL (vixS 1 x0 x1) fun v86_7 =>
pld h5 none (fun v87_8 h9 =>
VL (vixS 1 x0 x2) fun v90_10 =>
pld h9 none (fun v91_11 h12 =>
VL (lift2 amax v87_8 v91_11) fun v92_13 =>
VL (vlenS x0) fun v94_14 =>
LP [31] [0, 7, 8, 29, 30] (fun w15 l16 h17 N18 =>
VL (lift2 (abin .lss) (w15.getD 0 .und) (l16.getD 4 .und)) fun v96_19 =>
pcond (
JN (fun k20 =>
VL (vixS 1 (l16.getD 3 .und) (w15.getD 0 .und)) fun v98_23 =>
pld h17 none (fun v99_24 h25 =>
VL (lift2 (abin .eql) v99_24 (l16.getD 2 .und)) fun v102_26 =>
pcond (
VL (vixS 1 (l16.getD 0 .und) (w15.getD 0 .und)) fun v106_27 =>
pst h25 1 (cellsV (l16.getD 1 .und)) (fun u28 h29 =>
k20 [(l16.getD 0 .und), (l16.getD 1 .und), (l16.getD 2 .und), (l16.getD 3 .und), (l16.getD 4 .und), (w15.getD 0 .und)] h29) v106_27) (
k20 [(l16.getD 0 .und), (l16.getD 1 .und), (l16.getD 2 .und), (l16.getD 3 .und), (l16.getD 4 .und), (w15.getD 0 .und)] h25) v102_26) v98_23) fun o21 h22 =>
VL (lift2 (abin .add) (o21.getD 5 .und) (.int .i64 1)) fun v107_30 =>
N18 [v107_30] [(o21.getD 0 .und), (o21.getD 1 .und), (o21.getD 2 .und), (o21.getD 3 .und), (o21.getD 4 .und)] h22) (
VL (lift2 (abin .neq) (l16.getD 1 .und) (l16.getD 2 .und)) fun v110_31 =>
Rt h17 v110_31) v96_19) [(.int .i64 0)] [x0, v83_6, v92_13, x0, v94_14] h12) v90_10) v86_7) v81_3) v77_0
theorem impl_classes_join_f {x0 x1 x2 : V} : Prt Try.prog 51 [x0, x1, x2] (impl_classes_join_F x0 x1 x2) := pfun (fn := Try.f51) (m := [.s, .s, .s, .s, .l [31] [0, 7, 8, 29, 30], .s, .s, .j [0, 7, 8, 29, 30, 31], .s, .s, .s]) (c := 3 ≤ 47) rfl (fun h0 Rt => by kernel_rfl) (by decide)

def slices_Index_int64_int64_i_F (x0 x1 : V) (hi : Hp) (Rt : Hp → V → Prop) : Prop :=
VL (vlenS x0) fun v71_0 =>
LP [8] [0, 1, 7] (fun w1 l2 h3 N4 =>
VL (lift2 (abin .lss) (w1.getD 0 .und) (l2.getD 2 .und)) fun v73_5 =>
pcond (
VL (vixS 1 (l2.getD 0 .und) (w1.getD 0 .und)) fun v78_6 =>
pld h3 none (fun v79_7 h8 =>
VL (lift2 (abin .eql) (l2.getD 1 .und) v79_7) fun v80_9 =>
pcond (
Rt h8 (w1.getD 0 .und)) (
VL (lift2 (abin .add) (w1.getD 0 .und) (.int .i64 1)) fun v82_10 =>
N4 [v82_10] [(l2.getD 0 .und), (l2.getD 1 .und), (l2.getD 2 .und)] h8) v80_9) v78_6) (
Rt h3 (.int .i64 (-1))) v73_5) [(.int .i64 0)] [x0, x1, v71_0] hi
theorem slices_Index_int64_int64_i_f {x0 x1 : V} : Prt Try.prog 52 [x0, x1] (slices_Index_int64_int64_i_F x0 x1) := pfun (fn := Try.f52) (m := [.s, .s, .s, .l [8] [0, 1, 7], .s, .s, .s, .s, .s, .s, .s]) (c := 2 ≤ 19) rfl (fun h0 Rt => by kernel_rfl) (by decide)

def slices_Clone_int64_int64_i_F (x0 : V) (hi : Hp) (Rt : Hp → V → Prop) : Prop :=
VL (vnilS false x0) fun v68_0 =>
pcond (
Rt hi .nils) (
pmks hi 69 2 0 0 (fun h1 =>
papp h1 (fun m4 s5 => papV 2 1 8 71 h1 (fun v71_2 h3 =>
Rt h3 v71_2) m4 s5 (.rf 69 0 0)) (pavs h1 (.rf 69 0 0) []) (preadS 1 h1 x0)) (vfill [] [])) v68_0
theorem slices_Clone_int64_int64_i_f {x0 : V} : Prt Try.prog 53 [x0] (slices_Clone_int64_int64_i_F x0) := pfun (fn := Try.f53) (m := [.s, .s, .s, .s, .s]) (c := 1 ≤ 8) rfl (fun h0 Rt => by kernel_rfl) (by decide)

def spec_l01Face_F (x0 : V) (hi : Hp) (Rt : Hp → V → Prop) : Prop :=
pbox hi 65 30 (cellsV x0) fun h0 =>
palloc h0 66 28 (vi .u8 (List.replicate 16 0)) fun h1 =>
pld h1 (some 16) (fun v68_2 h3 =>
pld h3 (some 16) (fun v70_4 h5 =>
pld h5 none (fun v72_6 h7 =>
pld h7 none (fun v75_8 h9 =>
pcalp Try.prog 65 73 h9 (fun v73_10 h11 =>
pcal Try.prog 56 76 h11 (fun v76_12 h13 =>
pst h13 16 (cellsV v76_12) (fun u14 h15 =>
VL (pcellV h15 (some 16) (.ptr 66 0)) fun r16 =>
Rt h15 r16) (.ptr 66 0)) [v73_10, v75_8]) [v68_2, v70_4, v72_6]) (.ptr 65 0)) (.ptr 65 0)) (.ptr 65 17)) (.ptr 65 1)
theorem spec_l01Face_f {x0 : V} : Prt Try.prog 55 [x0] (spec_l01Face_F x0) := pfun (fn := Try.f55) (m := [.s, .s]) (c := 1 ≤ 13) rfl (fun h0 Rt => by kernel_rfl) (by decide)

def spec_l01Back_F (x0 x1 : V) (hi : Hp) (Rt : Hp → V → Prop) : Prop :=
pbox hi 66 28 (cellsV x0) fun h0 =>
palloc h0 68 28 (vi .u8 (List.replicate 16 0)) fun h1 =>
VL (vbld (vfill (vi .u8 (List.replicate 16 0)) [])) fun v71_2 =>
palloc h1 69 28 (vi .u8 (List.replicate 16 0)) fun h3 =>
pst h3 16 (cellsV v71_2) (fun u4 h5 =>
LP [6] [1, 2, 4, 5] (fun w6 l7 h8 N9 =>
VL (lift2 (abin .lss) (w6.getD 0 .und) (l7.getD 0 .und)) fun v74_10 =>
pcond (
VL (vixA 16 1 (l7.getD 1 .und) (w6.getD 0 .und)) fun v78_11 =>
pld h8 none (fun v79_12 h13 =>
VL (lift1 (acvi .u8) (w6.getD 0 .und)) fun v81_14 =>
VL (vixA 16 1 (l7.getD 3 .und) v79_12) fun v82_15 =>
pst h13 1 (cellsV v81_14) (fun u16 h17 =>
VL (lift2 (abin .add) (w6.getD 0 .und) (.int .i64 1)) fun v76_18 =>
N9 [v76_18] [(l7.getD 0 .und), (l7.getD 1 .und), (l7.getD 2 .und), (l7.getD 3 .und)] h17) v82_15) v78_11) (
pld h8 (some 16) (fun v83_19 h20 =>
pst h20 16 (cellsV v83_19) (fun u21 h22 =>
VL (pcellV h22 (some 16) (l7.getD 2 .und)) fun r23 =>
Rt h22 r23) (l7.getD 2 .und)) (l7.getD 3 .und)) v74_10) [(.int .i64 0)] [x1, (.ptr 66 0), (.ptr 68 0), (.ptr 69 0)] h5) (.ptr 69 0)
theorem spec_l01Back_f {x0 x1 : V} : Prt Try.prog 56 [x0, x1] (spec_l01Back_F x0 x1) := pfun (fn := Try.f56) (m := [.s, .s, .s, .s, .l [6] [1, 2, 4, 5], .s, .s, .s, .s]) (c := 2 ≤ 20) rfl (fun h0 Rt => by kernel_rfl) (by decide)

def impl_cycles_F (x0 x1 : V) (hi : Hp) (Rt : Hp → V → Prop) : Prop :=
pbox hi 66 28 (cellsV x0) fun h0 =>
pmks h0 74 25 0 0 (fun h1 =>
VL (vbld (vfill (vb (List.replicate 16 false)) [])) fun v75_2 =>
palloc h1 70 47 (vb (List.replicate 16 false)) fun h3 =>
pst h3 16 (cellsV v75_2) (fun u4 h5 =>
LP [5, 13] [2, 6, 12] (fun w6 l7 h8 N9 =>
VL (lift2 (abin .lss) (w6.getD 1 .und) (l7.getD 2 .und)) fun v78_10 =>
pcond (
JN (fun k11 =>
VL (vixA 16 1 (l7.getD 1 .und) (w6.getD 1 .und)) fun v81_14 =>
pld h8 none (fun v82_15 h16 =>
pcond (
k11 [(l7.getD 0 .und), (w6.getD 0 .und), (l7.getD 1 .und), (l7.getD 2 .und), (w6.getD 1 .und)] h16) (
pmks h16 83 2 0 0 (fun h17 =>
LP [8, 9] [2, 5, 6, 12, 13] (fun w18 l19 h20 N21 =>
VL (vixA 16 1 (l19.getD 2 .und) (w18.getD 1 .und)) fun v86_22 =>
pld h20 none (fun v87_23 h24 =>
VL (lift1 (aun .not) v87_23) fun v88_25 =>
pcond (
VL (vixA 16 1 (l19.getD 2 .und) (w18.getD 1 .und)) fun v94_26 =>
pst h24 1 (cellsV (.bool true)) (fun u27 h28 =>
pmks h28 97 2 1 1 (fun h29 =>
papp h29 (fun m32 s33 => papV 2 1 8 98 h29 (fun v98_30 h31 =>
VL (vixA 16 1 (l19.getD 0 .und) (w18.getD 1 .und)) fun v90_34 =>
pld h31 none (fun v91_35 h36 =>
VL (lift1 (acvi .i64) v91_35) fun v92_37 =>
N21 [v98_30, v92_37] [(l19.getD 0 .und), (l19.getD 1 .und), (l19.getD 2 .und), (l19.getD 3 .und), (l19.getD 4 .und)] h36) v90_34) m32 s33 (w18.getD 0 .und)) (pavs h29 (w18.getD 0 .und) []) (preadS 1 h29 (.rf 97 0 1))) (vfill [(.int .i64 0)] [(0, 1, (w18.getD 1 .und))])) v94_26) (
pmks h24 101 25 1 1 (fun h38 =>
papp h38 (fun m41 s42 => papV 25 1 24 102 h38 (fun v102_39 h40 =>
k11 [(l19.getD 0 .und), v102_39, (l19.getD 2 .und), (l19.getD 3 .und), (l19.getD 4 .und)] h40) m41 s42 (l19.getD 1 .und)) (pavs h38 (l19.getD 1 .und) []) (preadS 1 h38 (.rf 101 0 1))) (vfill [.nils] [(0, 1, (w18.getD 0 .und))])) v88_25) v86_22) [(.rf 83 0 0), (w6.getD 1 .und)] [(l7.getD 0 .und), (w6.getD 0 .und), (l7.getD 1 .und), (l7.getD 2 .und), (w6.getD 1 .und)] h17) (vfill [] [])) v82_15) v81_14) fun o12 h13 =>
VL (lift2 (abin .add) (o12.getD 4 .und) (.int .i64 1)) fun v103_43 =>
N9 [(o12.getD 1 .und), v103_43] [(o12.getD 0 .und), (o12.getD 2 .und), (o12.getD 3 .und)] h13) (
Rt h8 (w6.getD 0 .und)) v78_10) [(.rf 74 0 0), (.int .i64 0)] [(.ptr 66 0), (.ptr 70 0), x1] h5) (.ptr 70 0)) (vfill [] [])
theorem impl_cycles_f {x0 x1 : V} : Prt Try.prog 57 [x0, x1] (impl_cycles_F x0 x1) := pfun (fn := Try.f57) (m := [.s, .s, .s, .s, .s, .l [5, 13] [2, 6, 12], .s, .s, .j [2, 5, 6, 12, 13], .s, .s, .s, .s, .s, .s, .l [8, 9] [2, 5, 6, 12, 13], .s, .s, .s, .s, .s]) (c := 2 ≤ 41) rfl (fun h0 Rt => by kernel_rfl) (by decide)

def impl_face_F (x0 : V) (hi : Hp) (Rt : Hp → V → Prop) : Prop :=
pbox hi 65 30 (cellsV x0) fun h0 =>
palloc h0 66 28 (vi .u8 (List.replicate 16 0)) fun h1 =>
pld h1 (some 16) (fun v68_2 h3 =>
pld h3 (some 16) (fun v70_4 h5 =>
pld h5 none (fun v72_6 h7 =>
pld h7 none (fun v75_8 h9 =>
pcalp Try.prog 66 73 h9 (fun v73_10 h11 =>
pcal Try.prog 59 76 h11 (fun v76_12 h13 =>
pst h13 16 (cellsV v76_12) (fun u14 h15 =>
VL (pcellV h15 (some 16) (.ptr 66 0)) fun r16 =>
Rt h15 r16) (.ptr 66 0)) [v73_10, v75_8]) [v68_2, v70_4, v72_6]) (.ptr 65 0)) (.ptr 65 0)) (.ptr 65 17)) (.ptr 65 1)
theorem impl_face_f {x0 : V} : Prt Try.prog 58 [x0] (impl_face_F x0) := pfun (fn := Try.f58) (m := [.s, .s]) (c := 1 ≤ 13) rfl (fun h0 Rt => by kernel_rfl) (by decide)

def impl_back_F (x0 x1 : V) (hi : Hp) (Rt : Hp → V → Prop) : Prop :=
pbox hi 66 28 (cellsV x0) fun h0 =>
palloc h0 68 28 (vi .u8 (List.replicate 16 0)) fun h1 =>
VL (vbld (vfill (vi .u8 (List.replicate 16 0)) [])) fun v71_2 =>
palloc h1 69 28 (vi .u8 (List.replicate 16 0)) fun h3 =>
pst h3 16 (cellsV v71_2) (fun u4 h5 =>
LP [9] [2, 4, 5, 8] (fun w6 l7 h8 N9 =>
VL (lift2 (abin .lss) (w6.getD 0 .und) (l7.getD 3 .und)) fun v74_10 =>
pcond (
VL (vixA 16 1 (l7.getD 0 .und) (w6.getD 0 .und)) fun v77_11 =>
pld h8 none (fun v78_12 h13 =>
VL (lift1 (acvi .u8) (w6.getD 0 .und)) fun v80_14 =>
VL (vixA 16 1 (l7.getD 2 .und) v78_12) fun v81_15 =>
pst h13 1 (cellsV v80_14) (fun u16 h17 =>
VL (lift2 (abin .add) (w6.getD 0 .und) (.int .i64 1)) fun v82_18 =>
N9 [v82_18] [(l7.getD 0 .und), (l7.getD 1 .und), (l7.getD 2 .und), (l7.getD 3 .und)] h17) v81_15) v77_11) (
pld h8 (some 16) (fun v83_19 h20 =>
pst h20 16 (cellsV v83_19) (fun u21 h22 =>
VL (pcellV h22 (some 16) (l7.getD 1 .und)) fun r23 =>
Rt h22 r23) (l7.getD 1 .und)) (l7.getD 2 .und)) v74_10) [(.int .i64 0)] [(.ptr 66 0), (.ptr 68 0), (.ptr 69 0), x1] h5) (.ptr 69 0)
theorem impl_back_f {x0 x1 : V} : Prt Try.prog 59 [x0, x1] (impl_back_F x0 x1) := pfun (fn := Try.f59) (m := [.s, .s, .s, .s, .l [9] [2, 4, 5, 8], .s, .s, .s, .s, .s]) (c := 2 ≤ 20) rfl (fun h0 Rt => by kernel_rfl) (by decide)

def spec_l09List_F (x0 x1 x2 x3 : V) (hi : Hp) (Rt : Hp → V → Prop) : Prop :=
LP [9] [0, 1, 2, 3] (fun w0 l1 h2 N3 =>
VL (vlenS (l1.getD 0 .und)) fun v76_4 =>
VL (lift2 (abin .lss) (w0.getD 0 .und) v76_4) fun v77_5 =>
pcond (
VL (vixS 1 (l1.getD 0 .und) (w0.getD 0 .und)) fun v82_6 =>
pld h2 none (fun v83_7 h8 =>
pcal Try.prog 24 86 h8 (fun v86_9 h10 =>
VL (lift1 (aun .not) v86_9) fun v87_11 =>
pcond (
Rt h10 (.bool false)) (
VL (lift2 (abin .add) (w0.getD 0 .und) (.int .i64 1)) fun v79_12 =>
N3 [v79_12] [(l1.getD 0 .und), (l1.getD 1 .und), (l1.getD 2 .und), (l1.getD 3 .und)] h10) v87_11) [v83_7, (l1.getD 2 .und), (l1.getD 3 .und)]) v82_6) (
VL (vlenS (l1.getD 0 .und)) fun v89_13 =>
VL (lift2 (abin .eql) v89_13 (l1.getD 1 .und)) fun v91_14 =>
Rt h2 v91_14) v77_5) [(.int .i64 0)] [x0, x1, x2, x3] hi
theorem spec_l09List_f {x0 x1 x2 x3 : V} : Prt Try.prog 60 [x0, x1, x2, x3] (spec_l09List_F x0 x1 x2 x3) := pfun (fn := Try.f60) (m := [.s, .s, .s, .l [9] [0, 1, 2, 3], .s, .s, .s, .s, .s, .s]) (c := 4 ≤ 28) rfl (fun h0 Rt => by kernel_rfl) (by decide)

def impl_isChain_F (x0 x1 : V) (hi : Hp) (Rt : Hp → V → Prop) : Prop :=
pbox hi 66 30 (cellsV x0) fun h0 =>
VL (vlenS x1) fun v72_1 =>
pld h0 none (fun v74_2 h3 =>
VL (lift2 (abin .neq) v72_1 v74_2) fun v75_4 =>
pcond (
Rt h3 (.bool false)) (
VL (vlenS x1) fun v77_5 =>
LP [14] [12, 13] (fun w6 l7 h8 N9 =>
VL (lift2 (abin .lss) (w6.getD 0 .und) (l7.getD 1 .und)) fun v79_10 =>
pcond (
VL (vixS 1 (l7.getD 0 .und) (w6.getD 0 .und)) fun v80_11 =>
pld h8 none (fun v81_12 h13 =>
VL (lift2 (abin .lss) v81_12 (.int .i64 (-1000))) fun v83_14 =>
pgk false h13 (fun g15 k16 => k16 v81_12 h13) (fun g17 v21_18 h19 =>
pgk false h19 (fun g20 k21 => VL (lift2 (abin .gtr) v21_18 (.int .i64 1000)) fun v86_22 =>
k21 v86_22 h19) (fun g23 v22_24 h25 =>
VL (vpick g23 (.bool true) v22_24) fun v87_26 =>
pcond (
Rt h25 (.bool false)) (
VL (lift2 (abin .add) (w6.getD 0 .und) (.int .i64 1)) fun v88_27 =>
N9 [v88_27] [(l7.getD 0 .und), (l7.getD 1 .und)] h25) v87_26) g17) v83_14) v80_11) (
Rt h8 (.bool true)) v79_10) [(.int .i64 0)] [x1, v77_5] h3) v75_4) (.ptr 66 0)
theorem impl_isChain_f {x0 x1 : V} : Prt Try.prog 61 [x0, x1] (impl_isChain_F x0 x1) := pfun (fn := Try.f61) (m := [.s, .s, .s, .s, .s, .s, .l [14] [12, 13], .s, .s, .s, .s, .s, .s, .s]) (c := 2 ≤ 25) rfl (fun h0 Rt => by kernel_rfl) (by decide)

def impl_isCycle_F (x0 x1 : V) (hi : Hp) (Rt : Hp → V → Prop) : Prop :=
pbox hi 66 30 (cellsV x0) fun h0 =>
pld h0 (some 33) (fun v77_1 h2 =>
pcal Try.prog 49 78 h2 (fun v78_3 h4 =>
VL (vext 0 v78_3) fun v79_5 =>
VL (vext 1 v78_3) fun v80_6 =>
VL (vlenS v79_5) fun v82_7 =>
LP [19] [1, 17, 18] (fun w8 l9 h10 N11 =>
VL (lift2 (abin .lss) (w8.getD 0 .und) (l9.getD 2 .und)) fun v84_12 =>
pcond (
VL (vixS 1 (l9.getD 1 .und) (w8.getD 0 .und)) fun v85_13 =>
pld h10 none (fun v86_14 h15 =>
VL (vlenS v86_14) fun v88_16 =>
LP [9, 25] [1, 17, 18, 19, 23, 24] (fun w17 l18 h19 N20 =>
VL (lift2 (abin .lss) (w17.getD 1 .und) (l18.getD 5 .und)) fun v90_21 =>
pcond (
VL (vixS 1 (l18.getD 4 .und) (w17.getD 1 .und)) fun v91_22 =>
pld h19 none (fun v92_23 h24 =>
VL (vixS 1 (l18.getD 0 .und) v92_23) fun v96_25 =>
pld h24 none (fun v97_26 h27 =>
VL (lift2 (abin .add) (w17.getD 0 .und) v97_26) fun v98_28 =>
VL (lift2 (abin .add) (w17.getD 1 .und) (.int .i64 1)) fun v99_29 =>
N20 [v98_28, v99_29] [(l18.getD 0 .und), (l18.getD 1 .und), (l18.getD 2 .und), (l18.getD 3 .und), (l18.getD 4 .und), (l18.getD 5 .und)] h27) v96_25) v91_22) (
VL (lift2 (abin .neq) (w17.getD 0 .und) (.int .i64 0)) fun v101_30 =>
pcond (
Rt h19 (.bool false)) (
VL (lift2 (abin .add) (l18.getD 3 .und) (.int .i64 1)) fun v102_31 =>
N11 [v102_31] [(l18.getD 0 .und), (l18.getD 1 .und), (l18.getD 2 .und)] h19) v101_30) v90_21) [(.int .i64 0), (.int .i64 0)] [(l9.getD 0 .und), (l9.getD 1 .und), (l9.getD 2 .und), (w8.getD 0 .und), v86_14, v88_16] h15) v85_13) (
Rt h10 (.bool true)) v84_12) [(.int .i64 0)] [x1, v79_5, v82_7] h4) [v77_1]) (.ptr 66 0)
theorem impl_isCycle_f {x0 x1 : V} : Prt Try.prog 62 [x0, x1] (impl_isCycle_F x0 x1) := pfun (fn := Try.f62) (m := [.s, .s, .s, .s, .l [19] [1, 17, 18], .s, .s, .s, .s, .s, .s, .s, .l [9, 25] [1, 17, 18, 19, 23, 24], .s, .s, .s, .s, .s, .s, .s]) (c := 2 ≤ 39) rfl (fun h0 Rt => by kernel_rfl) (by decide)

def impl_isSize_F (x0 : V) (hi : Hp) (Rt : Hp → V → Prop) : Prop :=
VL (lift2 (abin .geq) x0 (.int .i64 1)) fun v68_0 =>
pgk true hi (fun g1 k2 => k2 x0 hi) (fun g3 v6_4 h5 =>
pgk true h5 (fun g6 k7 => VL (lift2 (abin .leq) v6_4 (.int .i64 16)) fun v71_8 =>
k7 v71_8 h5) (fun g9 v7_10 h11 =>
VL (vpick g9 v7_10 (.bool false)) fun v72_12 =>
Rt h11 v72_12) g3) v68_0
theorem impl_isSize_f {x0 : V} : Prt Try.prog 63 [x0] (impl_isSize_F x0) := pfun (fn := Try.f63) (m := [.s, .s]) (c := 1 ≤ 9) rfl (fun h0 Rt => by kernel_rfl) (by decide)

def slices_Clone_int64_int64_F (x0 : V) (hi : Hp) (Rt : Hp → V → Prop) : Prop :=
VL (vnilS false x0) fun v68_0 =>
pcond (
Rt hi .nils) (
pmks hi 69 25 0 0 (fun h1 =>
papp h1 (fun m4 s5 => papV 25 1 24 71 h1 (fun v71_2 h3 =>
Rt h3 v71_2) m4 s5 (.rf 69 0 0)) (pavs h1 (.rf 69 0 0) []) (preadS 1 h1 x0)) (vfill [] [])) v68_0
theorem slices_Clone_int64_int64_f {x0 : V} : Prt Try.prog 64 [x0] (slices_Clone_int64_int64_F x0) := pfun (fn := Try.f64) (m := [.s, .s, .s, .s, .s]) (c := 1 ≤ 8) rfl (fun h0 Rt => by kernel_rfl) (by decide)

def spec_l01Then_F (x0 x1 x2 : V) (hi : Hp) (Rt : Hp → V → Prop) : Prop :=
pbox hi 67 28 (cellsV x0) fun h0 =>
pbox h0 68 28 (cellsV x1) fun h1 =>
palloc h1 70 28 (vi .u8 (List.replicate 16 0)) fun h2 =>
VL (vbld (vfill (vi .u8 (List.replicate 16 0)) [])) fun v73_3 =>
palloc h2 71 28 (vi .u8 (List.replicate 16 0)) fun h4 =>
pst h4 16 (cellsV v73_3) (fun u5 h6 =>
LP [8] [2, 3, 4, 6, 7] (fun w7 l8 h9 N10 =>
VL (lift2 (abin .lss) (w7.getD 0 .und) (l8.getD 0 .und)) fun v76_11 =>
pcond (
VL (vixA 16 1 (l8.getD 1 .und) (w7.getD 0 .und)) fun v81_12 =>
pld h9 none (fun v82_13 h14 =>
VL (vixA 16 1 (l8.getD 2 .und) v82_13) fun v83_15 =>
pld h14 none (fun v84_16 h17 =>
VL (vixA 16 1 (l8.getD 4 .und) (w7.getD 0 .und)) fun v85_18 =>
pst h17 1 (cellsV v84_16) (fun u19 h20 =>
VL (lift2 (abin .add) (w7.getD 0 .und) (.int .i64 1)) fun v78_21 =>
N10 [v78_21] [(l8.getD 0 .und), (l8.getD 1 .und), (l8.getD 2 .und), (l8.getD 3 .und), (l8.getD 4 .und)] h20) v85_18) v83_15) v81_12) (
pld h9 (some 16) (fun v86_22 h23 =>
pst h23 16 (cellsV v86_22) (fun u24 h25 =>
VL (pcellV h25 (some 16) (l8.getD 3 .und)) fun r26 =>
Rt h25 r26) (l8.getD 3 .und)) (l8.getD 4 .und)) v76_11) [(.int .i64 0)] [x2, (.ptr 67 0), (.ptr 68 0), (.ptr 70 0), (.ptr 71 0)] h6) (.ptr 71 0)
theorem spec_l01Then_f {x0 x1 x2 : V} : Prt Try.prog 65 [x0, x1, x2] (spec_l01Then_F x0 x1 x2) := pfun (fn := Try.f65) (m := [.s, .s, .s, .s, .l [8] [2, 3, 4, 6, 7], .s, .s, .s, .s]) (c := 3 ≤ 23) rfl (fun h0 Rt => by kernel_rfl) (by decide)

def impl_then_F (x0 x1 x2 : V) (hi : Hp) (Rt : Hp → V → Prop) : Prop :=
pbox hi 67 28 (cellsV x0) fun h0 =>
pbox h0 68 28 (cellsV x1) fun h1 =>
palloc h1 70 28 (vi .u8 (List.replicate 16 0)) fun h2 =>
VL (vbld (vfill (vi .u8 (List.replicate 16 0)) [])) fun v73_3 =>
palloc h2 71 28 (vi .u8 (List.replicate 16 0)) fun h4 =>
pst h4 16 (cellsV v73_3) (fun u5 h6 =>
LP [11] [3, 4, 6, 7, 10] (fun w7 l8 h9 N10 =>
VL (lift2 (abin .lss) (w7.getD 0 .und) (l8.getD 4 .und)) fun v76_11 =>
pcond (
VL (vixA 16 1 (l8.getD 0 .und) (w7.getD 0 .und)) fun v80_12 =>
pld h9 none (fun v81_13 h14 =>
VL (vixA 16 1 (l8.getD 1 .und) v81_13) fun v82_15 =>
pld h14 none (fun v83_16 h17 =>
VL (vixA 16 1 (l8.getD 3 .und) (w7.getD 0 .und)) fun v84_18 =>
pst h17 1 (cellsV v83_16) (fun u19 h20 =>
VL (lift2 (abin .add) (w7.getD 0 .und) (.int .i64 1)) fun v85_21 =>
N10 [v85_21] [(l8.getD 0 .und), (l8.getD 1 .und), (l8.getD 2 .und), (l8.getD 3 .und), (l8.getD 4 .und)] h20) v84_18) v82_15) v80_12) (
pld h9 (some 16) (fun v86_22 h23 =>
pst h23 16 (cellsV v86_22) (fun u24 h25 =>
VL (pcellV h25 (some 16) (l8.getD 2 .und)) fun r26 =>
Rt h25 r26) (l8.getD 2 .und)) (l8.getD 3 .und)) v76_11) [(.int .i64 0)] [(.ptr 67 0), (.ptr 68 0), (.ptr 70 0), (.ptr 71 0), x2] h6) (.ptr 71 0)
theorem impl_then_f {x0 x1 x2 : V} : Prt Try.prog 66 [x0, x1, x2] (impl_then_F x0 x1 x2) := pfun (fn := Try.f66) (m := [.s, .s, .s, .s, .l [11] [3, 4, 6, 7, 10], .s, .s, .s, .s, .s]) (c := 3 ≤ 23) rfl (fun h0 Rt => by kernel_rfl) (by decide)

end Go.Proofs.Ytcleiehdddjicaa.Sep
