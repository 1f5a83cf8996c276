/- The printed forms of functions, by program out of the compiled code; each is held against it by the kernel. -/
import Derived.Test.YteiiohmcamoldaaSepZ
import Derived.Test.YteiiohmcamoldaaProg
import Derived.KernelRfl
namespace Go.Proofs.Yteiiohmcamoldaa.Sep
set_option maxRecDepth 1000000
set_option linter.unusedVariables false

def laws_FnExactNewDesk_F (hi : Hp) (Rt : Hp → V → Prop) : Prop :=
pcal Try.prog 15 70 hi (fun v70_0 h1 =>
palloc h1 65 28 ([(.int .i64 0)] ++ (vi .u8 (List.replicate 32 0) ++ ([(.int .i64 0)] ++ (vi .u8 (List.replicate 32 0) ++ ([.nils]))))) fun h2 =>
pst h2 67 (cellsV v70_0) (fun u3 h4 =>
pcal Try.prog 16 71 h4 (fun v71_5 h6 =>
palloc h6 66 28 ([(.int .i64 0)] ++ (vi .u8 (List.replicate 32 0) ++ ([(.int .i64 0)] ++ (vi .u8 (List.replicate 32 0) ++ ([.nils]))))) fun h7 =>
pst h7 67 (cellsV v71_5) (fun u8 h9 =>
pld h9 (some 67) (fun v72_10 h11 =>
pld h11 (some 67) (fun v73_12 h13 =>
pcal Try.prog 17 74 h13 (fun v74_14 h15 =>
VL (lift1 (aun .not) v74_14) fun v75_16 =>
pcond (
Rt h15 (.bool false)) (
pld h15 (some 67) (fun v76_17 h18 =>
pcal Try.prog 18 78 h18 (fun v78_19 h20 =>
pld h20 (some 67) (fun v79_21 h22 =>
pcal Try.prog 19 81 h22 (fun v81_23 h24 =>
VL (lift2 (abin .lss) v81_23 (.int .i64 0)) fun v83_25 =>
pcond (
Rt h24 (.bool false)) (
VL (lift2 (abin .neq) v81_23 v78_19) fun v86_26 =>
pcond (
Rt h24 (.bool false)) (
pcal Try.prog 16 87 h24 (fun v87_27 h28 =>
palloc h28 69 28 ([(.int .i64 0)] ++ (vi .u8 (List.replicate 32 0) ++ ([(.int .i64 0)] ++ (vi .u8 (List.replicate 32 0) ++ ([.nils]))))) fun h29 =>
pst h29 67 (cellsV v87_27) (fun u30 h31 =>
pld h31 (some 67) (fun v88_32 h33 =>
pld h33 (some 67) (fun v89_34 h35 =>
pcal Try.prog 17 90 h35 (fun v90_36 h37 =>
VL (lift1 (aun .not) v90_36) fun v91_38 =>
pcond (
Rt h37 (.bool false)) (
pld h37 (some 67) (fun v92_39 h40 =>
pcal Try.prog 19 94 h40 (fun v94_41 h42 =>
VL (lift2 (abin .lss) v94_41 (.int .i64 0)) fun v96_43 =>
pcond (
Rt h42 (.bool false)) (
VL (lift2 (abin .neq) v94_41 v78_19) fun v99_44 =>
pcond (
Rt h42 (.bool false)) (
Rt h42 (.bool true)) v99_44) v96_43) [v92_39, (.int .i64 1)]) (.ptr 66 0)) v91_38) [v88_32, v89_34]) (.ptr 65 0)) (.ptr 69 0)) (.ptr 69 0)) []) v86_26) v83_25) [v79_21, (.int .i64 1)]) (.ptr 66 0)) [v76_17, (.int .i64 1)]) (.ptr 66 0)) v75_16) [v72_10, v73_12]) (.ptr 65 0)) (.ptr 66 0)) (.ptr 66 0)) []) (.ptr 65 0)) []
theorem laws_FnExactNewDesk_f : Prt Try.prog 3 [] (laws_FnExactNewDesk_F) := pfun (fn := Try.f3) (m := [.s, .s, .s, .s, .s, .s, .s, .s, .s, .s, .s, .s, .s, .s, .s, .s, .s, .s, .s, .s, .s, .s, .s, .s, .s, .s, .s, .s, .s]) (c := 0 ≤ 36) rfl (fun h0 Rt => by kernel_rfl) (by decide)

def laws_FnExactIsTable_F (x0 : V) (hi : Hp) (Rt : Hp → V → Prop) : Prop :=
pcal Try.prog 20 73 hi (fun v73_0 h1 =>
VL (lift2 (abin .lss) v73_0 (.int .i64 0)) fun v75_2 =>
pcond (
Rt h1 (.bool true)) (
pcal Try.prog 22 77 h1 (fun v77_3 h4 =>
pcal Try.prog 21 78 h4 (fun v78_5 h6 =>
pcal Try.prog 22 80 h6 (fun v80_7 h8 =>
pcal Try.prog 23 82 h8 (fun v82_9 h10 =>
VL (veqa true false [.b] v82_9 v78_5) fun v85_11 =>
pcond (
Rt h10 (.bool false)) (
pcal Try.prog 22 88 h10 (fun v88_12 h13 =>
pcal Try.prog 24 89 h13 (fun v89_14 h15 =>
VL (lift1 (aun .not) v89_14) fun v90_16 =>
pcond (
Rt h15 (.bool false)) (
Rt h15 (.bool true)) v90_16) [v80_7, v88_12]) [x0]) v85_11) [v80_7]) [x0]) [v77_3]) [x0]) v75_2) [x0, (.int .i64 1048576)]
theorem laws_FnExactIsTable_f {x0 : V} : Prt Try.prog 4 [x0] (laws_FnExactIsTable_F x0) := pfun (fn := Try.f4) (m := [.s, .s, .s, .s, .s, .s, .s, .s, .s, .s, .s, .s, .s, .s, .s, .s]) (c := 1 ≤ 27) rfl (fun h0 Rt => by kernel_rfl) (by decide)

def laws_FnExactDessinOfTable_F (x0 : V) (hi : Hp) (Rt : Hp → V → Prop) : Prop :=
pcal Try.prog 20 75 hi (fun v75_0 h1 =>
VL (lift2 (abin .lss) v75_0 (.int .i64 0)) fun v77_2 =>
pcond (
Rt h1 (.bool true)) (
pcal Try.prog 22 80 h1 (fun v80_3 h4 =>
pcal Try.prog 25 81 h4 (fun v81_5 h6 =>
VL (vext 0 v81_5) fun v82_7 =>
VL (vext 1 v81_5) fun v83_8 =>
palloc h6 68 25 ([(.int .i64 0)] ++ (vi .u8 (List.replicate 32 0))) fun h9 =>
pst h9 33 (cellsV v82_7) (fun u10 h11 =>
pcal Try.prog 22 85 h11 (fun v85_12 h13 =>
pcal Try.prog 26 88 h13 (fun v88_14 h15 =>
VL (vext 0 v88_14) fun v89_16 =>
VL (vext 1 v88_14) fun v90_17 =>
palloc h15 71 25 ([(.int .i64 0)] ++ (vi .u8 (List.replicate 32 0))) fun h18 =>
pst h18 33 (cellsV v89_16) (fun u19 h20 =>
pld h20 (some 33) (fun v91_21 h22 =>
pld h22 (some 33) (fun v92_23 h24 =>
pcal Try.prog 27 93 h24 (fun v93_25 h26 =>
VL (lift1 (aun .not) v93_25) fun v94_27 =>
pgk false h26 (fun g28 k29 => k29 v90_17 h26) (fun g30 v32_31 h32 =>
pgk false h32 (fun g33 k34 => k34 v83_8 h32) (fun g35 v33_36 h37 =>
pgk false h37 (fun g38 k39 => VL (lift2 (abin .neq) v32_31 v33_36) fun v98_40 =>
k39 v98_40 h37) (fun g41 v34_42 h43 =>
VL (vpick g41 (.bool true) v34_42) fun v99_44 =>
pcond (
Rt h43 (.bool false)) (
pcal Try.prog 22 102 h43 (fun v102_45 h46 =>
pcal Try.prog 24 103 h46 (fun v103_47 h48 =>
VL (lift1 (aun .not) v103_47) fun v104_49 =>
pcond (
Rt h48 (.bool false)) (
Rt h48 (.bool true)) v104_49) [v85_12, v102_45]) [x0]) v99_44) g35) g30) v94_27) [v91_21, v92_23]) (.ptr 68 0)) (.ptr 71 0)) (.ptr 71 0)) [v85_12]) [x0]) (.ptr 68 0)) [v80_3]) [x0]) v77_2) [x0, (.int .i64 1048576)]
theorem laws_FnExactDessinOfTable_f {x0 : V} : Prt Try.prog 5 [x0] (laws_FnExactDessinOfTable_F x0) := pfun (fn := Try.f5) (m := [.s, .s, .s, .s, .s, .s, .s, .s, .s, .s, .s, .s, .s, .s, .s, .s]) (c := 1 ≤ 41) rfl (fun h0 Rt => by kernel_rfl) (by decide)

def laws_FnExactIsDesk_F (x0 : V) (hi : Hp) (Rt : Hp → V → Prop) : Prop :=
pbox hi 65 44 (cellsV x0) fun h0 =>
pld h0 (some 67) (fun v71_1 h2 =>
pcal Try.prog 28 73 h2 (fun v73_3 h4 =>
VL (lift2 (abin .lss) v73_3 (.int .i64 0)) fun v75_5 =>
pcond (
Rt h4 (.bool true)) (
pld h4 (some 67) (fun v76_6 h7 =>
pcal Try.prog 30 77 h7 (fun v77_8 h9 =>
pcal Try.prog 29 78 h9 (fun v78_10 h11 =>
pld h11 (some 67) (fun v79_12 h13 =>
pcal Try.prog 30 80 h13 (fun v80_14 h15 =>
palloc h15 69 28 ([(.int .i64 0)] ++ (vi .u8 (List.replicate 32 0) ++ ([(.int .i64 0)] ++ (vi .u8 (List.replicate 32 0) ++ ([.nils]))))) fun h16 =>
pst h16 67 (cellsV v80_14) (fun u17 h18 =>
pld h18 (some 67) (fun v81_19 h20 =>
pcal Try.prog 31 82 h20 (fun v82_21 h22 =>
VL (veqa true false [.b] v82_21 v78_10) fun v85_23 =>
pcond (
Rt h22 (.bool false)) (
pld h22 (some 67) (fun v86_24 h25 =>
pld h25 (some 67) (fun v87_26 h27 =>
pcalp Try.prog 30 88 h27 (fun v88_28 h29 =>
pcal Try.prog 17 89 h29 (fun v89_30 h31 =>
VL (lift1 (aun .not) v89_30) fun v90_32 =>
pcond (
Rt h31 (.bool false)) (
Rt h31 (.bool true)) v90_32) [v86_24, v88_28]) [v87_26]) (.ptr 65 0)) (.ptr 69 0)) v85_23) [v81_19]) (.ptr 69 0)) (.ptr 69 0)) [v79_12]) (.ptr 65 0)) [v77_8]) [v76_6]) (.ptr 65 0)) v75_5) [v71_1, (.int .i64 1048576)]) (.ptr 65 0)
theorem laws_FnExactIsDesk_f {x0 : V} : Prt Try.prog 6 [x0] (laws_FnExactIsDesk_F x0) := pfun (fn := Try.f6) (m := [.s, .s, .s, .s, .s, .s, .s, .s, .s, .s, .s, .s, .s, .s, .s, .s]) (c := 1 ≤ 27) rfl (fun h0 Rt => by kernel_rfl) (by decide)

def laws_FnExactCoverOf_F (x0 x1 x2 x3 : V) (hi : Hp) (Rt : Hp → V → Prop) : Prop :=
pbox hi 68 42 (cellsV x0) fun h0 =>
VL (vlenS x2) fun v80_1 =>
VL (lift2 (abin .gtr) v80_1 (.int .i64 1048576)) fun v81_2 =>
pcond (
Rt h0 (.bool true)) (
VL (vlenS x3) fun v83_3 =>
VL (lift2 (abin .gtr) v83_3 (.int .i64 1048576)) fun v84_4 =>
pcond (
Rt h0 (.bool true)) (
pld h0 (some 33) (fun v86_5 h6 =>
pcal Try.prog 33 87 h6 (fun v87_7 h8 =>
pcal Try.prog 34 90 h8 (fun v90_9 h10 =>
pcal Try.prog 34 92 h10 (fun v92_11 h12 =>
pcal Try.prog 32 93 h12 (fun v93_13 h14 =>
VL (vext 0 v93_13) fun v94_15 =>
VL (vext 1 v93_13) fun v95_16 =>
palloc h14 73 25 ([(.int .i64 0)] ++ (vi .u8 (List.replicate 32 0))) fun h17 =>
pst h17 33 (cellsV v94_15) (fun u18 h19 =>
pcal Try.prog 34 97 h19 (fun v97_20 h21 =>
pcal Try.prog 34 99 h21 (fun v99_22 h23 =>
pld h23 (some 33) (fun v101_24 h25 =>
pcal Try.prog 33 102 h25 (fun v102_26 h27 =>
pcal Try.prog 35 106 h27 (fun v106_28 h29 =>
VL (vext 0 v106_28) fun v107_30 =>
VL (vext 1 v106_28) fun v108_31 =>
palloc h29 77 25 ([(.int .i64 0)] ++ (vi .u8 (List.replicate 32 0))) fun h32 =>
pst h32 33 (cellsV v107_30) (fun u33 h34 =>
pld h34 (some 33) (fun v109_35 h36 =>
pld h36 (some 33) (fun v110_37 h38 =>
pcal Try.prog 27 111 h38 (fun v111_39 h40 =>
VL (lift1 (aun .not) v111_39) fun v112_41 =>
pgk false h40 (fun g42 k43 => k43 v108_31 h40) (fun g44 v50_45 h46 =>
pgk false h46 (fun g47 k48 => k48 v95_16 h46) (fun g49 v51_50 h51 =>
pgk false h51 (fun g52 k53 => VL (lift2 (abin .neq) v50_45 v51_50) fun v116_54 =>
k53 v116_54 h51) (fun g55 v52_56 h57 =>
VL (vpick g55 (.bool true) v52_56) fun v117_58 =>
pcond (
Rt h57 (.bool false)) (
pcal Try.prog 34 120 h57 (fun v120_59 h60 =>
pcal Try.prog 36 121 h60 (fun v121_61 h62 =>
VL (lift1 (aun .not) v121_61) fun v122_63 =>
pcond (
Rt h62 (.bool false)) (
pcal Try.prog 34 125 h62 (fun v125_64 h65 =>
pcal Try.prog 36 126 h65 (fun v126_66 h67 =>
VL (lift1 (aun .not) v126_66) fun v127_68 =>
pcond (
Rt h67 (.bool false)) (
Rt h67 (.bool true)) v127_68) [v99_22, v125_64]) [x3]) v122_63) [v97_20, v120_59]) [x2]) v117_58) g49) g44) v112_41) [v109_35, v110_37]) (.ptr 73 0)) (.ptr 77 0)) (.ptr 77 0)) [v102_26, x1, v97_20, v99_22]) [v101_24]) (.ptr 68 0)) [x3]) [x2]) (.ptr 73 0)) [v87_7, x1, v90_9, v92_11]) [x3]) [x2]) [v86_5]) (.ptr 68 0)) v84_4) v81_2
theorem laws_FnExactCoverOf_f {x0 x1 x2 x3 : V} : Prt Try.prog 7 [x0, x1, x2, x3] (laws_FnExactCoverOf_F x0 x1 x2 x3) := pfun (fn := Try.f7) (m := [.s, .s, .s, .s, .s, .s, .s, .s, .s, .s, .s, .s, .s, .s, .s, .s, .s, .s, .s, .s, .s]) (c := 4 ≤ 64) rfl (fun h0 Rt => by kernel_rfl) (by decide)

def laws_FnExactIsCycle_F (x0 x1 : V) (hi : Hp) (Rt : Hp → V → Prop) : Prop :=
pbox hi 66 42 (cellsV x0) fun h0 =>
VL (vlenS x1) fun v75_1 =>
VL (lift2 (abin .gtr) v75_1 (.int .i64 1048576)) fun v76_2 =>
pcond (
Rt h0 (.bool true)) (
pld h0 (some 33) (fun v78_3 h4 =>
pcal Try.prog 33 79 h4 (fun v79_5 h6 =>
pcal Try.prog 34 81 h6 (fun v81_7 h8 =>
pcal Try.prog 37 82 h8 (fun v82_9 h10 =>
VL (vext 0 v82_9) fun v83_11 =>
VL (vext 1 v82_9) fun v84_12 =>
pcal Try.prog 34 86 h10 (fun v86_13 h14 =>
pld h14 (some 33) (fun v88_15 h16 =>
pcal Try.prog 33 89 h16 (fun v89_17 h18 =>
pcal Try.prog 38 91 h18 (fun v91_19 h20 =>
VL (vext 0 v91_19) fun v92_21 =>
VL (vext 1 v91_19) fun v93_22 =>
VL (veqa true false [.b] v92_21 v83_11) fun v96_23 =>
pgk false h20 (fun g24 k25 => k25 v93_22 h20) (fun g26 v34_27 h28 =>
pgk false h28 (fun g29 k30 => k30 v84_12 h28) (fun g31 v35_32 h33 =>
pgk false h33 (fun g34 k35 => VL (lift2 (abin .neq) v34_27 v35_32) fun v100_36 =>
k35 v100_36 h33) (fun g37 v36_38 h39 =>
VL (vpick g37 (.bool true) v36_38) fun v101_40 =>
pcond (
Rt h39 (.bool false)) (
pcal Try.prog 34 104 h39 (fun v104_41 h42 =>
pcal Try.prog 36 105 h42 (fun v105_43 h44 =>
VL (lift1 (aun .not) v105_43) fun v106_45 =>
pcond (
Rt h44 (.bool false)) (
Rt h44 (.bool true)) v106_45) [v86_13, v104_41]) [x1]) v101_40) g31) g26) v96_23) [v89_17, v86_13]) [v88_15]) (.ptr 66 0)) [x1]) [v79_5, v81_7]) [x1]) [v78_3]) (.ptr 66 0)) v76_2
theorem laws_FnExactIsCycle_f {x0 x1 : V} : Prt Try.prog 8 [x0, x1] (laws_FnExactIsCycle_F x0 x1) := pfun (fn := Try.f8) (m := [.s, .s, .s, .s, .s, .s, .s, .s, .s, .s, .s, .s, .s, .s]) (c := 2 ≤ 43) rfl (fun h0 Rt => by kernel_rfl) (by decide)

def laws_FnExactTableOfDessin_F (x0 x1 : V) (hi : Hp) (Rt : Hp → V → Prop) : Prop :=
pbox hi 66 42 (cellsV x0) fun h0 =>
pld h0 (some 33) (fun v78_1 h2 =>
pcal Try.prog 33 79 h2 (fun v79_3 h4 =>
pcal Try.prog 39 81 h4 (fun v81_5 h6 =>
VL (vext 0 v81_5) fun v82_7 =>
VL (vext 1 v81_5) fun v83_8 =>
pld h6 (some 33) (fun v85_9 h10 =>
pcal Try.prog 33 86 h10 (fun v86_11 h12 =>
pcal Try.prog 40 88 h12 (fun v88_13 h14 =>
VL (vext 0 v88_13) fun v89_15 =>
VL (vext 1 v88_13) fun v90_16 =>
pcal Try.prog 24 93 h14 (fun v93_17 h18 =>
VL (lift1 (aun .not) v93_17) fun v94_19 =>
pgk false h18 (fun g20 k21 => k21 v90_16 h18) (fun g22 v32_23 h24 =>
pgk false h24 (fun g25 k26 => k26 v83_8 h24) (fun g27 v33_28 h29 =>
pgk false h29 (fun g30 k31 => VL (lift2 (abin .neq) v32_23 v33_28) fun v98_32 =>
k31 v98_32 h29) (fun g33 v34_34 h35 =>
VL (vpick g33 (.bool true) v34_34) fun v99_36 =>
pcond (
Rt h35 (.bool false)) (
pcal Try.prog 41 102 h35 (fun v102_37 h38 =>
pcal Try.prog 42 105 h38 (fun v105_39 h40 =>
VL (lift2 (abin .lss) v105_39 (.int .i64 0)) fun v107_41 =>
pcond (
Rt h40 (.bool false)) (
VL (lift2 (abin .neq) v105_39 v102_37) fun v110_42 =>
pcond (
Rt h40 (.bool false)) (
pld h40 (some 33) (fun v112_43 h44 =>
pcal Try.prog 33 113 h44 (fun v113_45 h46 =>
pcal Try.prog 40 115 h46 (fun v115_47 h48 =>
VL (vext 0 v115_47) fun v116_49 =>
VL (vext 1 v115_47) fun v117_50 =>
pcal Try.prog 24 120 h48 (fun v120_51 h52 =>
VL (lift1 (aun .not) v120_51) fun v121_53 =>
pgk false h52 (fun g54 k55 => k55 v117_50 h52) (fun g56 v59_57 h58 =>
pgk false h58 (fun g59 k60 => k60 v83_8 h58) (fun g61 v60_62 h63 =>
pgk false h63 (fun g64 k65 => VL (lift2 (abin .neq) v59_57 v60_62) fun v125_66 =>
k65 v125_66 h63) (fun g67 v61_68 h69 =>
VL (vpick g67 (.bool true) v61_68) fun v126_70 =>
pcond (
Rt h69 (.bool false)) (
pcal Try.prog 42 129 h69 (fun v129_71 h72 =>
VL (lift2 (abin .lss) v129_71 (.int .i64 0)) fun v131_73 =>
pcond (
Rt h72 (.bool false)) (
VL (lift2 (abin .neq) v129_71 v102_37) fun v134_74 =>
pcond (
Rt h72 (.bool false)) (
Rt h72 (.bool true)) v134_74) v131_73) [v89_15, (.int .i64 1)]) v126_70) g61) g56) v121_53) [v116_49, v82_7]) [v113_45, x1]) [v112_43]) (.ptr 66 0)) v110_42) v107_41) [v89_15, (.int .i64 1)]) [v89_15, (.int .i64 1)]) v99_36) g27) g22) v94_19) [v89_15, v82_7]) [v86_11, x1]) [v85_9]) (.ptr 66 0)) [v79_3, x1]) [v78_1]) (.ptr 66 0)
theorem laws_FnExactTableOfDessin_f {x0 x1 : V} : Prt Try.prog 9 [x0, x1] (laws_FnExactTableOfDessin_F x0 x1) := pfun (fn := Try.f9) (m := [.s, .s, .s, .s, .s, .s, .s, .s, .s, .s, .s, .s, .s, .s, .s, .s, .s, .s, .s, .s, .s, .s, .s, .s, .s, .s, .s, .s, .s]) (c := 2 ≤ 71) rfl (fun h0 Rt => by kernel_rfl) (by decide)

def laws_FnExactBoundariesOf_F (x0 : V) (hi : Hp) (Rt : Hp → V → Prop) : Prop :=
pbox hi 65 42 (cellsV x0) fun h0 =>
pld h0 (some 33) (fun v76_1 h2 =>
pcal Try.prog 33 77 h2 (fun v77_3 h4 =>
pcal Try.prog 43 78 h4 (fun v78_5 h6 =>
VL (vext 0 v78_5) fun v79_7 =>
VL (vext 1 v78_5) fun v80_8 =>
pld h6 (some 33) (fun v82_9 h10 =>
pcal Try.prog 33 83 h10 (fun v83_11 h12 =>
pcal Try.prog 44 84 h12 (fun v84_13 h14 =>
VL (vext 0 v84_13) fun v85_15 =>
VL (vext 1 v84_13) fun v86_16 =>
pcal Try.prog 24 89 h14 (fun v89_17 h18 =>
VL (lift1 (aun .not) v89_17) fun v90_19 =>
pgk false h18 (fun g20 k21 => k21 v86_16 h18) (fun g22 v28_23 h24 =>
pgk false h24 (fun g25 k26 => k26 v80_8 h24) (fun g27 v29_28 h29 =>
pgk false h29 (fun g30 k31 => VL (lift2 (abin .neq) v28_23 v29_28) fun v94_32 =>
k31 v94_32 h29) (fun g33 v30_34 h35 =>
VL (vpick g33 (.bool true) v30_34) fun v95_36 =>
pcond (
Rt h35 (.bool false)) (
pcal Try.prog 41 98 h35 (fun v98_37 h38 =>
pcal Try.prog 42 101 h38 (fun v101_39 h40 =>
VL (lift2 (abin .lss) v101_39 (.int .i64 0)) fun v103_41 =>
pcond (
Rt h40 (.bool false)) (
VL (lift2 (abin .neq) v101_39 v98_37) fun v106_42 =>
pcond (
Rt h40 (.bool false)) (
pld h40 (some 33) (fun v108_43 h44 =>
pcal Try.prog 33 109 h44 (fun v109_45 h46 =>
pcal Try.prog 44 110 h46 (fun v110_47 h48 =>
VL (vext 0 v110_47) fun v111_49 =>
VL (vext 1 v110_47) fun v112_50 =>
pcal Try.prog 24 115 h48 (fun v115_51 h52 =>
VL (lift1 (aun .not) v115_51) fun v116_53 =>
pgk false h52 (fun g54 k55 => k55 v112_50 h52) (fun g56 v54_57 h58 =>
pgk false h58 (fun g59 k60 => k60 v80_8 h58) (fun g61 v55_62 h63 =>
pgk false h63 (fun g64 k65 => VL (lift2 (abin .neq) v54_57 v55_62) fun v120_66 =>
k65 v120_66 h63) (fun g67 v56_68 h69 =>
VL (vpick g67 (.bool true) v56_68) fun v121_70 =>
pcond (
Rt h69 (.bool false)) (
pcal Try.prog 42 124 h69 (fun v124_71 h72 =>
VL (lift2 (abin .lss) v124_71 (.int .i64 0)) fun v126_73 =>
pcond (
Rt h72 (.bool false)) (
VL (lift2 (abin .neq) v124_71 v98_37) fun v129_74 =>
pcond (
Rt h72 (.bool false)) (
Rt h72 (.bool true)) v129_74) v126_73) [v85_15, (.int .i64 1)]) v121_70) g61) g56) v116_53) [v111_49, v79_7]) [v109_45]) [v108_43]) (.ptr 65 0)) v106_42) v103_41) [v85_15, (.int .i64 1)]) [v85_15, (.int .i64 1)]) v95_36) g27) g22) v90_19) [v85_15, v79_7]) [v83_11]) [v82_9]) (.ptr 65 0)) [v77_3]) [v76_1]) (.ptr 65 0)
theorem laws_FnExactBoundariesOf_f {x0 : V} : Prt Try.prog 10 [x0] (laws_FnExactBoundariesOf_F x0) := pfun (fn := Try.f10) (m := [.s, .s, .s, .s, .s, .s, .s, .s, .s, .s, .s, .s, .s, .s, .s, .s, .s, .s, .s, .s, .s, .s, .s, .s, .s, .s, .s, .s, .s]) (c := 1 ≤ 66) rfl (fun h0 Rt => by kernel_rfl) (by decide)

def laws_FnExactStabiliserWords_F (x0 : V) (hi : Hp) (Rt : Hp → V → Prop) : Prop :=
pbox hi 65 42 (cellsV x0) fun h0 =>
pld h0 (some 33) (fun v76_1 h2 =>
pcal Try.prog 33 77 h2 (fun v77_3 h4 =>
pcal Try.prog 45 78 h4 (fun v78_5 h6 =>
VL (vext 0 v78_5) fun v79_7 =>
VL (vext 1 v78_5) fun v80_8 =>
pld h6 (some 33) (fun v82_9 h10 =>
pcal Try.prog 33 83 h10 (fun v83_11 h12 =>
pcal Try.prog 46 84 h12 (fun v84_13 h14 =>
VL (vext 0 v84_13) fun v85_15 =>
VL (vext 1 v84_13) fun v86_16 =>
pcal Try.prog 47 89 h14 (fun v89_17 h18 =>
VL (lift1 (aun .not) v89_17) fun v90_19 =>
pgk false h18 (fun g20 k21 => k21 v86_16 h18) (fun g22 v28_23 h24 =>
pgk false h24 (fun g25 k26 => k26 v80_8 h24) (fun g27 v29_28 h29 =>
pgk false h29 (fun g30 k31 => VL (lift2 (abin .neq) v28_23 v29_28) fun v94_32 =>
k31 v94_32 h29) (fun g33 v30_34 h35 =>
VL (vpick g33 (.bool true) v30_34) fun v95_36 =>
pcond (
Rt h35 (.bool false)) (
pcal Try.prog 48 98 h35 (fun v98_37 h38 =>
pcal Try.prog 49 101 h38 (fun v101_39 h40 =>
VL (lift2 (abin .lss) v101_39 (.int .i64 0)) fun v103_41 =>
pcond (
Rt h40 (.bool false)) (
VL (lift2 (abin .neq) v101_39 v98_37) fun v106_42 =>
pcond (
Rt h40 (.bool false)) (
pld h40 (some 33) (fun v108_43 h44 =>
pcal Try.prog 33 109 h44 (fun v109_45 h46 =>
pcal Try.prog 46 110 h46 (fun v110_47 h48 =>
VL (vext 0 v110_47) fun v111_49 =>
VL (vext 1 v110_47) fun v112_50 =>
pcal Try.prog 47 115 h48 (fun v115_51 h52 =>
VL (lift1 (aun .not) v115_51) fun v116_53 =>
pgk false h52 (fun g54 k55 => k55 v112_50 h52) (fun g56 v54_57 h58 =>
pgk false h58 (fun g59 k60 => k60 v80_8 h58) (fun g61 v55_62 h63 =>
pgk false h63 (fun g64 k65 => VL (lift2 (abin .neq) v54_57 v55_62) fun v120_66 =>
k65 v120_66 h63) (fun g67 v56_68 h69 =>
VL (vpick g67 (.bool true) v56_68) fun v121_70 =>
pcond (
Rt h69 (.bool false)) (
pcal Try.prog 49 124 h69 (fun v124_71 h72 =>
VL (lift2 (abin .lss) v124_71 (.int .i64 0)) fun v126_73 =>
pcond (
Rt h72 (.bool false)) (
VL (lift2 (abin .neq) v124_71 v98_37) fun v129_74 =>
pcond (
Rt h72 (.bool false)) (
Rt h72 (.bool true)) v129_74) v126_73) [v85_15, (.int .i64 1)]) v121_70) g61) g56) v116_53) [v111_49, v79_7]) [v109_45]) [v108_43]) (.ptr 65 0)) v106_42) v103_41) [v85_15, (.int .i64 1)]) [v85_15, (.int .i64 1)]) v95_36) g27) g22) v90_19) [v85_15, v79_7]) [v83_11]) [v82_9]) (.ptr 65 0)) [v77_3]) [v76_1]) (.ptr 65 0)
theorem laws_FnExactStabiliserWords_f {x0 : V} : Prt Try.prog 11 [x0] (laws_FnExactStabiliserWords_F x0) := pfun (fn := Try.f11) (m := [.s, .s, .s, .s, .s, .s, .s, .s, .s, .s, .s, .s, .s, .s, .s, .s, .s, .s, .s, .s, .s, .s, .s, .s, .s, .s, .s, .s, .s]) (c := 1 ≤ 66) rfl (fun h0 Rt => by kernel_rfl) (by decide)

def laws_FnExactTreeEdges_F (x0 : V) (hi : Hp) (Rt : Hp → V → Prop) : Prop :=
pbox hi 65 42 (cellsV x0) fun h0 =>
pld h0 (some 33) (fun v76_1 h2 =>
pcal Try.prog 33 77 h2 (fun v77_3 h4 =>
pcal Try.prog 50 78 h4 (fun v78_5 h6 =>
VL (vext 0 v78_5) fun v79_7 =>
VL (vext 1 v78_5) fun v80_8 =>
pld h6 (some 33) (fun v82_9 h10 =>
pcal Try.prog 33 83 h10 (fun v83_11 h12 =>
pcal Try.prog 51 84 h12 (fun v84_13 h14 =>
VL (vext 0 v84_13) fun v85_15 =>
VL (vext 1 v84_13) fun v86_16 =>
pcal Try.prog 36 89 h14 (fun v89_17 h18 =>
VL (lift1 (aun .not) v89_17) fun v90_19 =>
pgk false h18 (fun g20 k21 => k21 v86_16 h18) (fun g22 v28_23 h24 =>
pgk false h24 (fun g25 k26 => k26 v80_8 h24) (fun g27 v29_28 h29 =>
pgk false h29 (fun g30 k31 => VL (lift2 (abin .neq) v28_23 v29_28) fun v94_32 =>
k31 v94_32 h29) (fun g33 v30_34 h35 =>
VL (vpick g33 (.bool true) v30_34) fun v95_36 =>
pcond (
Rt h35 (.bool false)) (
pcal Try.prog 52 98 h35 (fun v98_37 h38 =>
pcal Try.prog 53 101 h38 (fun v101_39 h40 =>
VL (lift2 (abin .lss) v101_39 (.int .i64 0)) fun v103_41 =>
pcond (
Rt h40 (.bool false)) (
VL (lift2 (abin .neq) v101_39 v98_37) fun v106_42 =>
pcond (
Rt h40 (.bool false)) (
pld h40 (some 33) (fun v108_43 h44 =>
pcal Try.prog 33 109 h44 (fun v109_45 h46 =>
pcal Try.prog 51 110 h46 (fun v110_47 h48 =>
VL (vext 0 v110_47) fun v111_49 =>
VL (vext 1 v110_47) fun v112_50 =>
pcal Try.prog 36 115 h48 (fun v115_51 h52 =>
VL (lift1 (aun .not) v115_51) fun v116_53 =>
pgk false h52 (fun g54 k55 => k55 v112_50 h52) (fun g56 v54_57 h58 =>
pgk false h58 (fun g59 k60 => k60 v80_8 h58) (fun g61 v55_62 h63 =>
pgk false h63 (fun g64 k65 => VL (lift2 (abin .neq) v54_57 v55_62) fun v120_66 =>
k65 v120_66 h63) (fun g67 v56_68 h69 =>
VL (vpick g67 (.bool true) v56_68) fun v121_70 =>
pcond (
Rt h69 (.bool false)) (
pcal Try.prog 53 124 h69 (fun v124_71 h72 =>
VL (lift2 (abin .lss) v124_71 (.int .i64 0)) fun v126_73 =>
pcond (
Rt h72 (.bool false)) (
VL (lift2 (abin .neq) v124_71 v98_37) fun v129_74 =>
pcond (
Rt h72 (.bool false)) (
Rt h72 (.bool true)) v129_74) v126_73) [v85_15, (.int .i64 1)]) v121_70) g61) g56) v116_53) [v111_49, v79_7]) [v109_45]) [v108_43]) (.ptr 65 0)) v106_42) v103_41) [v85_15, (.int .i64 1)]) [v85_15, (.int .i64 1)]) v95_36) g27) g22) v90_19) [v85_15, v79_7]) [v83_11]) [v82_9]) (.ptr 65 0)) [v77_3]) [v76_1]) (.ptr 65 0)
theorem laws_FnExactTreeEdges_f {x0 : V} : Prt Try.prog 12 [x0] (laws_FnExactTreeEdges_F x0) := pfun (fn := Try.f12) (m := [.s, .s, .s, .s, .s, .s, .s, .s, .s, .s, .s, .s, .s, .s, .s, .s, .s, .s, .s, .s, .s, .s, .s, .s, .s, .s, .s, .s, .s]) (c := 1 ≤ 66) rfl (fun h0 Rt => by kernel_rfl) (by decide)

def laws_FnExactIntersectionOf_F (x0 x1 x2 : V) (hi : Hp) (Rt : Hp → V → Prop) : Prop :=
pbox hi 67 42 (cellsV x0) fun h0 =>
VL (vlenS x1) fun v78_1 =>
VL (lift2 (abin .gtr) v78_1 (.int .i64 1048576)) fun v79_2 =>
pcond (
Rt h0 (.bool true)) (
VL (vlenS x2) fun v81_3 =>
VL (lift2 (abin .gtr) v81_3 (.int .i64 1048576)) fun v82_4 =>
pcond (
Rt h0 (.bool true)) (
pld h0 (some 33) (fun v84_5 h6 =>
pcal Try.prog 33 85 h6 (fun v85_7 h8 =>
pcal Try.prog 34 87 h8 (fun v87_9 h10 =>
pcal Try.prog 34 89 h10 (fun v89_11 h12 =>
pcal Try.prog 54 90 h12 (fun v90_13 h14 =>
VL (vext 0 v90_13) fun v91_15 =>
VL (vext 1 v90_13) fun v92_16 =>
pcal Try.prog 34 94 h14 (fun v94_17 h18 =>
pcal Try.prog 34 96 h18 (fun v96_19 h20 =>
pld h20 (some 33) (fun v98_21 h22 =>
pcal Try.prog 33 99 h22 (fun v99_23 h24 =>
pcal Try.prog 55 102 h24 (fun v102_25 h26 =>
VL (vext 0 v102_25) fun v103_27 =>
VL (vext 1 v102_25) fun v104_28 =>
VL (lift2 (abin .neq) v103_27 v91_15) fun v107_29 =>
pgk false h26 (fun g30 k31 => k31 v104_28 h26) (fun g32 v45_33 h34 =>
pgk false h34 (fun g35 k36 => k36 v92_16 h34) (fun g37 v46_38 h39 =>
pgk false h39 (fun g40 k41 => VL (lift2 (abin .neq) v45_33 v46_38) fun v111_42 =>
k41 v111_42 h39) (fun g43 v47_44 h45 =>
VL (vpick g43 (.bool true) v47_44) fun v112_46 =>
pcond (
Rt h45 (.bool false)) (
pcal Try.prog 34 115 h45 (fun v115_47 h48 =>
pcal Try.prog 36 116 h48 (fun v116_49 h50 =>
VL (lift1 (aun .not) v116_49) fun v117_51 =>
pcond (
Rt h50 (.bool false)) (
pcal Try.prog 34 120 h50 (fun v120_52 h53 =>
pcal Try.prog 36 121 h53 (fun v121_54 h55 =>
VL (lift1 (aun .not) v121_54) fun v122_56 =>
pcond (
Rt h55 (.bool false)) (
Rt h55 (.bool true)) v122_56) [v96_19, v120_52]) [x2]) v117_51) [v94_17, v115_47]) [x1]) v112_46) g37) g32) v107_29) [v99_23, v94_17, v96_19]) [v98_21]) (.ptr 67 0)) [x2]) [x1]) [v85_7, v87_9, v89_11]) [x2]) [x1]) [v84_5]) (.ptr 67 0)) v82_4) v79_2
theorem laws_FnExactIntersectionOf_f {x0 x1 x2 : V} : Prt Try.prog 13 [x0, x1, x2] (laws_FnExactIntersectionOf_F x0 x1 x2) := pfun (fn := Try.f13) (m := [.s, .s, .s, .s, .s, .s, .s, .s, .s, .s, .s, .s, .s, .s, .s, .s, .s, .s, .s, .s, .s]) (c := 3 ≤ 59) rfl (fun h0 Rt => by kernel_rfl) (by decide)

def laws_FnExactIsUnbranched_F (x0 x1 x2 x3 : V) (hi : Hp) (Rt : Hp → V → Prop) : Prop :=
pbox hi 68 42 (cellsV x0) fun h0 =>
VL (vlenS x2) fun v80_1 =>
VL (lift2 (abin .gtr) v80_1 (.int .i64 1048576)) fun v81_2 =>
pcond (
Rt h0 (.bool true)) (
VL (vlenS x3) fun v83_3 =>
VL (lift2 (abin .gtr) v83_3 (.int .i64 1048576)) fun v84_4 =>
pcond (
Rt h0 (.bool true)) (
pld h0 (some 33) (fun v86_5 h6 =>
pcal Try.prog 33 87 h6 (fun v87_7 h8 =>
pcal Try.prog 34 90 h8 (fun v90_9 h10 =>
pcal Try.prog 34 92 h10 (fun v92_11 h12 =>
pcal Try.prog 56 93 h12 (fun v93_13 h14 =>
VL (vext 0 v93_13) fun v94_15 =>
VL (vext 1 v93_13) fun v95_16 =>
pcal Try.prog 34 97 h14 (fun v97_17 h18 =>
pcal Try.prog 34 99 h18 (fun v99_19 h20 =>
pld h20 (some 33) (fun v101_21 h22 =>
pcal Try.prog 33 102 h22 (fun v102_23 h24 =>
pcal Try.prog 57 106 h24 (fun v106_25 h26 =>
VL (vext 0 v106_25) fun v107_27 =>
VL (vext 1 v106_25) fun v108_28 =>
VL (veqa true false [.b] v107_27 v94_15) fun v111_29 =>
pgk false h26 (fun g30 k31 => k31 v108_28 h26) (fun g32 v49_33 h34 =>
pgk false h34 (fun g35 k36 => k36 v95_16 h34) (fun g37 v50_38 h39 =>
pgk false h39 (fun g40 k41 => VL (lift2 (abin .neq) v49_33 v50_38) fun v115_42 =>
k41 v115_42 h39) (fun g43 v51_44 h45 =>
VL (vpick g43 (.bool true) v51_44) fun v116_46 =>
pcond (
Rt h45 (.bool false)) (
pcal Try.prog 34 119 h45 (fun v119_47 h48 =>
pcal Try.prog 36 120 h48 (fun v120_49 h50 =>
VL (lift1 (aun .not) v120_49) fun v121_51 =>
pcond (
Rt h50 (.bool false)) (
pcal Try.prog 34 124 h50 (fun v124_52 h53 =>
pcal Try.prog 36 125 h53 (fun v125_54 h55 =>
VL (lift1 (aun .not) v125_54) fun v126_56 =>
pcond (
Rt h55 (.bool false)) (
Rt h55 (.bool true)) v126_56) [v99_19, v124_52]) [x3]) v121_51) [v97_17, v119_47]) [x2]) v116_46) g37) g32) v111_29) [v102_23, x1, v97_17, v99_19]) [v101_21]) (.ptr 68 0)) [x3]) [x2]) [v87_7, x1, v90_9, v92_11]) [x3]) [x2]) [v86_5]) (.ptr 68 0)) v84_4) v81_2
theorem laws_FnExactIsUnbranched_f {x0 x1 x2 x3 : V} : Prt Try.prog 14 [x0, x1, x2, x3] (laws_FnExactIsUnbranched_F x0 x1 x2 x3) := pfun (fn := Try.f14) (m := [.s, .s, .s, .s, .s, .s, .s, .s, .s, .s, .s, .s, .s, .s, .s, .s, .s, .s, .s, .s, .s]) (c := 4 ≤ 63) rfl (fun h0 Rt => by kernel_rfl) (by decide)

def spec_NewDesk_F (hi : Hp) (Rt : Hp → V → Prop) : Prop :=
palloc hi 64 28 ([(.int .i64 0)] ++ (vi .u8 (List.replicate 32 0) ++ ([(.int .i64 0)] ++ (vi .u8 (List.replicate 32 0) ++ ([.nils]))))) fun h0 =>
pcal Try.prog 58 65 h0 (fun v65_1 h2 =>
pst h2 67 (cellsV v65_1) (fun u3 h4 =>
VL (pcellV h4 (some 67) (.ptr 64 0)) fun r5 =>
Rt h4 r5) (.ptr 64 0)) []
theorem spec_NewDesk_f : Prt Try.prog 15 [] (spec_NewDesk_F) := pfun (fn := Try.f15) (m := [.s, .s]) (c := 0 ≤ 2) rfl (fun h0 Rt => by kernel_rfl) (by decide)

def impl_NewDesk_F (hi : Hp) (Rt : Hp → V → Prop) : Prop :=
palloc hi 64 28 ([(.int .i64 0)] ++ (vi .u8 (List.replicate 32 0) ++ ([(.int .i64 0)] ++ (vi .u8 (List.replicate 32 0) ++ ([.nils]))))) fun h0 =>
pcal Try.prog 59 65 h0 (fun v65_1 h2 =>
pcal Try.prog 59 66 h2 (fun v66_3 h4 =>
pmks h4 67 2 4 4 (fun h5 =>
VL (vbld (vfill ([(.int .i64 0)] ++ (vi .u8 (List.replicate 32 0) ++ ([(.int .i64 0)] ++ (vi .u8 (List.replicate 32 0) ++ ([.nils]))))) [(0, 33, v65_1), (33, 33, v66_3), (66, 1, (.rf 67 0 4))])) fun v68_6 =>
pst h5 67 (cellsV v68_6) (fun u7 h8 =>
VL (pcellV h8 (some 67) (.ptr 64 0)) fun r9 =>
Rt h8 r9) (.ptr 64 0)) (vfill (vi .i64 (List.replicate 4 0)) [(0, 1, (.int .i64 0)), (1, 1, (.int .i64 0)), (2, 1, (.int .i64 0)), (3, 1, (.int .i64 1))])) [(.int .i64 3)]) [(.int .i64 3)]
theorem impl_NewDesk_f : Prt Try.prog 16 [] (impl_NewDesk_F) := pfun (fn := Try.f16) (m := [.s, .s]) (c := 0 ≤ 5) rfl (fun h0 Rt => by kernel_rfl) (by decide)

def laws_eqDesk_F (x0 x1 : V) (hi : Hp) (Rt : Hp → V → Prop) : Prop :=
pbox hi 66 28 (cellsV x0) fun h0 =>
pbox h0 67 28 (cellsV x1) fun h1 =>
pld h1 (some 33) (fun v70_2 h3 =>
pld h3 (some 33) (fun v72_4 h5 =>
pcal Try.prog 27 73 h5 (fun v73_6 h7 =>
VL (lift1 (aun .not) v73_6) fun v74_8 =>
pcond (
Rt h7 (.bool false)) (
pld h7 (some 33) (fun v76_9 h10 =>
pld h10 (some 33) (fun v78_11 h12 =>
pcal Try.prog 27 79 h12 (fun v79_13 h14 =>
VL (lift1 (aun .not) v79_13) fun v80_15 =>
pcond (
Rt h14 (.bool false)) (
pld h14 none (fun v82_16 h17 =>
pld h17 none (fun v84_18 h19 =>
pcal Try.prog 36 85 h19 (fun v85_20 h21 =>
VL (lift1 (aun .not) v85_20) fun v86_22 =>
pcond (
Rt h21 (.bool false)) (
Rt h21 (.bool true)) v86_22) [v82_16, v84_18]) (.ptr 67 66)) (.ptr 66 66)) v80_15) [v76_9, v78_11]) (.ptr 67 33)) (.ptr 66 33)) v74_8) [v70_2, v72_4]) (.ptr 67 0)) (.ptr 66 0)
theorem laws_eqDesk_f {x0 x1 : V} : Prt Try.prog 17 [x0, x1] (laws_eqDesk_F x0 x1) := pfun (fn := Try.f17) (m := [.s, .s, .s, .s, .s, .s, .s, .s, .s, .s, .s]) (c := 2 ≤ 23) rfl (fun h0 Rt => by kernel_rfl) (by decide)

def laws_markDesk_F (x0 x1 : V) (hi : Hp) (Rt : Hp → V → Prop) : Prop :=
pbox hi 66 28 (cellsV x0) fun h0 =>
pld h0 none (fun v70_1 h2 =>
pcal Try.prog 52 72 h2 (fun v72_3 h4 =>
Rt h4 v72_3) [v70_1, x1]) (.ptr 66 66)
theorem laws_markDesk_f {x0 x1 : V} : Prt Try.prog 18 [x0, x1] (laws_markDesk_F x0 x1) := pfun (fn := Try.f18) (m := [.s, .s, .s]) (c := 2 ≤ 10) rfl (fun h0 Rt => by kernel_rfl) (by decide)

def laws_heldDesk_F (x0 x1 : V) (hi : Hp) (Rt : Hp → V → Prop) : Prop :=
pbox hi 66 28 (cellsV x0) fun h0 =>
pld h0 none (fun v70_1 h2 =>
pcal Try.prog 53 72 h2 (fun v72_3 h4 =>
VL (lift2 (abin .lss) v72_3 (.int .i64 0)) fun v74_5 =>
pcond (
Rt h4 (.int .i64 (-1))) (
Rt h4 v72_3) v74_5) [v70_1, x1]) (.ptr 66 66)
theorem laws_heldDesk_f {x0 x1 : V} : Prt Try.prog 19 [x0, x1] (laws_heldDesk_F x0 x1) := pfun (fn := Try.f19) (m := [.s, .s, .s, .s, .s, .s]) (c := 2 ≤ 12) rfl (fun h0 Rt => by kernel_rfl) (by decide)

def laws_szInt64SS_F (x0 x1 : V) (hi : Hp) (Rt : Hp → V → Prop) : Prop :=
VL (vlenS x0) fun v72_0 =>
VL (lift2 (abin .sub) x1 v72_0) fun v73_1 =>
VL (lift2 (abin .lss) v73_1 (.int .i64 0)) fun v75_2 =>
pcond (
Rt hi (.int .i64 (-1))) (
LP [1, 5] [0] (fun w3 l4 h5 N6 =>
VL (vlenS (l4.getD 0 .und)) fun v78_7 =>
VL (lift2 (abin .lss) (w3.getD 1 .und) v78_7) fun v79_8 =>
pcond (
VL (vixS 1 (l4.getD 0 .und) (w3.getD 1 .und)) fun v84_9 =>
pld h5 none (fun v85_10 h11 =>
pcal Try.prog 60 87 h11 (fun v87_12 h13 =>
VL (lift2 (abin .lss) v87_12 (.int .i64 0)) fun v89_14 =>
pcond (
Rt h13 (.int .i64 (-1))) (
VL (lift2 (abin .add) (w3.getD 1 .und) (.int .i64 1)) fun v81_15 =>
N6 [v87_12, v81_15] [(l4.getD 0 .und)] h13) v89_14) [v85_10, (w3.getD 0 .und)]) v84_9) (
Rt h5 (w3.getD 0 .und)) v79_8) [v73_1, (.int .i64 0)] [x0] hi) v75_2
theorem laws_szInt64SS_f {x0 x1 : V} : Prt Try.prog 20 [x0, x1] (laws_szInt64SS_F x0 x1) := pfun (fn := Try.f20) (m := [.s, .s, .s, .s, .s, .s, .s, .l [1, 5] [0], .s, .s, .s, .s, .s, .s, .s]) (c := 2 ≤ 27) rfl (fun h0 Rt => by kernel_rfl) (by decide)

def spec_IsTable_F (x0 : V) (hi : Hp) (Rt : Hp → V → Prop) : Prop :=
pcal Try.prog 61 68 hi (fun v68_0 h1 =>
Rt h1 v68_0) [x0]
theorem spec_IsTable_f {x0 : V} : Prt Try.prog 21 [x0] (spec_IsTable_F x0) := pfun (fn := Try.f21) (m := [.s, .s]) (c := 1 ≤ 5) rfl (fun h0 Rt => by kernel_rfl) (by decide)

def laws_toInt64SS_F (x0 : V) (hi : Hp) (Rt : Hp → V → Prop) : Prop :=
VL (vlenS x0) fun v70_0 =>
pmk hi 71 26 24 [.nils] (fun v71_1 h2 =>
LP [4] [0, 3] (fun w3 l4 h5 N6 =>
VL (vlenS (l4.getD 0 .und)) fun v74_7 =>
VL (lift2 (abin .lss) (w3.getD 0 .und) v74_7) fun v75_8 =>
pcond (
VL (vixS 1 (l4.getD 0 .und) (w3.getD 0 .und)) fun v82_9 =>
pld h5 none (fun v83_10 h11 =>
pcal Try.prog 34 84 h11 (fun v84_12 h13 =>
VL (vixS 1 (l4.getD 1 .und) (w3.getD 0 .und)) fun v85_14 =>
pst h13 1 (cellsV v84_12) (fun u15 h16 =>
VL (lift2 (abin .add) (w3.getD 0 .und) (.int .i64 1)) fun v77_17 =>
N6 [v77_17] [(l4.getD 0 .und), (l4.getD 1 .und)] h16) v85_14) [v83_10]) v82_9) (
Rt h5 (l4.getD 1 .und)) v75_8) [(.int .i64 0)] [x0, v71_1] h2) v70_0 v70_0
theorem laws_toInt64SS_f {x0 : V} : Prt Try.prog 22 [x0] (laws_toInt64SS_F x0) := pfun (fn := Try.f22) (m := [.s, .s, .s, .s, .l [4] [0, 3], .s, .s, .s, .s]) (c := 1 ≤ 23) rfl (fun h0 Rt => by kernel_rfl) (by decide)

def impl_IsTable_F (x0 : V) (hi : Hp) (Rt : Hp → V → Prop) : Prop :=
VL (vlenS x0) fun v73_0 =>
VL (lift2 (abin .lss) v73_0 (.int .i64 1)) fun v75_1 =>
pgk false hi (fun g2 k3 => k3 v73_0 hi) (fun g4 v13_5 h6 =>
pgk false h6 (fun g7 k8 => VL (lift2 (abin .gtr) v13_5 (.int .i64 100)) fun v78_9 =>
k8 v78_9 h6) (fun g10 v14_11 h12 =>
VL (vpick g10 (.bool true) v14_11) fun v79_13 =>
pcond (
Rt h12 (.bool false)) (
LP [16] [0, 3] (fun w14 l15 h16 N17 =>
VL (lift2 (abin .lss) (w14.getD 0 .und) (.int .i64 2)) fun v81_18 =>
pcond (
pmk h16 84 4 1 [(.bool false)] (fun v84_19 h20 =>
VL (vlenS (l15.getD 0 .und)) fun v86_21 =>
LP [23] [0, 3, 4, 5, 16, 21, 22] (fun w22 l23 h24 N25 =>
VL (lift2 (abin .lss) (w22.getD 0 .und) (l23.getD 6 .und)) fun v88_26 =>
pcond (
VL (vixS 1 (l23.getD 5 .und) (w22.getD 0 .und)) fun v89_27 =>
pld h24 none (fun v90_28 h29 =>
VL (vlenS v90_28) fun v92_30 =>
VL (lift2 (abin .neq) v92_30 (.int .i64 2)) fun v93_31 =>
pgk false h29 (fun g32 k33 => k33 v90_28 h29) (fun g34 v31_35 h36 =>
pgk false h36 (fun g37 k38 => k38 (l23.getD 2 .und) h36) (fun g39 v32_40 h41 =>
pgk false h41 (fun g42 k43 => VL (vixS 1 v31_35 v32_40) fun v97_44 =>
k43 v97_44 h41) (fun g45 v33_46 h47 =>
pgk false h47 (fun g48 k49 => pld h47 none (fun v98_50 h51 =>
k49 v98_50 h51) v33_46) (fun g52 v34_53 h54 =>
pgk false h54 (fun g55 k56 => VL (lift2 (abin .lss) v34_53 (.int .i64 0)) fun v99_57 =>
k56 v99_57 h54) (fun g58 v35_59 h60 =>
VL (vpick g58 (.bool true) v35_59) fun v100_61 =>
pgk false h60 (fun g62 k63 => k63 v90_28 h60) (fun g64 v38_65 h66 =>
pgk false h66 (fun g67 k68 => k68 (l23.getD 2 .und) h66) (fun g69 v39_70 h71 =>
pgk false h71 (fun g72 k73 => VL (vixS 1 v38_65 v39_70) fun v104_74 =>
k73 v104_74 h71) (fun g75 v40_76 h77 =>
pgk false h77 (fun g78 k79 => pld h77 none (fun v105_80 h81 =>
k79 v105_80 h81) v40_76) (fun g82 v41_83 h84 =>
pgk false h84 (fun g85 k86 => k86 (l23.getD 1 .und) h84) (fun g87 v42_88 h89 =>
pgk false h89 (fun g90 k91 => VL (lift2 (abin .geq) v41_83 v42_88) fun v107_92 =>
k91 v107_92 h89) (fun g93 v43_94 h95 =>
VL (vpick g93 (.bool true) v43_94) fun v108_96 =>
pgk false h95 (fun g97 k98 => k98 (l23.getD 3 .und) h95) (fun g99 v46_100 h101 =>
pgk false h101 (fun g102 k103 => k103 v90_28 h101) (fun g104 v47_105 h106 =>
pgk false h106 (fun g107 k108 => k108 (l23.getD 2 .und) h106) (fun g109 v48_110 h111 =>
pgk false h111 (fun g112 k113 => VL (vixS 1 v47_105 v48_110) fun v113_114 =>
k113 v113_114 h111) (fun g115 v49_116 h117 =>
pgk false h117 (fun g118 k119 => pld h117 none (fun v114_120 h121 =>
k119 v114_120 h121) v49_116) (fun g122 v50_123 h124 =>
pgk false h124 (fun g125 k126 => VL (vixS 1 v46_100 v50_123) fun v115_127 =>
k126 v115_127 h124) (fun g128 v51_129 h130 =>
pgk false h130 (fun g131 k132 => pld h130 none (fun v116_133 h134 =>
k132 v116_133 h134) v51_129) (fun g135 v52_136 h137 =>
VL (vpick g135 (.bool true) v52_136) fun v117_138 =>
pcond (
Rt h137 (.bool false)) (
VL (vixS 1 v90_28 (l23.getD 2 .und)) fun v121_139 =>
pld h137 none (fun v122_140 h141 =>
VL (vixS 1 (l23.getD 3 .und) v122_140) fun v123_142 =>
pst h141 1 (cellsV (.bool true)) (fun u143 h144 =>
VL (lift2 (abin .add) (w22.getD 0 .und) (.int .i64 1)) fun v124_145 =>
N25 [v124_145] [(l23.getD 0 .und), (l23.getD 1 .und), (l23.getD 2 .und), (l23.getD 3 .und), (l23.getD 4 .und), (l23.getD 5 .und), (l23.getD 6 .und)] h144) v123_142) v121_139) v117_138) g128) g122) g115) g109) g104) g99) v108_96) g87) g82) g75) g69) g64) v100_61) g52) g45) g39) g34) v93_31) v89_27) (
VL (lift2 (abin .add) (l23.getD 4 .und) (.int .i64 1)) fun v125_146 =>
N17 [v125_146] [(l23.getD 0 .und), (l23.getD 1 .und)] h24) v88_26) [(.int .i64 0)] [(l15.getD 0 .und), (l15.getD 1 .und), (w14.getD 0 .und), v84_19, (w14.getD 0 .und), (l15.getD 0 .und), v86_21] h20) (l15.getD 1 .und) (l15.getD 1 .und)) (
pcal Try.prog 62 127 h16 (fun v127_147 h148 =>
VL (vlenS v127_147) fun v128_149 =>
VL (lift2 (abin .eql) v128_149 (l15.getD 1 .und)) fun v130_150 =>
Rt h148 v130_150) [(l15.getD 0 .und)]) v81_18) [(.int .i64 0)] [x0, v73_0] h12) v79_13) g4) v75_1
theorem impl_IsTable_f {x0 : V} : Prt Try.prog 23 [x0] (impl_IsTable_F x0) := pfun (fn := Try.f23) (m := [.s, .s, .s, .s, .s, .s, .s, .l [16] [0, 3], .s, .s, .s, .s, .s, .s, .l [23] [0, 3, 4, 5, 16, 21, 22], .s, .s, .s, .s, .s, .s, .s, .s]) (c := 1 ≤ 67) rfl (fun h0 Rt => by kernel_rfl) (by decide)

def laws_eqInt64SS_F (x0 x1 : V) (hi : Hp) (Rt : Hp → V → Prop) : Prop :=
VL (vlenS x0) fun v71_0 =>
VL (vlenS x1) fun v73_1 =>
VL (lift2 (abin .neq) v71_0 v73_1) fun v74_2 =>
pcond (
Rt hi (.bool false)) (
LP [5] [0, 1] (fun w3 l4 h5 N6 =>
VL (vlenS (l4.getD 0 .und)) fun v77_7 =>
VL (lift2 (abin .lss) (w3.getD 0 .und) v77_7) fun v78_8 =>
pcond (
VL (vixS 1 (l4.getD 0 .und) (w3.getD 0 .und)) fun v83_9 =>
pld h5 none (fun v84_10 h11 =>
VL (vixS 1 (l4.getD 1 .und) (w3.getD 0 .und)) fun v87_12 =>
pld h11 none (fun v88_13 h14 =>
pcal Try.prog 36 89 h14 (fun v89_15 h16 =>
VL (lift1 (aun .not) v89_15) fun v90_17 =>
pcond (
Rt h16 (.bool false)) (
VL (lift2 (abin .add) (w3.getD 0 .und) (.int .i64 1)) fun v80_18 =>
N6 [v80_18] [(l4.getD 0 .und), (l4.getD 1 .und)] h16) v90_17) [v84_10, v88_13]) v87_12) v83_9) (
Rt h5 (.bool true)) v78_8) [(.int .i64 0)] [x0, x1] hi) v74_2
theorem laws_eqInt64SS_f {x0 x1 : V} : Prt Try.prog 24 [x0, x1] (laws_eqInt64SS_F x0 x1) := pfun (fn := Try.f24) (m := [.s, .s, .s, .s, .s, .s, .l [5] [0, 1], .s, .s, .s, .s, .s, .s]) (c := 2 ≤ 27) rfl (fun h0 Rt => by kernel_rfl) (by decide)

def spec_DessinOfTable_F (x0 : V) (hi : Hp) (Rt : Hp → V → Prop) : Prop :=
palloc hi 66 25 ([(.int .i64 0)] ++ (vi .u8 (List.replicate 32 0))) fun h0 =>
pcal Try.prog 61 72 h0 (fun v72_1 h2 =>
VL (lift1 (aun .not) v72_1) fun v73_3 =>
pcond (
VL (vbld (vfill ([(.int .i64 0)] ++ (vi .u8 (List.replicate 32 0))) [])) fun v74_4 =>
pst h2 33 (cellsV v74_4) (fun u5 h6 =>
VL (pcellV h6 (some 33) (.ptr 66 0)) fun r7 =>
Rt h6 (.tup [r7, (.int .i64 1)])) (.ptr 66 0)) (
VL (vlenS x0) fun v77_8 =>
VL (lift2 (abin .gtr) v77_8 (.int .i64 16)) fun v78_9 =>
pcond (
VL (vbld (vfill ([(.int .i64 0)] ++ (vi .u8 (List.replicate 32 0))) [])) fun v79_10 =>
pst h2 33 (cellsV v79_10) (fun u11 h12 =>
VL (pcellV h12 (some 33) (.ptr 66 0)) fun r13 =>
Rt h12 (.tup [r13, (.int .i64 3)])) (.ptr 66 0)) (
VL (vlenS x0) fun v81_14 =>
VL (vbld (vfill ([(.int .i64 0)] ++ (vi .u8 (List.replicate 32 0))) [(0, 1, v81_14)])) fun v82_15 =>
palloc h2 68 25 ([(.int .i64 0)] ++ (vi .u8 (List.replicate 32 0))) fun h16 =>
pst h16 33 (cellsV v82_15) (fun u17 h18 =>
LP [5] [0, 2, 4] (fun w19 l20 h21 N22 =>
VL (vlenS (l20.getD 0 .und)) fun v85_23 =>
VL (lift2 (abin .lss) (w19.getD 0 .und) v85_23) fun v86_24 =>
pcond (
VL (vixS 1 (l20.getD 0 .und) (w19.getD 0 .und)) fun v92_25 =>
pld h21 none (fun v93_26 h27 =>
VL (vixS 1 v93_26 (.int .i64 0)) fun v94_28 =>
pld h27 none (fun v95_29 h30 =>
VL (lift1 (acvi .u8) v95_29) fun v96_31 =>
VL (vfa 1 (l20.getD 2 .und)) fun v97_32 =>
VL (vixA 16 1 v97_32 (w19.getD 0 .und)) fun v98_33 =>
pst h30 1 (cellsV v96_31) (fun u34 h35 =>
VL (vixS 1 (l20.getD 0 .und) (w19.getD 0 .und)) fun v102_36 =>
pld h35 none (fun v103_37 h38 =>
VL (vixS 1 v103_37 (.int .i64 1)) fun v104_39 =>
pld h38 none (fun v105_40 h41 =>
VL (lift1 (acvi .u8) v105_40) fun v106_42 =>
VL (vfa 17 (l20.getD 2 .und)) fun v107_43 =>
VL (vixA 16 1 v107_43 (w19.getD 0 .und)) fun v108_44 =>
pst h41 1 (cellsV v106_42) (fun u45 h46 =>
VL (lift2 (abin .add) (w19.getD 0 .und) (.int .i64 1)) fun v88_47 =>
N22 [v88_47] [(l20.getD 0 .und), (l20.getD 1 .und), (l20.getD 2 .und)] h46) v108_44) v104_39) v102_36) v98_33) v94_28) v92_25) (
pld h21 (some 33) (fun v109_48 h49 =>
pst h49 33 (cellsV v109_48) (fun u50 h51 =>
VL (pcellV h51 (some 33) (l20.getD 1 .und)) fun r52 =>
Rt h51 (.tup [r52, (.int .i64 0)])) (l20.getD 1 .und)) (l20.getD 2 .und)) v86_24) [(.int .i64 0)] [x0, (.ptr 66 0), (.ptr 68 0)] h18) (.ptr 68 0)) v78_9) v73_3) [x0]
theorem spec_DessinOfTable_f {x0 : V} : Prt Try.prog 25 [x0] (spec_DessinOfTable_F x0) := pfun (fn := Try.f25) (m := [.s, .s, .s, .s, .s, .s, .s, .s, .s, .l [5] [0, 2, 4], .s, .s, .s, .s, .s]) (c := 1 ≤ 46) rfl (fun h0 Rt => by kernel_rfl) (by decide)

def impl_DessinOfTable_F (x0 : V) (hi : Hp) (Rt : Hp → V → Prop) : Prop :=
palloc hi 66 25 ([(.int .i64 0)] ++ (vi .u8 (List.replicate 32 0))) fun h0 =>
pcal Try.prog 23 73 h0 (fun v73_1 h2 =>
VL (lift1 (aun .not) v73_1) fun v74_3 =>
pcond (
VL (vbld (vfill ([(.int .i64 0)] ++ (vi .u8 (List.replicate 32 0))) [])) fun v75_4 =>
pst h2 33 (cellsV v75_4) (fun u5 h6 =>
VL (pcellV h6 (some 33) (.ptr 66 0)) fun r7 =>
Rt h6 (.tup [r7, (.int .i64 1)])) (.ptr 66 0)) (
VL (vlenS x0) fun v78_8 =>
VL (lift2 (abin .gtr) v78_8 (.int .i64 16)) fun v79_9 =>
pcond (
VL (vbld (vfill ([(.int .i64 0)] ++ (vi .u8 (List.replicate 32 0))) [])) fun v80_10 =>
pst h2 33 (cellsV v80_10) (fun u11 h12 =>
VL (pcellV h12 (some 33) (.ptr 66 0)) fun r13 =>
Rt h12 (.tup [r13, (.int .i64 3)])) (.ptr 66 0)) (
VL (vlenS x0) fun v82_14 =>
VL (vbld (vfill ([(.int .i64 0)] ++ (vi .u8 (List.replicate 32 0))) [(0, 1, v82_14)])) fun v83_15 =>
palloc h2 68 25 ([(.int .i64 0)] ++ (vi .u8 (List.replicate 32 0))) fun h16 =>
pst h16 33 (cellsV v83_15) (fun u17 h18 =>
VL (vlenS x0) fun v85_19 =>
LP [22] [2, 4, 20, 21] (fun w20 l21 h22 N23 =>
VL (lift2 (abin .lss) (w20.getD 0 .und) (l21.getD 3 .und)) fun v87_24 =>
pcond (
VL (vixS 1 (l21.getD 2 .und) (w20.getD 0 .und)) fun v89_25 =>
pld h22 none (fun v90_26 h27 =>
VL (vixS 1 v90_26 (.int .i64 0)) fun v93_28 =>
pld h27 none (fun v94_29 h30 =>
VL (lift1 (acvi .u8) v94_29) fun v95_31 =>
VL (vfa 1 (l21.getD 1 .und)) fun v96_32 =>
VL (vixA 16 1 v96_32 (w20.getD 0 .und)) fun v97_33 =>
pst h30 1 (cellsV v95_31) (fun u34 h35 =>
VL (vixS 1 v90_26 (.int .i64 1)) fun v100_36 =>
pld h35 none (fun v101_37 h38 =>
VL (lift1 (acvi .u8) v101_37) fun v102_39 =>
VL (vfa 17 (l21.getD 1 .und)) fun v103_40 =>
VL (vixA 16 1 v103_40 (w20.getD 0 .und)) fun v104_41 =>
pst h38 1 (cellsV v102_39) (fun u42 h43 =>
VL (lift2 (abin .add) (w20.getD 0 .und) (.int .i64 1)) fun v105_44 =>
N23 [v105_44] [(l21.getD 0 .und), (l21.getD 1 .und), (l21.getD 2 .und), (l21.getD 3 .und)] h43) v104_41) v100_36) v97_33) v93_28) v89_25) (
pld h22 (some 33) (fun v106_45 h46 =>
pst h46 33 (cellsV v106_45) (fun u47 h48 =>
VL (pcellV h48 (some 33) (l21.getD 0 .und)) fun r49 =>
Rt h48 (.tup [r49, (.int .i64 0)])) (l21.getD 0 .und)) (l21.getD 1 .und)) v87_24) [(.int .i64 0)] [(.ptr 66 0), (.ptr 68 0), x0, v85_19] h18) (.ptr 68 0)) v79_9) v74_3) [x0]
theorem impl_DessinOfTable_f {x0 : V} : Prt Try.prog 26 [x0] (impl_DessinOfTable_F x0) := pfun (fn := Try.f26) (m := [.s, .s, .s, .s, .s, .s, .s, .s, .s, .l [22] [2, 4, 20, 21], .s, .s, .s, .s, .s, .s]) (c := 1 ≤ 43) rfl (fun h0 Rt => by kernel_rfl) (by decide)

def laws_eqDessin_F (x0 x1 : V) (hi : Hp) (Rt : Hp → V → Prop) : Prop :=
pbox hi 66 25 (cellsV x0) fun h0 =>
pbox h0 67 25 (cellsV x1) fun h1 =>
pld h1 none (fun v70_2 h3 =>
pld h3 none (fun v72_4 h5 =>
VL (lift2 (abin .neq) v70_2 v72_4) fun v73_6 =>
pcond (
Rt h5 (.bool false)) (
pld h5 (some 16) (fun v75_7 h8 =>
pld h8 (some 16) (fun v77_9 h10 =>
pcal Try.prog 63 78 h10 (fun v78_11 h12 =>
VL (lift1 (aun .not) v78_11) fun v79_13 =>
pcond (
Rt h12 (.bool false)) (
pld h12 (some 16) (fun v81_14 h15 =>
pld h15 (some 16) (fun v83_16 h17 =>
pcal Try.prog 63 84 h17 (fun v84_18 h19 =>
VL (lift1 (aun .not) v84_18) fun v85_20 =>
pcond (
Rt h19 (.bool false)) (
Rt h19 (.bool true)) v85_20) [v81_14, v83_16]) (.ptr 67 17)) (.ptr 66 17)) v79_13) [v75_7, v77_9]) (.ptr 67 1)) (.ptr 66 1)) v73_6) (.ptr 67 0)) (.ptr 66 0)
theorem laws_eqDessin_f {x0 x1 : V} : Prt Try.prog 27 [x0, x1] (laws_eqDessin_F x0 x1) := pfun (fn := Try.f27) (m := [.s, .s, .s, .s, .s, .s, .s, .s, .s, .s, .s]) (c := 2 ≤ 22) rfl (fun h0 Rt => by kernel_rfl) (by decide)

def laws_szDesk_F (x0 x1 : V) (hi : Hp) (Rt : Hp → V → Prop) : Prop :=
pbox hi 66 44 (cellsV x0) fun h0 =>
pld h0 none (fun v70_1 h2 =>
pcal Try.prog 60 72 h2 (fun v72_3 h4 =>
VL (lift2 (abin .lss) v72_3 (.int .i64 0)) fun v74_5 =>
pcond (
Rt h4 (.int .i64 (-1))) (
Rt h4 v72_3) v74_5) [v70_1, x1]) (.ptr 66 66)
theorem laws_szDesk_f {x0 x1 : V} : Prt Try.prog 28 [x0, x1] (laws_szDesk_F x0 x1) := pfun (fn := Try.f28) (m := [.s, .s, .s, .s, .s, .s]) (c := 2 ≤ 12) rfl (fun h0 Rt => by kernel_rfl) (by decide)

def spec_IsDesk_F (x0 : V) (hi : Hp) (Rt : Hp → V → Prop) : Prop :=
pbox hi 65 28 (cellsV x0) fun h0 =>
pld h0 (some 33) (fun v68_1 h2 =>
pcal Try.prog 64 69 h2 (fun v69_3 h4 =>
pgk true h4 (fun g5 k6 => k6 (.ptr 65 33) h4) (fun g7 v7_8 h9 =>
pgk true h9 (fun g10 k11 => pld h9 (some 33) (fun v72_12 h13 =>
k11 v72_12 h13) v7_8) (fun g14 v8_15 h16 =>
pgk true h16 (fun g17 k18 => pcal Try.prog 64 73 h16 (fun v73_19 h20 =>
k18 v73_19 h20) [v8_15]) (fun g21 v9_22 h23 =>
VL (vpick g21 v9_22 (.bool false)) fun v74_24 =>
pgk true h23 (fun g25 k26 => k26 (.ptr 65 66) h23) (fun g27 v12_28 h29 =>
pgk true h29 (fun g30 k31 => pld h29 none (fun v77_32 h33 =>
k31 v77_32 h33) v12_28) (fun g34 v13_35 h36 =>
pgk true h36 (fun g37 k38 => pcal Try.prog 65 78 h36 (fun v78_39 h40 =>
k38 v78_39 h40) [v13_35]) (fun g41 v14_42 h43 =>
VL (vpick g41 v14_42 (.bool false)) fun v79_44 =>
Rt h43 v79_44) g34) g27) v74_24) g14) g7) v69_3) [v68_1]) (.ptr 65 0)
theorem spec_IsDesk_f {x0 : V} : Prt Try.prog 29 [x0] (spec_IsDesk_F x0) := pfun (fn := Try.f29) (m := [.s, .s]) (c := 1 ≤ 16) rfl (fun h0 Rt => by kernel_rfl) (by decide)

def laws_toDesk_F (x0 : V) (hi : Hp) (Rt : Hp → V → Prop) : Prop :=
pbox hi 65 44 (cellsV x0) fun h0 =>
palloc h0 66 28 ([(.int .i64 0)] ++ (vi .u8 (List.replicate 32 0) ++ ([(.int .i64 0)] ++ (vi .u8 (List.replicate 32 0) ++ ([.nils]))))) fun h1 =>
palloc h1 67 28 ([(.int .i64 0)] ++ (vi .u8 (List.replicate 32 0) ++ ([(.int .i64 0)] ++ (vi .u8 (List.replicate 32 0) ++ ([.nils]))))) fun h2 =>
pld h2 (some 33) (fun v69_3 h4 =>
pcal Try.prog 33 70 h4 (fun v70_5 h6 =>
pst h6 33 (cellsV v70_5) (fun u7 h8 =>
pld h8 (some 33) (fun v73_9 h10 =>
pcal Try.prog 33 74 h10 (fun v74_11 h12 =>
pst h12 33 (cellsV v74_11) (fun u13 h14 =>
pld h14 none (fun v77_15 h16 =>
pcal Try.prog 34 78 h16 (fun v78_17 h18 =>
pst h18 1 (cellsV v78_17) (fun u19 h20 =>
pld h20 (some 67) (fun v80_21 h22 =>
pst h22 67 (cellsV v80_21) (fun u23 h24 =>
VL (pcellV h24 (some 67) (.ptr 66 0)) fun r25 =>
Rt h24 r25) (.ptr 66 0)) (.ptr 67 0)) (.ptr 67 66)) [v77_15]) (.ptr 65 66)) (.ptr 67 33)) [v73_9]) (.ptr 65 33)) (.ptr 67 0)) [v69_3]) (.ptr 65 0)
theorem laws_toDesk_f {x0 : V} : Prt Try.prog 30 [x0] (laws_toDesk_F x0) := pfun (fn := Try.f30) (m := [.s, .s, .s, .s, .s, .s]) (c := 1 ≤ 17) rfl (fun h0 Rt => by kernel_rfl) (by decide)

def impl_IsDesk_F (x0 : V) (hi : Hp) (Rt : Hp → V → Prop) : Prop :=
pbox hi 65 28 (cellsV x0) fun h0 =>
pld h0 (some 33) (fun v68_1 h2 =>
pcal Try.prog 66 69 h2 (fun v69_3 h4 =>
pgk true h4 (fun g5 k6 => k6 (.ptr 65 33) h4) (fun g7 v7_8 h9 =>
pgk true h9 (fun g10 k11 => pld h9 (some 33) (fun v72_12 h13 =>
k11 v72_12 h13) v7_8) (fun g14 v8_15 h16 =>
pgk true h16 (fun g17 k18 => pcal Try.prog 66 73 h16 (fun v73_19 h20 =>
k18 v73_19 h20) [v8_15]) (fun g21 v9_22 h23 =>
VL (vpick g21 v9_22 (.bool false)) fun v74_24 =>
pgk true h23 (fun g25 k26 => k26 (.ptr 65 66) h23) (fun g27 v12_28 h29 =>
pgk true h29 (fun g30 k31 => pld h29 none (fun v77_32 h33 =>
k31 v77_32 h33) v12_28) (fun g34 v13_35 h36 =>
pgk true h36 (fun g37 k38 => pcal Try.prog 67 78 h36 (fun v78_39 h40 =>
k38 v78_39 h40) [v13_35]) (fun g41 v14_42 h43 =>
VL (vpick g41 v14_42 (.bool false)) fun v79_44 =>
Rt h43 v79_44) g34) g27) v74_24) g14) g7) v69_3) [v68_1]) (.ptr 65 0)
theorem impl_IsDesk_f {x0 : V} : Prt Try.prog 31 [x0] (impl_IsDesk_F x0) := pfun (fn := Try.f31) (m := [.s, .s]) (c := 1 ≤ 16) rfl (fun h0 Rt => by kernel_rfl) (by decide)

def spec_CoverOf_F (x0 x1 x2 x3 : V) (hi : Hp) (Rt : Hp → V → Prop) : Prop :=
pbox hi 68 25 (cellsV x0) fun h0 =>
palloc h0 72 25 ([(.int .i64 0)] ++ (vi .u8 (List.replicate 32 0))) fun h1 =>
pld h1 (some 33) (fun v78_2 h3 =>
pcal Try.prog 68 82 h3 (fun v82_4 h5 =>
VL (lift2 (abin .neq) v82_4 (.int .i64 0)) fun v84_6 =>
pcond (
VL (vbld (vfill ([(.int .i64 0)] ++ (vi .u8 (List.replicate 32 0))) [])) fun v85_7 =>
pst h5 33 (cellsV v85_7) (fun u8 h9 =>
VL (pcellV h9 (some 33) (.ptr 72 0)) fun r10 =>
Rt h9 (.tup [r10, v82_4])) (.ptr 72 0)) (
pld h5 none (fun v88_11 h12 =>
VL (lift2 (abin .mul) v88_11 x1) fun v90_13 =>
VL (lift2 (abin .gtr) v90_13 (.int .i64 16)) fun v91_14 =>
pcond (
VL (vbld (vfill ([(.int .i64 0)] ++ (vi .u8 (List.replicate 32 0))) [])) fun v92_15 =>
pst h12 33 (cellsV v92_15) (fun u16 h17 =>
VL (pcellV h17 (some 33) (.ptr 72 0)) fun r18 =>
Rt h17 (.tup [r18, (.int .i64 3)])) (.ptr 72 0)) (
pld h12 none (fun v94_19 h20 =>
VL (lift2 (abin .mul) v94_19 x1) fun v96_21 =>
VL (vbld (vfill ([(.int .i64 0)] ++ (vi .u8 (List.replicate 32 0))) [(0, 1, v96_21)])) fun v97_22 =>
palloc h20 75 25 ([(.int .i64 0)] ++ (vi .u8 (List.replicate 32 0))) fun h23 =>
pst h23 33 (cellsV v97_22) (fun u24 h25 =>
LP [12] [1, 2, 3, 4, 8, 11] (fun w26 l27 h28 N29 =>
VL (vfa 0 (l27.getD 3 .und)) fun v99_30 =>
pld h28 none (fun v100_31 h32 =>
VL (lift2 (abin .lss) (w26.getD 0 .und) v100_31) fun v101_33 =>
pcond (
LP [13] [1, 2, 3, 4, 8, 11, 12] (fun w34 l35 h36 N37 =>
VL (lift2 (abin .lss) (w34.getD 0 .und) (l35.getD 0 .und)) fun v106_38 =>
pcond (
VL (lift2 (abin .mul) (l35.getD 0 .und) (l35.getD 6 .und)) fun v111_39 =>
VL (lift2 (abin .add) v111_39 (w34.getD 0 .und)) fun v113_40 =>
VL (vfa 1 (l35.getD 3 .und)) fun v116_41 =>
VL (vixA 16 1 v116_41 (l35.getD 6 .und)) fun v117_42 =>
pld h36 none (fun v118_43 h44 =>
VL (lift1 (acvi .i64) v118_43) fun v119_45 =>
VL (lift2 (abin .mul) (l35.getD 0 .und) v119_45) fun v120_46 =>
VL (vixS 1 (l35.getD 1 .und) (l35.getD 6 .und)) fun v124_47 =>
pld h44 none (fun v125_48 h49 =>
VL (lift2 (abin .add) (w34.getD 0 .und) v125_48) fun v126_50 =>
VL (lift2 (abin .rem) v126_50 (l35.getD 0 .und)) fun v128_51 =>
VL (lift2 (abin .add) v120_46 v128_51) fun v129_52 =>
VL (lift1 (acvi .u8) v129_52) fun v130_53 =>
VL (vfa 1 (l35.getD 5 .und)) fun v131_54 =>
VL (vixA 16 1 v131_54 v113_40) fun v132_55 =>
pst h49 1 (cellsV v130_53) (fun u56 h57 =>
VL (lift2 (abin .mul) (l35.getD 0 .und) (l35.getD 6 .und)) fun v135_58 =>
VL (lift2 (abin .add) v135_58 (w34.getD 0 .und)) fun v137_59 =>
VL (vfa 17 (l35.getD 3 .und)) fun v140_60 =>
VL (vixA 16 1 v140_60 (l35.getD 6 .und)) fun v141_61 =>
pld h57 none (fun v142_62 h63 =>
VL (lift1 (acvi .i64) v142_62) fun v143_64 =>
VL (lift2 (abin .mul) (l35.getD 0 .und) v143_64) fun v144_65 =>
VL (vixS 1 (l35.getD 2 .und) (l35.getD 6 .und)) fun v148_66 =>
pld h63 none (fun v149_67 h68 =>
VL (lift2 (abin .add) (w34.getD 0 .und) v149_67) fun v150_69 =>
VL (lift2 (abin .rem) v150_69 (l35.getD 0 .und)) fun v152_70 =>
VL (lift2 (abin .add) v144_65 v152_70) fun v153_71 =>
VL (lift1 (acvi .u8) v153_71) fun v154_72 =>
VL (vfa 17 (l35.getD 5 .und)) fun v155_73 =>
VL (vixA 16 1 v155_73 v137_59) fun v156_74 =>
pst h68 1 (cellsV v154_72) (fun u75 h76 =>
VL (lift2 (abin .add) (w34.getD 0 .und) (.int .i64 1)) fun v108_77 =>
N37 [v108_77] [(l35.getD 0 .und), (l35.getD 1 .und), (l35.getD 2 .und), (l35.getD 3 .und), (l35.getD 4 .und), (l35.getD 5 .und), (l35.getD 6 .und)] h76) v156_74) v148_66) v141_61) v132_55) v124_47) v117_42) (
VL (lift2 (abin .add) (l35.getD 6 .und) (.int .i64 1)) fun v103_78 =>
N29 [v103_78] [(l35.getD 0 .und), (l35.getD 1 .und), (l35.getD 2 .und), (l35.getD 3 .und), (l35.getD 4 .und), (l35.getD 5 .und)] h36) v106_38) [(.int .i64 0)] [(l27.getD 0 .und), (l27.getD 1 .und), (l27.getD 2 .und), (l27.getD 3 .und), (l27.getD 4 .und), (l27.getD 5 .und), (w26.getD 0 .und)] h32) (
pld h32 (some 33) (fun v157_79 h80 =>
pcal Try.prog 64 158 h80 (fun v158_81 h82 =>
VL (lift1 (aun .not) v158_81) fun v159_83 =>
pcond (
VL (vbld (vfill ([(.int .i64 0)] ++ (vi .u8 (List.replicate 32 0))) [])) fun v160_84 =>
pst h82 33 (cellsV v160_84) (fun u85 h86 =>
VL (pcellV h86 (some 33) (l27.getD 4 .und)) fun r87 =>
Rt h86 (.tup [r87, (.int .i64 5)])) (l27.getD 4 .und)) (
pld h82 (some 33) (fun v161_88 h89 =>
pst h89 33 (cellsV v161_88) (fun u90 h91 =>
VL (pcellV h91 (some 33) (l27.getD 4 .und)) fun r92 =>
Rt h91 (.tup [r92, (.int .i64 0)])) (l27.getD 4 .und)) (l27.getD 5 .und)) v159_83) [v157_79]) (l27.getD 5 .und)) v101_33) v99_30) [(.int .i64 0)] [x1, x2, x3, (.ptr 68 0), (.ptr 72 0), (.ptr 75 0)] h25) (.ptr 75 0)) (.ptr 68 0)) v91_14) (.ptr 68 0)) v84_6) [v78_2, x1, x2, x3]) (.ptr 68 0)
theorem spec_CoverOf_f {x0 x1 x2 x3 : V} : Prt Try.prog 32 [x0, x1, x2, x3] (spec_CoverOf_F x0 x1 x2 x3) := pfun (fn := Try.f32) (m := [.s, .s, .s, .s, .s, .s, .s, .s, .s, .s, .s, .l [12] [1, 2, 3, 4, 8, 11], .s, .s, .s, .s, .l [13] [1, 2, 3, 4, 8, 11, 12], .s, .s, .s, .s, .s, .s, .s, .s]) (c := 4 ≤ 98) rfl (fun h0 Rt => by kernel_rfl) (by decide)

def laws_toDessin_F (x0 : V) (hi : Hp) (Rt : Hp → V → Prop) : Prop :=
pbox hi 65 42 (cellsV x0) fun h0 =>
palloc h0 66 25 ([(.int .i64 0)] ++ (vi .u8 (List.replicate 32 0))) fun h1 =>
palloc h1 67 25 ([(.int .i64 0)] ++ (vi .u8 (List.replicate 32 0))) fun h2 =>
pld h2 none (fun v69_3 h4 =>
pst h4 1 (cellsV v69_3) (fun u5 h6 =>
pld h6 (some 16) (fun v72_7 h8 =>
pcal Try.prog 69 73 h8 (fun v73_9 h10 =>
pst h10 16 (cellsV v73_9) (fun u11 h12 =>
pld h12 (some 16) (fun v76_13 h14 =>
pcal Try.prog 69 77 h14 (fun v77_15 h16 =>
pst h16 16 (cellsV v77_15) (fun u17 h18 =>
pld h18 (some 33) (fun v79_19 h20 =>
pst h20 33 (cellsV v79_19) (fun u21 h22 =>
VL (pcellV h22 (some 33) (.ptr 66 0)) fun r23 =>
Rt h22 r23) (.ptr 66 0)) (.ptr 67 0)) (.ptr 67 17)) [v76_13]) (.ptr 65 17)) (.ptr 67 1)) [v72_7]) (.ptr 65 1)) (.ptr 67 0)) (.ptr 65 0)
theorem laws_toDessin_f {x0 : V} : Prt Try.prog 33 [x0] (laws_toDessin_F x0) := pfun (fn := Try.f33) (m := [.s, .s, .s, .s, .s, .s]) (c := 1 ≤ 16) rfl (fun h0 Rt => by kernel_rfl) (by decide)

def laws_toInt64S_F (x0 : V) (hi : Hp) (Rt : Hp → V → Prop) : Prop :=
VL (vlenS x0) fun v70_0 =>
pmk hi 71 2 8 [(.int .i64 0)] (fun v71_1 h2 =>
LP [4] [0, 3] (fun w3 l4 h5 N6 =>
VL (vlenS (l4.getD 0 .und)) fun v74_7 =>
VL (lift2 (abin .lss) (w3.getD 0 .und) v74_7) fun v75_8 =>
pcond (
VL (vixS 1 (l4.getD 0 .und) (w3.getD 0 .und)) fun v82_9 =>
pld h5 none (fun v83_10 h11 =>
VL (vixS 1 (l4.getD 1 .und) (w3.getD 0 .und)) fun v84_12 =>
pst h11 1 (cellsV v83_10) (fun u13 h14 =>
VL (lift2 (abin .add) (w3.getD 0 .und) (.int .i64 1)) fun v77_15 =>
N6 [v77_15] [(l4.getD 0 .und), (l4.getD 1 .und)] h14) v84_12) v82_9) (
Rt h5 (l4.getD 1 .und)) v75_8) [(.int .i64 0)] [x0, v71_1] h2) v70_0 v70_0
theorem laws_toInt64S_f {x0 : V} : Prt Try.prog 34 [x0] (laws_toInt64S_F x0) := pfun (fn := Try.f34) (m := [.s, .s, .s, .s, .l [4] [0, 3], .s, .s, .s, .s]) (c := 1 ≤ 22) rfl (fun h0 Rt => by kernel_rfl) (by decide)

def impl_CoverOf_F (x0 x1 x2 x3 : V) (hi : Hp) (Rt : Hp → V → Prop) : Prop :=
pbox hi 68 25 (cellsV x0) fun h0 =>
palloc h0 72 25 ([(.int .i64 0)] ++ (vi .u8 (List.replicate 32 0))) fun h1 =>
pld h1 (some 33) (fun v78_2 h3 =>
pcal Try.prog 70 82 h3 (fun v82_4 h5 =>
VL (lift2 (abin .neq) v82_4 (.int .i64 0)) fun v84_6 =>
pcond (
VL (vbld (vfill ([(.int .i64 0)] ++ (vi .u8 (List.replicate 32 0))) [])) fun v85_7 =>
pst h5 33 (cellsV v85_7) (fun u8 h9 =>
VL (pcellV h9 (some 33) (.ptr 72 0)) fun r10 =>
Rt h9 (.tup [r10, v82_4])) (.ptr 72 0)) (
pld h5 none (fun v88_11 h12 =>
VL (lift2 (abin .mul) v88_11 x1) fun v90_13 =>
VL (lift2 (abin .gtr) v90_13 (.int .i64 16)) fun v91_14 =>
pcond (
VL (vbld (vfill ([(.int .i64 0)] ++ (vi .u8 (List.replicate 32 0))) [])) fun v92_15 =>
pst h12 33 (cellsV v92_15) (fun u16 h17 =>
VL (pcellV h17 (some 33) (.ptr 72 0)) fun r18 =>
Rt h17 (.tup [r18, (.int .i64 3)])) (.ptr 72 0)) (
pld h12 none (fun v94_19 h20 =>
VL (lift2 (abin .mul) v94_19 x1) fun v96_21 =>
VL (vbld (vfill ([(.int .i64 0)] ++ (vi .u8 (List.replicate 32 0))) [(0, 1, v96_21)])) fun v97_22 =>
palloc h20 75 25 ([(.int .i64 0)] ++ (vi .u8 (List.replicate 32 0))) fun h23 =>
pst h23 33 (cellsV v97_22) (fun u24 h25 =>
pld h25 none (fun v99_26 h27 =>
LP [36] [1, 2, 3, 4, 8, 11, 35] (fun w28 l29 h30 N31 =>
VL (lift2 (abin .lss) (w28.getD 0 .und) (l29.getD 6 .und)) fun v101_32 =>
pcond (
LP [40] [1, 2, 3, 4, 8, 11, 12, 35, 36, 39] (fun w33 l34 h35 N36 =>
VL (lift2 (abin .lss) (w33.getD 0 .und) (l34.getD 9 .und)) fun v105_37 =>
pcond (
VL (lift2 (abin .mul) (l34.getD 0 .und) (l34.getD 6 .und)) fun v109_38 =>
VL (lift2 (abin .add) v109_38 (w33.getD 0 .und)) fun v111_39 =>
VL (vfa 1 (l34.getD 3 .und)) fun v114_40 =>
VL (vixA 16 1 v114_40 (l34.getD 6 .und)) fun v115_41 =>
pld h35 none (fun v116_42 h43 =>
VL (lift1 (acvi .i64) v116_42) fun v117_44 =>
VL (lift2 (abin .mul) (l34.getD 0 .und) v117_44) fun v118_45 =>
VL (vixS 1 (l34.getD 1 .und) (l34.getD 6 .und)) fun v122_46 =>
pld h43 none (fun v123_47 h48 =>
VL (lift2 (abin .add) (w33.getD 0 .und) v123_47) fun v124_49 =>
VL (lift2 (abin .rem) v124_49 (l34.getD 0 .und)) fun v126_50 =>
VL (lift2 (abin .add) v118_45 v126_50) fun v127_51 =>
VL (lift1 (acvi .u8) v127_51) fun v128_52 =>
VL (vfa 1 (l34.getD 5 .und)) fun v129_53 =>
VL (vixA 16 1 v129_53 v111_39) fun v130_54 =>
pst h48 1 (cellsV v128_52) (fun u55 h56 =>
VL (lift2 (abin .mul) (l34.getD 0 .und) (l34.getD 6 .und)) fun v133_57 =>
VL (lift2 (abin .add) v133_57 (w33.getD 0 .und)) fun v135_58 =>
VL (vfa 17 (l34.getD 3 .und)) fun v138_59 =>
VL (vixA 16 1 v138_59 (l34.getD 6 .und)) fun v139_60 =>
pld h56 none (fun v140_61 h62 =>
VL (lift1 (acvi .i64) v140_61) fun v141_63 =>
VL (lift2 (abin .mul) (l34.getD 0 .und) v141_63) fun v142_64 =>
VL (vixS 1 (l34.getD 2 .und) (l34.getD 6 .und)) fun v146_65 =>
pld h62 none (fun v147_66 h67 =>
VL (lift2 (abin .add) (w33.getD 0 .und) v147_66) fun v148_68 =>
VL (lift2 (abin .rem) v148_68 (l34.getD 0 .und)) fun v150_69 =>
VL (lift2 (abin .add) v142_64 v150_69) fun v151_70 =>
VL (lift1 (acvi .u8) v151_70) fun v152_71 =>
VL (vfa 17 (l34.getD 5 .und)) fun v153_72 =>
VL (vixA 16 1 v153_72 v135_58) fun v154_73 =>
pst h67 1 (cellsV v152_71) (fun u74 h75 =>
VL (lift2 (abin .add) (w33.getD 0 .und) (.int .i64 1)) fun v155_76 =>
N36 [v155_76] [(l34.getD 0 .und), (l34.getD 1 .und), (l34.getD 2 .und), (l34.getD 3 .und), (l34.getD 4 .und), (l34.getD 5 .und), (l34.getD 6 .und), (l34.getD 7 .und), (l34.getD 8 .und), (l34.getD 9 .und)] h75) v154_73) v146_65) v139_60) v130_54) v122_46) v115_41) (
VL (lift2 (abin .add) (l34.getD 8 .und) (.int .i64 1)) fun v156_77 =>
N31 [v156_77] [(l34.getD 0 .und), (l34.getD 1 .und), (l34.getD 2 .und), (l34.getD 3 .und), (l34.getD 4 .und), (l34.getD 5 .und), (l34.getD 7 .und)] h35) v105_37) [(.int .i64 0)] [(l29.getD 0 .und), (l29.getD 1 .und), (l29.getD 2 .und), (l29.getD 3 .und), (l29.getD 4 .und), (l29.getD 5 .und), (w28.getD 0 .und), (l29.getD 6 .und), (w28.getD 0 .und), (l29.getD 0 .und)] h30) (
pld h30 (some 33) (fun v157_78 h79 =>
pcal Try.prog 66 158 h79 (fun v158_80 h81 =>
VL (lift1 (aun .not) v158_80) fun v159_82 =>
pcond (
VL (vbld (vfill ([(.int .i64 0)] ++ (vi .u8 (List.replicate 32 0))) [])) fun v160_83 =>
pst h81 33 (cellsV v160_83) (fun u84 h85 =>
VL (pcellV h85 (some 33) (l29.getD 4 .und)) fun r86 =>
Rt h85 (.tup [r86, (.int .i64 5)])) (l29.getD 4 .und)) (
pld h81 (some 33) (fun v161_87 h88 =>
pst h88 33 (cellsV v161_87) (fun u89 h90 =>
VL (pcellV h90 (some 33) (l29.getD 4 .und)) fun r91 =>
Rt h90 (.tup [r91, (.int .i64 0)])) (l29.getD 4 .und)) (l29.getD 5 .und)) v159_82) [v157_78]) (l29.getD 5 .und)) v101_32) [(.int .i64 0)] [x1, x2, x3, (.ptr 68 0), (.ptr 72 0), (.ptr 75 0), v99_26] h27) (.ptr 68 0)) (.ptr 75 0)) (.ptr 68 0)) v91_14) (.ptr 68 0)) v84_6) [v78_2, x1, x2, x3]) (.ptr 68 0)
theorem impl_CoverOf_f {x0 x1 x2 x3 : V} : Prt Try.prog 35 [x0, x1, x2, x3] (impl_CoverOf_F x0 x1 x2 x3) := pfun (fn := Try.f35) (m := [.s, .s, .s, .s, .s, .s, .s, .s, .s, .s, .s, .l [36] [1, 2, 3, 4, 8, 11, 35], .s, .s, .s, .s, .s, .l [40] [1, 2, 3, 4, 8, 11, 12, 35, 36, 39], .s, .s, .s, .s, .s, .s, .s, .s, .s]) (c := 4 ≤ 98) rfl (fun h0 Rt => by kernel_rfl) (by decide)

def laws_eqInt64S_F (x0 x1 : V) (hi : Hp) (Rt : Hp → V → Prop) : Prop :=
VL (vlenS x0) fun v71_0 =>
VL (vlenS x1) fun v73_1 =>
VL (lift2 (abin .neq) v71_0 v73_1) fun v74_2 =>
pcond (
Rt hi (.bool false)) (
LP [5] [0, 1] (fun w3 l4 h5 N6 =>
VL (vlenS (l4.getD 0 .und)) fun v77_7 =>
VL (lift2 (abin .lss) (w3.getD 0 .und) v77_7) fun v78_8 =>
pcond (
VL (vixS 1 (l4.getD 0 .und) (w3.getD 0 .und)) fun v83_9 =>
pld h5 none (fun v84_10 h11 =>
VL (vixS 1 (l4.getD 1 .und) (w3.getD 0 .und)) fun v87_12 =>
pld h11 none (fun v88_13 h14 =>
VL (lift2 (abin .neq) v84_10 v88_13) fun v89_15 =>
pcond (
Rt h14 (.bool false)) (
VL (lift2 (abin .add) (w3.getD 0 .und) (.int .i64 1)) fun v80_16 =>
N6 [v80_16] [(l4.getD 0 .und), (l4.getD 1 .und)] h14) v89_15) v87_12) v83_9) (
Rt h5 (.bool true)) v78_8) [(.int .i64 0)] [x0, x1] hi) v74_2
theorem laws_eqInt64S_f {x0 x1 : V} : Prt Try.prog 36 [x0, x1] (laws_eqInt64S_F x0 x1) := pfun (fn := Try.f36) (m := [.s, .s, .s, .s, .s, .s, .l [5] [0, 1], .s, .s, .s, .s, .s, .s]) (c := 2 ≤ 26) rfl (fun h0 Rt => by kernel_rfl) (by decide)

def spec_IsCycle_F (x0 x1 : V) (hi : Hp) (Rt : Hp → V → Prop) : Prop :=
pbox hi 66 25 (cellsV x0) fun h0 =>
pld h0 (some 33) (fun v71_1 h2 =>
pcal Try.prog 64 72 h2 (fun v72_3 h4 =>
VL (lift1 (aun .not) v72_3) fun v73_5 =>
pcond (
Rt h4 (.tup [(.bool false), (.int .i64 1)])) (
pld h4 (some 33) (fun v75_6 h7 =>
pcal Try.prog 71 77 h7 (fun v77_8 h9 =>
VL (lift1 (aun .not) v77_8) fun v78_10 =>
pcond (
Rt h9 (.tup [(.bool false), (.int .i64 2)])) (
pld h9 (some 33) (fun v79_11 h12 =>
pcal Try.prog 72 81 h12 (fun v81_13 h14 =>
Rt h14 (.tup [v81_13, (.int .i64 0)])) [v79_11, x1]) (.ptr 66 0)) v78_10) [v75_6, x1]) (.ptr 66 0)) v73_5) [v71_1]) (.ptr 66 0)
theorem spec_IsCycle_f {x0 x1 : V} : Prt Try.prog 37 [x0, x1] (spec_IsCycle_F x0 x1) := pfun (fn := Try.f37) (m := [.s, .s, .s, .s, .s, .s, .s]) (c := 2 ≤ 18) rfl (fun h0 Rt => by kernel_rfl) (by decide)

def impl_IsCycle_F (x0 x1 : V) (hi : Hp) (Rt : Hp → V → Prop) : Prop :=
pbox hi 66 25 (cellsV x0) fun h0 =>
pld h0 (some 33) (fun v71_1 h2 =>
pcal Try.prog 66 72 h2 (fun v72_3 h4 =>
VL (lift1 (aun .not) v72_3) fun v73_5 =>
pcond (
Rt h4 (.tup [(.bool false), (.int .i64 1)])) (
pld h4 (some 33) (fun v75_6 h7 =>
pcal Try.prog 73 77 h7 (fun v77_8 h9 =>
VL (lift1 (aun .not) v77_8) fun v78_10 =>
pcond (
Rt h9 (.tup [(.bool false), (.int .i64 2)])) (
pld h9 (some 33) (fun v79_11 h12 =>
pcal Try.prog 74 81 h12 (fun v81_13 h14 =>
Rt h14 (.tup [v81_13, (.int .i64 0)])) [v79_11, x1]) (.ptr 66 0)) v78_10) [v75_6, x1]) (.ptr 66 0)) v73_5) [v71_1]) (.ptr 66 0)
theorem impl_IsCycle_f {x0 x1 : V} : Prt Try.prog 38 [x0, x1] (impl_IsCycle_F x0 x1) := pfun (fn := Try.f38) (m := [.s, .s, .s, .s, .s, .s, .s]) (c := 2 ≤ 18) rfl (fun h0 Rt => by kernel_rfl) (by decide)

def spec_TableOfDessin_F (x0 x1 : V) (hi : Hp) (Rt : Hp → V → Prop) : Prop :=
pbox hi 66 25 (cellsV x0) fun h0 =>
pld h0 (some 33) (fun v74_1 h2 =>
pcal Try.prog 64 75 h2 (fun v75_3 h4 =>
VL (lift1 (aun .not) v75_3) fun v76_5 =>
pcond (
Rt h4 (.tup [.nils, (.int .i64 1)])) (
pld h4 none (fun v80_6 h7 =>
VL (lift2 (abin .sub) v80_6 (.int .i64 1)) fun v81_8 =>
pcal Try.prog 75 82 h7 (fun v82_9 h10 =>
VL (lift1 (aun .not) v82_9) fun v83_11 =>
pcond (
Rt h10 (.tup [.nils, (.int .i64 2)])) (
pld h10 (some 33) (fun v84_12 h13 =>
pld h13 (some 33) (fun v85_14 h15 =>
pcalp Try.prog 77 87 h15 (fun v87_16 h17 =>
pcalp Try.prog 76 88 h17 (fun v88_18 h19 =>
palloc h19 70 25 ([(.int .i64 0)] ++ (vi .u8 (List.replicate 32 0))) fun h20 =>
pst h20 33 (cellsV v88_18) (fun u21 h22 =>
pmks h22 89 26 0 0 (fun h23 =>
LP [7, 8] [2, 6] (fun w24 l25 h26 N27 =>
VL (vfa 0 (l25.getD 0 .und)) fun v91_28 =>
pld h26 none (fun v92_29 h30 =>
VL (lift2 (abin .lss) (w24.getD 1 .und) v92_29) fun v93_31 =>
pcond (
VL (vfa 1 (l25.getD 1 .und)) fun v98_32 =>
VL (vixA 16 1 v98_32 (w24.getD 1 .und)) fun v99_33 =>
pld h30 none (fun v100_34 h35 =>
VL (lift1 (acvi .i64) v100_34) fun v101_36 =>
VL (vfa 17 (l25.getD 1 .und)) fun v103_37 =>
VL (vixA 16 1 v103_37 (w24.getD 1 .und)) fun v104_38 =>
pld h35 none (fun v105_39 h40 =>
VL (lift1 (acvi .i64) v105_39) fun v106_41 =>
pmks h40 107 2 2 2 (fun h42 =>
pmks h42 108 26 1 1 (fun h43 =>
papp h43 (fun m46 s47 => papV 26 1 24 109 h43 (fun v109_44 h45 =>
VL (lift2 (abin .add) (w24.getD 1 .und) (.int .i64 1)) fun v95_48 =>
N27 [v109_44, v95_48] [(l25.getD 0 .und), (l25.getD 1 .und)] h45) m46 s47 (w24.getD 0 .und)) (pavs h43 (w24.getD 0 .und) []) (preadS 1 h43 (.rf 108 0 1))) (vfill [.nils] [(0, 1, (.rf 107 0 2))])) (vfill [(.int .i64 0), (.int .i64 0)] [(0, 1, v101_36), (1, 1, v106_41)])) v104_38) v99_33) (
Rt h30 (.tup [(w24.getD 0 .und), (.int .i64 0)])) v93_31) v91_28) [(.rf 89 0 0), (.int .i64 0)] [(.ptr 66 0), (.ptr 70 0)] h23) (vfill [] [])) (.ptr 70 0)) [v84_12, v87_16]) [v85_14, x1]) (.ptr 66 0)) (.ptr 66 0)) v83_11) [x1, (.int .i64 0), v81_8]) (.ptr 66 0)) v76_5) [v74_1]) (.ptr 66 0)
theorem spec_TableOfDessin_f {x0 x1 : V} : Prt Try.prog 39 [x0, x1] (spec_TableOfDessin_F x0 x1) := pfun (fn := Try.f39) (m := [.s, .s, .s, .s, .s, .s, .s, .s, .s, .l [7, 8] [2, 6], .s, .s, .s, .s]) (c := 2 ≤ 47) rfl (fun h0 Rt => by kernel_rfl) (by decide)

def impl_TableOfDessin_F (x0 x1 : V) (hi : Hp) (Rt : Hp → V → Prop) : Prop :=
pbox hi 66 25 (cellsV x0) fun h0 =>
pld h0 (some 33) (fun v74_1 h2 =>
pcal Try.prog 66 75 h2 (fun v75_3 h4 =>
VL (lift1 (aun .not) v75_3) fun v76_5 =>
pcond (
Rt h4 (.tup [.nils, (.int .i64 1)])) (
pld h4 (some 33) (fun v78_6 h7 =>
pmks h7 80 2 1 1 (fun h8 =>
pcal Try.prog 78 81 h8 (fun v81_9 h10 =>
VL (lift1 (aun .not) v81_9) fun v82_11 =>
pcond (
Rt h10 (.tup [.nils, (.int .i64 2)])) (
pld h10 (some 33) (fun v83_12 h13 =>
pld h13 (some 33) (fun v84_14 h15 =>
pcalp Try.prog 80 86 h15 (fun v86_16 h17 =>
pcalp Try.prog 79 87 h17 (fun v87_18 h19 =>
palloc h19 70 25 ([(.int .i64 0)] ++ (vi .u8 (List.replicate 32 0))) fun h20 =>
pst h20 33 (cellsV v87_18) (fun u21 h22 =>
pmks h22 88 26 0 0 (fun h23 =>
pld h23 none (fun v90_24 h25 =>
LP [7, 27] [6, 26] (fun w26 l27 h28 N29 =>
VL (lift2 (abin .lss) (w26.getD 1 .und) (l27.getD 1 .und)) fun v92_30 =>
pcond (
VL (vfa 1 (l27.getD 0 .und)) fun v96_31 =>
VL (vixA 16 1 v96_31 (w26.getD 1 .und)) fun v97_32 =>
pld h28 none (fun v98_33 h34 =>
VL (lift1 (acvi .i64) v98_33) fun v99_35 =>
VL (vfa 17 (l27.getD 0 .und)) fun v101_36 =>
VL (vixA 16 1 v101_36 (w26.getD 1 .und)) fun v102_37 =>
pld h34 none (fun v103_38 h39 =>
VL (lift1 (acvi .i64) v103_38) fun v104_40 =>
pmks h39 105 2 2 2 (fun h41 =>
pmks h41 106 26 1 1 (fun h42 =>
papp h42 (fun m45 s46 => papV 26 1 24 107 h42 (fun v107_43 h44 =>
VL (lift2 (abin .add) (w26.getD 1 .und) (.int .i64 1)) fun v108_47 =>
N29 [v107_43, v108_47] [(l27.getD 0 .und), (l27.getD 1 .und)] h44) m45 s46 (w26.getD 0 .und)) (pavs h42 (w26.getD 0 .und) []) (preadS 1 h42 (.rf 106 0 1))) (vfill [.nils] [(0, 1, (.rf 105 0 2))])) (vfill [(.int .i64 0), (.int .i64 0)] [(0, 1, v99_35), (1, 1, v104_40)])) v102_37) v97_32) (
Rt h28 (.tup [(w26.getD 0 .und), (.int .i64 0)])) v92_30) [(.rf 88 0 0), (.int .i64 0)] [(.ptr 70 0), v90_24] h25) (.ptr 70 0)) (vfill [] [])) (.ptr 70 0)) [v83_12, v86_16]) [v84_14, x1]) (.ptr 66 0)) (.ptr 66 0)) v82_11) [v78_6, (.rf 80 0 1)]) (vfill [(.int .i64 0)] [(0, 1, x1)])) (.ptr 66 0)) v76_5) [v74_1]) (.ptr 66 0)
theorem impl_TableOfDessin_f {x0 x1 : V} : Prt Try.prog 40 [x0, x1] (impl_TableOfDessin_F x0 x1) := pfun (fn := Try.f40) (m := [.s, .s, .s, .s, .s, .s, .s, .s, .s, .s, .l [7, 27] [6, 26], .s, .s, .s, .s, .s]) (c := 2 ≤ 46) rfl (fun h0 Rt => by kernel_rfl) (by decide)

def laws_markInt64SS_F (x0 x1 : V) (hi : Hp) (Rt : Hp → V → Prop) : Prop :=
LP [1, 5] [0] (fun w0 l1 h2 N3 =>
VL (vlenS (l1.getD 0 .und)) fun v72_4 =>
VL (lift2 (abin .lss) (w0.getD 1 .und) v72_4) fun v73_5 =>
pcond (
VL (vixS 1 (l1.getD 0 .und) (w0.getD 1 .und)) fun v78_6 =>
pld h2 none (fun v79_7 h8 =>
pcal Try.prog 52 81 h8 (fun v81_9 h10 =>
VL (lift2 (abin .add) (w0.getD 1 .und) (.int .i64 1)) fun v75_11 =>
N3 [v81_9, v75_11] [(l1.getD 0 .und)] h10) [v79_7, (w0.getD 0 .und)]) v78_6) (
Rt h2 (w0.getD 0 .und)) v73_5) [x1, (.int .i64 0)] [x0] hi
theorem laws_markInt64SS_f {x0 x1 : V} : Prt Try.prog 41 [x0, x1] (laws_markInt64SS_F x0 x1) := pfun (fn := Try.f41) (m := [.s, .s, .s, .l [1, 5] [0], .s, .s, .s, .s]) (c := 2 ≤ 19) rfl (fun h0 Rt => by kernel_rfl) (by decide)

def laws_heldInt64SS_F (x0 x1 : V) (hi : Hp) (Rt : Hp → V → Prop) : Prop :=
LP [1, 5] [0] (fun w0 l1 h2 N3 =>
VL (vlenS (l1.getD 0 .und)) fun v72_4 =>
VL (lift2 (abin .lss) (w0.getD 1 .und) v72_4) fun v73_5 =>
pcond (
VL (vixS 1 (l1.getD 0 .und) (w0.getD 1 .und)) fun v78_6 =>
pld h2 none (fun v79_7 h8 =>
pcal Try.prog 53 81 h8 (fun v81_9 h10 =>
VL (lift2 (abin .lss) v81_9 (.int .i64 0)) fun v83_11 =>
pcond (
Rt h10 (.int .i64 (-1))) (
VL (lift2 (abin .add) (w0.getD 1 .und) (.int .i64 1)) fun v75_12 =>
N3 [v81_9, v75_12] [(l1.getD 0 .und)] h10) v83_11) [v79_7, (w0.getD 0 .und)]) v78_6) (
Rt h2 (w0.getD 0 .und)) v73_5) [x1, (.int .i64 0)] [x0] hi
theorem laws_heldInt64SS_f {x0 x1 : V} : Prt Try.prog 42 [x0, x1] (laws_heldInt64SS_F x0 x1) := pfun (fn := Try.f42) (m := [.s, .s, .s, .l [1, 5] [0], .s, .s, .s, .s, .s, .s, .s]) (c := 2 ≤ 21) rfl (fun h0 Rt => by kernel_rfl) (by decide)

def spec_BoundariesOf_F (x0 : V) (hi : Hp) (Rt : Hp → V → Prop) : Prop :=
pbox hi 65 25 (cellsV x0) fun h0 =>
pld h0 (some 33) (fun v74_1 h2 =>
pcal Try.prog 64 75 h2 (fun v75_3 h4 =>
VL (lift1 (aun .not) v75_3) fun v76_5 =>
pcond (
Rt h4 (.tup [.nils, (.int .i64 1)])) (
pld h4 (some 33) (fun v78_6 h7 =>
pld h7 none (fun v81_8 h9 =>
pcalp Try.prog 82 79 h9 (fun v79_10 h11 =>
pcalp Try.prog 81 82 h11 (fun v82_12 h13 =>
pmks h13 77 26 0 0 (fun h14 =>
LP [4, 6] [1, 5] (fun w15 l16 h17 N18 =>
VL (vlenS (l16.getD 1 .und)) fun v85_19 =>
VL (lift2 (abin .lss) (w15.getD 1 .und) v85_19) fun v86_20 =>
pcond (
VL (vfa 0 (l16.getD 0 .und)) fun v89_21 =>
pld h17 none (fun v90_22 h23 =>
pmk h23 91 2 8 [(.int .i64 0)] (fun v91_24 h25 =>
LP [8] [1, 4, 5, 6, 7] (fun w26 l27 h28 N29 =>
VL (vixS 1 (l27.getD 2 .und) (l27.getD 3 .und)) fun v95_30 =>
pld h28 none (fun v96_31 h32 =>
VL (vlenS v96_31) fun v97_33 =>
VL (lift2 (abin .lss) (w26.getD 0 .und) v97_33) fun v98_34 =>
pcond (
VL (vixS 1 (l27.getD 2 .und) (l27.getD 3 .und)) fun v103_35 =>
pld h32 none (fun v104_36 h37 =>
VL (vixS 1 v104_36 (w26.getD 0 .und)) fun v106_38 =>
pld h37 none (fun v107_39 h40 =>
VL (vfa 1 (l27.getD 0 .und)) fun v110_41 =>
VL (vixA 16 1 v110_41 v107_39) fun v111_42 =>
pld h40 none (fun v112_43 h44 =>
VL (vixS 1 (l27.getD 4 .und) v112_43) fun v113_45 =>
pld h44 none (fun v114_46 h47 =>
VL (lift2 (abin .add) v114_46 (.int .i64 1)) fun v115_48 =>
VL (vixS 1 (l27.getD 4 .und) v112_43) fun v116_49 =>
pst h47 1 (cellsV v115_48) (fun u50 h51 =>
VL (vixS 1 (l27.getD 4 .und) v107_39) fun v119_52 =>
pld h51 none (fun v120_53 h54 =>
VL (lift2 (abin .sub) v120_53 (.int .i64 1)) fun v121_55 =>
VL (vixS 1 (l27.getD 4 .und) v107_39) fun v122_56 =>
pst h54 1 (cellsV v121_55) (fun u57 h58 =>
VL (lift2 (abin .add) (w26.getD 0 .und) (.int .i64 1)) fun v100_59 =>
N29 [v100_59] [(l27.getD 0 .und), (l27.getD 1 .und), (l27.getD 2 .und), (l27.getD 3 .und), (l27.getD 4 .und)] h58) v122_56) v119_52) v116_49) v113_45) v111_42) v106_38) v103_35) (
pmks h32 125 26 1 1 (fun h60 =>
papp h60 (fun m63 s64 => papV 26 1 24 126 h60 (fun v126_61 h62 =>
VL (lift2 (abin .add) (l27.getD 3 .und) (.int .i64 1)) fun v88_65 =>
N18 [v126_61, v88_65] [(l27.getD 0 .und), (l27.getD 2 .und)] h62) m63 s64 (l27.getD 1 .und)) (pavs h60 (l27.getD 1 .und) []) (preadS 1 h60 (.rf 125 0 1))) (vfill [.nils] [(0, 1, (l27.getD 4 .und))])) v98_34) v95_30) [(.int .i64 0)] [(l16.getD 0 .und), (w15.getD 0 .und), (l16.getD 1 .und), (w15.getD 1 .und), v91_24] h25) v90_22 v90_22) v89_21) (
Rt h17 (.tup [(w15.getD 0 .und), (.int .i64 0)])) v86_20) [(.rf 77 0 0), (.int .i64 0)] [(.ptr 65 0), v82_12] h14) (vfill [] [])) [v79_10, v81_8]) [v78_6]) (.ptr 65 0)) (.ptr 65 0)) v76_5) [v74_1]) (.ptr 65 0)
theorem spec_BoundariesOf_f {x0 : V} : Prt Try.prog 43 [x0] (spec_BoundariesOf_F x0) := pfun (fn := Try.f43) (m := [.s, .s, .s, .s, .s, .s, .s, .l [4, 6] [1, 5], .s, .s, .s, .s, .s, .s, .l [8] [1, 4, 5, 6, 7], .s, .s, .s, .s, .s, .s]) (c := 1 ≤ 64) rfl (fun h0 Rt => by kernel_rfl) (by decide)

def impl_BoundariesOf_F (x0 : V) (hi : Hp) (Rt : Hp → V → Prop) : Prop :=
pbox hi 65 25 (cellsV x0) fun h0 =>
pld h0 (some 33) (fun v74_1 h2 =>
pcal Try.prog 66 75 h2 (fun v75_3 h4 =>
VL (lift1 (aun .not) v75_3) fun v76_5 =>
pcond (
Rt h4 (.tup [.nils, (.int .i64 1)])) (
pmks h4 77 26 0 0 (fun h6 =>
pld h6 (some 33) (fun v78_7 h8 =>
pld h8 none (fun v81_9 h10 =>
pcalp Try.prog 84 79 h10 (fun v79_11 h12 =>
pcal Try.prog 83 82 h12 (fun v82_13 h14 =>
VL (vlenS v82_13) fun v83_15 =>
LP [4, 20] [1, 18, 19] (fun w16 l17 h18 N19 =>
VL (lift2 (abin .lss) (w16.getD 1 .und) (l17.getD 2 .und)) fun v85_20 =>
pcond (
VL (vixS 1 (l17.getD 1 .und) (w16.getD 1 .und)) fun v86_21 =>
pld h18 none (fun v87_22 h23 =>
VL (vfa 0 (l17.getD 0 .und)) fun v88_24 =>
pld h23 none (fun v89_25 h26 =>
pmk h26 90 2 8 [(.int .i64 0)] (fun v90_27 h28 =>
VL (vlenS v87_22) fun v92_29 =>
LP [29] [1, 4, 7, 18, 19, 20, 27, 28] (fun w30 l31 h32 N33 =>
VL (lift2 (abin .lss) (w30.getD 0 .und) (l31.getD 7 .und)) fun v94_34 =>
pcond (
VL (vixS 1 (l31.getD 6 .und) (w30.getD 0 .und)) fun v95_35 =>
pld h32 none (fun v96_36 h37 =>
VL (vfa 1 (l31.getD 0 .und)) fun v99_38 =>
VL (vixA 16 1 v99_38 v96_36) fun v100_39 =>
pld h37 none (fun v101_40 h41 =>
VL (vixS 1 (l31.getD 2 .und) v101_40) fun v102_42 =>
pld h41 none (fun v103_43 h44 =>
VL (lift2 (abin .add) v103_43 (.int .i64 1)) fun v104_45 =>
VL (vixS 1 (l31.getD 2 .und) v101_40) fun v105_46 =>
pst h44 1 (cellsV v104_45) (fun u47 h48 =>
VL (vixS 1 (l31.getD 2 .und) v96_36) fun v108_49 =>
pld h48 none (fun v109_50 h51 =>
VL (lift2 (abin .sub) v109_50 (.int .i64 1)) fun v110_52 =>
VL (vixS 1 (l31.getD 2 .und) v96_36) fun v111_53 =>
pst h51 1 (cellsV v110_52) (fun u54 h55 =>
VL (lift2 (abin .add) (w30.getD 0 .und) (.int .i64 1)) fun v112_56 =>
N33 [v112_56] [(l31.getD 0 .und), (l31.getD 1 .und), (l31.getD 2 .und), (l31.getD 3 .und), (l31.getD 4 .und), (l31.getD 5 .und), (l31.getD 6 .und), (l31.getD 7 .und)] h55) v111_53) v108_49) v105_46) v102_42) v100_39) v95_35) (
pmks h32 115 26 1 1 (fun h57 =>
papp h57 (fun m60 s61 => papV 26 1 24 116 h57 (fun v116_58 h59 =>
VL (lift2 (abin .add) (l31.getD 5 .und) (.int .i64 1)) fun v117_62 =>
N19 [v116_58, v117_62] [(l31.getD 0 .und), (l31.getD 3 .und), (l31.getD 4 .und)] h59) m60 s61 (l31.getD 1 .und)) (pavs h57 (l31.getD 1 .und) []) (preadS 1 h57 (.rf 115 0 1))) (vfill [.nils] [(0, 1, (l31.getD 2 .und))])) v94_34) [(.int .i64 0)] [(l17.getD 0 .und), (w16.getD 0 .und), v90_27, (l17.getD 1 .und), (l17.getD 2 .und), (w16.getD 1 .und), v87_22, v92_29] h28) v89_25 v89_25) v88_24) v86_21) (
Rt h18 (.tup [(w16.getD 0 .und), (.int .i64 0)])) v85_20) [(.rf 77 0 0), (.int .i64 0)] [(.ptr 65 0), v82_13, v83_15] h14) [v79_11, v81_9]) [v78_7]) (.ptr 65 0)) (.ptr 65 0)) (vfill [] [])) v76_5) [v74_1]) (.ptr 65 0)
theorem impl_BoundariesOf_f {x0 : V} : Prt Try.prog 44 [x0] (impl_BoundariesOf_F x0) := pfun (fn := Try.f44) (m := [.s, .s, .s, .s, .s, .s, .s, .l [4, 20] [1, 18, 19], .s, .s, .s, .s, .s, .s, .s, .l [29] [1, 4, 7, 18, 19, 20, 27, 28], .s, .s, .s, .s, .s, .s]) (c := 1 ≤ 55) rfl (fun h0 Rt => by kernel_rfl) (by decide)

def spec_StabiliserWords_F (x0 : V) (hi : Hp) (Rt : Hp → V → Prop) : Prop :=
pbox hi 65 25 (cellsV x0) fun h0 =>
pld h0 (some 33) (fun v68_1 h2 =>
pcal Try.prog 64 69 h2 (fun v69_3 h4 =>
VL (lift1 (aun .not) v69_3) fun v70_5 =>
pcond (
Rt h4 (.tup [.nils, (.int .i64 1)])) (
pld h4 (some 33) (fun v71_6 h7 =>
pcal Try.prog 85 72 h7 (fun v72_8 h9 =>
Rt h9 (.tup [v72_8, (.int .i64 0)])) [v71_6]) (.ptr 65 0)) v70_5) [v68_1]) (.ptr 65 0)
theorem spec_StabiliserWords_f {x0 : V} : Prt Try.prog 45 [x0] (spec_StabiliserWords_F x0) := pfun (fn := Try.f45) (m := [.s, .s, .s, .s, .s]) (c := 1 ≤ 9) rfl (fun h0 Rt => by kernel_rfl) (by decide)

def impl_StabiliserWords_F (x0 : V) (hi : Hp) (Rt : Hp → V → Prop) : Prop :=
pbox hi 65 25 (cellsV x0) fun h0 =>
pld h0 (some 33) (fun v81_1 h2 =>
pcal Try.prog 66 82 h2 (fun v82_3 h4 =>
VL (lift1 (aun .not) v82_3) fun v83_5 =>
pcond (
Rt h4 (.tup [.nils, (.int .i64 1)])) (
VL (vbld (vfill (vt (List.replicate 16 [])) [])) fun v84_6 =>
VL (vbld (vfill (vb (List.replicate 16 false)) [(0, 1, (.bool true))])) fun v85_7 =>
palloc h4 68 90 (vt (List.replicate 16 [])) fun h8 =>
palloc h8 69 91 (vb (List.replicate 16 false)) fun h9 =>
pst h9 16 (cellsV v84_6) (fun u10 h11 =>
pst h11 16 (cellsV v85_7) (fun u12 h13 =>
pld h13 (some 33) (fun v86_14 h15 =>
pcal Try.prog 86 87 h15 (fun v87_16 h17 =>
VL (vlenS v87_16) fun v89_18 =>
LP [26] [1, 4, 5, 6, 24, 25] (fun w19 l20 h21 N22 =>
VL (lift2 (abin .lss) (w19.getD 0 .und) (l20.getD 5 .und)) fun v91_23 =>
pcond (
VL (vixS 1 (l20.getD 4 .und) (w19.getD 0 .und)) fun v92_24 =>
pld h21 none (fun v93_25 h26 =>
VL (vfa 1 (l20.getD 0 .und)) fun v95_27 =>
VL (vixA 16 1 v95_27 v93_25) fun v96_28 =>
pld h26 none (fun v97_29 h30 =>
VL (vfa 17 (l20.getD 0 .und)) fun v99_31 =>
VL (vixA 16 1 v99_31 v93_25) fun v100_32 =>
pld h30 none (fun v101_33 h34 =>
pmks h34 102 5 2 2 (fun h35 =>
VL (vlenS (.rf 102 0 2)) fun v103_36 =>
LP [40] [1, 4, 5, 6, 8, 24, 25, 26, 38, 39] (fun w37 l38 h39 N40 =>
VL (lift2 (abin .lss) (w37.getD 0 .und) (l38.getD 9 .und)) fun v105_41 =>
pcond (
JN (fun k42 =>
VL (vixS 1 (l38.getD 8 .und) (w37.getD 0 .und)) fun v107_45 =>
pld h39 none (fun v108_46 h47 =>
VL (vixA 16 1 (l38.getD 2 .und) v108_46) fun v110_48 =>
pld h47 none (fun v111_49 h50 =>
VL (lift1 (aun .not) v111_49) fun v112_51 =>
pcond (
VL (vixA 16 1 (l38.getD 2 .und) v108_46) fun v114_52 =>
pst h50 1 (cellsV (.bool true)) (fun u53 h54 =>
VL (vixA 16 1 (l38.getD 1 .und) (l38.getD 4 .und)) fun v117_55 =>
pld h54 none (fun v118_56 h57 =>
VL (lift2 (abin .add) (w37.getD 0 .und) (.int .i64 1)) fun v121_58 =>
VL (vslT (.str [120, 121]) (some (w37.getD 0 .und)) (some v121_58)) fun v122_59 =>
VL (lift2 (abin .add) v118_56 v122_59) fun v123_60 =>
VL (vixA 16 1 (l38.getD 1 .und) v108_46) fun v124_61 =>
pst h57 1 (cellsV v123_60) (fun u62 h63 =>
k42 [(l38.getD 0 .und), (l38.getD 1 .und), (l38.getD 2 .und), (l38.getD 3 .und), (l38.getD 4 .und), (l38.getD 5 .und), (l38.getD 6 .und), (l38.getD 7 .und), (l38.getD 8 .und), (l38.getD 9 .und), (w37.getD 0 .und)] h63) v124_61) v117_55) v114_52) (
k42 [(l38.getD 0 .und), (l38.getD 1 .und), (l38.getD 2 .und), (l38.getD 3 .und), (l38.getD 4 .und), (l38.getD 5 .und), (l38.getD 6 .und), (l38.getD 7 .und), (l38.getD 8 .und), (l38.getD 9 .und), (w37.getD 0 .und)] h50) v112_51) v110_48) v107_45) fun o43 h44 =>
VL (lift2 (abin .add) (o43.getD 10 .und) (.int .i64 1)) fun v125_64 =>
N40 [v125_64] [(o43.getD 0 .und), (o43.getD 1 .und), (o43.getD 2 .und), (o43.getD 3 .und), (o43.getD 4 .und), (o43.getD 5 .und), (o43.getD 6 .und), (o43.getD 7 .und), (o43.getD 8 .und), (o43.getD 9 .und)] h44) (
VL (lift2 (abin .add) (l38.getD 7 .und) (.int .i64 1)) fun v126_65 =>
N22 [v126_65] [(l38.getD 0 .und), (l38.getD 1 .und), (l38.getD 2 .und), (l38.getD 3 .und), (l38.getD 5 .und), (l38.getD 6 .und)] h39) v105_41) [(.int .i64 0)] [(l20.getD 0 .und), (l20.getD 1 .und), (l20.getD 2 .und), (l20.getD 3 .und), v93_25, (l20.getD 4 .und), (l20.getD 5 .und), (w19.getD 0 .und), (.rf 102 0 2), v103_36] h35) (vfill [(.int .u8 0), (.int .u8 0)] [(0, 1, v97_29), (1, 1, v101_33)])) v100_32) v96_28) v92_24) (
pmks h21 127 9 0 0 (fun h66 =>
VL (vlenS (l20.getD 3 .und)) fun v129_67 =>
LP [11, 66] [1, 4, 64, 65] (fun w68 l69 h70 N71 =>
VL (lift2 (abin .lss) (w68.getD 1 .und) (l69.getD 3 .und)) fun v131_72 =>
pcond (
VL (vixS 1 (l69.getD 2 .und) (w68.getD 1 .und)) fun v132_73 =>
pld h70 none (fun v133_74 h75 =>
VL (vfa 1 (l69.getD 0 .und)) fun v135_76 =>
VL (vixA 16 1 v135_76 v133_74) fun v136_77 =>
pld h75 none (fun v137_78 h79 =>
VL (vfa 17 (l69.getD 0 .und)) fun v139_80 =>
VL (vixA 16 1 v139_80 v133_74) fun v140_81 =>
pld h79 none (fun v141_82 h83 =>
pmks h83 142 5 2 2 (fun h84 =>
VL (vlenS (.rf 142 0 2)) fun v143_85 =>
LP [11, 80] [1, 4, 13, 64, 65, 66, 78, 79] (fun w86 l87 h88 N89 =>
VL (lift2 (abin .lss) (w86.getD 1 .und) (l87.getD 7 .und)) fun v145_90 =>
pcond (
JN (fun k91 =>
VL (vixS 1 (l87.getD 6 .und) (w86.getD 1 .und)) fun v147_94 =>
pld h88 none (fun v148_95 h96 =>
VL (vixA 16 1 (l87.getD 1 .und) (l87.getD 2 .und)) fun v150_97 =>
pld h96 none (fun v151_98 h99 =>
VL (lift2 (abin .add) (w86.getD 1 .und) (.int .i64 1)) fun v154_100 =>
VL (vslT (.str [120, 121]) (some (w86.getD 1 .und)) (some v154_100)) fun v155_101 =>
VL (lift2 (abin .add) v151_98 v155_101) fun v156_102 =>
VL (vixA 16 1 (l87.getD 1 .und) v148_95) fun v158_103 =>
pld h99 none (fun v159_104 h105 =>
pcalp Try.prog 88 160 h105 (fun v160_106 h107 =>
VL (lift2 (abin .add) v156_102 v160_106) fun v161_108 =>
pcal Try.prog 87 162 h107 (fun v162_109 h110 =>
VL (lift2 (abin .neq) v162_109 (.str [])) fun v164_111 =>
pcond (
pmks h110 167 9 1 1 (fun h112 =>
papp h112 (fun m115 s116 => papV 9 1 16 168 h112 (fun v168_113 h114 =>
k91 [(l87.getD 0 .und), (l87.getD 1 .und), v168_113, (l87.getD 2 .und), (l87.getD 3 .und), (l87.getD 4 .und), (l87.getD 5 .und), (l87.getD 6 .und), (l87.getD 7 .und), (w86.getD 1 .und)] h114) m115 s116 (w86.getD 0 .und)) (pavs h112 (w86.getD 0 .und) []) (preadS 1 h112 (.rf 167 0 1))) (vfill [(.str [])] [(0, 1, v162_109)])) (
k91 [(l87.getD 0 .und), (l87.getD 1 .und), (w86.getD 0 .und), (l87.getD 2 .und), (l87.getD 3 .und), (l87.getD 4 .und), (l87.getD 5 .und), (l87.getD 6 .und), (l87.getD 7 .und), (w86.getD 1 .und)] h110) v164_111) [v161_108]) [v159_104]) v158_103) v150_97) v147_94) fun o92 h93 =>
VL (lift2 (abin .add) (o92.getD 9 .und) (.int .i64 1)) fun v169_117 =>
N89 [(o92.getD 2 .und), v169_117] [(o92.getD 0 .und), (o92.getD 1 .und), (o92.getD 3 .und), (o92.getD 4 .und), (o92.getD 5 .und), (o92.getD 6 .und), (o92.getD 7 .und), (o92.getD 8 .und)] h93) (
VL (lift2 (abin .add) (l87.getD 5 .und) (.int .i64 1)) fun v170_118 =>
N71 [(w86.getD 0 .und), v170_118] [(l87.getD 0 .und), (l87.getD 1 .und), (l87.getD 3 .und), (l87.getD 4 .und)] h88) v145_90) [(w68.getD 0 .und), (.int .i64 0)] [(l69.getD 0 .und), (l69.getD 1 .und), v133_74, (l69.getD 2 .und), (l69.getD 3 .und), (w68.getD 1 .und), (.rf 142 0 2), v143_85] h84) (vfill [(.int .u8 0), (.int .u8 0)] [(0, 1, v137_78), (1, 1, v141_82)])) v140_81) v136_77) v132_73) (
Rt h70 (.tup [(w68.getD 0 .und), (.int .i64 0)])) v131_72) [(.rf 127 0 0), (.int .i64 0)] [(l20.getD 0 .und), (l20.getD 1 .und), (l20.getD 3 .und), v129_67] h66) (vfill [] [])) v91_23) [(.int .i64 0)] [(.ptr 65 0), (.ptr 68 0), (.ptr 69 0), v87_16, v87_16, v89_18] h17) [v86_14, (.int .i64 0)]) (.ptr 65 0)) (.ptr 69 0)) (.ptr 68 0)) v83_5) [v81_1]) (.ptr 65 0)
theorem impl_StabiliserWords_f {x0 : V} : Prt Try.prog 46 [x0] (impl_StabiliserWords_F x0) := pfun (fn := Try.f46) (m := [.s, .s, .s, .s, .s, .s, .s, .s, .l [26] [1, 4, 5, 6, 24, 25], .s, .s, .s, .s, .s, .l [40] [1, 4, 5, 6, 8, 24, 25, 26, 38, 39], .s, .s, .j [1, 4, 5, 6, 8, 24, 25, 26, 38, 39, 40], .s, .s, .s, .s, .s, .s, .l [11, 66] [1, 4, 64, 65], .s, .s, .s, .s, .s, .l [11, 80] [1, 4, 13, 64, 65, 66, 78, 79], .s, .s, .j [1, 4, 11, 13, 64, 65, 66, 78, 79, 80], .s, .s, .s, .s]) (c := 1 ≤ 108) rfl (fun h0 Rt => by kernel_rfl) (by decide)

def laws_eqStringS_F (x0 x1 : V) (hi : Hp) (Rt : Hp → V → Prop) : Prop :=
VL (vlenS x0) fun v71_0 =>
VL (vlenS x1) fun v73_1 =>
VL (lift2 (abin .neq) v71_0 v73_1) fun v74_2 =>
pcond (
Rt hi (.bool false)) (
LP [5] [0, 1] (fun w3 l4 h5 N6 =>
VL (vlenS (l4.getD 0 .und)) fun v77_7 =>
VL (lift2 (abin .lss) (w3.getD 0 .und) v77_7) fun v78_8 =>
pcond (
VL (vixS 1 (l4.getD 0 .und) (w3.getD 0 .und)) fun v83_9 =>
pld h5 none (fun v84_10 h11 =>
VL (vixS 1 (l4.getD 1 .und) (w3.getD 0 .und)) fun v87_12 =>
pld h11 none (fun v88_13 h14 =>
VL (lift2 (abin .neq) v84_10 v88_13) fun v89_15 =>
pcond (
Rt h14 (.bool false)) (
VL (lift2 (abin .add) (w3.getD 0 .und) (.int .i64 1)) fun v80_16 =>
N6 [v80_16] [(l4.getD 0 .und), (l4.getD 1 .und)] h14) v89_15) v87_12) v83_9) (
Rt h5 (.bool true)) v78_8) [(.int .i64 0)] [x0, x1] hi) v74_2
theorem laws_eqStringS_f {x0 x1 : V} : Prt Try.prog 47 [x0, x1] (laws_eqStringS_F x0 x1) := pfun (fn := Try.f47) (m := [.s, .s, .s, .s, .s, .s, .l [5] [0, 1], .s, .s, .s, .s, .s, .s]) (c := 2 ≤ 26) rfl (fun h0 Rt => by kernel_rfl) (by decide)

def laws_markStringS_F (x0 x1 : V) (hi : Hp) (Rt : Hp → V → Prop) : Prop :=
LP [1, 5] [0] (fun w0 l1 h2 N3 =>
VL (vlenS (l1.getD 0 .und)) fun v72_4 =>
VL (lift2 (abin .lss) (w0.getD 1 .und) v72_4) fun v73_5 =>
pcond (
pcal Try.prog 89 79 h2 (fun v79_6 h7 =>
VL (vixS 1 (l1.getD 0 .und) (w0.getD 1 .und)) fun v80_8 =>
pst h7 1 (cellsV v79_6) (fun u9 h10 =>
VL (lift2 (abin .add) (w0.getD 0 .und) (.int .i64 1)) fun v82_11 =>
VL (lift2 (abin .add) (w0.getD 1 .und) (.int .i64 1)) fun v75_12 =>
N3 [v82_11, v75_12] [(l1.getD 0 .und)] h10) v80_8) [(w0.getD 0 .und)]) (
Rt h2 (w0.getD 0 .und)) v73_5) [x1, (.int .i64 0)] [x0] hi
theorem laws_markStringS_f {x0 x1 : V} : Prt Try.prog 48 [x0, x1] (laws_markStringS_F x0 x1) := pfun (fn := Try.f48) (m := [.s, .s, .s, .l [1, 5] [0], .s, .s, .s, .s, .s]) (c := 2 ≤ 20) rfl (fun h0 Rt => by kernel_rfl) (by decide)

def laws_heldStringS_F (x0 x1 : V) (hi : Hp) (Rt : Hp → V → Prop) : Prop :=
LP [1, 5] [0] (fun w0 l1 h2 N3 =>
VL (vlenS (l1.getD 0 .und)) fun v72_4 =>
VL (lift2 (abin .lss) (w0.getD 1 .und) v72_4) fun v73_5 =>
pcond (
VL (vixS 1 (l1.getD 0 .und) (w0.getD 1 .und)) fun v78_6 =>
pld h2 none (fun v79_7 h8 =>
pcalp Try.prog 89 81 h8 (fun v81_9 h10 =>
VL (lift2 (abin .neq) v79_7 v81_9) fun v82_11 =>
pcond (
Rt h10 (.int .i64 (-1))) (
VL (lift2 (abin .add) (w0.getD 0 .und) (.int .i64 1)) fun v84_12 =>
VL (lift2 (abin .add) (w0.getD 1 .und) (.int .i64 1)) fun v75_13 =>
N3 [v84_12, v75_13] [(l1.getD 0 .und)] h10) v82_11) [(w0.getD 0 .und)]) v78_6) (
Rt h2 (w0.getD 0 .und)) v73_5) [x1, (.int .i64 0)] [x0] hi
theorem laws_heldStringS_f {x0 x1 : V} : Prt Try.prog 49 [x0, x1] (laws_heldStringS_F x0 x1) := pfun (fn := Try.f49) (m := [.s, .s, .s, .l [1, 5] [0], .s, .s, .s, .s, .s, .s, .s]) (c := 2 ≤ 22) rfl (fun h0 Rt => by kernel_rfl) (by decide)

def spec_TreeEdges_F (x0 : V) (hi : Hp) (Rt : Hp → V → Prop) : Prop :=
pbox hi 65 25 (cellsV x0) fun h0 =>
pld h0 (some 33) (fun v71_1 h2 =>
pcal Try.prog 64 72 h2 (fun v72_3 h4 =>
VL (lift1 (aun .not) v72_3) fun v73_5 =>
pcond (
Rt h4 (.tup [.nils, (.int .i64 1)])) (
pld h4 (some 33) (fun v74_6 h7 =>
pcal Try.prog 90 75 h7 (fun v75_8 h9 =>
pmks h9 76 2 0 0 (fun h10 =>
palloc h10 68 91 (vb (List.replicate 16 false)) fun h11 =>
pst h11 16 (cellsV v75_8) (fun u12 h13 =>
LP [5, 6] [1, 4] (fun w14 l15 h16 N17 =>
VL (vfa 0 (l15.getD 0 .und)) fun v78_18 =>
pld h16 none (fun v79_19 h20 =>
VL (lift2 (abin .lss) (w14.getD 1 .und) v79_19) fun v80_21 =>
pcond (
JN (fun k22 =>
VL (vixA 16 1 (l15.getD 1 .und) (w14.getD 1 .und)) fun v84_25 =>
pld h20 none (fun v85_26 h27 =>
pcond (
pmks h27 88 2 1 1 (fun h28 =>
papp h28 (fun m31 s32 => papV 2 1 8 89 h28 (fun v89_29 h30 =>
k22 [(l15.getD 0 .und), (l15.getD 1 .und), v89_29, (w14.getD 1 .und)] h30) m31 s32 (w14.getD 0 .und)) (pavs h28 (w14.getD 0 .und) []) (preadS 1 h28 (.rf 88 0 1))) (vfill [(.int .i64 0)] [(0, 1, (w14.getD 1 .und))])) (
k22 [(l15.getD 0 .und), (l15.getD 1 .und), (w14.getD 0 .und), (w14.getD 1 .und)] h27) v85_26) v84_25) fun o23 h24 =>
VL (lift2 (abin .add) (o23.getD 3 .und) (.int .i64 1)) fun v82_33 =>
N17 [(o23.getD 2 .und), v82_33] [(o23.getD 0 .und), (o23.getD 1 .und)] h24) (
Rt h20 (.tup [(w14.getD 0 .und), (.int .i64 0)])) v80_21) v78_18) [(.rf 76 0 0), (.int .i64 0)] [(.ptr 65 0), (.ptr 68 0)] h13) (.ptr 68 0)) (vfill [] [])) [v74_6]) (.ptr 65 0)) v73_5) [v71_1]) (.ptr 65 0)
theorem spec_TreeEdges_f {x0 : V} : Prt Try.prog 50 [x0] (spec_TreeEdges_F x0) := pfun (fn := Try.f50) (m := [.s, .s, .s, .s, .s, .s, .s, .l [5, 6] [1, 4], .s, .s, .j [1, 4, 5, 6], .s, .s]) (c := 1 ≤ 27) rfl (fun h0 Rt => by kernel_rfl) (by decide)

def impl_TreeEdges_F (x0 : V) (hi : Hp) (Rt : Hp → V → Prop) : Prop :=
pbox hi 65 25 (cellsV x0) fun h0 =>
pld h0 (some 33) (fun v68_1 h2 =>
pcal Try.prog 66 69 h2 (fun v69_3 h4 =>
VL (lift1 (aun .not) v69_3) fun v70_5 =>
pcond (
Rt h4 (.tup [.nils, (.int .i64 1)])) (
pld h4 (some 33) (fun v71_6 h7 =>
pcal Try.prog 91 72 h7 (fun v72_8 h9 =>
Rt h9 (.tup [v72_8, (.int .i64 0)])) [v71_6]) (.ptr 65 0)) v70_5) [v68_1]) (.ptr 65 0)
theorem impl_TreeEdges_f {x0 : V} : Prt Try.prog 51 [x0] (impl_TreeEdges_F x0) := pfun (fn := Try.f51) (m := [.s, .s, .s, .s, .s]) (c := 1 ≤ 9) rfl (fun h0 Rt => by kernel_rfl) (by decide)

def laws_markInt64S_F (x0 x1 : V) (hi : Hp) (Rt : Hp → V → Prop) : Prop :=
LP [1, 5] [0] (fun w0 l1 h2 N3 =>
VL (vlenS (l1.getD 0 .und)) fun v72_4 =>
VL (lift2 (abin .lss) (w0.getD 1 .und) v72_4) fun v73_5 =>
pcond (
VL (vixS 1 (l1.getD 0 .und) (w0.getD 1 .und)) fun v79_6 =>
pst h2 1 (cellsV (w0.getD 0 .und)) (fun u7 h8 =>
VL (lift2 (abin .add) (w0.getD 0 .und) (.int .i64 1)) fun v81_9 =>
VL (lift2 (abin .add) (w0.getD 1 .und) (.int .i64 1)) fun v75_10 =>
N3 [v81_9, v75_10] [(l1.getD 0 .und)] h8) v79_6) (
Rt h2 (w0.getD 0 .und)) v73_5) [x1, (.int .i64 0)] [x0] hi
theorem laws_markInt64S_f {x0 x1 : V} : Prt Try.prog 52 [x0, x1] (laws_markInt64S_F x0 x1) := pfun (fn := Try.f52) (m := [.s, .s, .s, .l [1, 5] [0], .s, .s, .s, .s, .s]) (c := 2 ≤ 19) rfl (fun h0 Rt => by kernel_rfl) (by decide)

def laws_heldInt64S_F (x0 x1 : V) (hi : Hp) (Rt : Hp → V → Prop) : Prop :=
LP [1, 5] [0] (fun w0 l1 h2 N3 =>
VL (vlenS (l1.getD 0 .und)) fun v72_4 =>
VL (lift2 (abin .lss) (w0.getD 1 .und) v72_4) fun v73_5 =>
pcond (
VL (vixS 1 (l1.getD 0 .und) (w0.getD 1 .und)) fun v78_6 =>
pld h2 none (fun v79_7 h8 =>
VL (lift2 (abin .neq) v79_7 (w0.getD 0 .und)) fun v81_9 =>
pcond (
Rt h8 (.int .i64 (-1))) (
VL (lift2 (abin .add) (w0.getD 0 .und) (.int .i64 1)) fun v83_10 =>
VL (lift2 (abin .add) (w0.getD 1 .und) (.int .i64 1)) fun v75_11 =>
N3 [v83_10, v75_11] [(l1.getD 0 .und)] h8) v81_9) v78_6) (
Rt h2 (w0.getD 0 .und)) v73_5) [x1, (.int .i64 0)] [x0] hi
theorem laws_heldInt64S_f {x0 x1 : V} : Prt Try.prog 53 [x0, x1] (laws_heldInt64S_F x0 x1) := pfun (fn := Try.f53) (m := [.s, .s, .s, .l [1, 5] [0], .s, .s, .s, .s, .s, .s, .s]) (c := 2 ≤ 21) rfl (fun h0 Rt => by kernel_rfl) (by decide)

def spec_IntersectionOf_F (x0 x1 x2 : V) (hi : Hp) (Rt : Hp → V → Prop) : Prop :=
pbox hi 67 25 (cellsV x0) fun h0 =>
pld h0 (some 33) (fun v73_1 h2 =>
pcal Try.prog 64 74 h2 (fun v74_3 h4 =>
VL (lift1 (aun .not) v74_3) fun v75_5 =>
pcond (
Rt h4 (.tup [(.int .i64 0), (.int .i64 1)])) (
pld h4 (some 33) (fun v77_6 h7 =>
pcal Try.prog 71 79 h7 (fun v79_8 h9 =>
VL (lift1 (aun .not) v79_8) fun v80_10 =>
pgk false h9 (fun g11 k12 => pld h9 (some 33) (fun v82_13 h14 =>
k12 v82_13 h14) (.ptr 67 0)) (fun g15 v18_16 h17 =>
pgk false h17 (fun g18 k19 => k19 x2 h17) (fun g20 v19_21 h22 =>
pgk false h22 (fun g23 k24 => pcal Try.prog 71 84 h22 (fun v84_25 h26 =>
k24 v84_25 h26) [v18_16, v19_21]) (fun g27 v20_28 h29 =>
pgk false h29 (fun g30 k31 => VL (lift1 (aun .not) v20_28) fun v85_32 =>
k31 v85_32 h29) (fun g33 v21_34 h35 =>
VL (vpick g33 (.bool true) v21_34) fun v86_36 =>
pcond (
Rt h35 (.tup [(.int .i64 0), (.int .i64 2)])) (
pld h35 (some 33) (fun v88_37 h38 =>
pcal Try.prog 72 90 h38 (fun v90_39 h40 =>
VL (lift1 (aun .not) v90_39) fun v91_41 =>
pgk false h40 (fun g42 k43 => pld h40 (some 33) (fun v93_44 h45 =>
k43 v93_44 h45) (.ptr 67 0)) (fun g46 v29_47 h48 =>
pgk false h48 (fun g49 k50 => k50 x2 h48) (fun g51 v30_52 h53 =>
pgk false h53 (fun g54 k55 => pcal Try.prog 72 95 h53 (fun v95_56 h57 =>
k55 v95_56 h57) [v29_47, v30_52]) (fun g58 v31_59 h60 =>
pgk false h60 (fun g61 k62 => VL (lift1 (aun .not) v31_59) fun v96_63 =>
k62 v96_63 h60) (fun g64 v32_65 h66 =>
VL (vpick g64 (.bool true) v32_65) fun v97_67 =>
pcond (
Rt h66 (.tup [(.int .i64 0), (.int .i64 5)])) (
pld h66 (some 33) (fun v98_68 h69 =>
pcal Try.prog 92 101 h69 (fun v101_70 h71 =>
Rt h71 (.tup [v101_70, (.int .i64 0)])) [v98_68, x1, x2]) (.ptr 67 0)) v97_67) g58) g51) g46) v91_41) [v88_37, x1]) (.ptr 67 0)) v86_36) g27) g20) g15) v80_10) [v77_6, x1]) (.ptr 67 0)) v75_5) [v73_1]) (.ptr 67 0)
theorem spec_IntersectionOf_f {x0 x1 x2 : V} : Prt Try.prog 54 [x0, x1, x2] (spec_IntersectionOf_F x0 x1 x2) := pfun (fn := Try.f54) (m := [.s, .s, .s, .s, .s, .s, .s, .s, .s]) (c := 3 ≤ 38) rfl (fun h0 Rt => by kernel_rfl) (by decide)

def impl_IntersectionOf_F (x0 x1 x2 : V) (hi : Hp) (Rt : Hp → V → Prop) : Prop :=
pbox hi 67 25 (cellsV x0) fun h0 =>
pld h0 (some 33) (fun v73_1 h2 =>
pcal Try.prog 66 74 h2 (fun v74_3 h4 =>
VL (lift1 (aun .not) v74_3) fun v75_5 =>
pcond (
Rt h4 (.tup [(.int .i64 0), (.int .i64 1)])) (
pld h4 (some 33) (fun v77_6 h7 =>
pcal Try.prog 73 79 h7 (fun v79_8 h9 =>
VL (lift1 (aun .not) v79_8) fun v80_10 =>
pgk false h9 (fun g11 k12 => pld h9 (some 33) (fun v82_13 h14 =>
k12 v82_13 h14) (.ptr 67 0)) (fun g15 v18_16 h17 =>
pgk false h17 (fun g18 k19 => k19 x2 h17) (fun g20 v19_21 h22 =>
pgk false h22 (fun g23 k24 => pcal Try.prog 73 84 h22 (fun v84_25 h26 =>
k24 v84_25 h26) [v18_16, v19_21]) (fun g27 v20_28 h29 =>
pgk false h29 (fun g30 k31 => VL (lift1 (aun .not) v20_28) fun v85_32 =>
k31 v85_32 h29) (fun g33 v21_34 h35 =>
VL (vpick g33 (.bool true) v21_34) fun v86_36 =>
pcond (
Rt h35 (.tup [(.int .i64 0), (.int .i64 2)])) (
pld h35 (some 33) (fun v88_37 h38 =>
pcal Try.prog 74 90 h38 (fun v90_39 h40 =>
VL (lift1 (aun .not) v90_39) fun v91_41 =>
pgk false h40 (fun g42 k43 => pld h40 (some 33) (fun v93_44 h45 =>
k43 v93_44 h45) (.ptr 67 0)) (fun g46 v29_47 h48 =>
pgk false h48 (fun g49 k50 => k50 x2 h48) (fun g51 v30_52 h53 =>
pgk false h53 (fun g54 k55 => pcal Try.prog 74 95 h53 (fun v95_56 h57 =>
k55 v95_56 h57) [v29_47, v30_52]) (fun g58 v31_59 h60 =>
pgk false h60 (fun g61 k62 => VL (lift1 (aun .not) v31_59) fun v96_63 =>
k62 v96_63 h60) (fun g64 v32_65 h66 =>
VL (vpick g64 (.bool true) v32_65) fun v97_67 =>
pcond (
Rt h66 (.tup [(.int .i64 0), (.int .i64 5)])) (
pld h66 (some 33) (fun v98_68 h69 =>
pcal Try.prog 93 101 h69 (fun v101_70 h71 =>
Rt h71 (.tup [v101_70, (.int .i64 0)])) [v98_68, x1, x2]) (.ptr 67 0)) v97_67) g58) g51) g46) v91_41) [v88_37, x1]) (.ptr 67 0)) v86_36) g27) g20) g15) v80_10) [v77_6, x1]) (.ptr 67 0)) v75_5) [v73_1]) (.ptr 67 0)
theorem impl_IntersectionOf_f {x0 x1 x2 : V} : Prt Try.prog 55 [x0, x1, x2] (impl_IntersectionOf_F x0 x1 x2) := pfun (fn := Try.f55) (m := [.s, .s, .s, .s, .s, .s, .s, .s, .s]) (c := 3 ≤ 38) rfl (fun h0 Rt => by kernel_rfl) (by decide)

def spec_IsUnbranched_F (x0 x1 x2 x3 : V) (hi : Hp) (Rt : Hp → V → Prop) : Prop :=
pbox hi 68 25 (cellsV x0) fun h0 =>
pld h0 (some 33) (fun v78_1 h2 =>
pcal Try.prog 68 82 h2 (fun v82_3 h4 =>
VL (lift2 (abin .neq) v82_3 (.int .i64 0)) fun v84_5 =>
pcond (
Rt h4 (.tup [(.bool false), v82_3])) (
pld h4 (some 33) (fun v86_6 h7 =>
pcal Try.prog 94 90 h7 (fun v90_8 h9 =>
LP [12] [11] (fun w10 l11 h12 N13 =>
VL (lift2 (abin .lss) (w10.getD 0 .und) (.int .i64 3)) fun v92_14 =>
pcond (
LP [13] [11, 12] (fun w15 l16 h17 N18 =>
VL (vixS 1 (l16.getD 0 .und) (l16.getD 1 .und)) fun v98_19 =>
pld h17 none (fun v99_20 h21 =>
VL (vlenS v99_20) fun v100_22 =>
VL (lift2 (abin .lss) (w15.getD 0 .und) v100_22) fun v101_23 =>
pcond (
VL (vixS 1 (l16.getD 0 .und) (l16.getD 1 .und)) fun v106_24 =>
pld h21 none (fun v107_25 h26 =>
VL (vixS 1 v107_25 (w15.getD 0 .und)) fun v109_27 =>
pld h26 none (fun v110_28 h29 =>
VL (lift2 (abin .neq) v110_28 (.int .i64 0)) fun v111_30 =>
pcond (
Rt h29 (.tup [(.bool false), (.int .i64 0)])) (
VL (lift2 (abin .add) (w15.getD 0 .und) (.int .i64 1)) fun v103_31 =>
N18 [v103_31] [(l16.getD 0 .und), (l16.getD 1 .und)] h29) v111_30) v109_27) v106_24) (
VL (lift2 (abin .add) (l16.getD 1 .und) (.int .i64 1)) fun v94_32 =>
N13 [v94_32] [(l16.getD 0 .und)] h21) v101_23) v98_19) [(.int .i64 0)] [(l11.getD 0 .und), (w10.getD 0 .und)] h12) (
Rt h12 (.tup [(.bool true), (.int .i64 0)])) v92_14) [(.int .i64 0)] [v90_8] h9) [v86_6, x1, x2, x3]) (.ptr 68 0)) v84_5) [v78_1, x1, x2, x3]) (.ptr 68 0)
theorem spec_IsUnbranched_f {x0 x1 x2 x3 : V} : Prt Try.prog 56 [x0, x1, x2, x3] (spec_IsUnbranched_F x0 x1 x2 x3) := pfun (fn := Try.f56) (m := [.s, .s, .s, .s, .s, .s, .s, .s, .l [12] [11], .s, .s, .s, .s, .l [13] [11, 12], .s, .s, .s, .s, .s, .s]) (c := 4 ≤ 48) rfl (fun h0 Rt => by kernel_rfl) (by decide)

def impl_IsUnbranched_F (x0 x1 x2 x3 : V) (hi : Hp) (Rt : Hp → V → Prop) : Prop :=
pbox hi 68 25 (cellsV x0) fun h0 =>
pld h0 (some 33) (fun v79_1 h2 =>
pcal Try.prog 70 83 h2 (fun v83_3 h4 =>
VL (lift2 (abin .neq) v83_3 (.int .i64 0)) fun v85_5 =>
pcond (
Rt h4 (.tup [(.bool false), v83_3])) (
pld h4 (some 33) (fun v87_6 h7 =>
pcal Try.prog 95 91 h7 (fun v91_8 h9 =>
VL (vlenS v91_8) fun v92_10 =>
LP [29] [27, 28] (fun w11 l12 h13 N14 =>
VL (lift2 (abin .lss) (w11.getD 0 .und) (l12.getD 1 .und)) fun v94_15 =>
pcond (
VL (vixS 1 (l12.getD 0 .und) (w11.getD 0 .und)) fun v95_16 =>
pld h13 none (fun v96_17 h18 =>
VL (vlenS v96_17) fun v98_19 =>
LP [35] [27, 28, 29, 33, 34] (fun w20 l21 h22 N23 =>
VL (lift2 (abin .lss) (w20.getD 0 .und) (l21.getD 4 .und)) fun v100_24 =>
pcond (
VL (vixS 1 (l21.getD 3 .und) (w20.getD 0 .und)) fun v101_25 =>
pld h22 none (fun v102_26 h27 =>
VL (lift2 (abin .neq) v102_26 (.int .i64 0)) fun v104_28 =>
pcond (
Rt h27 (.tup [(.bool false), (.int .i64 0)])) (
VL (lift2 (abin .add) (w20.getD 0 .und) (.int .i64 1)) fun v105_29 =>
N23 [v105_29] [(l21.getD 0 .und), (l21.getD 1 .und), (l21.getD 2 .und), (l21.getD 3 .und), (l21.getD 4 .und)] h27) v104_28) v101_25) (
VL (lift2 (abin .add) (l21.getD 2 .und) (.int .i64 1)) fun v106_30 =>
N14 [v106_30] [(l21.getD 0 .und), (l21.getD 1 .und)] h22) v100_24) [(.int .i64 0)] [(l12.getD 0 .und), (l12.getD 1 .und), (w11.getD 0 .und), v96_17, v98_19] h18) v95_16) (
Rt h13 (.tup [(.bool true), (.int .i64 0)])) v94_15) [(.int .i64 0)] [v91_8, v92_10] h9) [v87_6, x1, x2, x3]) (.ptr 68 0)) v85_5) [v79_1, x1, x2, x3]) (.ptr 68 0)
theorem impl_IsUnbranched_f {x0 x1 x2 x3 : V} : Prt Try.prog 57 [x0, x1, x2, x3] (impl_IsUnbranched_F x0 x1 x2 x3) := pfun (fn := Try.f57) (m := [.s, .s, .s, .s, .s, .s, .s, .l [29] [27, 28], .s, .s, .s, .s, .s, .l [35] [27, 28, 29, 33, 34], .s, .s, .s, .s, .s, .s, .s]) (c := 4 ≤ 43) rfl (fun h0 Rt => by kernel_rfl) (by decide)

def spec_l11New_F (hi : Hp) (Rt : Hp → V → Prop) : Prop :=
palloc hi 64 28 ([(.int .i64 0)] ++ (vi .u8 (List.replicate 32 0) ++ ([(.int .i64 0)] ++ (vi .u8 (List.replicate 32 0) ++ ([.nils]))))) fun h0 =>
pcal Try.prog 96 68 h0 (fun v68_1 h2 =>
VL (vext 0 v68_1) fun v69_3 =>
VL (vext 1 v68_1) fun v70_4 =>
palloc h2 65 25 ([(.int .i64 0)] ++ (vi .u8 (List.replicate 32 0))) fun h5 =>
pst h5 33 (cellsV v69_3) (fun u6 h7 =>
pld h7 (some 33) (fun v71_8 h9 =>
pld h9 (some 33) (fun v72_10 h11 =>
pcalp Try.prog 97 73 h11 (fun v73_12 h13 =>
VL (vbld (vfill ([(.int .i64 0)] ++ (vi .u8 (List.replicate 32 0) ++ ([(.int .i64 0)] ++ (vi .u8 (List.replicate 32 0) ++ ([.nils]))))) [(0, 33, v71_8), (33, 33, v72_10), (66, 1, v73_12)])) fun v74_14 =>
pst h13 67 (cellsV v74_14) (fun u15 h16 =>
VL (pcellV h16 (some 67) (.ptr 64 0)) fun r17 =>
Rt h16 r17) (.ptr 64 0)) [(.int .i64 1), (.int .i64 3)]) (.ptr 65 0)) (.ptr 65 0)) (.ptr 65 0)) [(.int .i64 3)]
theorem spec_l11New_f : Prt Try.prog 58 [] (spec_l11New_F) := pfun (fn := Try.f58) (m := [.s, .s, .s]) (c := 0 ≤ 11) rfl (fun h0 Rt => by kernel_rfl) (by decide)

def impl_star_F (x0 : V) (hi : Hp) (Rt : Hp → V → Prop) : Prop :=
palloc hi 66 25 ([(.int .i64 0)] ++ (vi .u8 (List.replicate 32 0))) fun h0 =>
pcal Try.prog 98 71 h0 (fun v71_1 h2 =>
VL (vbld (vfill ([(.int .i64 0)] ++ (vi .u8 (List.replicate 32 0))) [(0, 1, x0), (17, 16, v71_1)])) fun v72_3 =>
palloc h2 67 25 ([(.int .i64 0)] ++ (vi .u8 (List.replicate 32 0))) fun h4 =>
pst h4 33 (cellsV v72_3) (fun u5 h6 =>
LP [10] [0, 2, 3, 9] (fun w7 l8 h9 N10 =>
VL (lift2 (abin .lss) (w7.getD 0 .und) (l8.getD 3 .und)) fun v75_11 =>
pcond (
VL (lift2 (abin .add) (w7.getD 0 .und) (.int .i64 1)) fun v79_12 =>
VL (lift2 (abin .rem) v79_12 (l8.getD 0 .und)) fun v81_13 =>
VL (lift1 (acvi .u8) v81_13) fun v82_14 =>
VL (vfa 1 (l8.getD 2 .und)) fun v83_15 =>
VL (vixA 16 1 v83_15 (w7.getD 0 .und)) fun v84_16 =>
pst h9 1 (cellsV v82_14) (fun u17 h18 =>
VL (lift2 (abin .add) (w7.getD 0 .und) (.int .i64 1)) fun v85_19 =>
N10 [v85_19] [(l8.getD 0 .und), (l8.getD 1 .und), (l8.getD 2 .und), (l8.getD 3 .und)] h18) v84_16) (
pld h9 (some 33) (fun v86_20 h21 =>
pst h21 33 (cellsV v86_20) (fun u22 h23 =>
VL (pcellV h23 (some 33) (l8.getD 1 .und)) fun r24 =>
Rt h23 r24) (l8.getD 1 .und)) (l8.getD 2 .und)) v75_11) [(.int .i64 0)] [x0, (.ptr 66 0), (.ptr 67 0), x0] h6) (.ptr 67 0)) [x0]
theorem impl_star_f {x0 : V} : Prt Try.prog 59 [x0] (impl_star_F x0) := pfun (fn := Try.f59) (m := [.s, .s, .s, .s, .l [10] [0, 2, 3, 9], .s, .s, .s, .s, .s]) (c := 1 ≤ 23) rfl (fun h0 Rt => by kernel_rfl) (by decide)

def laws_szInt64S_F (x0 x1 : V) (hi : Hp) (Rt : Hp → V → Prop) : Prop :=
VL (vlenS x0) fun v71_0 =>
VL (lift2 (abin .sub) x1 v71_0) fun v72_1 =>
VL (lift2 (abin .lss) v72_1 (.int .i64 0)) fun v74_2 =>
pcond (
Rt hi (.int .i64 (-1))) (
Rt hi v72_1) v74_2
theorem laws_szInt64S_f {x0 x1 : V} : Prt Try.prog 60 [x0, x1] (laws_szInt64S_F x0 x1) := pfun (fn := Try.f60) (m := [.s, .s, .s, .s, .s, .s]) (c := 2 ≤ 12) rfl (fun h0 Rt => by kernel_rfl) (by decide)

def spec_l08Table_F (x0 : V) (hi : Hp) (Rt : Hp → V → Prop) : Prop :=
VL (vlenS x0) fun v72_0 =>
pcal Try.prog 75 74 hi (fun v74_1 h2 =>
VL (lift1 (aun .not) v74_1) fun v75_3 =>
pcond (
Rt h2 (.bool false)) (
LP [4] [0, 3] (fun w4 l5 h6 N7 =>
VL (lift2 (abin .lss) (w4.getD 0 .und) (.int .i64 2)) fun v77_8 =>
pcond (
pmk h6 81 4 1 [(.bool false)] (fun v81_9 h10 =>
LP [6] [0, 3, 4, 5] (fun w11 l12 h13 N14 =>
VL (vlenS (l12.getD 0 .und)) fun v84_15 =>
VL (lift2 (abin .lss) (w11.getD 0 .und) v84_15) fun v85_16 =>
pcond (
VL (vixS 1 (l12.getD 0 .und) (w11.getD 0 .und)) fun v90_17 =>
pld h13 none (fun v91_18 h19 =>
VL (vlenS v91_18) fun v92_20 =>
VL (lift2 (abin .neq) v92_20 (.int .i64 2)) fun v93_21 =>
pgk false h19 (fun g22 k23 => k23 (l12.getD 0 .und) h19) (fun g24 v31_25 h26 =>
pgk false h26 (fun g27 k28 => k28 (w11.getD 0 .und) h26) (fun g29 v32_30 h31 =>
pgk false h31 (fun g32 k33 => VL (vixS 1 v31_25 v32_30) fun v97_34 =>
k33 v97_34 h31) (fun g35 v33_36 h37 =>
pgk false h37 (fun g38 k39 => pld h37 none (fun v98_40 h41 =>
k39 v98_40 h41) v33_36) (fun g42 v34_43 h44 =>
pgk false h44 (fun g45 k46 => k46 (l12.getD 2 .und) h44) (fun g47 v35_48 h49 =>
pgk false h49 (fun g50 k51 => VL (vixS 1 v34_43 v35_48) fun v100_52 =>
k51 v100_52 h49) (fun g53 v36_54 h55 =>
pgk false h55 (fun g56 k57 => pld h55 none (fun v101_58 h59 =>
k57 v101_58 h59) v36_54) (fun g60 v37_61 h62 =>
pgk false h62 (fun g63 k64 => k64 (l12.getD 1 .und) h62) (fun g65 v38_66 h67 =>
pgk false h67 (fun g68 k69 => VL (lift2 (abin .sub) v38_66 (.int .i64 1)) fun v103_70 =>
k69 v103_70 h67) (fun g71 v39_72 h73 =>
pgk false h73 (fun g74 k75 => pcal Try.prog 75 104 h73 (fun v104_76 h77 =>
k75 v104_76 h77) [v37_61, (.int .i64 0), v39_72]) (fun g78 v40_79 h80 =>
pgk false h80 (fun g81 k82 => VL (lift1 (aun .not) v40_79) fun v105_83 =>
k82 v105_83 h80) (fun g84 v41_85 h86 =>
VL (vpick g84 (.bool true) v41_85) fun v106_87 =>
pgk false h86 (fun g88 k89 => k89 (l12.getD 3 .und) h86) (fun g90 v44_91 h92 =>
pgk false h92 (fun g93 k94 => k94 (l12.getD 0 .und) h92) (fun g95 v45_96 h97 =>
pgk false h97 (fun g98 k99 => k99 (w11.getD 0 .und) h97) (fun g100 v46_101 h102 =>
pgk false h102 (fun g103 k104 => VL (vixS 1 v45_96 v46_101) fun v111_105 =>
k104 v111_105 h102) (fun g106 v47_107 h108 =>
pgk false h108 (fun g109 k110 => pld h108 none (fun v112_111 h112 =>
k110 v112_111 h112) v47_107) (fun g113 v48_114 h115 =>
pgk false h115 (fun g116 k117 => k117 (l12.getD 2 .und) h115) (fun g118 v49_119 h120 =>
pgk false h120 (fun g121 k122 => VL (vixS 1 v48_114 v49_119) fun v114_123 =>
k122 v114_123 h120) (fun g124 v50_125 h126 =>
pgk false h126 (fun g127 k128 => pld h126 none (fun v115_129 h130 =>
k128 v115_129 h130) v50_125) (fun g131 v51_132 h133 =>
pgk false h133 (fun g134 k135 => VL (vixS 1 v44_91 v51_132) fun v116_136 =>
k135 v116_136 h133) (fun g137 v52_138 h139 =>
pgk false h139 (fun g140 k141 => pld h139 none (fun v117_142 h143 =>
k141 v117_142 h143) v52_138) (fun g144 v53_145 h146 =>
VL (vpick g144 (.bool true) v53_145) fun v118_147 =>
pcond (
Rt h146 (.bool false)) (
VL (vixS 1 (l12.getD 0 .und) (w11.getD 0 .und)) fun v122_148 =>
pld h146 none (fun v123_149 h150 =>
VL (vixS 1 v123_149 (l12.getD 2 .und)) fun v125_151 =>
pld h150 none (fun v126_152 h153 =>
VL (vixS 1 (l12.getD 3 .und) v126_152) fun v127_154 =>
pst h153 1 (cellsV (.bool true)) (fun u155 h156 =>
VL (lift2 (abin .add) (w11.getD 0 .und) (.int .i64 1)) fun v87_157 =>
N14 [v87_157] [(l12.getD 0 .und), (l12.getD 1 .und), (l12.getD 2 .und), (l12.getD 3 .und)] h156) v127_154) v125_151) v122_148) v118_147) g137) g131) g124) g118) g113) g106) g100) g95) g90) v106_87) g78) g71) g65) g60) g53) g47) g42) g35) g29) g24) v93_21) v90_17) (
VL (lift2 (abin .add) (l12.getD 2 .und) (.int .i64 1)) fun v79_158 =>
N7 [v79_158] [(l12.getD 0 .und), (l12.getD 1 .und)] h13) v85_16) [(.int .i64 0)] [(l5.getD 0 .und), (l5.getD 1 .und), (w4.getD 0 .und), v81_9] h10) (l5.getD 1 .und) (l5.getD 1 .und)) (
pcal Try.prog 99 129 h6 (fun v129_159 h160 =>
VL (vlenS v129_159) fun v130_161 =>
VL (lift2 (abin .eql) v130_161 (l5.getD 1 .und)) fun v132_162 =>
Rt h160 v132_162) [(l5.getD 0 .und)]) v77_8) [(.int .i64 0)] [x0, v72_0] h2) v75_3) [v72_0, (.int .i64 1), (.int .i64 100)]
theorem spec_l08Table_f {x0 : V} : Prt Try.prog 61 [x0] (spec_l08Table_F x0) := pfun (fn := Try.f61) (m := [.s, .s, .s, .s, .s, .s, .s, .l [4] [0, 3], .s, .s, .s, .s, .s, .l [6] [0, 3, 4, 5], .s, .s, .s, .s, .s, .s, .s]) (c := 1 ≤ 69) rfl (fun h0 Rt => by kernel_rfl) (by decide)

def impl_namedCosets_F (x0 : V) (hi : Hp) (Rt : Hp → V → Prop) : Prop :=
VL (vlenS x0) fun v73_0 =>
pmk hi 74 4 1 [(.bool false)] (fun v74_1 h2 =>
VL (vixS 1 v74_1 (.int .i64 0)) fun v76_3 =>
pst h2 1 (cellsV (.bool true)) (fun u4 h5 =>
pmks h5 77 2 1 1 (fun h6 =>
LP [4, 5] [0, 3] (fun w7 l8 h9 N10 =>
VL (vlenS (w7.getD 0 .und)) fun v80_11 =>
VL (lift2 (abin .lss) (w7.getD 1 .und) v80_11) fun v81_12 =>
pcond (
VL (vixS 1 (w7.getD 0 .und) (w7.getD 1 .und)) fun v87_13 =>
pld h9 none (fun v88_14 h15 =>
VL (vixS 1 (l8.getD 0 .und) v88_14) fun v89_16 =>
pld h15 none (fun v90_17 h18 =>
VL (vlenS v90_17) fun v91_19 =>
LP [4, 28] [0, 3, 5, 26, 27] (fun w20 l21 h22 N23 =>
VL (lift2 (abin .lss) (w20.getD 1 .und) (l21.getD 4 .und)) fun v93_24 =>
pcond (
JN (fun k25 =>
VL (vixS 1 (l21.getD 3 .und) (w20.getD 1 .und)) fun v94_28 =>
pld h22 none (fun v95_29 h30 =>
VL (vixS 1 (l21.getD 1 .und) v95_29) fun v98_31 =>
pld h30 none (fun v99_32 h33 =>
VL (lift1 (aun .not) v99_32) fun v100_34 =>
pcond (
VL (vixS 1 (l21.getD 1 .und) v95_29) fun v103_35 =>
pst h33 1 (cellsV (.bool true)) (fun u36 h37 =>
pmks h37 106 2 1 1 (fun h38 =>
papp h38 (fun m41 s42 => papV 2 1 8 107 h38 (fun v107_39 h40 =>
k25 [(l21.getD 0 .und), (l21.getD 1 .und), v107_39, (l21.getD 2 .und), (l21.getD 3 .und), (l21.getD 4 .und), (w20.getD 1 .und)] h40) m41 s42 (w20.getD 0 .und)) (pavs h38 (w20.getD 0 .und) []) (preadS 1 h38 (.rf 106 0 1))) (vfill [(.int .i64 0)] [(0, 1, v95_29)])) v103_35) (
k25 [(l21.getD 0 .und), (l21.getD 1 .und), (w20.getD 0 .und), (l21.getD 2 .und), (l21.getD 3 .und), (l21.getD 4 .und), (w20.getD 1 .und)] h33) v100_34) v98_31) v94_28) fun o26 h27 =>
VL (lift2 (abin .add) (o26.getD 6 .und) (.int .i64 1)) fun v108_43 =>
N23 [(o26.getD 2 .und), v108_43] [(o26.getD 0 .und), (o26.getD 1 .und), (o26.getD 3 .und), (o26.getD 4 .und), (o26.getD 5 .und)] h27) (
VL (lift2 (abin .add) (l21.getD 2 .und) (.int .i64 1)) fun v83_44 =>
N10 [(w20.getD 0 .und), v83_44] [(l21.getD 0 .und), (l21.getD 1 .und)] h22) v93_24) [(w7.getD 0 .und), (.int .i64 0)] [(l8.getD 0 .und), (l8.getD 1 .und), (w7.getD 1 .und), v90_17, v91_19] h18) v89_16) v87_13) (
Rt h9 (w7.getD 0 .und)) v81_12) [(.rf 77 0 1), (.int .i64 0)] [x0, v74_1] h6) (vfill [(.int .i64 0)] [(0, 1, (.int .i64 0))])) v76_3) v73_0 v73_0
theorem impl_namedCosets_f {x0 : V} : Prt Try.prog 62 [x0] (impl_namedCosets_F x0) := pfun (fn := Try.f62) (m := [.s, .s, .s, .s, .s, .s, .l [4, 5] [0, 3], .s, .s, .s, .s, .l [4, 28] [0, 3, 5, 26, 27], .s, .s, .j [0, 3, 4, 5, 26, 27, 28], .s, .s, .s, .s]) (c := 1 ≤ 46) rfl (fun h0 Rt => by kernel_rfl) (by decide)

def laws_eqPlaces_F (x0 x1 : V) (hi : Hp) (Rt : Hp → V → Prop) : Prop :=
pbox hi 66 23 (cellsV x0) fun h0 =>
pbox h0 67 23 (cellsV x1) fun h1 =>
LP [5] [2, 3] (fun w2 l3 h4 N5 =>
VL (lift2 (abin .lss) (w2.getD 0 .und) (.int .i64 16)) fun v71_6 =>
pcond (
VL (vixA 16 1 (l3.getD 0 .und) (w2.getD 0 .und)) fun v75_7 =>
pld h4 none (fun v76_8 h9 =>
VL (vixA 16 1 (l3.getD 1 .und) (w2.getD 0 .und)) fun v78_10 =>
pld h9 none (fun v79_11 h12 =>
VL (lift2 (abin .neq) v76_8 v79_11) fun v80_13 =>
pcond (
Rt h12 (.bool false)) (
VL (lift2 (abin .add) (w2.getD 0 .und) (.int .i64 1)) fun v73_14 =>
N5 [v73_14] [(l3.getD 0 .und), (l3.getD 1 .und)] h12) v80_13) v78_10) v75_7) (
Rt h4 (.bool true)) v71_6) [(.int .i64 0)] [(.ptr 66 0), (.ptr 67 0)] h1
theorem laws_eqPlaces_f {x0 x1 : V} : Prt Try.prog 63 [x0, x1] (laws_eqPlaces_F x0 x1) := pfun (fn := Try.f63) (m := [.s, .s, .s, .l [5] [2, 3], .s, .s, .s, .s, .s, .s]) (c := 2 ≤ 17) rfl (fun h0 Rt => by kernel_rfl) (by decide)

def spec_l01Is_F (x0 : V) (hi : Hp) (Rt : Hp → V → Prop) : Prop :=
pbox hi 65 25 (cellsV x0) fun h0 =>
pld h0 (some 16) (fun v68_1 h2 =>
pld h2 none (fun v70_3 h4 =>
pcal Try.prog 100 71 h4 (fun v71_5 h6 =>
pgk true h6 (fun g7 k8 => k8 (.ptr 65 17) h6) (fun g9 v9_10 h11 =>
pgk true h11 (fun g12 k13 => pld h11 (some 16) (fun v74_14 h15 =>
k13 v74_14 h15) v9_10) (fun g16 v10_17 h18 =>
pgk true h18 (fun g19 k20 => k20 (.ptr 65 0) h18) (fun g21 v11_22 h23 =>
pgk true h23 (fun g24 k25 => pld h23 none (fun v76_26 h27 =>
k25 v76_26 h27) v11_22) (fun g28 v12_29 h30 =>
pgk true h30 (fun g31 k32 => pcal Try.prog 100 77 h30 (fun v77_33 h34 =>
k32 v77_33 h34) [v10_17, v12_29]) (fun g35 v13_36 h37 =>
VL (vpick g35 v13_36 (.bool false)) fun v78_38 =>
pgk true h37 (fun g39 k40 => k40 (.ptr 65 0) h37) (fun g41 v16_42 h43 =>
pgk true h43 (fun g44 k45 => pld h43 none (fun v81_46 h47 =>
k45 v81_46 h47) v16_42) (fun g48 v17_49 h50 =>
pgk true h50 (fun g51 k52 => k52 (.ptr 65 1) h50) (fun g53 v18_54 h55 =>
pgk true h55 (fun g56 k57 => pld h55 (some 16) (fun v83_58 h59 =>
k57 v83_58 h59) v18_54) (fun g60 v19_61 h62 =>
pgk true h62 (fun g63 k64 => k64 (.ptr 65 17) h62) (fun g65 v20_66 h67 =>
pgk true h67 (fun g68 k69 => pld h67 (some 16) (fun v85_70 h71 =>
k69 v85_70 h71) v20_66) (fun g72 v21_73 h74 =>
pgk true h74 (fun g75 k76 => pcal Try.prog 101 86 h74 (fun v86_77 h78 =>
k76 v86_77 h78) [v17_49, v19_61, v21_73]) (fun g79 v22_80 h81 =>
VL (vpick g79 v22_80 (.bool false)) fun v87_82 =>
Rt h81 v87_82) g72) g65) g60) g53) g48) g41) v78_38) g28) g21) g16) g9) v71_5) [v68_1, v70_3]) (.ptr 65 0)) (.ptr 65 1)
theorem spec_l01Is_f {x0 : V} : Prt Try.prog 64 [x0] (spec_l01Is_F x0) := pfun (fn := Try.f64) (m := [.s, .s]) (c := 1 ≤ 24) rfl (fun h0 Rt => by kernel_rfl) (by decide)

def spec_l06Is_F (x0 : V) (hi : Hp) (Rt : Hp → V → Prop) : Prop :=
LP [3] [0] (fun w0 l1 h2 N3 =>
VL (vlenS (l1.getD 0 .und)) fun v70_4 =>
VL (lift2 (abin .lss) (w0.getD 0 .und) v70_4) fun v71_5 =>
pcond (
VL (vixS 1 (l1.getD 0 .und) (w0.getD 0 .und)) fun v76_6 =>
pld h2 none (fun v77_7 h8 =>
pcal Try.prog 75 78 h8 (fun v78_9 h10 =>
VL (lift1 (aun .not) v78_9) fun v79_11 =>
pcond (
Rt h10 (.bool false)) (
VL (lift2 (abin .add) (w0.getD 0 .und) (.int .i64 1)) fun v73_12 =>
N3 [v73_12] [(l1.getD 0 .und)] h10) v79_11) [v77_7, (.int .i64 0), (.int .i64 10006)]) v76_6) (
VL (vlenS (l1.getD 0 .und)) fun v81_13 =>
VL (lift2 (abin .leq) v81_13 (.int .i64 17)) fun v82_14 =>
pgk true h2 (fun g15 k16 => k16 (l1.getD 0 .und) h2) (fun g17 v20_18 h19 =>
pgk true h19 (fun g20 k21 => VL (vlenS v20_18) fun v85_22 =>
k21 v85_22 h19) (fun g23 v21_24 h25 =>
pgk true h25 (fun g26 k27 => VL (lift2 (abin .eql) v21_24 (.int .i64 0)) fun v86_28 =>
k27 v86_28 h25) (fun g29 v22_30 h31 =>
pgk true h31 (fun g32 k33 => k33 v22_30 h31) (fun g34 v23_35 h36 =>
pgk false h36 (fun g37 k38 => k38 (l1.getD 0 .und) h36) (fun g39 v24_40 h41 =>
pgk false h41 (fun g42 k43 => k43 (l1.getD 0 .und) h41) (fun g44 v25_45 h46 =>
pgk false h46 (fun g47 k48 => VL (vlenS v25_45) fun v90_49 =>
k48 v90_49 h46) (fun g50 v26_51 h52 =>
pgk false h52 (fun g53 k54 => VL (lift2 (abin .sub) v26_51 (.int .i64 1)) fun v91_55 =>
k54 v91_55 h52) (fun g56 v27_57 h58 =>
pgk false h58 (fun g59 k60 => VL (vixS 1 v24_40 v27_57) fun v92_61 =>
k60 v92_61 h58) (fun g62 v28_63 h64 =>
pgk false h64 (fun g65 k66 => pld h64 none (fun v93_67 h68 =>
k66 v93_67 h68) v28_63) (fun g69 v29_70 h71 =>
pgk false h71 (fun g72 k73 => VL (lift2 (abin .neq) v29_70 (.int .i64 0)) fun v94_74 =>
k73 v94_74 h71) (fun g75 v30_76 h77 =>
pgk true h77 (fun g78 k79 => VL (vpick g75 (.bool true) v30_76) fun v95_80 =>
k79 v95_80 h77) (fun g81 v31_82 h83 =>
VL (vpick g81 v31_82 (.bool false)) fun v96_84 =>
Rt h83 v96_84) g34) g69) g62) g56) g50) g44) g39) v23_35) g29) g23) g17) v82_14) v71_5) [(.int .i64 0)] [x0] hi
theorem spec_l06Is_f {x0 : V} : Prt Try.prog 65 [x0] (spec_l06Is_F x0) := pfun (fn := Try.f65) (m := [.s, .s, .s, .l [3] [0], .s, .s, .s, .s, .s, .s]) (c := 1 ≤ 33) rfl (fun h0 Rt => by kernel_rfl) (by decide)

def impl_IsDessin_F (x0 : V) (hi : Hp) (Rt : Hp → V → Prop) : Prop :=
pbox hi 65 25 (cellsV x0) fun h0 =>
pld h0 none (fun v69_1 h2 =>
pld h2 (some 16) (fun v71_3 h4 =>
pcal Try.prog 102 73 h4 (fun v73_5 h6 =>
pgk true h6 (fun g7 k8 => k8 (.ptr 65 17) h6) (fun g9 v11_10 h11 =>
pgk true h11 (fun g12 k13 => pld h11 (some 16) (fun v76_14 h15 =>
k13 v76_14 h15) v11_10) (fun g16 v12_17 h18 =>
pgk true h18 (fun g19 k20 => k20 v69_1 h18) (fun g21 v13_22 h23 =>
pgk true h23 (fun g24 k25 => pcal Try.prog 102 78 h23 (fun v78_26 h27 =>
k25 v78_26 h27) [v12_17, v13_22]) (fun g28 v14_29 h30 =>
VL (vpick g28 v14_29 (.bool false)) fun v79_31 =>
pgk true h30 (fun g32 k33 => k33 v69_1 h30) (fun g34 v17_35 h36 =>
pgk true h36 (fun g37 k38 => k38 (.ptr 65 1) h36) (fun g39 v18_40 h41 =>
pgk true h41 (fun g42 k43 => pld h41 (some 16) (fun v83_44 h45 =>
k43 v83_44 h45) v18_40) (fun g46 v19_47 h48 =>
pgk true h48 (fun g49 k50 => k50 (.ptr 65 17) h48) (fun g51 v20_52 h53 =>
pgk true h53 (fun g54 k55 => pld h53 (some 16) (fun v85_56 h57 =>
k55 v85_56 h57) v20_52) (fun g58 v21_59 h60 =>
pgk true h60 (fun g61 k62 => pmks h60 86 23 32 2 (fun h63 =>
k62 (.rf 86 0 2) h63) (vfill (vi .u8 (List.replicate 32 0)) [(0, 16, v19_47), (16, 16, v21_59)])) (fun g64 v22_65 h66 =>
pgk true h66 (fun g67 k68 => pcal Try.prog 103 87 h66 (fun v87_69 h70 =>
k68 v87_69 h70) [v17_35, v22_65]) (fun g71 v23_72 h73 =>
pgk true h73 (fun g74 k75 => k75 v69_1 h73) (fun g76 v24_77 h78 =>
pgk true h78 (fun g79 k80 => VL (lift2 (abin .eql) v23_72 v24_77) fun v89_81 =>
k80 v89_81 h78) (fun g82 v25_83 h84 =>
VL (vpick g82 v25_83 (.bool false)) fun v90_85 =>
Rt h84 v90_85) g76) g71) g64) g58) g51) g46) g39) g34) v79_31) g21) g16) g9) v73_5) [v71_3, v69_1]) (.ptr 65 1)) (.ptr 65 0)
theorem impl_IsDessin_f {x0 : V} : Prt Try.prog 66 [x0] (impl_IsDessin_F x0) := pfun (fn := Try.f66) (m := [.s, .s, .s]) (c := 1 ≤ 27) rfl (fun h0 Rt => by kernel_rfl) (by decide)

def impl_IsPolynomial_F (x0 : V) (hi : Hp) (Rt : Hp → V → Prop) : Prop :=
VL (vlenS x0) fun v70_0 =>
VL (lift2 (abin .gtr) v70_0 (.int .i64 17)) fun v71_1 =>
pgk false hi (fun g2 k3 => k3 x0 hi) (fun g4 v9_5 h6 =>
pgk false h6 (fun g7 k8 => VL (vlenS v9_5) fun v74_9 =>
k8 v74_9 h6) (fun g10 v10_11 h12 =>
pgk false h12 (fun g13 k14 => VL (lift2 (abin .gtr) v10_11 (.int .i64 0)) fun v75_15 =>
k14 v75_15 h12) (fun g16 v11_17 h18 =>
pgk false h18 (fun g19 k20 => k20 v11_17 h18) (fun g21 v12_22 h23 =>
pgk true h23 (fun g24 k25 => k25 x0 h23) (fun g26 v13_27 h28 =>
pgk true h28 (fun g29 k30 => k30 x0 h28) (fun g31 v14_32 h33 =>
pgk true h33 (fun g34 k35 => VL (vlenS v14_32) fun v79_36 =>
k35 v79_36 h33) (fun g37 v15_38 h39 =>
pgk true h39 (fun g40 k41 => VL (lift2 (abin .sub) v15_38 (.int .i64 1)) fun v80_42 =>
k41 v80_42 h39) (fun g43 v16_44 h45 =>
pgk true h45 (fun g46 k47 => VL (vixS 1 v13_27 v16_44) fun v81_48 =>
k47 v81_48 h45) (fun g49 v17_50 h51 =>
pgk true h51 (fun g52 k53 => pld h51 none (fun v82_54 h55 =>
k53 v82_54 h55) v17_50) (fun g56 v18_57 h58 =>
pgk true h58 (fun g59 k60 => VL (lift2 (abin .eql) v18_57 (.int .i64 0)) fun v83_61 =>
k60 v83_61 h58) (fun g62 v19_63 h64 =>
pgk false h64 (fun g65 k66 => VL (vpick g62 v19_63 (.bool false)) fun v84_67 =>
k66 v84_67 h64) (fun g68 v20_69 h70 =>
VL (vpick g68 (.bool true) v20_69) fun v85_71 =>
pcond (
Rt h70 (.bool false)) (
VL (vlenS x0) fun v87_72 =>
LP [24] [22, 23] (fun w73 l74 h75 N76 =>
VL (lift2 (abin .lss) (w73.getD 0 .und) (l74.getD 1 .und)) fun v89_77 =>
pcond (
VL (vixS 1 (l74.getD 0 .und) (w73.getD 0 .und)) fun v90_78 =>
pld h75 none (fun v91_79 h80 =>
pcal Try.prog 104 93 h80 (fun v93_81 h82 =>
VL (lift1 (aun .not) v93_81) fun v94_83 =>
pcond (
Rt h82 (.bool false)) (
VL (lift2 (abin .add) (w73.getD 0 .und) (.int .i64 1)) fun v95_84 =>
N76 [v95_84] [(l74.getD 0 .und), (l74.getD 1 .und)] h82) v94_83) [v91_79]) v90_78) (
Rt h75 (.bool true)) v89_77) [(.int .i64 0)] [x0, v87_72] h70) v85_71) g21) g56) g49) g43) g37) g31) g26) v12_22) g16) g10) g4) v71_1
theorem impl_IsPolynomial_f {x0 : V} : Prt Try.prog 67 [x0] (impl_IsPolynomial_F x0) := pfun (fn := Try.f67) (m := [.s, .s, .s, .s, .s, .s, .l [24] [22, 23], .s, .s, .s, .s, .s, .s, .s]) (c := 1 ≤ 32) rfl (fun h0 Rt => by kernel_rfl) (by decide)

def spec_l09Code_F (x0 x1 x2 x3 : V) (hi : Hp) (Rt : Hp → V → Prop) : Prop :=
pbox hi 68 25 (cellsV x0) fun h0 =>
pld h0 (some 33) (fun v74_1 h2 =>
pcal Try.prog 64 75 h2 (fun v75_3 h4 =>
VL (lift1 (aun .not) v75_3) fun v76_5 =>
pcond (
Rt h4 (.int .i64 1)) (
pcal Try.prog 75 79 h4 (fun v79_6 h7 =>
VL (lift1 (aun .not) v79_6) fun v80_8 =>
pgk false h7 (fun g9 k10 => k10 x2 h7) (fun g11 v18_12 h13 =>
pgk false h13 (fun g14 k15 => k15 (.ptr 68 0) h13) (fun g16 v19_17 h18 =>
pgk false h18 (fun g19 k20 => pld h18 none (fun v84_21 h22 =>
k20 v84_21 h22) v19_17) (fun g23 v20_24 h25 =>
pgk false h25 (fun g26 k27 => k27 x1 h25) (fun g28 v21_29 h30 =>
pgk false h30 (fun g31 k32 => VL (lift2 (abin .sub) v21_29 (.int .i64 1)) fun v86_33 =>
k32 v86_33 h30) (fun g34 v22_35 h36 =>
pgk false h36 (fun g37 k38 => pcal Try.prog 105 87 h36 (fun v87_39 h40 =>
k38 v87_39 h40) [v18_12, v20_24, (.int .i64 0), v22_35]) (fun g41 v23_42 h43 =>
pgk false h43 (fun g44 k45 => VL (lift1 (aun .not) v23_42) fun v88_46 =>
k45 v88_46 h43) (fun g47 v24_48 h49 =>
VL (vpick g47 (.bool true) v24_48) fun v89_50 =>
pgk false h49 (fun g51 k52 => k52 x3 h49) (fun g53 v27_54 h55 =>
pgk false h55 (fun g56 k57 => k57 (.ptr 68 0) h55) (fun g58 v28_59 h60 =>
pgk false h60 (fun g61 k62 => pld h60 none (fun v93_63 h64 =>
k62 v93_63 h64) v28_59) (fun g65 v29_66 h67 =>
pgk false h67 (fun g68 k69 => k69 x1 h67) (fun g70 v30_71 h72 =>
pgk false h72 (fun g73 k74 => VL (lift2 (abin .sub) v30_71 (.int .i64 1)) fun v95_75 =>
k74 v95_75 h72) (fun g76 v31_77 h78 =>
pgk false h78 (fun g79 k80 => pcal Try.prog 105 96 h78 (fun v96_81 h82 =>
k80 v96_81 h82) [v27_54, v29_66, (.int .i64 0), v31_77]) (fun g83 v32_84 h85 =>
pgk false h85 (fun g86 k87 => VL (lift1 (aun .not) v32_84) fun v97_88 =>
k87 v97_88 h85) (fun g89 v33_90 h91 =>
VL (vpick g89 (.bool true) v33_90) fun v98_92 =>
pcond (
Rt h91 (.int .i64 2)) (
Rt h91 (.int .i64 0)) v98_92) g83) g76) g70) g65) g58) g53) v89_50) g41) g34) g28) g23) g16) g11) v80_8) [x1, (.int .i64 1), (.int .i64 16)]) v76_5) [v74_1]) (.ptr 68 0)
theorem spec_l09Code_f {x0 x1 x2 x3 : V} : Prt Try.prog 68 [x0, x1, x2, x3] (spec_l09Code_F x0 x1 x2 x3) := pfun (fn := Try.f68) (m := [.s, .s, .s, .s, .s, .s, .s]) (c := 4 ≤ 35) rfl (fun h0 Rt => by kernel_rfl) (by decide)

def laws_toPlaces_F (x0 : V) (hi : Hp) (Rt : Hp → V → Prop) : Prop :=
pbox hi 65 22 (cellsV x0) fun h0 =>
palloc h0 66 23 (vi .u8 (List.replicate 16 0)) fun h1 =>
palloc h1 67 23 (vi .u8 (List.replicate 16 0)) fun h2 =>
LP [4] [1, 2, 3] (fun w3 l4 h5 N6 =>
VL (lift2 (abin .lss) (w3.getD 0 .und) (.int .i64 16)) fun v70_7 =>
pcond (
VL (vixA 16 1 (l4.getD 0 .und) (w3.getD 0 .und)) fun v75_8 =>
pld h5 none (fun v76_9 h10 =>
VL (vixA 16 1 (l4.getD 2 .und) (w3.getD 0 .und)) fun v77_11 =>
pst h10 1 (cellsV v76_9) (fun u12 h13 =>
VL (lift2 (abin .add) (w3.getD 0 .und) (.int .i64 1)) fun v72_14 =>
N6 [v72_14] [(l4.getD 0 .und), (l4.getD 1 .und), (l4.getD 2 .und)] h13) v77_11) v75_8) (
pld h5 (some 16) (fun v78_15 h16 =>
pst h16 16 (cellsV v78_15) (fun u17 h18 =>
VL (pcellV h18 (some 16) (l4.getD 1 .und)) fun r19 =>
Rt h18 r19) (l4.getD 1 .und)) (l4.getD 2 .und)) v70_7) [(.int .i64 0)] [(.ptr 65 0), (.ptr 66 0), (.ptr 67 0)] h2
theorem laws_toPlaces_f {x0 : V} : Prt Try.prog 69 [x0] (laws_toPlaces_F x0) := pfun (fn := Try.f69) (m := [.s, .s, .s, .s, .l [4] [1, 2, 3], .s, .s, .s, .s]) (c := 1 ≤ 15) rfl (fun h0 Rt => by kernel_rfl) (by decide)

def impl_coverCode_F (x0 x1 x2 x3 : V) (hi : Hp) (Rt : Hp → V → Prop) : Prop :=
pbox hi 68 25 (cellsV x0) fun h0 =>
pld h0 (some 33) (fun v74_1 h2 =>
pcal Try.prog 66 75 h2 (fun v75_3 h4 =>
VL (lift1 (aun .not) v75_3) fun v76_5 =>
pcond (
Rt h4 (.int .i64 1)) (
pld h4 (some 33) (fun v78_6 h7 =>
pmks h7 82 26 2 2 (fun h8 =>
pcal Try.prog 106 83 h8 (fun v83_9 h10 =>
VL (lift1 (aun .not) v83_9) fun v84_11 =>
pcond (
Rt h10 (.int .i64 2)) (
Rt h10 (.int .i64 0)) v84_11) [v78_6, x1, (.rf 82 0 2)]) (vfill [.nils, .nils] [(0, 1, x2), (1, 1, x3)])) (.ptr 68 0)) v76_5) [v74_1]) (.ptr 68 0)
theorem impl_coverCode_f {x0 x1 x2 x3 : V} : Prt Try.prog 70 [x0, x1, x2, x3] (impl_coverCode_F x0 x1 x2 x3) := pfun (fn := Try.f70) (m := [.s, .s, .s, .s, .s, .s, .s]) (c := 4 ≤ 21) rfl (fun h0 Rt => by kernel_rfl) (by decide)

def spec_l09Chain_F (x0 x1 : V) (hi : Hp) (Rt : Hp → V → Prop) : Prop :=
pbox hi 66 25 (cellsV x0) fun h0 =>
pld h0 none (fun v71_1 h2 =>
pcal Try.prog 105 72 h2 (fun v72_3 h4 =>
Rt h4 v72_3) [x1, v71_1, (.int .i64 (-1000)), (.int .i64 1000)]) (.ptr 66 0)
theorem spec_l09Chain_f {x0 x1 : V} : Prt Try.prog 71 [x0, x1] (spec_l09Chain_F x0 x1) := pfun (fn := Try.f71) (m := [.s, .s]) (c := 2 ≤ 9) rfl (fun h0 Rt => by kernel_rfl) (by decide)

def spec_l09Cycle_F (x0 x1 : V) (hi : Hp) (Rt : Hp → V → Prop) : Prop :=
pbox hi 66 25 (cellsV x0) fun h0 =>
pld h0 (some 16) (fun v75_1 h2 =>
pld h2 none (fun v77_3 h4 =>
pldb h4 (some 16) (fun v81_5 h6 =>
pldb h6 none (fun v83_7 h8 =>
pcalp Try.prog 81 78 h8 (fun v78_9 h10 =>
pmks h10 73 26 0 0 (fun h11 =>
papp h11 (fun m14 s15 => papV 26 1 24 79 h11 (fun v79_12 h13 =>
pcal Try.prog 81 84 h13 (fun v84_16 h17 =>
papp h17 (fun m20 s21 => papV 26 1 24 85 h17 (fun v85_18 h19 =>
LP [6] [1, 5] (fun w22 l23 h24 N25 =>
VL (vlenS (l23.getD 1 .und)) fun v88_26 =>
VL (lift2 (abin .lss) (w22.getD 0 .und) v88_26) fun v89_27 =>
pcond (
LP [7, 8] [1, 5, 6] (fun w28 l29 h30 N31 =>
VL (vixS 1 (l29.getD 1 .und) (l29.getD 2 .und)) fun v95_32 =>
pld h30 none (fun v96_33 h34 =>
VL (vlenS v96_33) fun v97_35 =>
VL (lift2 (abin .lss) (w28.getD 1 .und) v97_35) fun v98_36 =>
pcond (
VL (vixS 1 (l29.getD 1 .und) (l29.getD 2 .und)) fun v105_37 =>
pld h34 none (fun v106_38 h39 =>
VL (vixS 1 v106_38 (w28.getD 1 .und)) fun v108_40 =>
pld h39 none (fun v109_41 h42 =>
VL (vixS 1 (l29.getD 0 .und) v109_41) fun v110_43 =>
pld h42 none (fun v111_44 h45 =>
VL (lift2 (abin .add) (w28.getD 0 .und) v111_44) fun v112_46 =>
VL (lift2 (abin .add) (w28.getD 1 .und) (.int .i64 1)) fun v100_47 =>
N31 [v112_46, v100_47] [(l29.getD 0 .und), (l29.getD 1 .und), (l29.getD 2 .und)] h45) v110_43) v108_40) v105_37) (
VL (lift2 (abin .neq) (w28.getD 0 .und) (.int .i64 0)) fun v114_48 =>
pcond (
Rt h34 (.bool false)) (
VL (lift2 (abin .add) (l29.getD 2 .und) (.int .i64 1)) fun v91_49 =>
N25 [v91_49] [(l29.getD 0 .und), (l29.getD 1 .und)] h34) v114_48) v98_36) v95_32) [(.int .i64 0), (.int .i64 0)] [(l23.getD 0 .und), (l23.getD 1 .und), (w22.getD 0 .und)] h24) (
Rt h24 (.bool true)) v89_27) [(.int .i64 0)] [x1, v85_18] h19) m20 s21 v79_12) (pavs h17 v79_12 []) (preadS 1 h17 v84_16)) [v81_5, v83_7]) m14 s15 (.rf 73 0 0)) (pavs h11 (.rf 73 0 0) [(.ptr 66 0), (.ptr 66 0)]) (preadS 1 h11 v78_9)) (vfill [] [])) [v75_1, v77_3]) (.ptr 66 0) (.ptr 66 0)) (.ptr 66 17) (.ptr 66 0)) (.ptr 66 0)) (.ptr 66 1)
theorem spec_l09Cycle_f {x0 x1 : V} : Prt Try.prog 72 [x0, x1] (spec_l09Cycle_F x0 x1) := pfun (fn := Try.f72) (m := [.s, .s, .s, .s, .l [6] [1, 5], .s, .s, .s, .s, .s, .s, .l [7, 8] [1, 5, 6], .s, .s, .s, .s, .s, .s]) (c := 2 ≤ 51) rfl (fun h0 Rt => by kernel_rfl) (by decide)

def impl_isChain_F (x0 x1 : V) (hi : Hp) (Rt : Hp → V → Prop) : Prop :=
pbox hi 66 25 (cellsV x0) fun h0 =>
VL (vlenS x1) fun v72_1 =>
pld h0 none (fun v74_2 h3 =>
VL (lift2 (abin .neq) v72_1 v74_2) fun v75_4 =>
pcond (
Rt h3 (.bool false)) (
VL (vlenS x1) fun v77_5 =>
LP [14] [12, 13] (fun w6 l7 h8 N9 =>
VL (lift2 (abin .lss) (w6.getD 0 .und) (l7.getD 1 .und)) fun v79_10 =>
pcond (
VL (vixS 1 (l7.getD 0 .und) (w6.getD 0 .und)) fun v80_11 =>
pld h8 none (fun v81_12 h13 =>
VL (lift2 (abin .lss) v81_12 (.int .i64 (-1000))) fun v83_14 =>
pgk false h13 (fun g15 k16 => k16 v81_12 h13) (fun g17 v21_18 h19 =>
pgk false h19 (fun g20 k21 => VL (lift2 (abin .gtr) v21_18 (.int .i64 1000)) fun v86_22 =>
k21 v86_22 h19) (fun g23 v22_24 h25 =>
VL (vpick g23 (.bool true) v22_24) fun v87_26 =>
pcond (
Rt h25 (.bool false)) (
VL (lift2 (abin .add) (w6.getD 0 .und) (.int .i64 1)) fun v88_27 =>
N9 [v88_27] [(l7.getD 0 .und), (l7.getD 1 .und)] h25) v87_26) g17) v83_14) v80_11) (
Rt h8 (.bool true)) v79_10) [(.int .i64 0)] [x1, v77_5] h3) v75_4) (.ptr 66 0)
theorem impl_isChain_f {x0 x1 : V} : Prt Try.prog 73 [x0, x1] (impl_isChain_F x0 x1) := pfun (fn := Try.f73) (m := [.s, .s, .s, .s, .s, .s, .l [14] [12, 13], .s, .s, .s, .s, .s, .s, .s]) (c := 2 ≤ 25) rfl (fun h0 Rt => by kernel_rfl) (by decide)

def impl_isCycle_F (x0 x1 : V) (hi : Hp) (Rt : Hp → V → Prop) : Prop :=
pbox hi 66 25 (cellsV x0) fun h0 =>
pld h0 (some 33) (fun v77_1 h2 =>
pcal Try.prog 107 78 h2 (fun v78_3 h4 =>
VL (vext 0 v78_3) fun v79_5 =>
VL (vext 1 v78_3) fun v80_6 =>
VL (vlenS v79_5) fun v82_7 =>
LP [19] [1, 17, 18] (fun w8 l9 h10 N11 =>
VL (lift2 (abin .lss) (w8.getD 0 .und) (l9.getD 2 .und)) fun v84_12 =>
pcond (
VL (vixS 1 (l9.getD 1 .und) (w8.getD 0 .und)) fun v85_13 =>
pld h10 none (fun v86_14 h15 =>
VL (vlenS v86_14) fun v88_16 =>
LP [9, 25] [1, 17, 18, 19, 23, 24] (fun w17 l18 h19 N20 =>
VL (lift2 (abin .lss) (w17.getD 1 .und) (l18.getD 5 .und)) fun v90_21 =>
pcond (
VL (vixS 1 (l18.getD 4 .und) (w17.getD 1 .und)) fun v91_22 =>
pld h19 none (fun v92_23 h24 =>
VL (vixS 1 (l18.getD 0 .und) v92_23) fun v96_25 =>
pld h24 none (fun v97_26 h27 =>
VL (lift2 (abin .add) (w17.getD 0 .und) v97_26) fun v98_28 =>
VL (lift2 (abin .add) (w17.getD 1 .und) (.int .i64 1)) fun v99_29 =>
N20 [v98_28, v99_29] [(l18.getD 0 .und), (l18.getD 1 .und), (l18.getD 2 .und), (l18.getD 3 .und), (l18.getD 4 .und), (l18.getD 5 .und)] h27) v96_25) v91_22) (
VL (lift2 (abin .neq) (w17.getD 0 .und) (.int .i64 0)) fun v101_30 =>
pcond (
Rt h19 (.bool false)) (
VL (lift2 (abin .add) (l18.getD 3 .und) (.int .i64 1)) fun v102_31 =>
N11 [v102_31] [(l18.getD 0 .und), (l18.getD 1 .und), (l18.getD 2 .und)] h19) v101_30) v90_21) [(.int .i64 0), (.int .i64 0)] [(l9.getD 0 .und), (l9.getD 1 .und), (l9.getD 2 .und), (w8.getD 0 .und), v86_14, v88_16] h15) v85_13) (
Rt h10 (.bool true)) v84_12) [(.int .i64 0)] [x1, v79_5, v82_7] h4) [v77_1]) (.ptr 66 0)
theorem impl_isCycle_f {x0 x1 : V} : Prt Try.prog 74 [x0, x1] (impl_isCycle_F x0 x1) := pfun (fn := Try.f74) (m := [.s, .s, .s, .s, .l [19] [1, 17, 18], .s, .s, .s, .s, .s, .s, .s, .l [9, 25] [1, 17, 18, 19, 23, 24], .s, .s, .s, .s, .s, .s, .s]) (c := 2 ≤ 39) rfl (fun h0 Rt => by kernel_rfl) (by decide)

def spec_l01In_F (x0 x1 x2 : V) (hi : Hp) (Rt : Hp → V → Prop) : Prop :=
VL (lift2 (abin .geq) x0 x1) fun v73_0 =>
pgk true hi (fun g1 k2 => k2 x0 hi) (fun g3 v11_4 h5 =>
pgk true h5 (fun g6 k7 => k7 x2 h5) (fun g8 v12_9 h10 =>
pgk true h10 (fun g11 k12 => VL (lift2 (abin .leq) v11_4 v12_9) fun v77_13 =>
k12 v77_13 h10) (fun g14 v13_15 h16 =>
VL (vpick g14 v13_15 (.bool false)) fun v78_17 =>
Rt h16 v78_17) g8) g3) v73_0
theorem spec_l01In_f {x0 x1 x2 : V} : Prt Try.prog 75 [x0, x1, x2] (spec_l01In_F x0 x1 x2) := pfun (fn := Try.f75) (m := [.s, .s]) (c := 3 ≤ 15) rfl (fun h0 Rt => by kernel_rfl) (by decide)

def spec_l02Rename_F (x0 x1 : V) (hi : Hp) (Rt : Hp → V → Prop) : Prop :=
pbox hi 66 25 (cellsV x0) fun h0 =>
pbox h0 67 23 (cellsV x1) fun h1 =>
palloc h1 68 25 ([(.int .i64 0)] ++ (vi .u8 (List.replicate 32 0))) fun h2 =>
pld h2 none (fun v72_3 h4 =>
VL (vbld (vfill ([(.int .i64 0)] ++ (vi .u8 (List.replicate 32 0))) [(0, 1, v72_3)])) fun v73_5 =>
palloc h4 69 25 ([(.int .i64 0)] ++ (vi .u8 (List.replicate 32 0))) fun h6 =>
pst h6 33 (cellsV v73_5) (fun u7 h8 =>
LP [6] [2, 3, 4, 5] (fun w9 l10 h11 N12 =>
VL (vfa 0 (l10.getD 0 .und)) fun v75_13 =>
pld h11 none (fun v76_14 h15 =>
VL (lift2 (abin .lss) (w9.getD 0 .und) v76_14) fun v77_16 =>
pcond (
VL (vixA 16 1 (l10.getD 1 .und) (w9.getD 0 .und)) fun v81_17 =>
pld h15 none (fun v82_18 h19 =>
VL (vfa 1 (l10.getD 0 .und)) fun v84_20 =>
VL (vixA 16 1 v84_20 (w9.getD 0 .und)) fun v85_21 =>
pld h19 none (fun v86_22 h23 =>
VL (vixA 16 1 (l10.getD 1 .und) v86_22) fun v87_24 =>
pld h23 none (fun v88_25 h26 =>
VL (vfa 1 (l10.getD 3 .und)) fun v89_27 =>
VL (vixA 16 1 v89_27 v82_18) fun v90_28 =>
pst h26 1 (cellsV v88_25) (fun u29 h30 =>
VL (vixA 16 1 (l10.getD 1 .und) (w9.getD 0 .und)) fun v92_31 =>
pld h30 none (fun v93_32 h33 =>
VL (vfa 17 (l10.getD 0 .und)) fun v95_34 =>
VL (vixA 16 1 v95_34 (w9.getD 0 .und)) fun v96_35 =>
pld h33 none (fun v97_36 h37 =>
VL (vixA 16 1 (l10.getD 1 .und) v97_36) fun v98_38 =>
pld h37 none (fun v99_39 h40 =>
VL (vfa 17 (l10.getD 3 .und)) fun v100_41 =>
VL (vixA 16 1 v100_41 v93_32) fun v101_42 =>
pst h40 1 (cellsV v99_39) (fun u43 h44 =>
VL (lift2 (abin .add) (w9.getD 0 .und) (.int .i64 1)) fun v79_45 =>
N12 [v79_45] [(l10.getD 0 .und), (l10.getD 1 .und), (l10.getD 2 .und), (l10.getD 3 .und)] h44) v101_42) v98_38) v96_35) v92_31) v90_28) v87_24) v85_21) v81_17) (
pld h15 (some 33) (fun v102_46 h47 =>
pst h47 33 (cellsV v102_46) (fun u48 h49 =>
VL (pcellV h49 (some 33) (l10.getD 2 .und)) fun r50 =>
Rt h49 r50) (l10.getD 2 .und)) (l10.getD 3 .und)) v77_16) v75_13) [(.int .i64 0)] [(.ptr 66 0), (.ptr 67 0), (.ptr 68 0), (.ptr 69 0)] h8) (.ptr 69 0)) (.ptr 66 0)
theorem spec_l02Rename_f {x0 x1 : V} : Prt Try.prog 76 [x0, x1] (spec_l02Rename_F x0 x1) := pfun (fn := Try.f76) (m := [.s, .s, .s, .s, .l [6] [2, 3, 4, 5], .s, .s, .s, .s, .s]) (c := 2 ≤ 39) rfl (fun h0 Rt => by kernel_rfl) (by decide)

def spec_l02Naming_F (x0 x1 : V) (hi : Hp) (Rt : Hp → V → Prop) : Prop :=
pbox hi 66 25 (cellsV x0) fun h0 =>
palloc h0 68 23 (vi .u8 (List.replicate 16 0)) fun h1 =>
VL (vbld (vfill (vi .u8 (List.replicate 16 0)) [])) fun v76_2 =>
VL (vbld (vfill (vb (List.replicate 16 false)) [])) fun v77_3 =>
VL (lift1 (acvi .u8) x1) fun v79_4 =>
pmks h1 80 5 1 1 (fun h5 =>
palloc h5 69 23 (vi .u8 (List.replicate 16 0)) fun h6 =>
palloc h6 70 91 (vb (List.replicate 16 false)) fun h7 =>
pst h7 16 (cellsV v76_2) (fun u8 h9 =>
pst h9 16 (cellsV v77_3) (fun u10 h11 =>
VL (vixA 16 1 (.ptr 70 0) x1) fun v82_12 =>
pst h11 1 (cellsV (.bool true)) (fun u13 h14 =>
LP [7, 8] [2, 4, 5, 6] (fun w15 l16 h17 N18 =>
VL (vlenS (w15.getD 0 .und)) fun v85_19 =>
VL (lift2 (abin .lss) (w15.getD 1 .und) v85_19) fun v86_20 =>
pcond (
VL (vixS 1 (w15.getD 0 .und) (w15.getD 1 .und)) fun v91_21 =>
pld h17 none (fun v92_22 h23 =>
VL (lift1 (acvi .u8) (w15.getD 1 .und)) fun v95_24 =>
VL (vixA 16 1 (l16.getD 2 .und) v92_22) fun v96_25 =>
pst h23 1 (cellsV v95_24) (fun u26 h27 =>
LP [7, 10] [2, 4, 5, 6, 8, 9] (fun w28 l29 h30 N31 =>
VL (lift2 (abin .lss) (w28.getD 1 .und) (.int .i64 2)) fun v98_32 =>
pcond (
JN (fun k33 =>
VL (vfa 1 (l29.getD 0 .und)) fun v102_36 =>
VL (vixA 16 1 v102_36 (l29.getD 5 .und)) fun v103_37 =>
pld h30 none (fun v104_38 h39 =>
JN (fun k40 =>
VL (lift2 (abin .eql) (w28.getD 1 .und) (.int .i64 1)) fun v106_43 =>
pcond (
VL (vfa 17 (l29.getD 0 .und)) fun v108_44 =>
VL (vixA 16 1 v108_44 (l29.getD 5 .und)) fun v109_45 =>
pld h39 none (fun v110_46 h47 =>
k40 [(l29.getD 0 .und), (l29.getD 1 .und), (l29.getD 2 .und), (l29.getD 3 .und), (w28.getD 0 .und), (l29.getD 4 .und), (l29.getD 5 .und), (w28.getD 1 .und), v110_46] h47) v109_45) (
k40 [(l29.getD 0 .und), (l29.getD 1 .und), (l29.getD 2 .und), (l29.getD 3 .und), (w28.getD 0 .und), (l29.getD 4 .und), (l29.getD 5 .und), (w28.getD 1 .und), v104_38] h39) v106_43) fun o41 h42 =>
VL (vixA 16 1 (o41.getD 3 .und) (o41.getD 8 .und)) fun v112_48 =>
pld h42 none (fun v113_49 h50 =>
VL (lift1 (aun .not) v113_49) fun v114_51 =>
pcond (
VL (vixA 16 1 (o41.getD 3 .und) (o41.getD 8 .und)) fun v116_52 =>
pst h50 1 (cellsV (.bool true)) (fun u53 h54 =>
pmks h54 119 5 1 1 (fun h55 =>
papp h55 (fun m58 s59 => papV 5 1 1 120 h55 (fun v120_56 h57 =>
k33 [(o41.getD 0 .und), (o41.getD 1 .und), (o41.getD 2 .und), (o41.getD 3 .und), v120_56, (o41.getD 5 .und), (o41.getD 6 .und), (o41.getD 7 .und)] h57) m58 s59 (o41.getD 4 .und)) (pavs h55 (o41.getD 4 .und) []) (preadS 1 h55 (.rf 119 0 1))) (vfill [(.int .u8 0)] [(0, 1, (o41.getD 8 .und))])) v116_52) (
k33 [(o41.getD 0 .und), (o41.getD 1 .und), (o41.getD 2 .und), (o41.getD 3 .und), (o41.getD 4 .und), (o41.getD 5 .und), (o41.getD 6 .und), (o41.getD 7 .und)] h50) v114_51) v112_48) v103_37) fun o34 h35 =>
VL (lift2 (abin .add) (o34.getD 7 .und) (.int .i64 1)) fun v100_60 =>
N31 [(o34.getD 4 .und), v100_60] [(o34.getD 0 .und), (o34.getD 1 .und), (o34.getD 2 .und), (o34.getD 3 .und), (o34.getD 5 .und), (o34.getD 6 .und)] h35) (
VL (lift2 (abin .add) (l29.getD 4 .und) (.int .i64 1)) fun v88_61 =>
N18 [(w28.getD 0 .und), v88_61] [(l29.getD 0 .und), (l29.getD 1 .und), (l29.getD 2 .und), (l29.getD 3 .und)] h30) v98_32) [(w15.getD 0 .und), (.int .i64 0)] [(l16.getD 0 .und), (l16.getD 1 .und), (l16.getD 2 .und), (l16.getD 3 .und), (w15.getD 1 .und), v92_22] h27) v96_25) v91_21) (
pld h17 (some 16) (fun v121_62 h63 =>
pst h63 16 (cellsV v121_62) (fun u64 h65 =>
VL (pcellV h65 (some 16) (l16.getD 1 .und)) fun r66 =>
Rt h65 r66) (l16.getD 1 .und)) (l16.getD 2 .und)) v86_20) [(.rf 80 0 1), (.int .i64 0)] [(.ptr 66 0), (.ptr 68 0), (.ptr 69 0), (.ptr 70 0)] h14) v82_12) (.ptr 70 0)) (.ptr 69 0)) (vfill [(.int .u8 0)] [(0, 1, v79_4)])
theorem spec_l02Naming_f {x0 x1 : V} : Prt Try.prog 77 [x0, x1] (spec_l02Naming_F x0 x1) := pfun (fn := Try.f77) (m := [.s, .s, .s, .s, .s, .l [7, 8] [2, 4, 5, 6], .s, .s, .s, .s, .s, .s, .l [7, 10] [2, 4, 5, 6, 8, 9], .s, .s, .j [2, 4, 5, 6, 7, 8, 9, 10], .s, .j [2, 4, 5, 6, 7, 8, 9, 10, 11], .s, .s, .s, .s]) (c := 2 ≤ 58) rfl (fun h0 Rt => by kernel_rfl) (by decide)

def impl_isDart_F (x0 x1 : V) (hi : Hp) (Rt : Hp → V → Prop) : Prop :=
pbox hi 66 25 (cellsV x0) fun h0 =>
VL (vlenS x1) fun v72_1 =>
LP [9] [2, 7, 8] (fun w2 l3 h4 N5 =>
VL (lift2 (abin .lss) (w2.getD 0 .und) (l3.getD 2 .und)) fun v74_6 =>
pcond (
VL (vixS 1 (l3.getD 1 .und) (w2.getD 0 .und)) fun v75_7 =>
pld h4 none (fun v76_8 h9 =>
VL (lift2 (abin .lss) v76_8 (.int .i64 0)) fun v78_10 =>
pgk false h9 (fun g11 k12 => k12 v76_8 h9) (fun g13 v16_14 h15 =>
pgk false h15 (fun g16 k17 => VL (vfa 0 (l3.getD 0 .und)) fun v81_18 =>
k17 v81_18 h15) (fun g19 v17_20 h21 =>
pgk false h21 (fun g22 k23 => pld h21 none (fun v82_24 h25 =>
k23 v82_24 h25) v17_20) (fun g26 v18_27 h28 =>
pgk false h28 (fun g29 k30 => VL (lift2 (abin .geq) v16_14 v18_27) fun v83_31 =>
k30 v83_31 h28) (fun g32 v19_33 h34 =>
VL (vpick g32 (.bool true) v19_33) fun v84_35 =>
pcond (
Rt h34 (.bool false)) (
VL (lift2 (abin .add) (w2.getD 0 .und) (.int .i64 1)) fun v85_36 =>
N5 [v85_36] [(l3.getD 0 .und), (l3.getD 1 .und), (l3.getD 2 .und)] h34) v84_35) g26) g19) g13) v78_10) v75_7) (
Rt h4 (.bool true)) v74_6) [(.int .i64 0)] [(.ptr 66 0), x1, v72_1] h0
theorem impl_isDart_f {x0 x1 : V} : Prt Try.prog 78 [x0, x1] (impl_isDart_F x0 x1) := pfun (fn := Try.f78) (m := [.s, .s, .s, .l [9] [2, 7, 8], .s, .s, .s, .s, .s, .s, .s]) (c := 2 ≤ 22) rfl (fun h0 Rt => by kernel_rfl) (by decide)

def impl_rename_F (x0 x1 : V) (hi : Hp) (Rt : Hp → V → Prop) : Prop :=
pbox hi 66 25 (cellsV x0) fun h0 =>
pbox h0 67 23 (cellsV x1) fun h1 =>
palloc h1 68 25 ([(.int .i64 0)] ++ (vi .u8 (List.replicate 32 0))) fun h2 =>
pld h2 none (fun v72_3 h4 =>
VL (vbld (vfill ([(.int .i64 0)] ++ (vi .u8 (List.replicate 32 0))) [(0, 1, v72_3)])) fun v73_5 =>
palloc h4 69 25 ([(.int .i64 0)] ++ (vi .u8 (List.replicate 32 0))) fun h6 =>
pst h6 33 (cellsV v73_5) (fun u7 h8 =>
pld h8 none (fun v75_9 h10 =>
LP [12] [2, 3, 4, 5, 11] (fun w11 l12 h13 N14 =>
VL (lift2 (abin .lss) (w11.getD 0 .und) (l12.getD 4 .und)) fun v77_15 =>
pcond (
VL (vixA 16 1 (l12.getD 1 .und) (w11.getD 0 .und)) fun v80_16 =>
pld h13 none (fun v81_17 h18 =>
VL (vfa 1 (l12.getD 0 .und)) fun v83_19 =>
VL (vixA 16 1 v83_19 (w11.getD 0 .und)) fun v84_20 =>
pld h18 none (fun v85_21 h22 =>
VL (vixA 16 1 (l12.getD 1 .und) v85_21) fun v86_23 =>
pld h22 none (fun v87_24 h25 =>
VL (vfa 1 (l12.getD 3 .und)) fun v88_26 =>
VL (vixA 16 1 v88_26 v81_17) fun v89_27 =>
pst h25 1 (cellsV v87_24) (fun u28 h29 =>
VL (vixA 16 1 (l12.getD 1 .und) (w11.getD 0 .und)) fun v91_30 =>
pld h29 none (fun v92_31 h32 =>
VL (vfa 17 (l12.getD 0 .und)) fun v94_33 =>
VL (vixA 16 1 v94_33 (w11.getD 0 .und)) fun v95_34 =>
pld h32 none (fun v96_35 h36 =>
VL (vixA 16 1 (l12.getD 1 .und) v96_35) fun v97_37 =>
pld h36 none (fun v98_38 h39 =>
VL (vfa 17 (l12.getD 3 .und)) fun v99_40 =>
VL (vixA 16 1 v99_40 v92_31) fun v100_41 =>
pst h39 1 (cellsV v98_38) (fun u42 h43 =>
VL (lift2 (abin .add) (w11.getD 0 .und) (.int .i64 1)) fun v101_44 =>
N14 [v101_44] [(l12.getD 0 .und), (l12.getD 1 .und), (l12.getD 2 .und), (l12.getD 3 .und), (l12.getD 4 .und)] h43) v100_41) v97_37) v95_34) v91_30) v89_27) v86_23) v84_20) v80_16) (
pld h13 (some 33) (fun v102_45 h46 =>
pst h46 33 (cellsV v102_45) (fun u47 h48 =>
VL (pcellV h48 (some 33) (l12.getD 2 .und)) fun r49 =>
Rt h48 r49) (l12.getD 2 .und)) (l12.getD 3 .und)) v77_15) [(.int .i64 0)] [(.ptr 66 0), (.ptr 67 0), (.ptr 68 0), (.ptr 69 0), v75_9] h10) (.ptr 66 0)) (.ptr 69 0)) (.ptr 66 0)
theorem impl_rename_f {x0 x1 : V} : Prt Try.prog 79 [x0, x1] (impl_rename_F x0 x1) := pfun (fn := Try.f79) (m := [.s, .s, .s, .s, .l [12] [2, 3, 4, 5, 11], .s, .s, .s, .s, .s, .s]) (c := 2 ≤ 39) rfl (fun h0 Rt => by kernel_rfl) (by decide)

def impl_naming_F (x0 x1 : V) (hi : Hp) (Rt : Hp → V → Prop) : Prop :=
pbox hi 66 25 (cellsV x0) fun h0 =>
palloc h0 68 23 (vi .u8 (List.replicate 16 0)) fun h1 =>
VL (vbld (vfill (vi .u8 (List.replicate 16 0)) [])) fun v72_2 =>
palloc h1 69 23 (vi .u8 (List.replicate 16 0)) fun h3 =>
pst h3 16 (cellsV v72_2) (fun u4 h5 =>
pld h5 (some 33) (fun v73_6 h7 =>
pcal Try.prog 86 75 h7 (fun v75_8 h9 =>
VL (vlenS v75_8) fun v76_10 =>
LP [13] [4, 5, 11, 12] (fun w11 l12 h13 N14 =>
VL (lift2 (abin .lss) (w11.getD 0 .und) (l12.getD 3 .und)) fun v78_15 =>
pcond (
VL (vixS 1 (l12.getD 2 .und) (w11.getD 0 .und)) fun v80_16 =>
pld h13 none (fun v81_17 h18 =>
VL (lift1 (acvi .u8) (w11.getD 0 .und)) fun v84_19 =>
VL (vixA 16 1 (l12.getD 1 .und) v81_17) fun v85_20 =>
pst h18 1 (cellsV v84_19) (fun u21 h22 =>
VL (lift2 (abin .add) (w11.getD 0 .und) (.int .i64 1)) fun v86_23 =>
N14 [v86_23] [(l12.getD 0 .und), (l12.getD 1 .und), (l12.getD 2 .und), (l12.getD 3 .und)] h22) v85_20) v80_16) (
pld h13 (some 16) (fun v87_24 h25 =>
pst h25 16 (cellsV v87_24) (fun u26 h27 =>
VL (pcellV h27 (some 16) (l12.getD 0 .und)) fun r28 =>
Rt h27 r28) (l12.getD 0 .und)) (l12.getD 1 .und)) v78_15) [(.int .i64 0)] [(.ptr 68 0), (.ptr 69 0), v75_8, v76_10] h9) [v73_6, x1]) (.ptr 66 0)) (.ptr 69 0)
theorem impl_naming_f {x0 x1 : V} : Prt Try.prog 80 [x0, x1] (impl_naming_F x0 x1) := pfun (fn := Try.f80) (m := [.s, .s, .s, .s, .l [13] [4, 5, 11, 12], .s, .s, .s, .s, .s]) (c := 2 ≤ 24) rfl (fun h0 Rt => by kernel_rfl) (by decide)

def spec_l01Cycles_F (x0 x1 : V) (hi : Hp) (Rt : Hp → V → Prop) : Prop :=
pbox hi 66 23 (cellsV x0) fun h0 =>
pmks h0 74 26 0 0 (fun h1 =>
VL (vbld (vfill (vb (List.replicate 16 false)) [])) fun v75_2 =>
palloc h1 70 91 (vb (List.replicate 16 false)) fun h3 =>
pst h3 16 (cellsV v75_2) (fun u4 h5 =>
LP [5, 7] [1, 2, 6] (fun w6 l7 h8 N9 =>
VL (lift2 (abin .lss) (w6.getD 1 .und) (l7.getD 0 .und)) fun v78_10 =>
pcond (
JN (fun k11 =>
pmks h8 81 2 0 0 (fun h14 =>
LP [8, 9] [1, 2, 5, 6, 7] (fun w15 l16 h17 N18 =>
VL (vixA 16 1 (l16.getD 3 .und) (w15.getD 1 .und)) fun v84_19 =>
pld h17 none (fun v85_20 h21 =>
VL (lift1 (aun .not) v85_20) fun v86_22 =>
pcond (
VL (vixA 16 1 (l16.getD 3 .und) (w15.getD 1 .und)) fun v92_23 =>
pst h21 1 (cellsV (.bool true)) (fun u24 h25 =>
pmks h25 95 2 1 1 (fun h26 =>
papp h26 (fun m29 s30 => papV 2 1 8 96 h26 (fun v96_27 h28 =>
VL (vixA 16 1 (l16.getD 1 .und) (w15.getD 1 .und)) fun v88_31 =>
pld h28 none (fun v89_32 h33 =>
VL (lift1 (acvi .i64) v89_32) fun v90_34 =>
N18 [v96_27, v90_34] [(l16.getD 0 .und), (l16.getD 1 .und), (l16.getD 2 .und), (l16.getD 3 .und), (l16.getD 4 .und)] h33) v88_31) m29 s30 (w15.getD 0 .und)) (pavs h26 (w15.getD 0 .und) []) (preadS 1 h26 (.rf 95 0 1))) (vfill [(.int .i64 0)] [(0, 1, (w15.getD 1 .und))])) v92_23) (
VL (vlenS (w15.getD 0 .und)) fun v98_35 =>
VL (lift2 (abin .gtr) v98_35 (.int .i64 0)) fun v99_36 =>
pcond (
pmks h21 102 26 1 1 (fun h37 =>
papp h37 (fun m40 s41 => papV 26 1 24 103 h37 (fun v103_38 h39 =>
k11 [(l16.getD 0 .und), (l16.getD 1 .und), v103_38, (l16.getD 3 .und), (l16.getD 4 .und)] h39) m40 s41 (l16.getD 2 .und)) (pavs h37 (l16.getD 2 .und) []) (preadS 1 h37 (.rf 102 0 1))) (vfill [.nils] [(0, 1, (w15.getD 0 .und))])) (
k11 [(l16.getD 0 .und), (l16.getD 1 .und), (l16.getD 2 .und), (l16.getD 3 .und), (l16.getD 4 .und)] h21) v99_36) v86_22) v84_19) [(.rf 81 0 0), (w6.getD 1 .und)] [(l7.getD 0 .und), (l7.getD 1 .und), (w6.getD 0 .und), (l7.getD 2 .und), (w6.getD 1 .und)] h14) (vfill [] [])) fun o12 h13 =>
VL (lift2 (abin .add) (o12.getD 4 .und) (.int .i64 1)) fun v80_42 =>
N9 [(o12.getD 2 .und), v80_42] [(o12.getD 0 .und), (o12.getD 1 .und), (o12.getD 3 .und)] h13) (
Rt h8 (w6.getD 0 .und)) v78_10) [(.rf 74 0 0), (.int .i64 0)] [x1, (.ptr 66 0), (.ptr 70 0)] h5) (.ptr 70 0)) (vfill [] [])
theorem spec_l01Cycles_f {x0 x1 : V} : Prt Try.prog 81 [x0, x1] (spec_l01Cycles_F x0 x1) := pfun (fn := Try.f81) (m := [.s, .s, .s, .s, .l [5, 7] [1, 2, 6], .s, .s, .j [1, 2, 5, 6, 7], .s, .s, .s, .l [8, 9] [1, 2, 5, 6, 7], .s, .s, .s, .s, .s, .s]) (c := 2 ≤ 41) rfl (fun h0 Rt => by kernel_rfl) (by decide)

def spec_l01Face_F (x0 : V) (hi : Hp) (Rt : Hp → V → Prop) : Prop :=
pbox hi 65 25 (cellsV x0) fun h0 =>
palloc h0 66 23 (vi .u8 (List.replicate 16 0)) fun h1 =>
pld h1 (some 16) (fun v68_2 h3 =>
pld h3 (some 16) (fun v70_4 h5 =>
pld h5 none (fun v72_6 h7 =>
pld h7 none (fun v75_8 h9 =>
pcalp Try.prog 109 73 h9 (fun v73_10 h11 =>
pcal Try.prog 108 76 h11 (fun v76_12 h13 =>
pst h13 16 (cellsV v76_12) (fun u14 h15 =>
VL (pcellV h15 (some 16) (.ptr 66 0)) fun r16 =>
Rt h15 r16) (.ptr 66 0)) [v73_10, v75_8]) [v68_2, v70_4, v72_6]) (.ptr 65 0)) (.ptr 65 0)) (.ptr 65 17)) (.ptr 65 1)
theorem spec_l01Face_f {x0 : V} : Prt Try.prog 82 [x0] (spec_l01Face_F x0) := pfun (fn := Try.f82) (m := [.s, .s]) (c := 1 ≤ 13) rfl (fun h0 Rt => by kernel_rfl) (by decide)

def impl_cycles_F (x0 x1 : V) (hi : Hp) (Rt : Hp → V → Prop) : Prop :=
pbox hi 66 23 (cellsV x0) fun h0 =>
pmks h0 74 26 0 0 (fun h1 =>
VL (vbld (vfill (vb (List.replicate 16 false)) [])) fun v75_2 =>
palloc h1 70 91 (vb (List.replicate 16 false)) fun h3 =>
pst h3 16 (cellsV v75_2) (fun u4 h5 =>
LP [5, 13] [2, 6, 12] (fun w6 l7 h8 N9 =>
VL (lift2 (abin .lss) (w6.getD 1 .und) (l7.getD 2 .und)) fun v78_10 =>
pcond (
JN (fun k11 =>
VL (vixA 16 1 (l7.getD 1 .und) (w6.getD 1 .und)) fun v81_14 =>
pld h8 none (fun v82_15 h16 =>
pcond (
k11 [(l7.getD 0 .und), (w6.getD 0 .und), (l7.getD 1 .und), (l7.getD 2 .und), (w6.getD 1 .und)] h16) (
pmks h16 83 2 0 0 (fun h17 =>
LP [8, 9] [2, 5, 6, 12, 13] (fun w18 l19 h20 N21 =>
VL (vixA 16 1 (l19.getD 2 .und) (w18.getD 1 .und)) fun v86_22 =>
pld h20 none (fun v87_23 h24 =>
VL (lift1 (aun .not) v87_23) fun v88_25 =>
pcond (
VL (vixA 16 1 (l19.getD 2 .und) (w18.getD 1 .und)) fun v94_26 =>
pst h24 1 (cellsV (.bool true)) (fun u27 h28 =>
pmks h28 97 2 1 1 (fun h29 =>
papp h29 (fun m32 s33 => papV 2 1 8 98 h29 (fun v98_30 h31 =>
VL (vixA 16 1 (l19.getD 0 .und) (w18.getD 1 .und)) fun v90_34 =>
pld h31 none (fun v91_35 h36 =>
VL (lift1 (acvi .i64) v91_35) fun v92_37 =>
N21 [v98_30, v92_37] [(l19.getD 0 .und), (l19.getD 1 .und), (l19.getD 2 .und), (l19.getD 3 .und), (l19.getD 4 .und)] h36) v90_34) m32 s33 (w18.getD 0 .und)) (pavs h29 (w18.getD 0 .und) []) (preadS 1 h29 (.rf 97 0 1))) (vfill [(.int .i64 0)] [(0, 1, (w18.getD 1 .und))])) v94_26) (
pmks h24 101 26 1 1 (fun h38 =>
papp h38 (fun m41 s42 => papV 26 1 24 102 h38 (fun v102_39 h40 =>
k11 [(l19.getD 0 .und), v102_39, (l19.getD 2 .und), (l19.getD 3 .und), (l19.getD 4 .und)] h40) m41 s42 (l19.getD 1 .und)) (pavs h38 (l19.getD 1 .und) []) (preadS 1 h38 (.rf 101 0 1))) (vfill [.nils] [(0, 1, (w18.getD 0 .und))])) v88_25) v86_22) [(.rf 83 0 0), (w6.getD 1 .und)] [(l7.getD 0 .und), (w6.getD 0 .und), (l7.getD 1 .und), (l7.getD 2 .und), (w6.getD 1 .und)] h17) (vfill [] [])) v82_15) v81_14) fun o12 h13 =>
VL (lift2 (abin .add) (o12.getD 4 .und) (.int .i64 1)) fun v103_43 =>
N9 [(o12.getD 1 .und), v103_43] [(o12.getD 0 .und), (o12.getD 2 .und), (o12.getD 3 .und)] h13) (
Rt h8 (w6.getD 0 .und)) v78_10) [(.rf 74 0 0), (.int .i64 0)] [(.ptr 66 0), (.ptr 70 0), x1] h5) (.ptr 70 0)) (vfill [] [])
theorem impl_cycles_f {x0 x1 : V} : Prt Try.prog 83 [x0, x1] (impl_cycles_F x0 x1) := pfun (fn := Try.f83) (m := [.s, .s, .s, .s, .s, .l [5, 13] [2, 6, 12], .s, .s, .j [2, 5, 6, 12, 13], .s, .s, .s, .s, .s, .s, .l [8, 9] [2, 5, 6, 12, 13], .s, .s, .s, .s, .s]) (c := 2 ≤ 41) rfl (fun h0 Rt => by kernel_rfl) (by decide)

def impl_face_F (x0 : V) (hi : Hp) (Rt : Hp → V → Prop) : Prop :=
pbox hi 65 25 (cellsV x0) fun h0 =>
palloc h0 66 23 (vi .u8 (List.replicate 16 0)) fun h1 =>
pld h1 (some 16) (fun v68_2 h3 =>
pld h3 (some 16) (fun v70_4 h5 =>
pld h5 none (fun v72_6 h7 =>
pld h7 none (fun v75_8 h9 =>
pcalp Try.prog 111 73 h9 (fun v73_10 h11 =>
pcal Try.prog 110 76 h11 (fun v76_12 h13 =>
pst h13 16 (cellsV v76_12) (fun u14 h15 =>
VL (pcellV h15 (some 16) (.ptr 66 0)) fun r16 =>
Rt h15 r16) (.ptr 66 0)) [v73_10, v75_8]) [v68_2, v70_4, v72_6]) (.ptr 65 0)) (.ptr 65 0)) (.ptr 65 17)) (.ptr 65 1)
theorem impl_face_f {x0 : V} : Prt Try.prog 84 [x0] (impl_face_F x0) := pfun (fn := Try.f84) (m := [.s, .s]) (c := 1 ≤ 13) rfl (fun h0 Rt => by kernel_rfl) (by decide)

def spec_l08Stabiliser_F (x0 : V) (hi : Hp) (Rt : Hp → V → Prop) : Prop :=
pbox hi 65 25 (cellsV x0) fun h0 =>
VL (vbld (vfill (vt (List.replicate 16 [])) [])) fun v80_1 =>
VL (vbld (vfill (vb (List.replicate 16 false)) [])) fun v81_2 =>
pmks h0 82 5 1 1 (fun h3 =>
palloc h3 67 90 (vt (List.replicate 16 [])) fun h4 =>
palloc h4 68 91 (vb (List.replicate 16 false)) fun h5 =>
pst h5 16 (cellsV v80_1) (fun u6 h7 =>
pst h7 16 (cellsV v81_2) (fun u8 h9 =>
VL (vixA 16 1 (.ptr 68 0) (.int .i64 0)) fun v83_10 =>
pst h9 1 (cellsV (.bool true)) (fun u11 h12 =>
LP [5, 6] [1, 3, 4] (fun w13 l14 h15 N16 =>
VL (vlenS (w13.getD 0 .und)) fun v86_17 =>
VL (lift2 (abin .lss) (w13.getD 1 .und) v86_17) fun v87_18 =>
pcond (
VL (vixS 1 (w13.getD 0 .und) (w13.getD 1 .und)) fun v92_19 =>
pld h15 none (fun v93_20 h21 =>
VL (vfa 1 (l14.getD 0 .und)) fun v95_22 =>
VL (vixA 16 1 v95_22 v93_20) fun v96_23 =>
pld h21 none (fun v97_24 h25 =>
VL (vfa 17 (l14.getD 0 .und)) fun v99_26 =>
VL (vixA 16 1 v99_26 v93_20) fun v100_27 =>
pld h25 none (fun v101_28 h29 =>
VL (vbld (vfill [(.int .u8 0), (.int .u8 0)] [(0, 1, v97_24), (1, 1, v101_28)])) fun v102_30 =>
palloc h29 72 114 [(.int .u8 0), (.int .u8 0)] fun h31 =>
pst h31 2 (cellsV v102_30) (fun u32 h33 =>
LP [5, 9] [1, 3, 4, 6, 7, 8] (fun w34 l35 h36 N37 =>
VL (lift2 (abin .lss) (w34.getD 1 .und) (.int .i64 2)) fun v104_38 =>
pcond (
JN (fun k39 =>
VL (vixA 2 1 (l35.getD 5 .und) (w34.getD 1 .und)) fun v108_42 =>
pld h36 none (fun v109_43 h44 =>
VL (vixA 16 1 (l35.getD 2 .und) v109_43) fun v110_45 =>
pld h44 none (fun v111_46 h47 =>
VL (lift1 (aun .not) v111_46) fun v112_48 =>
pcond (
VL (vixA 2 1 (l35.getD 5 .und) (w34.getD 1 .und)) fun v114_49 =>
pld h47 none (fun v115_50 h51 =>
VL (vixA 16 1 (l35.getD 2 .und) v115_50) fun v116_52 =>
pst h51 1 (cellsV (.bool true)) (fun u53 h54 =>
VL (vixA 2 1 (l35.getD 5 .und) (w34.getD 1 .und)) fun v118_55 =>
pld h54 none (fun v119_56 h57 =>
VL (vixA 16 1 (l35.getD 1 .und) (l35.getD 4 .und)) fun v121_58 =>
pld h57 none (fun v122_59 h60 =>
VL (lift2 (abin .add) (w34.getD 1 .und) (.int .i64 1)) fun v125_61 =>
VL (vslT (.str [120, 121]) (some (w34.getD 1 .und)) (some v125_61)) fun v126_62 =>
VL (lift2 (abin .add) v122_59 v126_62) fun v127_63 =>
VL (vixA 16 1 (l35.getD 1 .und) v119_56) fun v128_64 =>
pst h60 1 (cellsV v127_63) (fun u65 h66 =>
VL (vixA 2 1 (l35.getD 5 .und) (w34.getD 1 .und)) fun v131_67 =>
pld h66 none (fun v132_68 h69 =>
pmks h69 133 5 1 1 (fun h70 =>
papp h70 (fun m73 s74 => papV 5 1 1 134 h70 (fun v134_71 h72 =>
k39 [(l35.getD 0 .und), (l35.getD 1 .und), (l35.getD 2 .und), v134_71, (l35.getD 3 .und), (l35.getD 4 .und), (l35.getD 5 .und), (w34.getD 1 .und)] h72) m73 s74 (w34.getD 0 .und)) (pavs h70 (w34.getD 0 .und) []) (preadS 1 h70 (.rf 133 0 1))) (vfill [(.int .u8 0)] [(0, 1, v132_68)])) v131_67) v128_64) v121_58) v118_55) v116_52) v114_49) (
k39 [(l35.getD 0 .und), (l35.getD 1 .und), (l35.getD 2 .und), (w34.getD 0 .und), (l35.getD 3 .und), (l35.getD 4 .und), (l35.getD 5 .und), (w34.getD 1 .und)] h47) v112_48) v110_45) v108_42) fun o40 h41 =>
VL (lift2 (abin .add) (o40.getD 7 .und) (.int .i64 1)) fun v106_75 =>
N37 [(o40.getD 3 .und), v106_75] [(o40.getD 0 .und), (o40.getD 1 .und), (o40.getD 2 .und), (o40.getD 4 .und), (o40.getD 5 .und), (o40.getD 6 .und)] h41) (
VL (lift2 (abin .add) (l35.getD 3 .und) (.int .i64 1)) fun v89_76 =>
N16 [(w34.getD 0 .und), v89_76] [(l35.getD 0 .und), (l35.getD 1 .und), (l35.getD 2 .und)] h36) v104_38) [(w13.getD 0 .und), (.int .i64 0)] [(l14.getD 0 .und), (l14.getD 1 .und), (l14.getD 2 .und), (w13.getD 1 .und), v93_20, (.ptr 72 0)] h33) (.ptr 72 0)) v100_27) v96_23) v92_19) (
pmks h15 135 9 0 0 (fun h77 =>
LP [10, 11] [1, 3, 5] (fun w78 l79 h80 N81 =>
VL (vlenS (l79.getD 2 .und)) fun v138_82 =>
VL (lift2 (abin .lss) (w78.getD 1 .und) v138_82) fun v139_83 =>
pcond (
VL (vixS 1 (l79.getD 2 .und) (w78.getD 1 .und)) fun v144_84 =>
pld h80 none (fun v145_85 h86 =>
VL (vfa 1 (l79.getD 0 .und)) fun v147_87 =>
VL (vixA 16 1 v147_87 v145_85) fun v148_88 =>
pld h86 none (fun v149_89 h90 =>
VL (vfa 17 (l79.getD 0 .und)) fun v151_91 =>
VL (vixA 16 1 v151_91 v145_85) fun v152_92 =>
pld h90 none (fun v153_93 h94 =>
VL (vbld (vfill [(.int .u8 0), (.int .u8 0)] [(0, 1, v149_89), (1, 1, v153_93)])) fun v154_95 =>
palloc h94 77 114 [(.int .u8 0), (.int .u8 0)] fun h96 =>
pst h96 2 (cellsV v154_95) (fun u97 h98 =>
LP [10, 14] [1, 3, 5, 11, 12, 13] (fun w99 l100 h101 N102 =>
VL (lift2 (abin .lss) (w99.getD 1 .und) (.int .i64 2)) fun v156_103 =>
pcond (
JN (fun k104 =>
VL (vixA 16 1 (l100.getD 1 .und) (l100.getD 4 .und)) fun v160_107 =>
pld h101 none (fun v161_108 h109 =>
VL (lift2 (abin .add) (w99.getD 1 .und) (.int .i64 1)) fun v164_110 =>
VL (vslT (.str [120, 121]) (some (w99.getD 1 .und)) (some v164_110)) fun v165_111 =>
VL (lift2 (abin .add) v161_108 v165_111) fun v166_112 =>
VL (vixA 2 1 (l100.getD 5 .und) (w99.getD 1 .und)) fun v168_113 =>
pld h109 none (fun v169_114 h115 =>
VL (vixA 16 1 (l100.getD 1 .und) v169_114) fun v170_116 =>
pld h115 none (fun v171_117 h118 =>
pcalp Try.prog 113 172 h118 (fun v172_119 h120 =>
VL (lift2 (abin .add) v166_112 v172_119) fun v173_121 =>
pcal Try.prog 112 174 h120 (fun v174_122 h123 =>
VL (lift2 (abin .neq) v174_122 (.str [])) fun v176_124 =>
pcond (
pmks h123 179 9 1 1 (fun h125 =>
papp h125 (fun m128 s129 => papV 9 1 16 180 h125 (fun v180_126 h127 =>
k104 [(l100.getD 0 .und), (l100.getD 1 .und), (l100.getD 2 .und), v180_126, (l100.getD 3 .und), (l100.getD 4 .und), (l100.getD 5 .und), (w99.getD 1 .und)] h127) m128 s129 (w99.getD 0 .und)) (pavs h125 (w99.getD 0 .und) []) (preadS 1 h125 (.rf 179 0 1))) (vfill [(.str [])] [(0, 1, v174_122)])) (
k104 [(l100.getD 0 .und), (l100.getD 1 .und), (l100.getD 2 .und), (w99.getD 0 .und), (l100.getD 3 .und), (l100.getD 4 .und), (l100.getD 5 .und), (w99.getD 1 .und)] h123) v176_124) [v173_121]) [v171_117]) v170_116) v168_113) v160_107) fun o105 h106 =>
VL (lift2 (abin .add) (o105.getD 7 .und) (.int .i64 1)) fun v158_130 =>
N102 [(o105.getD 3 .und), v158_130] [(o105.getD 0 .und), (o105.getD 1 .und), (o105.getD 2 .und), (o105.getD 4 .und), (o105.getD 5 .und), (o105.getD 6 .und)] h106) (
VL (lift2 (abin .add) (l100.getD 3 .und) (.int .i64 1)) fun v141_131 =>
N81 [(w99.getD 0 .und), v141_131] [(l100.getD 0 .und), (l100.getD 1 .und), (l100.getD 2 .und)] h101) v156_103) [(w78.getD 0 .und), (.int .i64 0)] [(l79.getD 0 .und), (l79.getD 1 .und), (l79.getD 2 .und), (w78.getD 1 .und), v145_85, (.ptr 77 0)] h98) (.ptr 77 0)) v152_92) v148_88) v144_84) (
Rt h80 (w78.getD 0 .und)) v139_83) [(.rf 135 0 0), (.int .i64 0)] [(l14.getD 0 .und), (l14.getD 1 .und), (w13.getD 0 .und)] h77) (vfill [] [])) v87_18) [(.rf 82 0 1), (.int .i64 0)] [(.ptr 65 0), (.ptr 67 0), (.ptr 68 0)] h12) v83_10) (.ptr 68 0)) (.ptr 67 0)) (vfill [(.int .u8 0)] [(0, 1, (.int .u8 0))])
theorem spec_l08Stabiliser_f {x0 : V} : Prt Try.prog 85 [x0] (spec_l08Stabiliser_F x0) := pfun (fn := Try.f85) (m := [.s, .s, .s, .s, .s, .l [5, 6] [1, 3, 4], .s, .s, .s, .s, .s, .s, .l [5, 9] [1, 3, 4, 6, 7, 8], .s, .s, .j [1, 3, 4, 5, 6, 7, 8, 9], .s, .s, .s, .s, .s, .s, .l [10, 11] [1, 3, 5], .s, .s, .s, .s, .s, .s, .l [10, 14] [1, 3, 5, 11, 12, 13], .s, .s, .j [1, 3, 5, 10, 11, 12, 13, 14], .s, .s, .s]) (c := 1 ≤ 118) rfl (fun h0 Rt => by kernel_rfl) (by decide)

def impl_named_F (x0 x1 : V) (hi : Hp) (Rt : Hp → V → Prop) : Prop :=
pbox hi 66 25 (cellsV x0) fun h0 =>
VL (vbld (vfill (vb (List.replicate 16 false)) [])) fun v74_1 =>
palloc h0 69 91 (vb (List.replicate 16 false)) fun h2 =>
pst h2 16 (cellsV v74_1) (fun u3 h4 =>
VL (vixA 16 1 (.ptr 69 0) x1) fun v76_5 =>
pst h4 1 (cellsV (.bool true)) (fun u6 h7 =>
VL (lift1 (acvi .u8) x1) fun v78_8 =>
pmks h7 79 5 1 1 (fun h9 =>
LP [6, 7] [2, 5] (fun w10 l11 h12 N13 =>
VL (vlenS (w10.getD 0 .und)) fun v82_14 =>
VL (lift2 (abin .lss) (w10.getD 1 .und) v82_14) fun v83_15 =>
pcond (
VL (vixS 1 (w10.getD 0 .und) (w10.getD 1 .und)) fun v88_16 =>
pld h12 none (fun v89_17 h18 =>
VL (vfa 1 (l11.getD 0 .und)) fun v90_19 =>
VL (vixA 16 1 v90_19 v89_17) fun v91_20 =>
pld h18 none (fun v92_21 h22 =>
VL (vixS 1 (w10.getD 0 .und) (w10.getD 1 .und)) fun v95_23 =>
pld h22 none (fun v96_24 h25 =>
VL (vfa 17 (l11.getD 0 .und)) fun v97_26 =>
VL (vixA 16 1 v97_26 v96_24) fun v98_27 =>
pld h25 none (fun v99_28 h29 =>
pmks h29 100 5 2 2 (fun h30 =>
VL (vlenS (.rf 100 0 2)) fun v101_31 =>
LP [6, 38] [2, 5, 7, 36, 37] (fun w32 l33 h34 N35 =>
VL (lift2 (abin .lss) (w32.getD 1 .und) (l33.getD 4 .und)) fun v103_36 =>
pcond (
JN (fun k37 =>
VL (vixS 1 (l33.getD 3 .und) (w32.getD 1 .und)) fun v104_40 =>
pld h34 none (fun v105_41 h42 =>
VL (vixA 16 1 (l33.getD 1 .und) v105_41) fun v107_43 =>
pld h42 none (fun v108_44 h45 =>
VL (lift1 (aun .not) v108_44) fun v109_46 =>
pcond (
VL (vixA 16 1 (l33.getD 1 .und) v105_41) fun v111_47 =>
pst h45 1 (cellsV (.bool true)) (fun u48 h49 =>
pmks h49 114 5 1 1 (fun h50 =>
papp h50 (fun m53 s54 => papV 5 1 1 115 h50 (fun v115_51 h52 =>
k37 [(l33.getD 0 .und), (l33.getD 1 .und), v115_51, (l33.getD 2 .und), (l33.getD 3 .und), (l33.getD 4 .und), (w32.getD 1 .und)] h52) m53 s54 (w32.getD 0 .und)) (pavs h50 (w32.getD 0 .und) []) (preadS 1 h50 (.rf 114 0 1))) (vfill [(.int .u8 0)] [(0, 1, v105_41)])) v111_47) (
k37 [(l33.getD 0 .und), (l33.getD 1 .und), (w32.getD 0 .und), (l33.getD 2 .und), (l33.getD 3 .und), (l33.getD 4 .und), (w32.getD 1 .und)] h45) v109_46) v107_43) v104_40) fun o38 h39 =>
VL (lift2 (abin .add) (o38.getD 6 .und) (.int .i64 1)) fun v116_55 =>
N35 [(o38.getD 2 .und), v116_55] [(o38.getD 0 .und), (o38.getD 1 .und), (o38.getD 3 .und), (o38.getD 4 .und), (o38.getD 5 .und)] h39) (
VL (lift2 (abin .add) (l33.getD 2 .und) (.int .i64 1)) fun v85_56 =>
N13 [(w32.getD 0 .und), v85_56] [(l33.getD 0 .und), (l33.getD 1 .und)] h34) v103_36) [(w10.getD 0 .und), (.int .i64 0)] [(l11.getD 0 .und), (l11.getD 1 .und), (w10.getD 1 .und), (.rf 100 0 2), v101_31] h30) (vfill [(.int .u8 0), (.int .u8 0)] [(0, 1, v92_21), (1, 1, v99_28)])) v98_27) v95_23) v91_20) v88_16) (
Rt h12 (w10.getD 0 .und)) v83_15) [(.rf 79 0 1), (.int .i64 0)] [(.ptr 66 0), (.ptr 69 0)] h9) (vfill [(.int .u8 0)] [(0, 1, v78_8)])) v76_5) (.ptr 69 0)
theorem impl_named_f {x0 x1 : V} : Prt Try.prog 86 [x0, x1] (impl_named_F x0 x1) := pfun (fn := Try.f86) (m := [.s, .s, .s, .s, .s, .s, .l [6, 7] [2, 5], .s, .s, .s, .s, .l [6, 38] [2, 5, 7, 36, 37], .s, .s, .j [2, 5, 6, 7, 36, 37, 38], .s, .s, .s, .s]) (c := 2 ≤ 54) rfl (fun h0 Rt => by kernel_rfl) (by decide)

def impl_reduced_F (x0 : V) (hi : Hp) (Rt : Hp → V → Prop) : Prop :=
pmks hi 70 5 0 0 (fun h0 =>
VL (vlenT x0) fun v72_1 =>
LP [3, 9] [0, 8] (fun w2 l3 h4 N5 =>
VL (lift2 (abin .lss) (w2.getD 1 .und) (l3.getD 1 .und)) fun v74_6 =>
pcond (
JN (fun k7 =>
VL (vlenS (w2.getD 0 .und)) fun v77_10 =>
VL (lift2 (abin .gtr) v77_10 (.int .i64 0)) fun v79_11 =>
pgk true h4 (fun g12 k13 => k13 (w2.getD 0 .und) h4) (fun g14 v17_15 h16 =>
pgk true h16 (fun g17 k18 => k18 v77_10 h16) (fun g19 v18_20 h21 =>
pgk true h21 (fun g22 k23 => VL (lift2 (abin .sub) v18_20 (.int .i64 1)) fun v83_24 =>
k23 v83_24 h21) (fun g25 v19_26 h27 =>
pgk true h27 (fun g28 k29 => VL (vixS 1 v17_15 v19_26) fun v84_30 =>
k29 v84_30 h27) (fun g31 v20_32 h33 =>
pgk true h33 (fun g34 k35 => pld h33 none (fun v85_36 h37 =>
k35 v85_36 h37) v20_32) (fun g38 v21_39 h40 =>
pgk true h40 (fun g41 k42 => k42 (l3.getD 0 .und) h40) (fun g43 v22_44 h45 =>
pgk true h45 (fun g46 k47 => k47 (w2.getD 1 .und) h45) (fun g48 v23_49 h50 =>
pgk true h50 (fun g51 k52 => VL (vixT v22_44 v23_49) fun v88_53 =>
k52 v88_53 h50) (fun g54 v24_55 h56 =>
pgk true h56 (fun g57 k58 => pcalp Try.prog 114 89 h56 (fun v89_59 h60 =>
k58 v89_59 h60) [v24_55]) (fun g61 v25_62 h63 =>
pgk true h63 (fun g64 k65 => VL (lift2 (abin .eql) v21_39 v25_62) fun v90_66 =>
k65 v90_66 h63) (fun g67 v26_68 h69 =>
VL (vpick g67 v26_68 (.bool false)) fun v91_70 =>
pcond (
VL (lift2 (abin .sub) v77_10 (.int .i64 1)) fun v94_71 =>
VL (vslS 1 (w2.getD 0 .und) none (some v94_71)) fun v95_72 =>
k7 [(l3.getD 0 .und), v95_72, (l3.getD 1 .und), (w2.getD 1 .und)] h69) (
VL (vixT (l3.getD 0 .und) (w2.getD 1 .und)) fun v99_73 =>
pmks h69 100 5 1 1 (fun h74 =>
papp h74 (fun m77 s78 => papV 5 1 1 101 h74 (fun v101_75 h76 =>
k7 [(l3.getD 0 .und), v101_75, (l3.getD 1 .und), (w2.getD 1 .und)] h76) m77 s78 (w2.getD 0 .und)) (pavs h74 (w2.getD 0 .und) []) (preadS 1 h74 (.rf 100 0 1))) (vfill [(.int .u8 0)] [(0, 1, v99_73)])) v91_70) g61) g54) g48) g43) g38) g31) g25) g19) g14) v79_11) fun o8 h9 =>
VL (lift2 (abin .add) (o8.getD 3 .und) (.int .i64 1)) fun v102_79 =>
N5 [(o8.getD 1 .und), v102_79] [(o8.getD 0 .und), (o8.getD 2 .und)] h9) (
VL (vb2s h4 (w2.getD 0 .und)) fun v104_80 =>
Rt h4 v104_80) v74_6) [(.rf 70 0 0), (.int .i64 0)] [x0, v72_1] h0) (vfill [] [])
theorem impl_reduced_f {x0 : V} : Prt Try.prog 87 [x0] (impl_reduced_F x0) := pfun (fn := Try.f87) (m := [.s, .s, .s, .s, .l [3, 9] [0, 8], .s, .s, .j [0, 3, 8, 9], .s, .s, .s, .s]) (c := 1 ≤ 41) rfl (fun h0 Rt => by kernel_rfl) (by decide)

def impl_inverted_F (x0 : V) (hi : Hp) (Rt : Hp → V → Prop) : Prop :=
pmks hi 69 5 0 0 (fun h0 =>
VL (vlenT x0) fun v71_1 =>
VL (lift2 (abin .sub) v71_1 (.int .i64 1)) fun v72_2 =>
LP [3, 4] [0] (fun w3 l4 h5 N6 =>
VL (lift2 (abin .geq) (w3.getD 1 .und) (.int .i64 0)) fun v74_7 =>
pcond (
VL (vixT (l4.getD 0 .und) (w3.getD 1 .und)) fun v80_8 =>
pcal Try.prog 114 81 h5 (fun v81_9 h10 =>
pmks h10 82 5 1 1 (fun h11 =>
papp h11 (fun m14 s15 => papV 5 1 1 83 h11 (fun v83_12 h13 =>
VL (lift2 (abin .sub) (w3.getD 1 .und) (.int .i64 1)) fun v76_16 =>
N6 [v83_12, v76_16] [(l4.getD 0 .und)] h13) m14 s15 (w3.getD 0 .und)) (pavs h11 (w3.getD 0 .und) []) (preadS 1 h11 (.rf 82 0 1))) (vfill [(.int .u8 0)] [(0, 1, v81_9)])) [v80_8]) (
VL (vb2s h5 (w3.getD 0 .und)) fun v85_17 =>
Rt h5 v85_17) v74_7) [(.rf 69 0 0), v72_2] [x0] h0) (vfill [] [])
theorem impl_inverted_f {x0 : V} : Prt Try.prog 88 [x0] (impl_inverted_F x0) := pfun (fn := Try.f88) (m := [.s, .s, .s, .s, .l [3, 4] [0], .s, .s, .s, .s]) (c := 1 ≤ 22) rfl (fun h0 Rt => by kernel_rfl) (by decide)

def laws_markText_F (x0 : V) (hi : Hp) (Rt : Hp → V → Prop) : Prop :=
VL (lift2 (abin .leq) x0 (.int .i64 0)) fun v69_0 =>
pcond (
Rt hi (.str [109, 48])) (
LP [0, 3] [] (fun w1 l2 h3 N4 =>
VL (lift2 (abin .gtr) (w1.getD 0 .und) (.int .i64 0)) fun v71_5 =>
pcond (
VL (lift2 (abin .rem) (w1.getD 0 .und) (.int .i64 10)) fun v73_6 =>
VL (lift2 (abin .add) (.int .i64 48) v73_6) fun v74_7 =>
VL (lift1 (acvi .u8) v74_7) fun v75_8 =>
pmks h3 76 5 1 1 (fun h9 =>
VL (vb2s h9 (.rf 76 0 1)) fun v77_10 =>
VL (lift2 (abin .add) v77_10 (w1.getD 1 .und)) fun v79_11 =>
VL (lift2 (abin .quo) (w1.getD 0 .und) (.int .i64 10)) fun v81_12 =>
N4 [v81_12, v79_11] [] h9) (vfill [(.int .u8 0)] [(0, 1, v75_8)])) (
VL (lift2 (abin .add) (.str [109]) (w1.getD 1 .und)) fun v83_13 =>
Rt h3 v83_13) v71_5) [x0, (.str [])] [] hi) v69_0
theorem laws_markText_f {x0 : V} : Prt Try.prog 89 [x0] (laws_markText_F x0) := pfun (fn := Try.f89) (m := [.s, .s, .s, .s, .s, .s, .l [0, 3] [], .s, .s, .s, .s]) (c := 1 ≤ 20) rfl (fun h0 Rt => by kernel_rfl) (by decide)

def spec_l09Tree_F (x0 : V) (hi : Hp) (Rt : Hp → V → Prop) : Prop :=
pbox hi 65 25 (cellsV x0) fun h0 =>
palloc h0 66 91 (vb (List.replicate 16 false)) fun h1 =>
pld h1 (some 16) (fun v73_2 h3 =>
pld h3 none (fun v75_4 h5 =>
pld h5 (some 16) (fun v78_6 h7 =>
pld h7 none (fun v80_8 h9 =>
VL (vbld (vfill (vb (List.replicate 16 false)) [])) fun v82_10 =>
pcalp Try.prog 115 76 h9 (fun v76_11 h12 =>
pcalp Try.prog 115 81 h12 (fun v81_13 h14 =>
palloc h14 67 116 (vi .i64 (List.replicate 16 0)) fun h15 =>
palloc h15 68 116 (vi .i64 (List.replicate 16 0)) fun h16 =>
palloc h16 69 91 (vb (List.replicate 16 false)) fun h17 =>
pst h17 16 (cellsV v76_11) (fun u18 h19 =>
pst h19 16 (cellsV v81_13) (fun u20 h21 =>
pst h21 16 (cellsV v82_10) (fun u22 h23 =>
pcal Try.prog 116 83 h23 (fun v83_24 h25 =>
LP [7] [1, 2, 3, 4, 5, 6] (fun w26 l27 h28 N29 =>
VL (vfa 0 (l27.getD 0 .und)) fun v85_30 =>
pld h28 none (fun v86_31 h32 =>
VL (lift2 (abin .lss) (w26.getD 0 .und) v86_31) fun v87_33 =>
pcond (
VL (vixA 16 1 (l27.getD 2 .und) (w26.getD 0 .und)) fun v93_34 =>
pld h32 none (fun v94_35 h36 =>
VL (vixA 16 1 (l27.getD 3 .und) (w26.getD 0 .und)) fun v96_37 =>
pld h36 none (fun v97_38 h39 =>
VL (lift2 (abin .add) (.int .i64 16) v97_38) fun v98_40 =>
pcal Try.prog 117 99 h39 (fun v99_41 h42 =>
VL (vixA 16 1 (l27.getD 4 .und) (w26.getD 0 .und)) fun v100_43 =>
pst h42 1 (cellsV v99_41) (fun u44 h45 =>
VL (lift2 (abin .add) (w26.getD 0 .und) (.int .i64 1)) fun v89_46 =>
N29 [v89_46] [(l27.getD 0 .und), (l27.getD 1 .und), (l27.getD 2 .und), (l27.getD 3 .und), (l27.getD 4 .und), (l27.getD 5 .und)] h45) v100_43) [(l27.getD 5 .und), v94_35, v98_40]) v96_37) v93_34) (
pld h32 (some 16) (fun v101_47 h48 =>
pst h48 16 (cellsV v101_47) (fun u49 h50 =>
VL (pcellV h50 (some 16) (l27.getD 1 .und)) fun r51 =>
Rt h50 r51) (l27.getD 1 .und)) (l27.getD 4 .und)) v87_33) v85_30) [(.int .i64 0)] [(.ptr 65 0), (.ptr 66 0), (.ptr 67 0), (.ptr 68 0), (.ptr 69 0), v83_24] h25) [(.int .i64 32)]) (.ptr 69 0)) (.ptr 68 0)) (.ptr 67 0)) [v78_6, v80_8]) [v73_2, v75_4]) (.ptr 65 0)) (.ptr 65 17)) (.ptr 65 0)) (.ptr 65 1)
theorem spec_l09Tree_f {x0 : V} : Prt Try.prog 90 [x0] (spec_l09Tree_F x0) := pfun (fn := Try.f90) (m := [.s, .s, .s, .s, .s, .l [7] [1, 2, 3, 4, 5, 6], .s, .s, .s, .s]) (c := 1 ≤ 38) rfl (fun h0 Rt => by kernel_rfl) (by decide)

def impl_treeEdges_F (x0 : V) (hi : Hp) (Rt : Hp → V → Prop) : Prop :=
pbox hi 65 25 (cellsV x0) fun h0 =>
pld h0 (some 33) (fun v73_1 h2 =>
pcal Try.prog 107 74 h2 (fun v74_3 h4 =>
VL (vext 0 v74_3) fun v75_5 =>
VL (vext 1 v74_3) fun v76_6 =>
VL (vlenS v75_5) fun v78_7 =>
pcal Try.prog 118 79 h4 (fun v79_8 h9 =>
pmks h9 80 2 0 0 (fun h10 =>
pld h10 none (fun v82_11 h12 =>
LP [6, 19] [4, 5, 18] (fun w13 l14 h15 N16 =>
VL (lift2 (abin .lss) (w13.getD 1 .und) (l14.getD 2 .und)) fun v84_17 =>
pcond (
JN (fun k18 =>
VL (vixS 2 (l14.getD 0 .und) (w13.getD 1 .und)) fun v89_21 =>
VL (vixA 2 1 v89_21 (.int .i64 0)) fun v90_22 =>
pld h15 none (fun v91_23 h24 =>
VL (vixS 2 (l14.getD 0 .und) (w13.getD 1 .und)) fun v94_25 =>
VL (vixA 2 1 v94_25 (.int .i64 1)) fun v95_26 =>
pld h24 none (fun v96_27 h28 =>
pcal Try.prog 119 97 h28 (fun v97_29 h30 =>
pcond (
pmks h30 100 2 1 1 (fun h31 =>
papp h31 (fun m34 s35 => papV 2 1 8 101 h31 (fun v101_32 h33 =>
k18 [(l14.getD 0 .und), (l14.getD 1 .und), v101_32, (l14.getD 2 .und), (w13.getD 1 .und)] h33) m34 s35 (w13.getD 0 .und)) (pavs h31 (w13.getD 0 .und) []) (preadS 1 h31 (.rf 100 0 1))) (vfill [(.int .i64 0)] [(0, 1, (w13.getD 1 .und))])) (
k18 [(l14.getD 0 .und), (l14.getD 1 .und), (w13.getD 0 .und), (l14.getD 2 .und), (w13.getD 1 .und)] h30) v97_29) [(l14.getD 1 .und), v91_23, v96_27]) v95_26) v90_22) fun o19 h20 =>
VL (lift2 (abin .add) (o19.getD 4 .und) (.int .i64 1)) fun v102_36 =>
N16 [(o19.getD 2 .und), v102_36] [(o19.getD 0 .und), (o19.getD 1 .und), (o19.getD 3 .und)] h20) (
Rt h15 (w13.getD 0 .und)) v84_17) [(.rf 80 0 0), (.int .i64 0)] [v76_6, v79_8, v82_11] h12) (.ptr 65 0)) (vfill [] [])) [v78_7]) [v73_1]) (.ptr 65 0)
theorem impl_treeEdges_f {x0 : V} : Prt Try.prog 91 [x0] (impl_treeEdges_F x0) := pfun (fn := Try.f91) (m := [.s, .s, .s, .s, .s, .s, .l [6, 19] [4, 5, 18], .s, .s, .j [4, 5, 6, 18, 19], .s, .s, .s]) (c := 1 ≤ 40) rfl (fun h0 Rt => by kernel_rfl) (by decide)

def spec_l09Meet_F (x0 x1 x2 : V) (hi : Hp) (Rt : Hp → V → Prop) : Prop :=
pbox hi 67 25 (cellsV x0) fun h0 =>
pld h0 (some 16) (fun v80_1 h2 =>
pld h2 none (fun v82_3 h4 =>
pldb h4 (some 16) (fun v86_5 h6 =>
pldb h6 none (fun v88_7 h8 =>
pcalp Try.prog 81 83 h8 (fun v83_9 h10 =>
pmks h10 78 26 0 0 (fun h11 =>
papp h11 (fun m14 s15 => papV 26 1 24 84 h11 (fun v84_12 h13 =>
pcal Try.prog 81 89 h13 (fun v89_16 h17 =>
papp h17 (fun m20 s21 => papV 26 1 24 90 h17 (fun v90_18 h19 =>
LP [8, 9] [1, 2, 7] (fun w22 l23 h24 N25 =>
VL (vlenS (l23.getD 2 .und)) fun v93_26 =>
VL (lift2 (abin .lss) (w22.getD 1 .und) v93_26) fun v94_27 =>
pcond (
LP [8, 10] [1, 2, 7, 9] (fun w28 l29 h30 N31 =>
VL (vixS 1 (l29.getD 2 .und) (l29.getD 3 .und)) fun v100_32 =>
pld h30 none (fun v101_33 h34 =>
VL (vlenS v101_33) fun v102_35 =>
VL (lift2 (abin .lss) (w28.getD 1 .und) v102_35) fun v103_36 =>
pcond (
LP [8, 11] [1, 2, 7, 9, 10] (fun w37 l38 h39 N40 =>
VL (lift2 (abin .lss) (w37.getD 1 .und) (l38.getD 4 .und)) fun v108_41 =>
pcond (
VL (vixS 1 (l38.getD 2 .und) (l38.getD 3 .und)) fun v113_42 =>
pld h39 none (fun v114_43 h44 =>
VL (vixS 1 v114_43 (w37.getD 1 .und)) fun v116_45 =>
pld h44 none (fun v117_46 h47 =>
VL (vixS 1 (l38.getD 2 .und) (l38.getD 3 .und)) fun v120_48 =>
pld h47 none (fun v121_49 h50 =>
VL (vixS 1 v121_49 (l38.getD 4 .und)) fun v123_51 =>
pld h50 none (fun v124_52 h53 =>
VL (vixS 1 (l38.getD 0 .und) v117_46) fun v128_54 =>
pld h53 none (fun v129_55 h56 =>
VL (vixS 1 (l38.getD 1 .und) v124_52) fun v132_57 =>
pld h56 none (fun v133_58 h59 =>
VL (lift2 (abin .mul) v129_55 v133_58) fun v134_60 =>
VL (lift2 (abin .add) (w37.getD 0 .und) v134_60) fun v135_61 =>
VL (vixS 1 (l38.getD 0 .und) v124_52) fun v138_62 =>
pld h59 none (fun v139_63 h64 =>
VL (vixS 1 (l38.getD 1 .und) v117_46) fun v142_65 =>
pld h64 none (fun v143_66 h67 =>
VL (lift2 (abin .mul) v139_63 v143_66) fun v144_68 =>
VL (lift2 (abin .sub) v135_61 v144_68) fun v145_69 =>
VL (lift2 (abin .add) (w37.getD 1 .und) (.int .i64 1)) fun v110_70 =>
N40 [v145_69, v110_70] [(l38.getD 0 .und), (l38.getD 1 .und), (l38.getD 2 .und), (l38.getD 3 .und), (l38.getD 4 .und)] h67) v142_65) v138_62) v132_57) v128_54) v123_51) v120_48) v116_45) v113_42) (
VL (lift2 (abin .add) (l38.getD 4 .und) (.int .i64 1)) fun v105_71 =>
N31 [(w37.getD 0 .und), v105_71] [(l38.getD 0 .und), (l38.getD 1 .und), (l38.getD 2 .und), (l38.getD 3 .und)] h39) v108_41) [(w28.getD 0 .und), (.int .i64 0)] [(l29.getD 0 .und), (l29.getD 1 .und), (l29.getD 2 .und), (l29.getD 3 .und), (w28.getD 1 .und)] h34) (
VL (lift2 (abin .add) (l29.getD 3 .und) (.int .i64 1)) fun v96_72 =>
N25 [(w28.getD 0 .und), v96_72] [(l29.getD 0 .und), (l29.getD 1 .und), (l29.getD 2 .und)] h34) v103_36) v100_32) [(w22.getD 0 .und), (.int .i64 0)] [(l23.getD 0 .und), (l23.getD 1 .und), (l23.getD 2 .und), (w22.getD 1 .und)] h24) (
VL (lift2 (abin .quo) (w22.getD 0 .und) (.int .i64 2)) fun v147_73 =>
Rt h24 v147_73) v94_27) [(.int .i64 0), (.int .i64 0)] [x1, x2, v90_18] h19) m20 s21 v84_12) (pavs h17 v84_12 []) (preadS 1 h17 v89_16)) [v86_5, v88_7]) m14 s15 (.rf 78 0 0)) (pavs h11 (.rf 78 0 0) [(.ptr 67 0), (.ptr 67 0)]) (preadS 1 h11 v83_9)) (vfill [] [])) [v80_1, v82_3]) (.ptr 67 0) (.ptr 67 0)) (.ptr 67 17) (.ptr 67 0)) (.ptr 67 0)) (.ptr 67 1)
theorem spec_l09Meet_f {x0 x1 x2 : V} : Prt Try.prog 92 [x0, x1, x2] (spec_l09Meet_F x0 x1 x2) := pfun (fn := Try.f92) (m := [.s, .s, .s, .s, .s, .l [8, 9] [1, 2, 7], .s, .s, .s, .s, .l [8, 10] [1, 2, 7, 9], .s, .s, .s, .s, .l [8, 11] [1, 2, 7, 9, 10], .s, .s, .s, .s, .s]) (c := 3 ≤ 84) rfl (fun h0 Rt => by kernel_rfl) (by decide)

def impl_intersection_F (x0 x1 x2 : V) (hi : Hp) (Rt : Hp → V → Prop) : Prop :=
pbox hi 67 25 (cellsV x0) fun h0 =>
pld h0 (some 33) (fun v81_1 h2 =>
pcal Try.prog 107 82 h2 (fun v82_3 h4 =>
VL (vext 0 v82_3) fun v83_5 =>
VL (vext 1 v82_3) fun v84_6 =>
VL (vlenS v83_5) fun v86_7 =>
LP [9, 23] [1, 2, 21, 22] (fun w8 l9 h10 N11 =>
VL (lift2 (abin .lss) (w8.getD 1 .und) (l9.getD 3 .und)) fun v88_12 =>
pcond (
VL (vixS 1 (l9.getD 2 .und) (w8.getD 1 .und)) fun v89_13 =>
pld h10 none (fun v90_14 h15 =>
VL (vlenS v90_14) fun v92_16 =>
LP [9, 29] [1, 2, 11, 21, 22, 23, 27, 28] (fun w17 l18 h19 N20 =>
VL (lift2 (abin .lss) (w17.getD 1 .und) (l18.getD 7 .und)) fun v94_21 =>
pcond (
VL (vixS 1 (l18.getD 6 .und) (w17.getD 1 .und)) fun v96_22 =>
pld h19 none (fun v97_23 h24 =>
VL (vslS 1 (l18.getD 2 .und) none (some (w17.getD 1 .und))) fun v100_25 =>
VL (vlenS v100_25) fun v101_26 =>
LP [9, 38] [1, 2, 11, 13, 21, 22, 23, 27, 28, 29, 36, 37] (fun w27 l28 h29 N30 =>
VL (lift2 (abin .lss) (w27.getD 1 .und) (l28.getD 11 .und)) fun v103_31 =>
pcond (
VL (vixS 1 (l28.getD 10 .und) (w27.getD 1 .und)) fun v104_32 =>
pld h29 none (fun v105_33 h34 =>
VL (vixS 1 (l28.getD 0 .und) v105_33) fun v109_35 =>
pld h34 none (fun v110_36 h37 =>
VL (vixS 1 (l28.getD 1 .und) (l28.getD 3 .und)) fun v113_38 =>
pld h37 none (fun v114_39 h40 =>
VL (lift2 (abin .mul) v110_36 v114_39) fun v115_41 =>
VL (vixS 1 (l28.getD 0 .und) (l28.getD 3 .und)) fun v118_42 =>
pld h40 none (fun v119_43 h44 =>
VL (vixS 1 (l28.getD 1 .und) v105_33) fun v122_45 =>
pld h44 none (fun v123_46 h47 =>
VL (lift2 (abin .mul) v119_43 v123_46) fun v124_48 =>
VL (lift2 (abin .sub) v115_41 v124_48) fun v125_49 =>
VL (lift2 (abin .add) (w27.getD 0 .und) v125_49) fun v126_50 =>
VL (lift2 (abin .add) (w27.getD 1 .und) (.int .i64 1)) fun v127_51 =>
N30 [v126_50, v127_51] [(l28.getD 0 .und), (l28.getD 1 .und), (l28.getD 2 .und), (l28.getD 3 .und), (l28.getD 4 .und), (l28.getD 5 .und), (l28.getD 6 .und), (l28.getD 7 .und), (l28.getD 8 .und), (l28.getD 9 .und), (l28.getD 10 .und), (l28.getD 11 .und)] h47) v122_45) v118_42) v113_38) v109_35) v104_32) (
VL (lift2 (abin .add) (l28.getD 9 .und) (.int .i64 1)) fun v128_52 =>
N20 [(w27.getD 0 .und), v128_52] [(l28.getD 0 .und), (l28.getD 1 .und), (l28.getD 2 .und), (l28.getD 4 .und), (l28.getD 5 .und), (l28.getD 6 .und), (l28.getD 7 .und), (l28.getD 8 .und)] h29) v103_31) [(w17.getD 0 .und), (.int .i64 0)] [(l18.getD 0 .und), (l18.getD 1 .und), (l18.getD 2 .und), v97_23, (l18.getD 3 .und), (l18.getD 4 .und), (l18.getD 5 .und), (l18.getD 6 .und), (l18.getD 7 .und), (w17.getD 1 .und), v100_25, v101_26] h24) v96_22) (
VL (lift2 (abin .add) (l18.getD 5 .und) (.int .i64 1)) fun v129_53 =>
N11 [(w17.getD 0 .und), v129_53] [(l18.getD 0 .und), (l18.getD 1 .und), (l18.getD 3 .und), (l18.getD 4 .und)] h19) v94_21) [(w8.getD 0 .und), (.int .i64 0)] [(l9.getD 0 .und), (l9.getD 1 .und), v90_14, (l9.getD 2 .und), (l9.getD 3 .und), (w8.getD 1 .und), v90_14, v92_16] h15) v89_13) (
VL (lift2 (abin .quo) (w8.getD 0 .und) (.int .i64 2)) fun v131_54 =>
Rt h10 v131_54) v88_12) [(.int .i64 0), (.int .i64 0)] [x1, x2, v83_5, v86_7] h4) [v81_1]) (.ptr 67 0)
theorem impl_intersection_f {x0 x1 x2 : V} : Prt Try.prog 93 [x0, x1, x2] (impl_intersection_F x0 x1 x2) := pfun (fn := Try.f93) (m := [.s, .s, .s, .s, .s, .l [9, 23] [1, 2, 21, 22], .s, .s, .s, .s, .s, .l [9, 29] [1, 2, 11, 21, 22, 23, 27, 28], .s, .s, .s, .s, .s, .l [9, 38] [1, 2, 11, 13, 21, 22, 23, 27, 28, 29, 36, 37], .s, .s, .s, .s, .s]) (c := 3 ≤ 68) rfl (fun h0 Rt => by kernel_rfl) (by decide)

def spec_l09Sums_F (x0 x1 x2 x3 : V) (hi : Hp) (Rt : Hp → V → Prop) : Prop :=
pbox hi 68 25 (cellsV x0) fun h0 =>
pmks h0 84 2 0 0 (fun h1 =>
LP [9, 10] [1, 2, 3, 4] (fun w2 l3 h4 N5 =>
VL (vfa 0 (l3.getD 3 .und)) fun v86_6 =>
pld h4 none (fun v87_7 h8 =>
VL (lift2 (abin .lss) (w2.getD 1 .und) v87_7) fun v88_9 =>
pcond (
VL (vixS 1 (l3.getD 1 .und) (w2.getD 1 .und)) fun v94_10 =>
pld h8 none (fun v95_11 h12 =>
VL (vfa 1 (l3.getD 3 .und)) fun v98_13 =>
VL (vixA 16 1 v98_13 (w2.getD 1 .und)) fun v99_14 =>
pld h12 none (fun v100_15 h16 =>
VL (vixS 1 (l3.getD 2 .und) v100_15) fun v101_17 =>
pld h16 none (fun v102_18 h19 =>
VL (lift2 (abin .add) v95_11 v102_18) fun v103_20 =>
pmks h19 104 2 1 1 (fun h21 =>
papp h21 (fun m24 s25 => papV 2 1 8 105 h21 (fun v105_22 h23 =>
VL (lift2 (abin .add) (w2.getD 1 .und) (.int .i64 1)) fun v90_26 =>
N5 [v105_22, v90_26] [(l3.getD 0 .und), (l3.getD 1 .und), (l3.getD 2 .und), (l3.getD 3 .und)] h23) m24 s25 (w2.getD 0 .und)) (pavs h21 (w2.getD 0 .und) []) (preadS 1 h21 (.rf 104 0 1))) (vfill [(.int .i64 0)] [(0, 1, v103_20)])) v101_17) v99_14) v94_10) (
VL (vfa 1 (l3.getD 3 .und)) fun v106_27 =>
pld h8 (some 16) (fun v107_28 h29 =>
VL (vfa 17 (l3.getD 3 .und)) fun v108_30 =>
pld h29 (some 16) (fun v109_31 h32 =>
pld h32 (some 33) (fun v110_33 h34 =>
pcalp Try.prog 82 111 h34 (fun v111_35 h36 =>
pmks h36 112 23 48 3 (fun h37 =>
pmks h37 116 26 3 3 (fun h38 =>
pmks h38 117 26 0 0 (fun h39 =>
LP [13, 14] [1, 4, 11, 12] (fun w40 l41 h42 N43 =>
VL (lift2 (abin .lss) (w40.getD 1 .und) (.int .i64 3)) fun v119_44 =>
pcond (
VL (vixS 16 (l41.getD 2 .und) (w40.getD 1 .und)) fun v125_45 =>
pld h42 (some 16) (fun v126_46 h47 =>
VL (vfa 0 (l41.getD 1 .und)) fun v127_48 =>
pld h47 none (fun v128_49 h50 =>
pcalp Try.prog 81 129 h50 (fun v129_51 h52 =>
pmks h52 122 2 0 0 (fun h53 =>
LP [15, 17] [1, 4, 11, 12, 13, 14, 16] (fun w54 l55 h56 N57 =>
VL (vlenS (l55.getD 6 .und)) fun v132_58 =>
VL (lift2 (abin .lss) (w54.getD 1 .und) v132_58) fun v133_59 =>
pcond (
LP [18, 19] [1, 4, 11, 12, 13, 14, 15, 16, 17] (fun w60 l61 h62 N63 =>
VL (vixS 1 (l61.getD 7 .und) (l61.getD 8 .und)) fun v139_64 =>
pld h62 none (fun v140_65 h66 =>
VL (vlenS v140_65) fun v141_67 =>
VL (lift2 (abin .lss) (w60.getD 1 .und) v141_67) fun v142_68 =>
pcond (
VL (vixS 1 (l61.getD 3 .und) (l61.getD 5 .und)) fun v148_69 =>
pld h66 none (fun v149_70 h71 =>
VL (vixS 1 (l61.getD 7 .und) (l61.getD 8 .und)) fun v152_72 =>
pld h71 none (fun v153_73 h74 =>
VL (vixS 1 v153_73 (w60.getD 1 .und)) fun v155_75 =>
pld h74 none (fun v156_76 h77 =>
VL (vixS 1 v149_70 v156_76) fun v157_78 =>
pld h77 none (fun v158_79 h80 =>
VL (lift2 (abin .add) (w60.getD 0 .und) v158_79) fun v159_81 =>
VL (lift2 (abin .add) (w60.getD 1 .und) (.int .i64 1)) fun v144_82 =>
N63 [v159_81, v144_82] [(l61.getD 0 .und), (l61.getD 1 .und), (l61.getD 2 .und), (l61.getD 3 .und), (l61.getD 4 .und), (l61.getD 5 .und), (l61.getD 6 .und), (l61.getD 7 .und), (l61.getD 8 .und)] h80) v157_78) v155_75) v152_72) v148_69) (
VL (lift2 (abin .rem) (w60.getD 0 .und) (l61.getD 0 .und)) fun v163_83 =>
pmks h66 164 2 1 1 (fun h84 =>
papp h84 (fun m87 s88 => papV 2 1 8 165 h84 (fun v165_85 h86 =>
VL (lift2 (abin .add) (l61.getD 8 .und) (.int .i64 1)) fun v135_89 =>
N57 [v165_85, v135_89] [(l61.getD 0 .und), (l61.getD 1 .und), (l61.getD 2 .und), (l61.getD 3 .und), (l61.getD 4 .und), (l61.getD 5 .und), (l61.getD 7 .und)] h86) m87 s88 (l61.getD 6 .und)) (pavs h84 (l61.getD 6 .und) []) (preadS 1 h84 (.rf 164 0 1))) (vfill [(.int .i64 0)] [(0, 1, v163_83)])) v142_68) v139_64) [(.int .i64 0), (.int .i64 0)] [(l55.getD 0 .und), (l55.getD 1 .und), (l55.getD 2 .und), (l55.getD 3 .und), (l55.getD 4 .und), (l55.getD 5 .und), (w54.getD 0 .und), (l55.getD 6 .und), (w54.getD 1 .und)] h56) (
pmks h56 168 26 1 1 (fun h90 =>
papp h90 (fun m93 s94 => papV 26 1 24 169 h90 (fun v169_91 h92 =>
VL (lift2 (abin .add) (l55.getD 5 .und) (.int .i64 1)) fun v121_95 =>
N43 [v169_91, v121_95] [(l55.getD 0 .und), (l55.getD 1 .und), (l55.getD 2 .und), (l55.getD 3 .und)] h92) m93 s94 (l55.getD 4 .und)) (pavs h90 (l55.getD 4 .und) []) (preadS 1 h90 (.rf 168 0 1))) (vfill [.nils] [(0, 1, (w54.getD 0 .und))])) v133_59) [(.rf 122 0 0), (.int .i64 0)] [(l41.getD 0 .und), (l41.getD 1 .und), (l41.getD 2 .und), (l41.getD 3 .und), (w40.getD 0 .und), (w40.getD 1 .und), v129_51] h53) (vfill [] [])) [v126_46, v128_49]) v127_48) v125_45) (
Rt h42 (w40.getD 0 .und)) v119_44) [(.rf 117 0 0), (.int .i64 0)] [(l3.getD 0 .und), (l3.getD 3 .und), (.rf 112 0 3), (.rf 116 0 3)] h39) (vfill [] [])) (vfill [.nils, .nils, .nils] [(0, 1, (l3.getD 1 .und)), (1, 1, (l3.getD 2 .und)), (2, 1, (w2.getD 0 .und))])) (vfill (vi .u8 (List.replicate 48 0)) [(0, 16, v107_28), (16, 16, v109_31), (32, 16, v111_35)])) [v110_33]) (l3.getD 3 .und)) v108_30) v106_27) v88_9) v86_6) [(.rf 84 0 0), (.int .i64 0)] [x1, x2, x3, (.ptr 68 0)] h1) (vfill [] [])
theorem spec_l09Sums_f {x0 x1 x2 x3 : V} : Prt Try.prog 94 [x0, x1, x2, x3] (spec_l09Sums_F x0 x1 x2 x3) := pfun (fn := Try.f94) (m := [.s, .s, .s, .s, .l [9, 10] [1, 2, 3, 4], .s, .s, .s, .s, .s, .s, .l [13, 14] [1, 4, 11, 12], .s, .s, .s, .s, .s, .s, .l [15, 17] [1, 4, 11, 12, 13, 14, 16], .s, .s, .s, .s, .s, .s, .l [18, 19] [1, 4, 11, 12, 13, 14, 15, 16, 17], .s, .s, .s, .s]) (c := 4 ≤ 107) rfl (fun h0 Rt => by kernel_rfl) (by decide)

def impl_sumsOfVoltages_F (x0 x1 x2 x3 : V) (hi : Hp) (Rt : Hp → V → Prop) : Prop :=
pbox hi 68 25 (cellsV x0) fun h0 =>
pbox h0 70 26 (cellsV x2) fun h1 =>
pbox h1 71 26 (cellsV x3) fun h2 =>
pld h2 (some 16) (fun v74_3 h4 =>
pld h4 none (fun v76_5 h6 =>
VL (vmkf (.func 121) [] [(.ptr 70 0)]) fun v79_7 =>
pld h6 (some 16) (fun v82_8 h9 =>
pld h9 none (fun v84_10 h11 =>
VL (vmkf (.func 122) [] [(.ptr 71 0)]) fun v87_12 =>
pld h11 (some 33) (fun v89_13 h14 =>
pld h14 none (fun v92_15 h16 =>
VL (vmkf (.func 123) [] [(.ptr 70 0), (.ptr 71 0), (.ptr 68 0)]) fun v95_17 =>
pcalp Try.prog 83 77 h16 (fun v77_18 h19 =>
pcalp Try.prog 120 80 h19 (fun v80_20 h21 =>
pcalp Try.prog 83 85 h21 (fun v85_22 h23 =>
pcalp Try.prog 120 88 h23 (fun v88_24 h25 =>
pcalp Try.prog 84 90 h25 (fun v90_26 h27 =>
pcal Try.prog 83 93 h27 (fun v93_28 h29 =>
pcal Try.prog 120 96 h29 (fun v96_30 h31 =>
pmks h31 97 26 3 3 (fun h32 =>
Rt h32 (.rf 97 0 3)) (vfill [.nils, .nils, .nils] [(0, 1, v80_20), (1, 1, v88_24), (2, 1, v96_30)])) [v93_28, x1, v95_17]) [v90_26, v92_15]) [v89_13]) [v85_22, x1, v87_12]) [v82_8, v84_10]) [v77_18, x1, v79_7]) [v74_3, v76_5]) (.ptr 68 0)) (.ptr 68 0)) (.ptr 68 0)) (.ptr 68 17)) (.ptr 68 0)) (.ptr 68 1)
theorem impl_sumsOfVoltages_f {x0 x1 x2 x3 : V} : Prt Try.prog 95 [x0, x1, x2, x3] (impl_sumsOfVoltages_F x0 x1 x2 x3) := pfun (fn := Try.f95) (m := [.s, .s]) (c := 4 ≤ 34) rfl (fun h0 Rt => by kernel_rfl) (by decide)

def spec_StarDessin_F (x0 : V) (hi : Hp) (Rt : Hp → V → Prop) : Prop :=
palloc hi 66 25 ([(.int .i64 0)] ++ (vi .u8 (List.replicate 32 0))) fun h0 =>
pcal Try.prog 75 69 h0 (fun v69_1 h2 =>
VL (lift1 (aun .not) v69_1) fun v70_3 =>
pcond (
VL (vbld (vfill ([(.int .i64 0)] ++ (vi .u8 (List.replicate 32 0))) [])) fun v71_4 =>
pst h2 33 (cellsV v71_4) (fun u5 h6 =>
VL (pcellV h6 (some 33) (.ptr 66 0)) fun r7 =>
Rt h6 (.tup [r7, (.int .i64 2)])) (.ptr 66 0)) (
pcal Try.prog 124 73 h2 (fun v73_8 h9 =>
pst h9 33 (cellsV v73_8) (fun u10 h11 =>
VL (pcellV h11 (some 33) (.ptr 66 0)) fun r12 =>
Rt h11 (.tup [r12, (.int .i64 0)])) (.ptr 66 0)) [x0]) v70_3) [x0, (.int .i64 1), (.int .i64 16)]
theorem spec_StarDessin_f {x0 : V} : Prt Try.prog 96 [x0] (spec_StarDessin_F x0) := pfun (fn := Try.f96) (m := [.s, .s, .s, .s, .s]) (c := 1 ≤ 10) rfl (fun h0 Rt => by kernel_rfl) (by decide)

def spec_l06Monomial_F (x0 x1 : V) (hi : Hp) (Rt : Hp → V → Prop) : Prop :=
pmk hi 70 2 8 [(.int .i64 0)] (fun v70_0 h1 =>
pmks h1 72 2 1 1 (fun h2 =>
papp h2 (fun m5 s6 => papV 2 1 8 73 h2 (fun v73_3 h4 =>
Rt h4 v73_3) m5 s6 v70_0) (pavs h2 v70_0 []) (preadS 1 h2 (.rf 72 0 1))) (vfill [(.int .i64 0)] [(0, 1, x0)])) x1 x1
theorem spec_l06Monomial_f {x0 x1 : V} : Prt Try.prog 97 [x0, x1] (spec_l06Monomial_F x0 x1) := pfun (fn := Try.f97) (m := [.s, .s]) (c := 2 ≤ 10) rfl (fun h0 Rt => by kernel_rfl) (by decide)

def impl_same_F (x0 : V) (hi : Hp) (Rt : Hp → V → Prop) : Prop :=
palloc hi 66 23 (vi .u8 (List.replicate 16 0)) fun h0 =>
VL (vbld (vfill (vi .u8 (List.replicate 16 0)) [])) fun v69_1 =>
palloc h0 67 23 (vi .u8 (List.replicate 16 0)) fun h2 =>
pst h2 16 (cellsV v69_1) (fun u3 h4 =>
LP [7] [2, 3, 6] (fun w5 l6 h7 N8 =>
VL (lift2 (abin .lss) (w5.getD 0 .und) (l6.getD 2 .und)) fun v72_9 =>
pcond (
VL (lift1 (acvi .u8) (w5.getD 0 .und)) fun v76_10 =>
VL (vixA 16 1 (l6.getD 1 .und) (w5.getD 0 .und)) fun v77_11 =>
pst h7 1 (cellsV v76_10) (fun u12 h13 =>
VL (lift2 (abin .add) (w5.getD 0 .und) (.int .i64 1)) fun v78_14 =>
N8 [v78_14] [(l6.getD 0 .und), (l6.getD 1 .und), (l6.getD 2 .und)] h13) v77_11) (
pld h7 (some 16) (fun v79_15 h16 =>
pst h16 16 (cellsV v79_15) (fun u17 h18 =>
VL (pcellV h18 (some 16) (l6.getD 0 .und)) fun r19 =>
Rt h18 r19) (l6.getD 0 .und)) (l6.getD 1 .und)) v72_9) [(.int .i64 0)] [(.ptr 66 0), (.ptr 67 0), x0] h4) (.ptr 67 0)
theorem impl_same_f {x0 : V} : Prt Try.prog 98 [x0] (impl_same_F x0) := pfun (fn := Try.f98) (m := [.s, .s, .s, .s, .l [7] [2, 3, 6], .s, .s, .s, .s, .s]) (c := 1 ≤ 16) rfl (fun h0 Rt => by kernel_rfl) (by decide)

def spec_l08Order_F (x0 : V) (hi : Hp) (Rt : Hp → V → Prop) : Prop :=
VL (vlenS x0) fun v73_0 =>
pmk hi 74 4 1 [(.bool false)] (fun v74_1 h2 =>
pmks h2 75 2 1 1 (fun h3 =>
VL (vixS 1 v74_1 (.int .i64 0)) fun v77_4 =>
pst h3 1 (cellsV (.bool true)) (fun u5 h6 =>
LP [4, 5] [0, 3] (fun w7 l8 h9 N10 =>
VL (vlenS (w7.getD 0 .und)) fun v80_11 =>
VL (lift2 (abin .lss) (w7.getD 1 .und) v80_11) fun v81_12 =>
pcond (
LP [4, 6] [0, 3, 5] (fun w13 l14 h15 N16 =>
VL (lift2 (abin .lss) (w13.getD 1 .und) (.int .i64 2)) fun v85_17 =>
pcond (
JN (fun k18 =>
VL (vixS 1 (w13.getD 0 .und) (l14.getD 2 .und)) fun v91_21 =>
pld h15 none (fun v92_22 h23 =>
VL (vixS 1 (l14.getD 0 .und) v92_22) fun v93_24 =>
pld h23 none (fun v94_25 h26 =>
VL (vixS 1 v94_25 (w13.getD 1 .und)) fun v96_27 =>
pld h26 none (fun v97_28 h29 =>
VL (vixS 1 (l14.getD 1 .und) v97_28) fun v100_30 =>
pld h29 none (fun v101_31 h32 =>
VL (lift1 (aun .not) v101_31) fun v102_33 =>
pcond (
VL (vixS 1 (l14.getD 1 .und) v97_28) fun v105_34 =>
pst h32 1 (cellsV (.bool true)) (fun u35 h36 =>
pmks h36 108 2 1 1 (fun h37 =>
papp h37 (fun m40 s41 => papV 2 1 8 109 h37 (fun v109_38 h39 =>
k18 [(l14.getD 0 .und), (l14.getD 1 .und), v109_38, (l14.getD 2 .und), (w13.getD 1 .und)] h39) m40 s41 (w13.getD 0 .und)) (pavs h37 (w13.getD 0 .und) []) (preadS 1 h37 (.rf 108 0 1))) (vfill [(.int .i64 0)] [(0, 1, v97_28)])) v105_34) (
k18 [(l14.getD 0 .und), (l14.getD 1 .und), (w13.getD 0 .und), (l14.getD 2 .und), (w13.getD 1 .und)] h32) v102_33) v100_30) v96_27) v93_24) v91_21) fun o19 h20 =>
VL (lift2 (abin .add) (o19.getD 4 .und) (.int .i64 1)) fun v87_42 =>
N16 [(o19.getD 2 .und), v87_42] [(o19.getD 0 .und), (o19.getD 1 .und), (o19.getD 3 .und)] h20) (
VL (lift2 (abin .add) (l14.getD 2 .und) (.int .i64 1)) fun v83_43 =>
N10 [(w13.getD 0 .und), v83_43] [(l14.getD 0 .und), (l14.getD 1 .und)] h15) v85_17) [(w7.getD 0 .und), (.int .i64 0)] [(l8.getD 0 .und), (l8.getD 1 .und), (w7.getD 1 .und)] h9) (
Rt h9 (w7.getD 0 .und)) v81_12) [(.rf 75 0 1), (.int .i64 0)] [x0, v74_1] h6) v77_4) (vfill [(.int .i64 0)] [(0, 1, (.int .i64 0))])) v73_0 v73_0
theorem spec_l08Order_f {x0 : V} : Prt Try.prog 99 [x0] (spec_l08Order_F x0) := pfun (fn := Try.f99) (m := [.s, .s, .s, .s, .s, .l [4, 5] [0, 3], .s, .s, .s, .s, .l [4, 6] [0, 3, 5], .s, .s, .j [0, 3, 4, 5, 6], .s, .s, .s, .s]) (c := 1 ≤ 47) rfl (fun h0 Rt => by kernel_rfl) (by decide)

def spec_l01Perm_F (x0 x1 : V) (hi : Hp) (Rt : Hp → V → Prop) : Prop :=
pbox hi 66 23 (cellsV x0) fun h0 =>
pcal Try.prog 75 72 h0 (fun v72_1 h2 =>
VL (lift1 (aun .not) v72_1) fun v73_3 =>
pcond (
Rt h2 (.bool false)) (
VL (vbld (vfill (vb (List.replicate 16 false)) [])) fun v74_4 =>
palloc h2 69 91 (vb (List.replicate 16 false)) fun h5 =>
pst h5 16 (cellsV v74_4) (fun u6 h7 =>
LP [6] [1, 2, 5] (fun w8 l9 h10 N11 =>
VL (lift2 (abin .lss) (w8.getD 0 .und) (.int .i64 16)) fun v76_12 =>
pcond (
JN (fun k13 =>
VL (lift2 (abin .geq) (w8.getD 0 .und) (l9.getD 0 .und)) fun v86_16 =>
pcond (
VL (vixA 16 1 (l9.getD 1 .und) (w8.getD 0 .und)) fun v88_17 =>
pld h10 none (fun v89_18 h19 =>
VL (lift2 (abin .neq) v89_18 (.int .u8 0)) fun v90_20 =>
pcond (
Rt h19 (.bool false)) (
k13 [(l9.getD 0 .und), (l9.getD 1 .und), (l9.getD 2 .und), (w8.getD 0 .und)] h19) v90_20) v88_17) (
VL (vixA 16 1 (l9.getD 1 .und) (w8.getD 0 .und)) fun v93_21 =>
pld h10 none (fun v94_22 h23 =>
VL (lift1 (acvi .i64) v94_22) fun v95_24 =>
VL (lift2 (abin .geq) v95_24 (l9.getD 0 .und)) fun v97_25 =>
pgk false h23 (fun g26 k27 => k27 (w8.getD 0 .und) h23) (fun g28 v35_29 h30 =>
pgk false h30 (fun g31 k32 => VL (vixA 16 1 (l9.getD 1 .und) v35_29) fun v100_33 =>
k32 v100_33 h30) (fun g34 v36_35 h36 =>
pgk false h36 (fun g37 k38 => pld h36 none (fun v101_39 h40 =>
k38 v101_39 h40) v36_35) (fun g41 v37_42 h43 =>
pgk false h43 (fun g44 k45 => VL (vixA 16 1 (l9.getD 2 .und) v37_42) fun v102_46 =>
k45 v102_46 h43) (fun g47 v38_48 h49 =>
pgk false h49 (fun g50 k51 => pld h49 none (fun v103_52 h53 =>
k51 v103_52 h53) v38_48) (fun g54 v39_55 h56 =>
VL (vpick g54 (.bool true) v39_55) fun v104_57 =>
pcond (
Rt h56 (.bool false)) (
VL (vixA 16 1 (l9.getD 1 .und) (w8.getD 0 .und)) fun v80_58 =>
pld h56 none (fun v81_59 h60 =>
VL (vixA 16 1 (l9.getD 2 .und) v81_59) fun v82_61 =>
pst h60 1 (cellsV (.bool true)) (fun u62 h63 =>
k13 [(l9.getD 0 .und), (l9.getD 1 .und), (l9.getD 2 .und), (w8.getD 0 .und)] h63) v82_61) v80_58) v104_57) g47) g41) g34) g28) v97_25) v93_21) v86_16) fun o14 h15 =>
VL (lift2 (abin .add) (o14.getD 3 .und) (.int .i64 1)) fun v78_64 =>
N11 [v78_64] [(o14.getD 0 .und), (o14.getD 1 .und), (o14.getD 2 .und)] h15) (
Rt h10 (.bool true)) v76_12) [(.int .i64 0)] [x1, (.ptr 66 0), (.ptr 69 0)] h7) (.ptr 69 0)) v73_3) [x1, (.int .i64 1), (.int .i64 16)]
theorem spec_l01Perm_f {x0 x1 : V} : Prt Try.prog 100 [x0, x1] (spec_l01Perm_F x0 x1) := pfun (fn := Try.f100) (m := [.s, .s, .s, .s, .s, .s, .s, .l [6] [1, 2, 5], .s, .s, .j [1, 2, 5, 6], .s, .s, .s, .s, .s, .s]) (c := 2 ≤ 41) rfl (fun h0 Rt => by kernel_rfl) (by decide)

def spec_l01Connected_F (x0 x1 x2 : V) (hi : Hp) (Rt : Hp → V → Prop) : Prop :=
pbox hi 68 23 (cellsV x1) fun h0 =>
pbox h0 69 23 (cellsV x2) fun h1 =>
VL (vbld (vfill (vb (List.replicate 16 false)) [])) fun v76_2 =>
pmks h1 77 5 1 1 (fun h3 =>
palloc h3 71 91 (vb (List.replicate 16 false)) fun h4 =>
pst h4 16 (cellsV v76_2) (fun u5 h6 =>
VL (vixA 16 1 (.ptr 71 0) (.int .i64 0)) fun v78_7 =>
pst h6 1 (cellsV (.bool true)) (fun u8 h9 =>
LP [8, 9] [0, 4, 5, 7] (fun w10 l11 h12 N13 =>
VL (vlenS (w10.getD 0 .und)) fun v81_14 =>
VL (lift2 (abin .lss) (w10.getD 1 .und) v81_14) fun v82_15 =>
pcond (
VL (vixS 1 (w10.getD 0 .und) (w10.getD 1 .und)) fun v87_16 =>
pld h12 none (fun v88_17 h18 =>
VL (vixA 16 1 (l11.getD 1 .und) v88_17) fun v89_19 =>
pld h18 none (fun v90_20 h21 =>
VL (vixS 1 (w10.getD 0 .und) (w10.getD 1 .und)) fun v93_22 =>
pld h21 none (fun v94_23 h24 =>
VL (vixA 16 1 (l11.getD 2 .und) v94_23) fun v95_25 =>
pld h24 none (fun v96_26 h27 =>
pmks h27 97 5 2 2 (fun h28 =>
LP [8, 11] [0, 4, 5, 7, 9, 10] (fun w29 l30 h31 N32 =>
VL (lift2 (abin .lss) (w29.getD 1 .und) (.int .i64 2)) fun v99_33 =>
pcond (
JN (fun k34 =>
VL (vixS 1 (l30.getD 5 .und) (w29.getD 1 .und)) fun v104_37 =>
pld h31 none (fun v105_38 h39 =>
VL (vixA 16 1 (l30.getD 3 .und) v105_38) fun v106_40 =>
pld h39 none (fun v107_41 h42 =>
VL (lift1 (aun .not) v107_41) fun v108_43 =>
pcond (
VL (vixS 1 (l30.getD 5 .und) (w29.getD 1 .und)) fun v111_44 =>
pld h42 none (fun v112_45 h46 =>
VL (vixA 16 1 (l30.getD 3 .und) v112_45) fun v113_47 =>
pst h46 1 (cellsV (.bool true)) (fun u48 h49 =>
VL (vixS 1 (l30.getD 5 .und) (w29.getD 1 .und)) fun v117_50 =>
pld h49 none (fun v118_51 h52 =>
pmks h52 119 5 1 1 (fun h53 =>
papp h53 (fun m56 s57 => papV 5 1 1 120 h53 (fun v120_54 h55 =>
k34 [(l30.getD 0 .und), (l30.getD 1 .und), (l30.getD 2 .und), (l30.getD 3 .und), v120_54, (l30.getD 4 .und), (l30.getD 5 .und), (w29.getD 1 .und)] h55) m56 s57 (w29.getD 0 .und)) (pavs h53 (w29.getD 0 .und) []) (preadS 1 h53 (.rf 119 0 1))) (vfill [(.int .u8 0)] [(0, 1, v118_51)])) v117_50) v113_47) v111_44) (
k34 [(l30.getD 0 .und), (l30.getD 1 .und), (l30.getD 2 .und), (l30.getD 3 .und), (w29.getD 0 .und), (l30.getD 4 .und), (l30.getD 5 .und), (w29.getD 1 .und)] h42) v108_43) v106_40) v104_37) fun o35 h36 =>
VL (lift2 (abin .add) (o35.getD 7 .und) (.int .i64 1)) fun v101_58 =>
N32 [(o35.getD 4 .und), v101_58] [(o35.getD 0 .und), (o35.getD 1 .und), (o35.getD 2 .und), (o35.getD 3 .und), (o35.getD 5 .und), (o35.getD 6 .und)] h36) (
VL (lift2 (abin .add) (l30.getD 4 .und) (.int .i64 1)) fun v84_59 =>
N13 [(w29.getD 0 .und), v84_59] [(l30.getD 0 .und), (l30.getD 1 .und), (l30.getD 2 .und), (l30.getD 3 .und)] h31) v99_33) [(w10.getD 0 .und), (.int .i64 0)] [(l11.getD 0 .und), (l11.getD 1 .und), (l11.getD 2 .und), (l11.getD 3 .und), (w10.getD 1 .und), (.rf 97 0 2)] h28) (vfill [(.int .u8 0), (.int .u8 0)] [(0, 1, v90_20), (1, 1, v96_26)])) v95_25) v93_22) v89_19) v87_16) (
VL (vlenS (w10.getD 0 .und)) fun v122_60 =>
VL (lift2 (abin .eql) v122_60 (l11.getD 0 .und)) fun v124_61 =>
Rt h12 v124_61) v82_15) [(.rf 77 0 1), (.int .i64 0)] [x0, (.ptr 68 0), (.ptr 69 0), (.ptr 71 0)] h9) v78_7) (.ptr 71 0)) (vfill [(.int .u8 0)] [(0, 1, (.int .u8 0))])
theorem spec_l01Connected_f {x0 x1 x2 : V} : Prt Try.prog 101 [x0, x1, x2] (spec_l01Connected_F x0 x1 x2) := pfun (fn := Try.f101) (m := [.s, .s, .s, .s, .s, .l [8, 9] [0, 4, 5, 7], .s, .s, .s, .s, .s, .l [8, 11] [0, 4, 5, 7, 9, 10], .s, .s, .j [0, 4, 5, 7, 8, 9, 10, 11], .s, .s, .s]) (c := 3 ≤ 61) rfl (fun h0 Rt => by kernel_rfl) (by decide)

def impl_IsPermutation_F (x0 x1 : V) (hi : Hp) (Rt : Hp → V → Prop) : Prop :=
pbox hi 66 23 (cellsV x0) fun h0 =>
pcal Try.prog 125 73 h0 (fun v73_1 h2 =>
VL (lift1 (aun .not) v73_1) fun v74_3 =>
pcond (
Rt h2 (.bool false)) (
VL (vbld (vfill (vb (List.replicate 16 false)) [])) fun v75_4 =>
palloc h2 69 91 (vb (List.replicate 16 false)) fun h5 =>
pst h5 16 (cellsV v75_4) (fun u6 h7 =>
pld h7 (some 16) (fun v76_8 h9 =>
LP [13] [1, 5, 12] (fun w10 l11 h12 N13 =>
VL (lift2 (abin .lss) (w10.getD 0 .und) (.int .i64 16)) fun v78_14 =>
pcond (
JN (fun k15 =>
VL (vixV 16 1 none (l11.getD 2 .und) (w10.getD 0 .und)) fun v80_18 =>
VL (lift2 (abin .geq) (w10.getD 0 .und) (l11.getD 0 .und)) fun v83_19 =>
pcond (
VL (lift2 (abin .neq) v80_18 (.int .u8 0)) fun v85_20 =>
pcond (
Rt h12 (.bool false)) (
k15 [(l11.getD 0 .und), (l11.getD 1 .und), (l11.getD 2 .und), (w10.getD 0 .und)] h12) v85_20) (
VL (lift1 (acvi .i64) v80_18) fun v87_21 =>
VL (lift2 (abin .geq) v87_21 (l11.getD 0 .und)) fun v89_22 =>
pgk false h12 (fun g23 k24 => k24 v80_18 h12) (fun g25 v27_26 h27 =>
pgk false h27 (fun g28 k29 => VL (vixA 16 1 (l11.getD 1 .und) v27_26) fun v92_30 =>
k29 v92_30 h27) (fun g31 v28_32 h33 =>
pgk false h33 (fun g34 k35 => pld h33 none (fun v93_36 h37 =>
k35 v93_36 h37) v28_32) (fun g38 v29_39 h40 =>
VL (vpick g38 (.bool true) v29_39) fun v94_41 =>
pcond (
Rt h40 (.bool false)) (
VL (vixA 16 1 (l11.getD 1 .und) v80_18) fun v96_42 =>
pst h40 1 (cellsV (.bool true)) (fun u43 h44 =>
k15 [(l11.getD 0 .und), (l11.getD 1 .und), (l11.getD 2 .und), (w10.getD 0 .und)] h44) v96_42) v94_41) g31) g25) v89_22) v83_19) fun o16 h17 =>
VL (lift2 (abin .add) (o16.getD 3 .und) (.int .i64 1)) fun v97_45 =>
N13 [v97_45] [(o16.getD 0 .und), (o16.getD 1 .und), (o16.getD 2 .und)] h17) (
Rt h12 (.bool true)) v78_14) [(.int .i64 0)] [x1, (.ptr 69 0), v76_8] h9) (.ptr 66 0)) (.ptr 69 0)) v74_3) [x1]
theorem impl_IsPermutation_f {x0 x1 : V} : Prt Try.prog 102 [x0, x1] (impl_IsPermutation_F x0 x1) := pfun (fn := Try.f102) (m := [.s, .s, .s, .s, .s, .s, .s, .l [13] [1, 5, 12], .s, .s, .j [1, 5, 12, 13], .s, .s, .s, .s, .s, .s, .s, .s, .s, .s]) (c := 2 ≤ 34) rfl (fun h0 Rt => by kernel_rfl) (by decide)

def impl_reached_F (x0 x1 : V) (hi : Hp) (Rt : Hp → V → Prop) : Prop :=
VL (vbld (vfill (vb (List.replicate 16 false)) [(0, 1, (.bool true))])) fun v75_0 =>
palloc hi 69 91 (vb (List.replicate 16 false)) fun h1 =>
pst h1 16 (cellsV v75_0) (fun u2 h3 =>
pmks h3 76 5 1 1 (fun h4 =>
LP [6, 7] [1, 5] (fun w5 l6 h7 N8 =>
VL (vlenS (w5.getD 0 .und)) fun v79_9 =>
VL (lift2 (abin .lss) (w5.getD 1 .und) v79_9) fun v80_10 =>
pcond (
VL (vlenS (l6.getD 0 .und)) fun v84_11 =>
LP [6, 21] [1, 5, 7, 19, 20] (fun w12 l13 h14 N15 =>
VL (lift2 (abin .lss) (w12.getD 1 .und) (l13.getD 4 .und)) fun v86_16 =>
pcond (
JN (fun k17 =>
VL (vixS 16 (l13.getD 3 .und) (w12.getD 1 .und)) fun v87_20 =>
pld h14 (some 16) (fun v88_21 h22 =>
palloc h22 73 23 (vi .u8 (List.replicate 16 0)) fun h23 =>
pst h23 16 (cellsV v88_21) (fun u24 h25 =>
VL (vixS 1 (w12.getD 0 .und) (l13.getD 2 .und)) fun v91_26 =>
pld h25 none (fun v92_27 h28 =>
VL (vixA 16 1 (.ptr 73 0) v92_27) fun v93_29 =>
pld h28 none (fun v94_30 h31 =>
VL (vixA 16 1 (l13.getD 1 .und) v94_30) fun v96_32 =>
pld h31 none (fun v97_33 h34 =>
VL (lift1 (aun .not) v97_33) fun v98_35 =>
pcond (
VL (vixA 16 1 (l13.getD 1 .und) v94_30) fun v100_36 =>
pst h34 1 (cellsV (.bool true)) (fun u37 h38 =>
pmks h38 103 5 1 1 (fun h39 =>
papp h39 (fun m42 s43 => papV 5 1 1 104 h39 (fun v104_40 h41 =>
k17 [(l13.getD 0 .und), (l13.getD 1 .und), v104_40, (l13.getD 2 .und), (l13.getD 3 .und), (l13.getD 4 .und), (w12.getD 1 .und)] h41) m42 s43 (w12.getD 0 .und)) (pavs h39 (w12.getD 0 .und) []) (preadS 1 h39 (.rf 103 0 1))) (vfill [(.int .u8 0)] [(0, 1, v94_30)])) v100_36) (
k17 [(l13.getD 0 .und), (l13.getD 1 .und), (w12.getD 0 .und), (l13.getD 2 .und), (l13.getD 3 .und), (l13.getD 4 .und), (w12.getD 1 .und)] h34) v98_35) v96_32) v93_29) v91_26) (.ptr 73 0)) v87_20) fun o18 h19 =>
VL (lift2 (abin .add) (o18.getD 6 .und) (.int .i64 1)) fun v105_44 =>
N15 [(o18.getD 2 .und), v105_44] [(o18.getD 0 .und), (o18.getD 1 .und), (o18.getD 3 .und), (o18.getD 4 .und), (o18.getD 5 .und)] h19) (
VL (lift2 (abin .add) (l13.getD 2 .und) (.int .i64 1)) fun v82_45 =>
N8 [(w12.getD 0 .und), v82_45] [(l13.getD 0 .und), (l13.getD 1 .und)] h14) v86_16) [(w5.getD 0 .und), (.int .i64 0)] [(l6.getD 0 .und), (l6.getD 1 .und), (w5.getD 1 .und), (l6.getD 0 .und), v84_11] h7) (
VL (vlenS (w5.getD 0 .und)) fun v107_46 =>
Rt h7 v107_46) v80_10) [(.rf 76 0 1), (.int .i64 0)] [x1, (.ptr 69 0)] h4) (vfill [(.int .u8 0)] [(0, 1, (.int .u8 0))])) (.ptr 69 0)
theorem impl_reached_f {x0 x1 : V} : Prt Try.prog 103 [x0, x1] (impl_reached_F x0 x1) := pfun (fn := Try.f103) (m := [.s, .s, .s, .s, .s, .l [6, 7] [1, 5], .s, .s, .s, .s, .l [6, 21] [1, 5, 7, 19, 20], .s, .s, .j [1, 5, 6, 7, 19, 20, 21], .s, .s, .s, .s, .s]) (c := 2 ≤ 44) rfl (fun h0 Rt => by kernel_rfl) (by decide)

def impl_isNumber_F (x0 : V) (hi : Hp) (Rt : Hp → V → Prop) : Prop :=
VL (lift2 (abin .geq) x0 (.int .i64 0)) fun v68_0 =>
pgk true hi (fun g1 k2 => k2 x0 hi) (fun g3 v6_4 h5 =>
pgk true h5 (fun g6 k7 => VL (lift2 (abin .lss) v6_4 (.int .i64 10007)) fun v71_8 =>
k7 v71_8 h5) (fun g9 v7_10 h11 =>
VL (vpick g9 v7_10 (.bool false)) fun v72_12 =>
Rt h11 v72_12) g3) v68_0
theorem impl_isNumber_f {x0 : V} : Prt Try.prog 104 [x0] (impl_isNumber_F x0) := pfun (fn := Try.f104) (m := [.s, .s]) (c := 1 ≤ 9) rfl (fun h0 Rt => by kernel_rfl) (by decide)

def spec_l09List_F (x0 x1 x2 x3 : V) (hi : Hp) (Rt : Hp → V → Prop) : Prop :=
LP [9] [0, 1, 2, 3] (fun w0 l1 h2 N3 =>
VL (vlenS (l1.getD 0 .und)) fun v76_4 =>
VL (lift2 (abin .lss) (w0.getD 0 .und) v76_4) fun v77_5 =>
pcond (
VL (vixS 1 (l1.getD 0 .und) (w0.getD 0 .und)) fun v82_6 =>
pld h2 none (fun v83_7 h8 =>
pcal Try.prog 75 86 h8 (fun v86_9 h10 =>
VL (lift1 (aun .not) v86_9) fun v87_11 =>
pcond (
Rt h10 (.bool false)) (
VL (lift2 (abin .add) (w0.getD 0 .und) (.int .i64 1)) fun v79_12 =>
N3 [v79_12] [(l1.getD 0 .und), (l1.getD 1 .und), (l1.getD 2 .und), (l1.getD 3 .und)] h10) v87_11) [v83_7, (l1.getD 2 .und), (l1.getD 3 .und)]) v82_6) (
VL (vlenS (l1.getD 0 .und)) fun v89_13 =>
VL (lift2 (abin .eql) v89_13 (l1.getD 1 .und)) fun v91_14 =>
Rt h2 v91_14) v77_5) [(.int .i64 0)] [x0, x1, x2, x3] hi
theorem spec_l09List_f {x0 x1 x2 x3 : V} : Prt Try.prog 105 [x0, x1, x2, x3] (spec_l09List_F x0 x1 x2 x3) := pfun (fn := Try.f105) (m := [.s, .s, .s, .l [9] [0, 1, 2, 3], .s, .s, .s, .s, .s, .s]) (c := 4 ≤ 28) rfl (fun h0 Rt => by kernel_rfl) (by decide)

def impl_areVoltages_F (x0 x1 x2 : V) (hi : Hp) (Rt : Hp → V → Prop) : Prop :=
pbox hi 67 25 (cellsV x0) fun h0 =>
VL (lift2 (abin .lss) x1 (.int .i64 1)) fun v76_1 =>
pgk false h0 (fun g2 k3 => k3 x1 h0) (fun g4 v14_5 h6 =>
pgk false h6 (fun g7 k8 => VL (lift2 (abin .gtr) v14_5 (.int .i64 16)) fun v79_9 =>
k8 v79_9 h6) (fun g10 v15_11 h12 =>
VL (vpick g10 (.bool true) v15_11) fun v80_13 =>
pcond (
Rt h12 (.bool false)) (
VL (vlenS x2) fun v82_14 =>
LP [19] [1, 3, 17, 18] (fun w15 l16 h17 N18 =>
VL (lift2 (abin .lss) (w15.getD 0 .und) (l16.getD 3 .und)) fun v84_19 =>
pcond (
VL (vixS 1 (l16.getD 2 .und) (w15.getD 0 .und)) fun v85_20 =>
pld h17 none (fun v86_21 h22 =>
VL (vlenS v86_21) fun v88_23 =>
VL (vfa 0 (l16.getD 1 .und)) fun v89_24 =>
pld h22 none (fun v90_25 h26 =>
VL (lift2 (abin .neq) v88_23 v90_25) fun v91_27 =>
pcond (
Rt h26 (.bool false)) (
VL (vlenS v86_21) fun v93_28 =>
LP [30] [1, 3, 17, 18, 19, 28, 29] (fun w29 l30 h31 N32 =>
VL (lift2 (abin .lss) (w29.getD 0 .und) (l30.getD 6 .und)) fun v95_33 =>
pcond (
VL (vixS 1 (l30.getD 5 .und) (w29.getD 0 .und)) fun v96_34 =>
pld h31 none (fun v97_35 h36 =>
VL (lift2 (abin .lss) v97_35 (.int .i64 0)) fun v99_37 =>
pgk false h36 (fun g38 k39 => k39 v97_35 h36) (fun g40 v37_41 h42 =>
pgk false h42 (fun g43 k44 => k44 (l30.getD 0 .und) h42) (fun g45 v38_46 h47 =>
pgk false h47 (fun g48 k49 => VL (lift2 (abin .geq) v37_41 v38_46) fun v103_50 =>
k49 v103_50 h47) (fun g51 v39_52 h53 =>
VL (vpick g51 (.bool true) v39_52) fun v104_54 =>
pcond (
Rt h53 (.bool false)) (
VL (lift2 (abin .add) (w29.getD 0 .und) (.int .i64 1)) fun v105_55 =>
N32 [v105_55] [(l30.getD 0 .und), (l30.getD 1 .und), (l30.getD 2 .und), (l30.getD 3 .und), (l30.getD 4 .und), (l30.getD 5 .und), (l30.getD 6 .und)] h53) v104_54) g45) g40) v99_37) v96_34) (
VL (lift2 (abin .add) (l30.getD 4 .und) (.int .i64 1)) fun v106_56 =>
N18 [v106_56] [(l30.getD 0 .und), (l30.getD 1 .und), (l30.getD 2 .und), (l30.getD 3 .und)] h31) v95_33) [(.int .i64 0)] [(l16.getD 0 .und), (l16.getD 1 .und), (l16.getD 2 .und), (l16.getD 3 .und), (w15.getD 0 .und), v86_21, v93_28] h26) v91_27) v89_24) v85_20) (
Rt h17 (.bool true)) v84_19) [(.int .i64 0)] [x1, (.ptr 67 0), x2, v82_14] h12) v80_13) g4) v76_1
theorem impl_areVoltages_f {x0 x1 x2 : V} : Prt Try.prog 106 [x0, x1, x2] (impl_areVoltages_F x0 x1 x2) := pfun (fn := Try.f106) (m := [.s, .s, .s, .s, .s, .s, .l [19] [1, 3, 17, 18], .s, .s, .s, .s, .s, .s, .s, .s, .l [30] [1, 3, 17, 18, 19, 28, 29], .s, .s, .s, .s, .s, .s, .s]) (c := 3 ≤ 43) rfl (fun h0 Rt => by kernel_rfl) (by decide)

def impl_vertices_F (x0 : V) (hi : Hp) (Rt : Hp → V → Prop) : Prop :=
pbox hi 65 25 (cellsV x0) fun h0 =>
pld h0 (some 16) (fun v76_1 h2 =>
pld h2 none (fun v78_3 h4 =>
pcal Try.prog 83 79 h4 (fun v79_5 h6 =>
pld h6 (some 16) (fun v83_7 h8 =>
pld h8 none (fun v85_9 h10 =>
pcalp Try.prog 126 81 h10 (fun v81_11 h12 =>
pcal Try.prog 83 86 h12 (fun v86_13 h14 =>
papp h14 (fun m17 s18 => papV 26 1 24 87 h14 (fun v87_15 h16 =>
pld h16 none (fun v89_19 h20 =>
pmk h20 90 123 16 [(.int .i64 0), (.int .i64 0)] (fun v90_21 h22 =>
VL (vlenS v87_15) fun v92_23 =>
LP [29] [4, 5, 6, 27, 28] (fun w24 l25 h26 N27 =>
VL (lift2 (abin .lss) (w24.getD 0 .und) (l25.getD 4 .und)) fun v94_28 =>
pcond (
VL (vixS 1 (l25.getD 3 .und) (w24.getD 0 .und)) fun v96_29 =>
pld h26 none (fun v97_30 h31 =>
VL (vlenS v97_30) fun v99_32 =>
LP [36] [4, 5, 6, 7, 27, 28, 29, 34, 35] (fun w33 l34 h35 N36 =>
VL (lift2 (abin .lss) (w33.getD 0 .und) (l34.getD 8 .und)) fun v101_37 =>
pcond (
JN (fun k38 =>
VL (vixS 1 (l34.getD 7 .und) (w33.getD 0 .und)) fun v102_41 =>
pld h35 none (fun v103_42 h43 =>
VL (vlenS (l34.getD 0 .und)) fun v106_44 =>
VL (lift2 (abin .lss) (l34.getD 3 .und) v106_44) fun v107_45 =>
pcond (
VL (vixS 2 (l34.getD 2 .und) v103_42) fun v111_46 =>
VL (vixA 2 1 v111_46 (.int .i64 0)) fun v112_47 =>
pst h43 1 (cellsV (l34.getD 3 .und)) (fun u48 h49 =>
k38 [(l34.getD 0 .und), (l34.getD 1 .und), (l34.getD 2 .und), (l34.getD 3 .und), (l34.getD 4 .und), (l34.getD 5 .und), (l34.getD 6 .und), (l34.getD 7 .und), (l34.getD 8 .und), (w33.getD 0 .und)] h49) v112_47) (
VL (vixS 2 (l34.getD 2 .und) v103_42) fun v116_50 =>
VL (vixA 2 1 v116_50 (.int .i64 1)) fun v117_51 =>
pst h43 1 (cellsV (l34.getD 3 .und)) (fun u52 h53 =>
k38 [(l34.getD 0 .und), (l34.getD 1 .und), (l34.getD 2 .und), (l34.getD 3 .und), (l34.getD 4 .und), (l34.getD 5 .und), (l34.getD 6 .und), (l34.getD 7 .und), (l34.getD 8 .und), (w33.getD 0 .und)] h53) v117_51) v107_45) v102_41) fun o39 h40 =>
VL (lift2 (abin .add) (o39.getD 9 .und) (.int .i64 1)) fun v118_54 =>
N36 [v118_54] [(o39.getD 0 .und), (o39.getD 1 .und), (o39.getD 2 .und), (o39.getD 3 .und), (o39.getD 4 .und), (o39.getD 5 .und), (o39.getD 6 .und), (o39.getD 7 .und), (o39.getD 8 .und)] h40) (
VL (lift2 (abin .add) (l34.getD 6 .und) (.int .i64 1)) fun v119_55 =>
N27 [v119_55] [(l34.getD 0 .und), (l34.getD 1 .und), (l34.getD 2 .und), (l34.getD 4 .und), (l34.getD 5 .und)] h35) v101_37) [(.int .i64 0)] [(l25.getD 0 .und), (l25.getD 1 .und), (l25.getD 2 .und), (w24.getD 0 .und), (l25.getD 3 .und), (l25.getD 4 .und), (w24.getD 0 .und), v97_30, v99_32] h31) v96_29) (
Rt h26 (.tup [(l25.getD 1 .und), (l25.getD 2 .und)])) v94_28) [(.int .i64 0)] [v79_5, v87_15, v90_21, v87_15, v92_23] h22) v89_19 v89_19) (.ptr 65 0)) m17 s18 v81_11) (pavs h14 v81_11 []) (preadS 1 h14 v86_13)) [v83_7, v85_9]) [v79_5]) (.ptr 65 0)) (.ptr 65 17)) [v76_1, v78_3]) (.ptr 65 0)) (.ptr 65 1)
theorem impl_vertices_f {x0 : V} : Prt Try.prog 107 [x0] (impl_vertices_F x0) := pfun (fn := Try.f107) (m := [.s, .s, .s, .s, .s, .s, .l [29] [4, 5, 6, 27, 28], .s, .s, .s, .s, .s, .l [36] [4, 5, 6, 7, 27, 28, 29, 34, 35], .s, .s, .j [4, 5, 6, 7, 27, 28, 29, 34, 35, 36], .s, .s, .s]) (c := 1 ≤ 58) rfl (fun h0 Rt => by kernel_rfl) (by decide)

def spec_l01Back_F (x0 x1 : V) (hi : Hp) (Rt : Hp → V → Prop) : Prop :=
pbox hi 66 23 (cellsV x0) fun h0 =>
palloc h0 68 23 (vi .u8 (List.replicate 16 0)) fun h1 =>
VL (vbld (vfill (vi .u8 (List.replicate 16 0)) [])) fun v71_2 =>
palloc h1 69 23 (vi .u8 (List.replicate 16 0)) fun h3 =>
pst h3 16 (cellsV v71_2) (fun u4 h5 =>
LP [6] [1, 2, 4, 5] (fun w6 l7 h8 N9 =>
VL (lift2 (abin .lss) (w6.getD 0 .und) (l7.getD 0 .und)) fun v74_10 =>
pcond (
VL (vixA 16 1 (l7.getD 1 .und) (w6.getD 0 .und)) fun v78_11 =>
pld h8 none (fun v79_12 h13 =>
VL (lift1 (acvi .u8) (w6.getD 0 .und)) fun v81_14 =>
VL (vixA 16 1 (l7.getD 3 .und) v79_12) fun v82_15 =>
pst h13 1 (cellsV v81_14) (fun u16 h17 =>
VL (lift2 (abin .add) (w6.getD 0 .und) (.int .i64 1)) fun v76_18 =>
N9 [v76_18] [(l7.getD 0 .und), (l7.getD 1 .und), (l7.getD 2 .und), (l7.getD 3 .und)] h17) v82_15) v78_11) (
pld h8 (some 16) (fun v83_19 h20 =>
pst h20 16 (cellsV v83_19) (fun u21 h22 =>
VL (pcellV h22 (some 16) (l7.getD 2 .und)) fun r23 =>
Rt h22 r23) (l7.getD 2 .und)) (l7.getD 3 .und)) v74_10) [(.int .i64 0)] [x1, (.ptr 66 0), (.ptr 68 0), (.ptr 69 0)] h5) (.ptr 69 0)
theorem spec_l01Back_f {x0 x1 : V} : Prt Try.prog 108 [x0, x1] (spec_l01Back_F x0 x1) := pfun (fn := Try.f108) (m := [.s, .s, .s, .s, .l [6] [1, 2, 4, 5], .s, .s, .s, .s]) (c := 2 ≤ 20) rfl (fun h0 Rt => by kernel_rfl) (by decide)

def spec_l01Then_F (x0 x1 x2 : V) (hi : Hp) (Rt : Hp → V → Prop) : Prop :=
pbox hi 67 23 (cellsV x0) fun h0 =>
pbox h0 68 23 (cellsV x1) fun h1 =>
palloc h1 70 23 (vi .u8 (List.replicate 16 0)) fun h2 =>
VL (vbld (vfill (vi .u8 (List.replicate 16 0)) [])) fun v73_3 =>
palloc h2 71 23 (vi .u8 (List.replicate 16 0)) fun h4 =>
pst h4 16 (cellsV v73_3) (fun u5 h6 =>
LP [8] [2, 3, 4, 6, 7] (fun w7 l8 h9 N10 =>
VL (lift2 (abin .lss) (w7.getD 0 .und) (l8.getD 0 .und)) fun v76_11 =>
pcond (
VL (vixA 16 1 (l8.getD 1 .und) (w7.getD 0 .und)) fun v81_12 =>
pld h9 none (fun v82_13 h14 =>
VL (vixA 16 1 (l8.getD 2 .und) v82_13) fun v83_15 =>
pld h14 none (fun v84_16 h17 =>
VL (vixA 16 1 (l8.getD 4 .und) (w7.getD 0 .und)) fun v85_18 =>
pst h17 1 (cellsV v84_16) (fun u19 h20 =>
VL (lift2 (abin .add) (w7.getD 0 .und) (.int .i64 1)) fun v78_21 =>
N10 [v78_21] [(l8.getD 0 .und), (l8.getD 1 .und), (l8.getD 2 .und), (l8.getD 3 .und), (l8.getD 4 .und)] h20) v85_18) v83_15) v81_12) (
pld h9 (some 16) (fun v86_22 h23 =>
pst h23 16 (cellsV v86_22) (fun u24 h25 =>
VL (pcellV h25 (some 16) (l8.getD 3 .und)) fun r26 =>
Rt h25 r26) (l8.getD 3 .und)) (l8.getD 4 .und)) v76_11) [(.int .i64 0)] [x2, (.ptr 67 0), (.ptr 68 0), (.ptr 70 0), (.ptr 71 0)] h6) (.ptr 71 0)
theorem spec_l01Then_f {x0 x1 x2 : V} : Prt Try.prog 109 [x0, x1, x2] (spec_l01Then_F x0 x1 x2) := pfun (fn := Try.f109) (m := [.s, .s, .s, .s, .l [8] [2, 3, 4, 6, 7], .s, .s, .s, .s]) (c := 3 ≤ 23) rfl (fun h0 Rt => by kernel_rfl) (by decide)

def impl_back_F (x0 x1 : V) (hi : Hp) (Rt : Hp → V → Prop) : Prop :=
pbox hi 66 23 (cellsV x0) fun h0 =>
palloc h0 68 23 (vi .u8 (List.replicate 16 0)) fun h1 =>
VL (vbld (vfill (vi .u8 (List.replicate 16 0)) [])) fun v71_2 =>
palloc h1 69 23 (vi .u8 (List.replicate 16 0)) fun h3 =>
pst h3 16 (cellsV v71_2) (fun u4 h5 =>
LP [9] [2, 4, 5, 8] (fun w6 l7 h8 N9 =>
VL (lift2 (abin .lss) (w6.getD 0 .und) (l7.getD 3 .und)) fun v74_10 =>
pcond (
VL (vixA 16 1 (l7.getD 0 .und) (w6.getD 0 .und)) fun v77_11 =>
pld h8 none (fun v78_12 h13 =>
VL (lift1 (acvi .u8) (w6.getD 0 .und)) fun v80_14 =>
VL (vixA 16 1 (l7.getD 2 .und) v78_12) fun v81_15 =>
pst h13 1 (cellsV v80_14) (fun u16 h17 =>
VL (lift2 (abin .add) (w6.getD 0 .und) (.int .i64 1)) fun v82_18 =>
N9 [v82_18] [(l7.getD 0 .und), (l7.getD 1 .und), (l7.getD 2 .und), (l7.getD 3 .und)] h17) v81_15) v77_11) (
pld h8 (some 16) (fun v83_19 h20 =>
pst h20 16 (cellsV v83_19) (fun u21 h22 =>
VL (pcellV h22 (some 16) (l7.getD 1 .und)) fun r23 =>
Rt h22 r23) (l7.getD 1 .und)) (l7.getD 2 .und)) v74_10) [(.int .i64 0)] [(.ptr 66 0), (.ptr 68 0), (.ptr 69 0), x1] h5) (.ptr 69 0)
theorem impl_back_f {x0 x1 : V} : Prt Try.prog 110 [x0, x1] (impl_back_F x0 x1) := pfun (fn := Try.f110) (m := [.s, .s, .s, .s, .l [9] [2, 4, 5, 8], .s, .s, .s, .s, .s]) (c := 2 ≤ 20) rfl (fun h0 Rt => by kernel_rfl) (by decide)

def impl_then_F (x0 x1 x2 : V) (hi : Hp) (Rt : Hp → V → Prop) : Prop :=
pbox hi 67 23 (cellsV x0) fun h0 =>
pbox h0 68 23 (cellsV x1) fun h1 =>
palloc h1 70 23 (vi .u8 (List.replicate 16 0)) fun h2 =>
VL (vbld (vfill (vi .u8 (List.replicate 16 0)) [])) fun v73_3 =>
palloc h2 71 23 (vi .u8 (List.replicate 16 0)) fun h4 =>
pst h4 16 (cellsV v73_3) (fun u5 h6 =>
LP [11] [3, 4, 6, 7, 10] (fun w7 l8 h9 N10 =>
VL (lift2 (abin .lss) (w7.getD 0 .und) (l8.getD 4 .und)) fun v76_11 =>
pcond (
VL (vixA 16 1 (l8.getD 0 .und) (w7.getD 0 .und)) fun v80_12 =>
pld h9 none (fun v81_13 h14 =>
VL (vixA 16 1 (l8.getD 1 .und) v81_13) fun v82_15 =>
pld h14 none (fun v83_16 h17 =>
VL (vixA 16 1 (l8.getD 3 .und) (w7.getD 0 .und)) fun v84_18 =>
pst h17 1 (cellsV v83_16) (fun u19 h20 =>
VL (lift2 (abin .add) (w7.getD 0 .und) (.int .i64 1)) fun v85_21 =>
N10 [v85_21] [(l8.getD 0 .und), (l8.getD 1 .und), (l8.getD 2 .und), (l8.getD 3 .und), (l8.getD 4 .und)] h20) v84_18) v82_15) v80_12) (
pld h9 (some 16) (fun v86_22 h23 =>
pst h23 16 (cellsV v86_22) (fun u24 h25 =>
VL (pcellV h25 (some 16) (l8.getD 2 .und)) fun r26 =>
Rt h25 r26) (l8.getD 2 .und)) (l8.getD 3 .und)) v76_11) [(.int .i64 0)] [(.ptr 67 0), (.ptr 68 0), (.ptr 70 0), (.ptr 71 0), x2] h6) (.ptr 71 0)
theorem impl_then_f {x0 x1 x2 : V} : Prt Try.prog 111 [x0, x1, x2] (impl_then_F x0 x1 x2) := pfun (fn := Try.f111) (m := [.s, .s, .s, .s, .l [11] [3, 4, 6, 7, 10], .s, .s, .s, .s, .s]) (c := 3 ≤ 23) rfl (fun h0 Rt => by kernel_rfl) (by decide)

def spec_l08Reduce_F (x0 : V) (hi : Hp) (Rt : Hp → V → Prop) : Prop :=
pmks hi 70 5 0 0 (fun h0 =>
LP [3, 4] [0] (fun w1 l2 h3 N4 =>
VL (vlenT (l2.getD 0 .und)) fun v73_5 =>
VL (lift2 (abin .lss) (w1.getD 1 .und) v73_5) fun v74_6 =>
pcond (
JN (fun k7 =>
VL (vlenS (w1.getD 0 .und)) fun v78_10 =>
VL (lift2 (abin .gtr) v78_10 (.int .i64 0)) fun v80_11 =>
pgk true h3 (fun g12 k13 => k13 (w1.getD 0 .und) h3) (fun g14 v18_15 h16 =>
pgk true h16 (fun g17 k18 => k18 v78_10 h16) (fun g19 v19_20 h21 =>
pgk true h21 (fun g22 k23 => VL (lift2 (abin .sub) v19_20 (.int .i64 1)) fun v84_24 =>
k23 v84_24 h21) (fun g25 v20_26 h27 =>
pgk true h27 (fun g28 k29 => VL (vixS 1 v18_15 v20_26) fun v85_30 =>
k29 v85_30 h27) (fun g31 v21_32 h33 =>
pgk true h33 (fun g34 k35 => pld h33 none (fun v86_36 h37 =>
k35 v86_36 h37) v21_32) (fun g38 v22_39 h40 =>
pgk true h40 (fun g41 k42 => k42 (l2.getD 0 .und) h40) (fun g43 v23_44 h45 =>
pgk true h45 (fun g46 k47 => k47 (w1.getD 1 .und) h45) (fun g48 v24_49 h50 =>
pgk true h50 (fun g51 k52 => VL (vixT v23_44 v24_49) fun v89_53 =>
k52 v89_53 h50) (fun g54 v25_55 h56 =>
pgk true h56 (fun g57 k58 => pcalp Try.prog 127 90 h56 (fun v90_59 h60 =>
k58 v90_59 h60) [v25_55]) (fun g61 v26_62 h63 =>
pgk true h63 (fun g64 k65 => VL (lift2 (abin .eql) v22_39 v26_62) fun v91_66 =>
k65 v91_66 h63) (fun g67 v27_68 h69 =>
VL (vpick g67 v27_68 (.bool false)) fun v92_70 =>
pcond (
VL (lift2 (abin .sub) v78_10 (.int .i64 1)) fun v95_71 =>
VL (vslS 1 (w1.getD 0 .und) none (some v95_71)) fun v96_72 =>
k7 [(l2.getD 0 .und), v96_72, (w1.getD 1 .und)] h69) (
VL (vixT (l2.getD 0 .und) (w1.getD 1 .und)) fun v100_73 =>
pmks h69 101 5 1 1 (fun h74 =>
papp h74 (fun m77 s78 => papV 5 1 1 102 h74 (fun v102_75 h76 =>
k7 [(l2.getD 0 .und), v102_75, (w1.getD 1 .und)] h76) m77 s78 (w1.getD 0 .und)) (pavs h74 (w1.getD 0 .und) []) (preadS 1 h74 (.rf 101 0 1))) (vfill [(.int .u8 0)] [(0, 1, v100_73)])) v92_70) g61) g54) g48) g43) g38) g31) g25) g19) g14) v80_11) fun o8 h9 =>
VL (lift2 (abin .add) (o8.getD 2 .und) (.int .i64 1)) fun v76_79 =>
N4 [(o8.getD 1 .und), v76_79] [(o8.getD 0 .und)] h9) (
VL (vb2s h3 (w1.getD 0 .und)) fun v104_80 =>
Rt h3 v104_80) v74_6) [(.rf 70 0 0), (.int .i64 0)] [x0] h0) (vfill [] [])
theorem spec_l08Reduce_f {x0 : V} : Prt Try.prog 112 [x0] (spec_l08Reduce_F x0) := pfun (fn := Try.f112) (m := [.s, .s, .s, .s, .l [3, 4] [0], .s, .s, .j [0, 3, 4], .s, .s, .s]) (c := 1 ≤ 41) rfl (fun h0 Rt => by kernel_rfl) (by decide)

def spec_l08Inverse_F (x0 : V) (hi : Hp) (Rt : Hp → V → Prop) : Prop :=
pmks hi 69 5 0 0 (fun h0 =>
VL (vlenT x0) fun v71_1 =>
VL (lift2 (abin .sub) v71_1 (.int .i64 1)) fun v72_2 =>
LP [3, 4] [0] (fun w3 l4 h5 N6 =>
VL (lift2 (abin .geq) (w3.getD 1 .und) (.int .i64 0)) fun v74_7 =>
pcond (
VL (vixT (l4.getD 0 .und) (w3.getD 1 .und)) fun v80_8 =>
pcal Try.prog 127 81 h5 (fun v81_9 h10 =>
pmks h10 82 5 1 1 (fun h11 =>
papp h11 (fun m14 s15 => papV 5 1 1 83 h11 (fun v83_12 h13 =>
VL (lift2 (abin .sub) (w3.getD 1 .und) (.int .i64 1)) fun v76_16 =>
N6 [v83_12, v76_16] [(l4.getD 0 .und)] h13) m14 s15 (w3.getD 0 .und)) (pavs h11 (w3.getD 0 .und) []) (preadS 1 h11 (.rf 82 0 1))) (vfill [(.int .u8 0)] [(0, 1, v81_9)])) [v80_8]) (
VL (vb2s h5 (w3.getD 0 .und)) fun v85_17 =>
Rt h5 v85_17) v74_7) [(.rf 69 0 0), v72_2] [x0] h0) (vfill [] [])
theorem spec_l08Inverse_f {x0 : V} : Prt Try.prog 113 [x0] (spec_l08Inverse_F x0) := pfun (fn := Try.f113) (m := [.s, .s, .s, .s, .l [3, 4] [0], .s, .s, .s, .s]) (c := 1 ≤ 22) rfl (fun h0 Rt => by kernel_rfl) (by decide)

def impl_inverseLetter_F (x0 : V) (hi : Hp) (Rt : Hp → V → Prop) : Prop :=
VL (lift2 (abin .xor) x0 (.int .u8 32)) fun v68_0 =>
Rt hi v68_0
theorem impl_inverseLetter_f {x0 : V} : Prt Try.prog 114 [x0] (impl_inverseLetter_F x0) := pfun (fn := Try.f114) (m := [.s, .s]) (c := 1 ≤ 5) rfl (fun h0 Rt => by kernel_rfl) (by decide)

def spec_l01Which_F (x0 x1 : V) (hi : Hp) (Rt : Hp → V → Prop) : Prop :=
pbox hi 66 23 (cellsV x0) fun h0 =>
palloc h0 68 116 (vi .i64 (List.replicate 16 0)) fun h1 =>
VL (vbld (vfill (vi .i64 (List.replicate 16 0)) [])) fun v73_2 =>
pld h1 (some 16) (fun v74_3 h4 =>
pcal Try.prog 81 76 h4 (fun v76_5 h6 =>
palloc h6 69 116 (vi .i64 (List.replicate 16 0)) fun h7 =>
pst h7 16 (cellsV v73_2) (fun u8 h9 =>
LP [7] [4, 5, 6] (fun w10 l11 h12 N13 =>
VL (vlenS (l11.getD 2 .und)) fun v79_14 =>
VL (lift2 (abin .lss) (w10.getD 0 .und) v79_14) fun v80_15 =>
pcond (
LP [8] [4, 5, 6, 7] (fun w16 l17 h18 N19 =>
VL (vixS 1 (l17.getD 2 .und) (l17.getD 3 .und)) fun v86_20 =>
pld h18 none (fun v87_21 h22 =>
VL (vlenS v87_21) fun v88_23 =>
VL (lift2 (abin .lss) (w16.getD 0 .und) v88_23) fun v89_24 =>
pcond (
VL (vixS 1 (l17.getD 2 .und) (l17.getD 3 .und)) fun v94_25 =>
pld h22 none (fun v95_26 h27 =>
VL (vixS 1 v95_26 (w16.getD 0 .und)) fun v97_28 =>
pld h27 none (fun v98_29 h30 =>
VL (vixA 16 1 (l17.getD 1 .und) v98_29) fun v100_31 =>
pst h30 1 (cellsV (l17.getD 3 .und)) (fun u32 h33 =>
VL (lift2 (abin .add) (w16.getD 0 .und) (.int .i64 1)) fun v91_34 =>
N19 [v91_34] [(l17.getD 0 .und), (l17.getD 1 .und), (l17.getD 2 .und), (l17.getD 3 .und)] h33) v100_31) v97_28) v94_25) (
VL (lift2 (abin .add) (l17.getD 3 .und) (.int .i64 1)) fun v82_35 =>
N13 [v82_35] [(l17.getD 0 .und), (l17.getD 1 .und), (l17.getD 2 .und)] h22) v89_24) v86_20) [(.int .i64 0)] [(l11.getD 0 .und), (l11.getD 1 .und), (l11.getD 2 .und), (w10.getD 0 .und)] h12) (
pld h12 (some 16) (fun v101_36 h37 =>
pst h37 16 (cellsV v101_36) (fun u38 h39 =>
VL (pcellV h39 (some 16) (l11.getD 0 .und)) fun r40 =>
Rt h39 r40) (l11.getD 0 .und)) (l11.getD 1 .und)) v80_15) [(.int .i64 0)] [(.ptr 68 0), (.ptr 69 0), v76_5] h9) (.ptr 69 0)) [v74_3, x1]) (.ptr 66 0)
theorem spec_l01Which_f {x0 x1 : V} : Prt Try.prog 115 [x0, x1] (spec_l01Which_F x0 x1) := pfun (fn := Try.f115) (m := [.s, .s, .s, .s, .l [7] [4, 5, 6], .s, .s, .s, .s, .l [8] [4, 5, 6, 7], .s, .s, .s, .s]) (c := 2 ≤ 38) rfl (fun h0 Rt => by kernel_rfl) (by decide)

def spec_l09Alone_F (x0 : V) (hi : Hp) (Rt : Hp → V → Prop) : Prop :=
pmks hi 69 2 0 0 (fun h0 =>
LP [3, 4] [0] (fun w1 l2 h3 N4 =>
VL (lift2 (abin .lss) (w1.getD 1 .und) (l2.getD 0 .und)) fun v72_5 =>
pcond (
pmks h3 77 2 1 1 (fun h6 =>
papp h6 (fun m9 s10 => papV 2 1 8 78 h6 (fun v78_7 h8 =>
VL (lift2 (abin .add) (w1.getD 1 .und) (.int .i64 1)) fun v74_11 =>
N4 [v78_7, v74_11] [(l2.getD 0 .und)] h8) m9 s10 (w1.getD 0 .und)) (pavs h6 (w1.getD 0 .und) []) (preadS 1 h6 (.rf 77 0 1))) (vfill [(.int .i64 0)] [(0, 1, (w1.getD 1 .und))])) (
Rt h3 (w1.getD 0 .und)) v72_5) [(.rf 69 0 0), (.int .i64 0)] [x0] h0) (vfill [] [])
theorem spec_l09Alone_f {x0 : V} : Prt Try.prog 116 [x0] (spec_l09Alone_F x0) := pfun (fn := Try.f116) (m := [.s, .s, .s, .s, .l [3, 4] [0], .s, .s, .s, .s]) (c := 1 ≤ 16) rfl (fun h0 Rt => by kernel_rfl) (by decide)

def spec_l09Join_F (x0 x1 x2 : V) (hi : Hp) (Rt : Hp → V → Prop) : Prop :=
VL (vixS 1 x0 x2) fun v76_0 =>
pld hi none (fun v77_1 h2 =>
VL (vixS 1 x0 x1) fun v80_3 =>
pld h2 none (fun v81_4 h5 =>
VL (lift2 (abin .eql) v77_1 v81_4) fun v84_6 =>
pcond (
Rt h5 (.bool false)) (
LP [9] [0, 7, 8] (fun w7 l8 h9 N10 =>
VL (vlenS (l8.getD 0 .und)) fun v87_11 =>
VL (lift2 (abin .lss) (w7.getD 0 .und) v87_11) fun v88_12 =>
pcond (
JN (fun k13 =>
VL (vixS 1 (l8.getD 0 .und) (w7.getD 0 .und)) fun v93_16 =>
pld h9 none (fun v94_17 h18 =>
VL (lift2 (abin .eql) v94_17 (l8.getD 1 .und)) fun v96_19 =>
pcond (
VL (vixS 1 (l8.getD 0 .und) (w7.getD 0 .und)) fun v100_20 =>
pst h18 1 (cellsV (l8.getD 2 .und)) (fun u21 h22 =>
k13 [(l8.getD 0 .und), (l8.getD 1 .und), (l8.getD 2 .und), (w7.getD 0 .und)] h22) v100_20) (
k13 [(l8.getD 0 .und), (l8.getD 1 .und), (l8.getD 2 .und), (w7.getD 0 .und)] h18) v96_19) v93_16) fun o14 h15 =>
VL (lift2 (abin .add) (o14.getD 3 .und) (.int .i64 1)) fun v90_23 =>
N10 [v90_23] [(o14.getD 0 .und), (o14.getD 1 .und), (o14.getD 2 .und)] h15) (
Rt h9 (.bool true)) v88_12) [(.int .i64 0)] [x0, v77_1, v81_4] h5) v84_6) v80_3) v76_0
theorem spec_l09Join_f {x0 x1 x2 : V} : Prt Try.prog 117 [x0, x1, x2] (spec_l09Join_F x0 x1 x2) := pfun (fn := Try.f117) (m := [.s, .s, .s, .s, .s, .s, .s, .l [9] [0, 7, 8], .s, .s, .j [0, 7, 8, 9], .s, .s]) (c := 3 ≤ 37) rfl (fun h0 Rt => by kernel_rfl) (by decide)

def impl_newClasses_F (x0 : V) (hi : Hp) (Rt : Hp → V → Prop) : Prop :=
pmks hi 69 2 0 0 (fun h0 =>
LP [3, 7] [6] (fun w1 l2 h3 N4 =>
VL (lift2 (abin .lss) (w1.getD 1 .und) (l2.getD 0 .und)) fun v72_5 =>
pcond (
pmks h3 76 2 1 1 (fun h6 =>
papp h6 (fun m9 s10 => papV 2 1 8 77 h6 (fun v77_7 h8 =>
VL (lift2 (abin .add) (w1.getD 1 .und) (.int .i64 1)) fun v78_11 =>
N4 [v77_7, v78_11] [(l2.getD 0 .und)] h8) m9 s10 (w1.getD 0 .und)) (pavs h6 (w1.getD 0 .und) []) (preadS 1 h6 (.rf 76 0 1))) (vfill [(.int .i64 0)] [(0, 1, (w1.getD 1 .und))])) (
Rt h3 (w1.getD 0 .und)) v72_5) [(.rf 69 0 0), (.int .i64 0)] [x0] h0) (vfill [] [])
theorem impl_newClasses_f {x0 : V} : Prt Try.prog 118 [x0] (impl_newClasses_F x0) := pfun (fn := Try.f118) (m := [.s, .s, .s, .s, .l [3, 7] [6], .s, .s, .s, .s, .s]) (c := 1 ≤ 16) rfl (fun h0 Rt => by kernel_rfl) (by decide)

def impl_classes_join_F (x0 x1 x2 : V) (hi : Hp) (Rt : Hp → V → Prop) : Prop :=
VL (vixS 1 x0 x1) fun v77_0 =>
pld hi none (fun v78_1 h2 =>
VL (vixS 1 x0 x2) fun v81_3 =>
pld h2 none (fun v82_4 h5 =>
VL (lift2 amin v78_1 v82_4) fun v83_6 =>
VL (vixS 1 x0 x1) fun v86_7 =>
pld h5 none (fun v87_8 h9 =>
VL (vixS 1 x0 x2) fun v90_10 =>
pld h9 none (fun v91_11 h12 =>
VL (lift2 amax v87_8 v91_11) fun v92_13 =>
VL (vlenS x0) fun v94_14 =>
LP [31] [0, 7, 8, 29, 30] (fun w15 l16 h17 N18 =>
VL (lift2 (abin .lss) (w15.getD 0 .und) (l16.getD 4 .und)) fun v96_19 =>
pcond (
JN (fun k20 =>
VL (vixS 1 (l16.getD 3 .und) (w15.getD 0 .und)) fun v98_23 =>
pld h17 none (fun v99_24 h25 =>
VL (lift2 (abin .eql) v99_24 (l16.getD 2 .und)) fun v102_26 =>
pcond (
VL (vixS 1 (l16.getD 0 .und) (w15.getD 0 .und)) fun v106_27 =>
pst h25 1 (cellsV (l16.getD 1 .und)) (fun u28 h29 =>
k20 [(l16.getD 0 .und), (l16.getD 1 .und), (l16.getD 2 .und), (l16.getD 3 .und), (l16.getD 4 .und), (w15.getD 0 .und)] h29) v106_27) (
k20 [(l16.getD 0 .und), (l16.getD 1 .und), (l16.getD 2 .und), (l16.getD 3 .und), (l16.getD 4 .und), (w15.getD 0 .und)] h25) v102_26) v98_23) fun o21 h22 =>
VL (lift2 (abin .add) (o21.getD 5 .und) (.int .i64 1)) fun v107_30 =>
N18 [v107_30] [(o21.getD 0 .und), (o21.getD 1 .und), (o21.getD 2 .und), (o21.getD 3 .und), (o21.getD 4 .und)] h22) (
VL (lift2 (abin .neq) (l16.getD 1 .und) (l16.getD 2 .und)) fun v110_31 =>
Rt h17 v110_31) v96_19) [(.int .i64 0)] [x0, v83_6, v92_13, x0, v94_14] h12) v90_10) v86_7) v81_3) v77_0
theorem impl_classes_join_f {x0 x1 x2 : V} : Prt Try.prog 119 [x0, x1, x2] (impl_classes_join_F x0 x1 x2) := pfun (fn := Try.f119) (m := [.s, .s, .s, .s, .l [31] [0, 7, 8, 29, 30], .s, .s, .j [0, 7, 8, 29, 30, 31], .s, .s, .s]) (c := 3 ≤ 47) rfl (fun h0 Rt => by kernel_rfl) (by decide)

def impl_sumsAt_F (x0 x1 x2 : V) (hi : Hp) (Rt : Hp → V → Prop) : Prop :=
pmks hi 77 2 0 0 (fun h0 =>
VL (vlenS x0) fun v79_1 =>
LP [7, 16] [1, 2, 14, 15] (fun w2 l3 h4 N5 =>
VL (lift2 (abin .lss) (w2.getD 1 .und) (l3.getD 3 .und)) fun v81_6 =>
pcond (
VL (vixS 1 (l3.getD 2 .und) (w2.getD 1 .und)) fun v82_7 =>
pld h4 none (fun v83_8 h9 =>
VL (vlenS v83_8) fun v85_10 =>
LP [10, 22] [1, 2, 7, 14, 15, 16, 20, 21] (fun w11 l12 h13 N14 =>
VL (lift2 (abin .lss) (w11.getD 1 .und) (l12.getD 7 .und)) fun v87_15 =>
pcond (
VL (vixS 1 (l12.getD 6 .und) (w11.getD 1 .und)) fun v88_16 =>
pld h13 none (fun v89_17 h18 =>
pcallv Try.prog [v89_17] 93 h18 (fun v93_19 h20 =>
VL (lift2 (abin .add) (w11.getD 0 .und) v93_19) fun v94_21 =>
VL (lift2 (abin .add) (w11.getD 1 .und) (.int .i64 1)) fun v95_22 =>
N14 [v94_21, v95_22] [(l12.getD 0 .und), (l12.getD 1 .und), (l12.getD 2 .und), (l12.getD 3 .und), (l12.getD 4 .und), (l12.getD 5 .und), (l12.getD 6 .und), (l12.getD 7 .und)] h20) (l12.getD 1 .und)) v88_16) (
VL (lift2 (abin .rem) (w11.getD 0 .und) (l12.getD 0 .und)) fun v99_23 =>
pmks h13 100 2 1 1 (fun h24 =>
papp h24 (fun m27 s28 => papV 2 1 8 101 h24 (fun v101_25 h26 =>
VL (lift2 (abin .add) (l12.getD 5 .und) (.int .i64 1)) fun v102_29 =>
N5 [v101_25, v102_29] [(l12.getD 0 .und), (l12.getD 1 .und), (l12.getD 3 .und), (l12.getD 4 .und)] h26) m27 s28 (l12.getD 2 .und)) (pavs h24 (l12.getD 2 .und) []) (preadS 1 h24 (.rf 100 0 1))) (vfill [(.int .i64 0)] [(0, 1, v99_23)])) v87_15) [(.int .i64 0), (.int .i64 0)] [(l3.getD 0 .und), (l3.getD 1 .und), (w2.getD 0 .und), (l3.getD 2 .und), (l3.getD 3 .und), (w2.getD 1 .und), v83_8, v85_10] h9) v82_7) (
Rt h4 (w2.getD 0 .und)) v81_6) [(.rf 77 0 0), (.int .i64 0)] [x1, x2, x0, v79_1] h0) (vfill [] [])
theorem impl_sumsAt_f {x0 x1 x2 : V} : Prt Try.prog 120 [x0, x1, x2] (impl_sumsAt_F x0 x1 x2) := pfun (fn := Try.f120) (m := [.s, .s, .s, .s, .l [7, 16] [1, 2, 14, 15], .s, .s, .s, .s, .s, .s, .s, .l [10, 22] [1, 2, 7, 14, 15, 16, 20, 21], .s, .s, .s, .s, .s]) (c := 3 ≤ 40) rfl (fun h0 Rt => by kernel_rfl) (by decide)

def impl_sumsOfVoltages_1_F (x0 x1 : V) (hi : Hp) (Rt : Hp → V → Prop) : Prop :=
pld hi none (fun v68_0 h1 =>
VL (vixS 1 v68_0 x0) fun v70_2 =>
pld h1 none (fun v71_3 h4 =>
Rt h4 v71_3) v70_2) x1
theorem impl_sumsOfVoltages_1_f {x0 x1 : V} : Prt Try.prog 121 [x0, x1] (impl_sumsOfVoltages_1_F x0 x1) := pfun (fn := Try.f121) (m := [.s, .s]) (c := 2 ≤ 8) rfl (fun h0 Rt => by kernel_rfl) (by decide)

def impl_sumsOfVoltages_2_F (x0 x1 : V) (hi : Hp) (Rt : Hp → V → Prop) : Prop :=
pld hi none (fun v68_0 h1 =>
VL (vixS 1 v68_0 x0) fun v70_2 =>
pld h1 none (fun v71_3 h4 =>
Rt h4 v71_3) v70_2) x1
theorem impl_sumsOfVoltages_2_f {x0 x1 : V} : Prt Try.prog 122 [x0, x1] (impl_sumsOfVoltages_2_F x0 x1) := pfun (fn := Try.f122) (m := [.s, .s]) (c := 2 ≤ 8) rfl (fun h0 Rt => by kernel_rfl) (by decide)

def impl_sumsOfVoltages_3_F (x0 x1 x2 x3 : V) (hi : Hp) (Rt : Hp → V → Prop) : Prop :=
pld hi none (fun v70_0 h1 =>
VL (vixS 1 v70_0 x0) fun v72_2 =>
pld h1 none (fun v73_3 h4 =>
pld h4 none (fun v74_5 h6 =>
VL (vfa 1 x3) fun v76_7 =>
VL (vixA 16 1 v76_7 x0) fun v77_8 =>
pld h6 none (fun v78_9 h10 =>
VL (vixS 1 v74_5 v78_9) fun v79_11 =>
pld h10 none (fun v80_12 h13 =>
VL (lift2 (abin .add) v73_3 v80_12) fun v81_14 =>
Rt h13 v81_14) v79_11) v77_8) x2) v72_2) x1
theorem impl_sumsOfVoltages_3_f {x0 x1 x2 x3 : V} : Prt Try.prog 123 [x0, x1, x2, x3] (impl_sumsOfVoltages_3_F x0 x1 x2 x3) := pfun (fn := Try.f123) (m := [.s, .s]) (c := 4 ≤ 18) rfl (fun h0 Rt => by kernel_rfl) (by decide)

def spec_l01Star_F (x0 : V) (hi : Hp) (Rt : Hp → V → Prop) : Prop :=
palloc hi 66 25 ([(.int .i64 0)] ++ (vi .u8 (List.replicate 32 0))) fun h0 =>
pcal Try.prog 128 69 h0 (fun v69_1 h2 =>
pcal Try.prog 129 71 h2 (fun v71_3 h4 =>
VL (vbld (vfill ([(.int .i64 0)] ++ (vi .u8 (List.replicate 32 0))) [(0, 1, x0), (1, 16, v69_1), (17, 16, v71_3)])) fun v72_5 =>
pst h4 33 (cellsV v72_5) (fun u6 h7 =>
VL (pcellV h7 (some 33) (.ptr 66 0)) fun r8 =>
Rt h7 r8) (.ptr 66 0)) [x0]) [x0]
theorem spec_l01Star_f {x0 : V} : Prt Try.prog 124 [x0] (spec_l01Star_F x0) := pfun (fn := Try.f124) (m := [.s, .s]) (c := 1 ≤ 9) rfl (fun h0 Rt => by kernel_rfl) (by decide)

def impl_isSize_F (x0 : V) (hi : Hp) (Rt : Hp → V → Prop) : Prop :=
VL (lift2 (abin .geq) x0 (.int .i64 1)) fun v68_0 =>
pgk true hi (fun g1 k2 => k2 x0 hi) (fun g3 v6_4 h5 =>
pgk true h5 (fun g6 k7 => VL (lift2 (abin .leq) v6_4 (.int .i64 16)) fun v71_8 =>
k7 v71_8 h5) (fun g9 v7_10 h11 =>
VL (vpick g9 v7_10 (.bool false)) fun v72_12 =>
Rt h11 v72_12) g3) v68_0
theorem impl_isSize_f {x0 : V} : Prt Try.prog 125 [x0] (impl_isSize_F x0) := pfun (fn := Try.f125) (m := [.s, .s]) (c := 1 ≤ 9) rfl (fun h0 Rt => by kernel_rfl) (by decide)

def slices_Clone_int64_int64_F (x0 : V) (hi : Hp) (Rt : Hp → V → Prop) : Prop :=
VL (vnilS false x0) fun v68_0 =>
pcond (
Rt hi .nils) (
pmks hi 69 26 0 0 (fun h1 =>
papp h1 (fun m4 s5 => papV 26 1 24 71 h1 (fun v71_2 h3 =>
Rt h3 v71_2) m4 s5 (.rf 69 0 0)) (pavs h1 (.rf 69 0 0) []) (preadS 1 h1 x0)) (vfill [] [])) v68_0
theorem slices_Clone_int64_int64_f {x0 : V} : Prt Try.prog 126 [x0] (slices_Clone_int64_int64_F x0) := pfun (fn := Try.f126) (m := [.s, .s, .s, .s, .s]) (c := 1 ≤ 8) rfl (fun h0 Rt => by kernel_rfl) (by decide)

def spec_l08Other_F (x0 : V) (hi : Hp) (Rt : Hp → V → Prop) : Prop :=
VL (lift2 (abin .eql) x0 (.int .u8 120)) fun v69_0 =>
pcond (
Rt hi (.int .u8 88)) (
VL (lift2 (abin .eql) x0 (.int .u8 88)) fun v71_1 =>
pcond (
Rt hi (.int .u8 120)) (
VL (lift2 (abin .eql) x0 (.int .u8 121)) fun v73_2 =>
pcond (
Rt hi (.int .u8 89)) (
Rt hi (.int .u8 121)) v73_2) v71_1) v69_0
theorem spec_l08Other_f {x0 : V} : Prt Try.prog 127 [x0] (spec_l08Other_F x0) := pfun (fn := Try.f127) (m := [.s, .s, .s, .s, .s, .s, .s, .s, .s, .s]) (c := 1 ≤ 10) rfl (fun h0 Rt => by kernel_rfl) (by decide)

def spec_l01Turn_F (x0 : V) (hi : Hp) (Rt : Hp → V → Prop) : Prop :=
palloc hi 66 23 (vi .u8 (List.replicate 16 0)) fun h0 =>
VL (vbld (vfill (vi .u8 (List.replicate 16 0)) [])) fun v69_1 =>
palloc h0 67 23 (vi .u8 (List.replicate 16 0)) fun h2 =>
pst h2 16 (cellsV v69_1) (fun u3 h4 =>
LP [4] [0, 2, 3] (fun w5 l6 h7 N8 =>
VL (lift2 (abin .lss) (w5.getD 0 .und) (l6.getD 0 .und)) fun v72_9 =>
pcond (
VL (lift2 (abin .add) (w5.getD 0 .und) (.int .i64 1)) fun v77_10 =>
VL (lift2 (abin .rem) v77_10 (l6.getD 0 .und)) fun v79_11 =>
VL (lift1 (acvi .u8) v79_11) fun v80_12 =>
VL (vixA 16 1 (l6.getD 2 .und) (w5.getD 0 .und)) fun v81_13 =>
pst h7 1 (cellsV v80_12) (fun u14 h15 =>
VL (lift2 (abin .add) (w5.getD 0 .und) (.int .i64 1)) fun v74_16 =>
N8 [v74_16] [(l6.getD 0 .und), (l6.getD 1 .und), (l6.getD 2 .und)] h15) v81_13) (
pld h7 (some 16) (fun v82_17 h18 =>
pst h18 16 (cellsV v82_17) (fun u19 h20 =>
VL (pcellV h20 (some 16) (l6.getD 1 .und)) fun r21 =>
Rt h20 r21) (l6.getD 1 .und)) (l6.getD 2 .und)) v72_9) [(.int .i64 0)] [x0, (.ptr 66 0), (.ptr 67 0)] h4) (.ptr 67 0)
theorem spec_l01Turn_f {x0 : V} : Prt Try.prog 128 [x0] (spec_l01Turn_F x0) := pfun (fn := Try.f128) (m := [.s, .s, .s, .s, .l [4] [0, 2, 3], .s, .s, .s, .s]) (c := 1 ≤ 19) rfl (fun h0 Rt => by kernel_rfl) (by decide)

def spec_l01Same_F (x0 : V) (hi : Hp) (Rt : Hp → V → Prop) : Prop :=
palloc hi 66 23 (vi .u8 (List.replicate 16 0)) fun h0 =>
VL (vbld (vfill (vi .u8 (List.replicate 16 0)) [])) fun v69_1 =>
palloc h0 67 23 (vi .u8 (List.replicate 16 0)) fun h2 =>
pst h2 16 (cellsV v69_1) (fun u3 h4 =>
LP [4] [0, 2, 3] (fun w5 l6 h7 N8 =>
VL (lift2 (abin .lss) (w5.getD 0 .und) (l6.getD 0 .und)) fun v72_9 =>
pcond (
VL (lift1 (acvi .u8) (w5.getD 0 .und)) fun v77_10 =>
VL (vixA 16 1 (l6.getD 2 .und) (w5.getD 0 .und)) fun v78_11 =>
pst h7 1 (cellsV v77_10) (fun u12 h13 =>
VL (lift2 (abin .add) (w5.getD 0 .und) (.int .i64 1)) fun v74_14 =>
N8 [v74_14] [(l6.getD 0 .und), (l6.getD 1 .und), (l6.getD 2 .und)] h13) v78_11) (
pld h7 (some 16) (fun v79_15 h16 =>
pst h16 16 (cellsV v79_15) (fun u17 h18 =>
VL (pcellV h18 (some 16) (l6.getD 1 .und)) fun r19 =>
Rt h18 r19) (l6.getD 1 .und)) (l6.getD 2 .und)) v72_9) [(.int .i64 0)] [x0, (.ptr 66 0), (.ptr 67 0)] h4) (.ptr 67 0)
theorem spec_l01Same_f {x0 : V} : Prt Try.prog 129 [x0] (spec_l01Same_F x0) := pfun (fn := Try.f129) (m := [.s, .s, .s, .s, .l [4] [0, 2, 3], .s, .s, .s, .s]) (c := 1 ≤ 16) rfl (fun h0 Rt => by kernel_rfl) (by decide)

end Go.Proofs.Yteiiohmcamoldaa.Sep
