/- The printed forms of functions, by program out of the compiled code; each is held against it by the kernel. -/
import Derived.Test.YtapmgkemnedakaaSepZ
import Derived.Test.YtapmgkemnedakaaProg
import Derived.KernelRfl
namespace Go.Proofs.Ytapmgkemnedakaa.Sep
set_option maxRecDepth 1000000
set_option linter.unusedVariables false

def laws_FnExactTriangleRelations_F (x0 x1 x2 : V) (hi : Hp) (Rt : Hp → V → Prop) : Prop :=
pcal Try.prog 4 83 hi (fun v83_0 h1 =>
VL (vext 0 v83_0) fun v84_2 =>
VL (vext 1 v83_0) fun v85_3 =>
pcal Try.prog 5 90 h1 (fun v90_4 h5 =>
VL (vext 0 v90_4) fun v91_6 =>
VL (vext 1 v90_4) fun v92_7 =>
pcal Try.prog 6 95 h5 (fun v95_8 h9 =>
VL (lift1 (aun .not) v95_8) fun v96_10 =>
pgk false h9 (fun g11 k12 => k12 v92_7 h9) (fun g13 v34_14 h15 =>
pgk false h15 (fun g16 k17 => k17 v85_3 h15) (fun g18 v35_19 h20 =>
pgk false h20 (fun g21 k22 => VL (lift2 (abin .neq) v34_14 v35_19) fun v100_23 =>
k22 v100_23 h20) (fun g24 v36_25 h26 =>
VL (vpick g24 (.bool true) v36_25) fun v101_27 =>
pcond (
Rt h26 (.bool false)) (
pcal Try.prog 7 104 h26 (fun v104_28 h29 =>
pcal Try.prog 8 107 h29 (fun v107_30 h31 =>
VL (lift2 (abin .lss) v107_30 (.int .i64 0)) fun v109_32 =>
pcond (
Rt h31 (.bool false)) (
VL (lift2 (abin .neq) v107_30 v104_28) fun v112_33 =>
pcond (
Rt h31 (.bool false)) (
pcal Try.prog 5 117 h31 (fun v117_34 h35 =>
VL (vext 0 v117_34) fun v118_36 =>
VL (vext 1 v117_34) fun v119_37 =>
pcal Try.prog 6 122 h35 (fun v122_38 h39 =>
VL (lift1 (aun .not) v122_38) fun v123_40 =>
pgk false h39 (fun g41 k42 => k42 v119_37 h39) (fun g43 v61_44 h45 =>
pgk false h45 (fun g46 k47 => k47 v85_3 h45) (fun g48 v62_49 h50 =>
pgk false h50 (fun g51 k52 => VL (lift2 (abin .neq) v61_44 v62_49) fun v127_53 =>
k52 v127_53 h50) (fun g54 v63_55 h56 =>
VL (vpick g54 (.bool true) v63_55) fun v128_57 =>
pcond (
Rt h56 (.bool false)) (
pcal Try.prog 8 131 h56 (fun v131_58 h59 =>
VL (lift2 (abin .lss) v131_58 (.int .i64 0)) fun v133_60 =>
pcond (
Rt h59 (.bool false)) (
VL (lift2 (abin .neq) v131_58 v104_28) fun v136_61 =>
pcond (
Rt h59 (.bool false)) (
Rt h59 (.bool true)) v136_61) v133_60) [v91_6, (.int .i64 1)]) v128_57) g48) g43) v123_40) [v118_36, v84_2]) [x0, x1, x2]) v112_33) v109_32) [v91_6, (.int .i64 1)]) [v91_6, (.int .i64 1)]) v101_27) g18) g13) v96_10) [v91_6, v84_2]) [x0, x1, x2]) [x0, x1, x2]
theorem laws_FnExactTriangleRelations_f {x0 x1 x2 : V} : Prt Try.prog 3 [x0, x1, x2] (laws_FnExactTriangleRelations_F x0 x1 x2) := pfun (fn := Try.f3) (m := [.s, .s, .s, .s, .s, .s, .s, .s, .s, .s, .s, .s, .s, .s, .s, .s, .s, .s, .s, .s, .s, .s, .s, .s, .s, .s, .s, .s, .s]) (c := 3 ≤ 73) rfl (fun h0 Rt => by kernel_rfl) (by decide)

def spec_TriangleRelations_F (x0 x1 x2 : V) (hi : Hp) (Rt : Hp → V → Prop) : Prop :=
pmks hi 79 2 3 3 (fun h0 =>
pmks h0 80 9 3 3 (fun h1 =>
pmks h1 81 9 0 0 (fun h2 =>
LP [10, 11] [8, 9] (fun w3 l4 h5 N6 =>
VL (lift2 (abin .lss) (w3.getD 1 .und) (.int .i64 3)) fun v83_7 =>
pcond (
JN (fun k8 =>
VL (vixS 1 (l4.getD 0 .und) (w3.getD 1 .und)) fun v88_11 =>
pld h5 none (fun v89_12 h13 =>
VL (lift2 (abin .neq) v89_12 (.int .i64 0)) fun v90_14 =>
pgk true h13 (fun g15 k16 => k16 (l4.getD 0 .und) h13) (fun g17 v28_18 h19 =>
pgk true h19 (fun g20 k21 => k21 (w3.getD 1 .und) h19) (fun g22 v29_23 h24 =>
pgk true h24 (fun g25 k26 => VL (vixS 1 v28_18 v29_23) fun v94_27 =>
k26 v94_27 h24) (fun g28 v30_29 h30 =>
pgk true h30 (fun g31 k32 => pld h30 none (fun v95_33 h34 =>
k32 v95_33 h34) v30_29) (fun g35 v31_36 h37 =>
pgk true h37 (fun g38 k39 => pcal Try.prog 9 96 h37 (fun v96_40 h41 =>
k39 v96_40 h41) [v31_36, (.int .i64 2), (.int .i64 30)]) (fun g42 v32_43 h44 =>
pgk true h44 (fun g45 k46 => VL (lift1 (aun .not) v32_43) fun v97_47 =>
k46 v97_47 h44) (fun g48 v33_49 h50 =>
VL (vpick g48 v33_49 (.bool false)) fun v98_51 =>
pcond (
Rt h50 (.tup [.nils, (.int .i64 2)])) (
VL (vixS 1 (l4.getD 0 .und) (w3.getD 1 .und)) fun v101_52 =>
pld h50 none (fun v102_53 h54 =>
VL (lift2 (abin .gtr) v102_53 (.int .i64 0)) fun v103_55 =>
pcond (
VL (vixS 1 (l4.getD 1 .und) (w3.getD 1 .und)) fun v107_56 =>
pld h54 none (fun v108_57 h58 =>
VL (vixS 1 (l4.getD 0 .und) (w3.getD 1 .und)) fun v111_59 =>
pld h58 none (fun v112_60 h61 =>
pcal Try.prog 10 113 h61 (fun v113_62 h63 =>
pmks h63 114 9 1 1 (fun h64 =>
papp h64 (fun m67 s68 => papV 9 1 16 115 h64 (fun v115_65 h66 =>
k8 [(l4.getD 0 .und), (l4.getD 1 .und), v115_65, (w3.getD 1 .und)] h66) m67 s68 (w3.getD 0 .und)) (pavs h64 (w3.getD 0 .und) []) (preadS 1 h64 (.rf 114 0 1))) (vfill [(.str [])] [(0, 1, v113_62)])) [v108_57, v112_60]) v111_59) v107_56) (
k8 [(l4.getD 0 .und), (l4.getD 1 .und), (w3.getD 0 .und), (w3.getD 1 .und)] h54) v103_55) v101_52) v98_51) g42) g35) g28) g22) g17) v90_14) v88_11) fun o9 h10 =>
VL (lift2 (abin .add) (o9.getD 3 .und) (.int .i64 1)) fun v85_69 =>
N6 [(o9.getD 2 .und), v85_69] [(o9.getD 0 .und), (o9.getD 1 .und)] h10) (
Rt h5 (.tup [(w3.getD 0 .und), (.int .i64 0)])) v83_7) [(.rf 81 0 0), (.int .i64 0)] [(.rf 79 0 3), (.rf 80 0 3)] h2) (vfill [] [])) (vfill [(.str []), (.str []), (.str [])] [(0, 1, (.str [120])), (1, 1, (.str [121])), (2, 1, (.str [120, 121]))])) (vfill [(.int .i64 0), (.int .i64 0), (.int .i64 0)] [(0, 1, x0), (1, 1, x1), (2, 1, x2)])
theorem spec_TriangleRelations_f {x0 x1 x2 : V} : Prt Try.prog 4 [x0, x1, x2] (spec_TriangleRelations_F x0 x1 x2) := pfun (fn := Try.f4) (m := [.s, .s, .s, .s, .l [10, 11] [8, 9], .s, .s, .j [8, 9, 10, 11], .s, .s, .s, .s, .s]) (c := 3 ≤ 53) rfl (fun h0 Rt => by kernel_rfl) (by decide)

def impl_TriangleRelations_F (x0 x1 x2 : V) (hi : Hp) (Rt : Hp → V → Prop) : Prop :=
pmks hi 75 9 0 0 (fun h0 =>
pmks h0 79 2 3 3 (fun h1 =>
VL (vlenS (.rf 79 0 3)) fun v80_2 =>
LP [8, 17] [15, 16] (fun w3 l4 h5 N6 =>
VL (lift2 (abin .lss) (w3.getD 1 .und) (l4.getD 1 .und)) fun v82_7 =>
pcond (
JN (fun k8 =>
VL (vixS 1 (l4.getD 0 .und) (w3.getD 1 .und)) fun v84_11 =>
pld h5 none (fun v85_12 h13 =>
VL (lift2 (abin .neq) v85_12 (.int .i64 0)) fun v87_14 =>
pgk true h13 (fun g15 k16 => k16 v85_12 h13) (fun g17 v25_18 h19 =>
pgk true h19 (fun g20 k21 => VL (lift2 (abin .lss) v25_18 (.int .i64 2)) fun v90_22 =>
k21 v90_22 h19) (fun g23 v26_24 h25 =>
pgk true h25 (fun g26 k27 => k27 v26_24 h25) (fun g28 v27_29 h30 =>
pgk false h30 (fun g31 k32 => k32 v85_12 h30) (fun g33 v28_34 h35 =>
pgk false h35 (fun g36 k37 => VL (lift2 (abin .gtr) v28_34 (.int .i64 30)) fun v93_38 =>
k37 v93_38 h35) (fun g39 v29_40 h41 =>
pgk true h41 (fun g42 k43 => VL (vpick g39 (.bool true) v29_40) fun v94_44 =>
k43 v94_44 h41) (fun g45 v30_46 h47 =>
VL (vpick g45 v30_46 (.bool false)) fun v95_48 =>
pcond (
Rt h47 (.tup [.nils, (.int .i64 2)])) (
VL (lift2 (abin .gtr) v85_12 (.int .i64 0)) fun v97_49 =>
pcond (
pmks h47 99 9 3 3 (fun h50 =>
VL (vixS 1 (.rf 99 0 3) (w3.getD 1 .und)) fun v101_51 =>
pld h50 none (fun v102_52 h53 =>
pcal Try.prog 11 104 h53 (fun v104_54 h55 =>
pmks h55 105 9 1 1 (fun h56 =>
papp h56 (fun m59 s60 => papV 9 1 16 106 h56 (fun v106_57 h58 =>
k8 [v106_57, (l4.getD 0 .und), (l4.getD 1 .und), (w3.getD 1 .und)] h58) m59 s60 (w3.getD 0 .und)) (pavs h56 (w3.getD 0 .und) []) (preadS 1 h56 (.rf 105 0 1))) (vfill [(.str [])] [(0, 1, v104_54)])) [v102_52, v85_12]) v101_51) (vfill [(.str []), (.str []), (.str [])] [(0, 1, (.str [120])), (1, 1, (.str [121])), (2, 1, (.str [120, 121]))])) (
k8 [(w3.getD 0 .und), (l4.getD 0 .und), (l4.getD 1 .und), (w3.getD 1 .und)] h47) v97_49) v95_48) g28) g33) v27_29) g23) g17) v87_14) v84_11) fun o9 h10 =>
VL (lift2 (abin .add) (o9.getD 3 .und) (.int .i64 1)) fun v107_61 =>
N6 [(o9.getD 0 .und), v107_61] [(o9.getD 1 .und), (o9.getD 2 .und)] h10) (
Rt h5 (.tup [(w3.getD 0 .und), (.int .i64 0)])) v82_7) [(.rf 75 0 0), (.int .i64 0)] [(.rf 79 0 3), v80_2] h1) (vfill [(.int .i64 0), (.int .i64 0), (.int .i64 0)] [(0, 1, x0), (1, 1, x1), (2, 1, x2)])) (vfill [] [])
theorem impl_TriangleRelations_f {x0 x1 x2 : V} : Prt Try.prog 5 [x0, x1, x2] (impl_TriangleRelations_F x0 x1 x2) := pfun (fn := Try.f5) (m := [.s, .s, .s, .s, .l [8, 17] [15, 16], .s, .s, .j [8, 15, 16, 17], .s, .s, .s, .s, .s, .s]) (c := 3 ≤ 45) rfl (fun h0 Rt => by kernel_rfl) (by decide)

def laws_eqStringS_F (x0 x1 : V) (hi : Hp) (Rt : Hp → V → Prop) : Prop :=
VL (vlenS x0) fun v71_0 =>
VL (vlenS x1) fun v73_1 =>
VL (lift2 (abin .neq) v71_0 v73_1) fun v74_2 =>
pcond (
Rt hi (.bool false)) (
LP [5] [0, 1] (fun w3 l4 h5 N6 =>
VL (vlenS (l4.getD 0 .und)) fun v77_7 =>
VL (lift2 (abin .lss) (w3.getD 0 .und) v77_7) fun v78_8 =>
pcond (
VL (vixS 1 (l4.getD 0 .und) (w3.getD 0 .und)) fun v83_9 =>
pld h5 none (fun v84_10 h11 =>
VL (vixS 1 (l4.getD 1 .und) (w3.getD 0 .und)) fun v87_12 =>
pld h11 none (fun v88_13 h14 =>
VL (lift2 (abin .neq) v84_10 v88_13) fun v89_15 =>
pcond (
Rt h14 (.bool false)) (
VL (lift2 (abin .add) (w3.getD 0 .und) (.int .i64 1)) fun v80_16 =>
N6 [v80_16] [(l4.getD 0 .und), (l4.getD 1 .und)] h14) v89_15) v87_12) v83_9) (
Rt h5 (.bool true)) v78_8) [(.int .i64 0)] [x0, x1] hi) v74_2
theorem laws_eqStringS_f {x0 x1 : V} : Prt Try.prog 6 [x0, x1] (laws_eqStringS_F x0 x1) := pfun (fn := Try.f6) (m := [.s, .s, .s, .s, .s, .s, .l [5] [0, 1], .s, .s, .s, .s, .s, .s]) (c := 2 ≤ 26) rfl (fun h0 Rt => by kernel_rfl) (by decide)

def laws_markStringS_F (x0 x1 : V) (hi : Hp) (Rt : Hp → V → Prop) : Prop :=
LP [1, 5] [0] (fun w0 l1 h2 N3 =>
VL (vlenS (l1.getD 0 .und)) fun v72_4 =>
VL (lift2 (abin .lss) (w0.getD 1 .und) v72_4) fun v73_5 =>
pcond (
pcal Try.prog 12 79 h2 (fun v79_6 h7 =>
VL (vixS 1 (l1.getD 0 .und) (w0.getD 1 .und)) fun v80_8 =>
pst h7 1 (cellsV v79_6) (fun u9 h10 =>
VL (lift2 (abin .add) (w0.getD 0 .und) (.int .i64 1)) fun v82_11 =>
VL (lift2 (abin .add) (w0.getD 1 .und) (.int .i64 1)) fun v75_12 =>
N3 [v82_11, v75_12] [(l1.getD 0 .und)] h10) v80_8) [(w0.getD 0 .und)]) (
Rt h2 (w0.getD 0 .und)) v73_5) [x1, (.int .i64 0)] [x0] hi
theorem laws_markStringS_f {x0 x1 : V} : Prt Try.prog 7 [x0, x1] (laws_markStringS_F x0 x1) := pfun (fn := Try.f7) (m := [.s, .s, .s, .l [1, 5] [0], .s, .s, .s, .s, .s]) (c := 2 ≤ 20) rfl (fun h0 Rt => by kernel_rfl) (by decide)

def laws_heldStringS_F (x0 x1 : V) (hi : Hp) (Rt : Hp → V → Prop) : Prop :=
LP [1, 5] [0] (fun w0 l1 h2 N3 =>
VL (vlenS (l1.getD 0 .und)) fun v72_4 =>
VL (lift2 (abin .lss) (w0.getD 1 .und) v72_4) fun v73_5 =>
pcond (
VL (vixS 1 (l1.getD 0 .und) (w0.getD 1 .und)) fun v78_6 =>
pld h2 none (fun v79_7 h8 =>
pcalp Try.prog 12 81 h8 (fun v81_9 h10 =>
VL (lift2 (abin .neq) v79_7 v81_9) fun v82_11 =>
pcond (
Rt h10 (.int .i64 (-1))) (
VL (lift2 (abin .add) (w0.getD 0 .und) (.int .i64 1)) fun v84_12 =>
VL (lift2 (abin .add) (w0.getD 1 .und) (.int .i64 1)) fun v75_13 =>
N3 [v84_12, v75_13] [(l1.getD 0 .und)] h10) v82_11) [(w0.getD 0 .und)]) v78_6) (
Rt h2 (w0.getD 0 .und)) v73_5) [x1, (.int .i64 0)] [x0] hi
theorem laws_heldStringS_f {x0 x1 : V} : Prt Try.prog 8 [x0, x1] (laws_heldStringS_F x0 x1) := pfun (fn := Try.f8) (m := [.s, .s, .s, .l [1, 5] [0], .s, .s, .s, .s, .s, .s, .s]) (c := 2 ≤ 22) rfl (fun h0 Rt => by kernel_rfl) (by decide)

def spec_l01In_F (x0 x1 x2 : V) (hi : Hp) (Rt : Hp → V → Prop) : Prop :=
VL (lift2 (abin .geq) x0 x1) fun v73_0 =>
pgk true hi (fun g1 k2 => k2 x0 hi) (fun g3 v11_4 h5 =>
pgk true h5 (fun g6 k7 => k7 x2 h5) (fun g8 v12_9 h10 =>
pgk true h10 (fun g11 k12 => VL (lift2 (abin .leq) v11_4 v12_9) fun v77_13 =>
k12 v77_13 h10) (fun g14 v13_15 h16 =>
VL (vpick g14 v13_15 (.bool false)) fun v78_17 =>
Rt h16 v78_17) g8) g3) v73_0
theorem spec_l01In_f {x0 x1 x2 : V} : Prt Try.prog 9 [x0, x1, x2] (spec_l01In_F x0 x1 x2) := pfun (fn := Try.f9) (m := [.s, .s]) (c := 3 ≤ 15) rfl (fun h0 Rt => by kernel_rfl) (by decide)

def spec_l08Times_F (x0 x1 : V) (hi : Hp) (Rt : Hp → V → Prop) : Prop :=
LP [1, 5] [0] (fun w0 l1 h2 N3 =>
VL (lift2 (abin .gtr) (w0.getD 0 .und) (.int .i64 0)) fun v71_4 =>
pcond (
VL (lift2 (abin .add) (w0.getD 1 .und) (l1.getD 0 .und)) fun v76_5 =>
VL (lift2 (abin .sub) (w0.getD 0 .und) (.int .i64 1)) fun v73_6 =>
N3 [v73_6, v76_5] [(l1.getD 0 .und)] h2) (
Rt h2 (w0.getD 1 .und)) v71_4) [x1, (.str [])] [x0] hi
theorem spec_l08Times_f {x0 x1 : V} : Prt Try.prog 10 [x0, x1] (spec_l08Times_F x0 x1) := pfun (fn := Try.f10) (m := [.s, .s, .s, .l [1, 5] [0], .s, .s, .s, .s]) (c := 2 ≤ 14) rfl (fun h0 Rt => by kernel_rfl) (by decide)

def laws_markText_F (x0 : V) (hi : Hp) (Rt : Hp → V → Prop) : Prop :=
VL (lift2 (abin .leq) x0 (.int .i64 0)) fun v69_0 =>
pcond (
Rt hi (.str [109, 48])) (
LP [0, 3] [] (fun w1 l2 h3 N4 =>
VL (lift2 (abin .gtr) (w1.getD 0 .und) (.int .i64 0)) fun v71_5 =>
pcond (
VL (lift2 (abin .rem) (w1.getD 0 .und) (.int .i64 10)) fun v73_6 =>
VL (lift2 (abin .add) (.int .i64 48) v73_6) fun v74_7 =>
VL (lift1 (acvi .u8) v74_7) fun v75_8 =>
pmks h3 76 5 1 1 (fun h9 =>
VL (vb2s h9 (.rf 76 0 1)) fun v77_10 =>
VL (lift2 (abin .add) v77_10 (w1.getD 1 .und)) fun v79_11 =>
VL (lift2 (abin .quo) (w1.getD 0 .und) (.int .i64 10)) fun v81_12 =>
N4 [v81_12, v79_11] [] h9) (vfill [(.int .u8 0)] [(0, 1, v75_8)])) (
VL (lift2 (abin .add) (.str [109]) (w1.getD 1 .und)) fun v83_13 =>
Rt h3 v83_13) v71_5) [x0, (.str [])] [] hi) v69_0
theorem laws_markText_f {x0 : V} : Prt Try.prog 12 [x0] (laws_markText_F x0) := pfun (fn := Try.f12) (m := [.s, .s, .s, .s, .s, .s, .l [0, 3] [], .s, .s, .s, .s]) (c := 1 ≤ 20) rfl (fun h0 Rt => by kernel_rfl) (by decide)

def math_bits_Mul_F (x0 x1 : V) (hi : Hp) (Rt : Hp → V → Prop) : Prop :=
pcond (
VL (lift1 (acvi .u32) x0) fun v76_0 =>
VL (lift1 (acvi .u32) x1) fun v78_1 =>
pcal Try.prog 19 79 hi (fun v79_2 h3 =>
VL (vext 0 v79_2) fun v80_4 =>
VL (vext 1 v79_2) fun v81_5 =>
VL (lift1 (acvi .u64) v80_4) fun v83_6 =>
VL (lift1 (acvi .u64) v81_5) fun v85_7 =>
Rt h3 (.tup [v83_6, v85_7])) [v76_0, v78_1]) (
pcal Try.prog 20 89 hi (fun v89_8 h9 =>
VL (vext 0 v89_8) fun v90_10 =>
VL (vext 1 v89_8) fun v91_11 =>
Rt h9 (.tup [v90_10, v91_11])) [x0, x1]) (.bool false)
theorem math_bits_Mul_f {x0 x1 : V} : Prt Try.prog 13 [x0, x1] (math_bits_Mul_F x0 x1) := pfun (fn := Try.f13) (m := [.s, .s, .s, .s, .s, .s]) (c := 2 ≤ 30) rfl (fun h0 Rt => by kernel_rfl) (by decide)

def strings_HasPrefix_F (x0 x1 : V) (hi : Hp) (Rt : Hp → V → Prop) : Prop :=
pcal Try.prog 21 71 hi (fun v71_0 h1 =>
Rt h1 v71_0) [x0, x1]
theorem strings_HasPrefix_f {x0 x1 : V} : Prt Try.prog 14 [x0, x1] (strings_HasPrefix_F x0 x1) := pfun (fn := Try.f14) (m := [.s, .s]) (c := 2 ≤ 8) rfl (fun h0 Rt => by kernel_rfl) (by decide)

def strings_Builder_WriteString_F (x0 x1 : V) (hi : Hp) (Rt : Hp → V → Prop) : Prop :=
pcal Try.prog 22 71 hi (fun v71_0 h1 =>
VL (vfa 0 x0) fun v74_2 =>
VL (vfa 1 v74_2) fun v75_3 =>
pld h1 none (fun v76_4 h5 =>
False) v75_3) [x0]
theorem strings_Builder_WriteString_f {x0 x1 : V} : Prt Try.prog 16 [x0, x1] (strings_Builder_WriteString_F x0 x1) := pfun (fn := Try.f16) (m := [.s, .s, .s, .s]) (c := 2 ≤ 19) rfl (fun h0 Rt => by kernel_rfl) (by decide)

def strings_Builder_Len_F (x0 : V) (hi : Hp) (Rt : Hp → V → Prop) : Prop :=
VL (vfa 0 x0) fun v68_0 =>
VL (vfa 1 v68_0) fun v69_1 =>
pld hi none (fun v70_2 h3 =>
VL (vlenS v70_2) fun v71_4 =>
Rt h3 v71_4) v69_1
theorem strings_Builder_Len_f {x0 : V} : Prt Try.prog 17 [x0] (strings_Builder_Len_F x0) := pfun (fn := Try.f17) (m := [.s, .s]) (c := 1 ≤ 8) rfl (fun h0 Rt => by kernel_rfl) (by decide)

def math_bits_Mul32_F (x0 x1 : V) (hi : Hp) (Rt : Hp → V → Prop) : Prop :=
VL (lift1 (acvi .u64) x0) fun v72_0 =>
VL (lift1 (acvi .u64) x1) fun v74_1 =>
VL (lift2 (abin .mul) v72_0 v74_1) fun v75_2 =>
VL (lift2 (abin .shr) v75_2 (.int .u64 32)) fun v77_3 =>
VL (lift1 (acvi .u32) v77_3) fun v78_4 =>
VL (lift1 (acvi .u32) v75_2) fun v80_5 =>
Rt hi (.tup [v78_4, v80_5])
theorem math_bits_Mul32_f {x0 x1 : V} : Prt Try.prog 19 [x0, x1] (math_bits_Mul32_F x0 x1) := pfun (fn := Try.f19) (m := [.s, .s, .s]) (c := 2 ≤ 17) rfl (fun h0 Rt => by kernel_rfl) (by decide)

def math_bits_Mul64_F (x0 x1 : V) (hi : Hp) (Rt : Hp → V → Prop) : Prop :=
VL (lift2 (abin .and) x0 (.int .u64 4294967295)) fun v79_0 =>
VL (lift2 (abin .shr) x0 (.int .u64 32)) fun v81_1 =>
VL (lift2 (abin .and) x1 (.int .u64 4294967295)) fun v83_2 =>
VL (lift2 (abin .shr) x1 (.int .u64 32)) fun v85_3 =>
VL (lift2 (abin .mul) v79_0 v83_2) fun v88_4 =>
VL (lift2 (abin .mul) v81_1 v83_2) fun v91_5 =>
VL (lift2 (abin .shr) v88_4 (.int .u64 32)) fun v93_6 =>
VL (lift2 (abin .add) v91_5 v93_6) fun v94_7 =>
VL (lift2 (abin .and) v94_7 (.int .u64 4294967295)) fun v96_8 =>
VL (lift2 (abin .shr) v94_7 (.int .u64 32)) fun v98_9 =>
VL (lift2 (abin .mul) v79_0 v85_3) fun v102_10 =>
VL (lift2 (abin .add) v96_8 v102_10) fun v103_11 =>
VL (lift2 (abin .mul) v81_1 v85_3) fun v106_12 =>
VL (lift2 (abin .add) v106_12 v98_9) fun v108_13 =>
VL (lift2 (abin .shr) v103_11 (.int .u64 32)) fun v110_14 =>
VL (lift2 (abin .add) v108_13 v110_14) fun v111_15 =>
VL (lift2 (abin .mul) x0 x1) fun v114_16 =>
Rt hi (.tup [v111_15, v114_16])
theorem math_bits_Mul64_f {x0 x1 : V} : Prt Try.prog 20 [x0, x1] (math_bits_Mul64_F x0 x1) := pfun (fn := Try.f20) (m := [.s, .s, .s, .s, .s, .s, .s, .s, .s, .s, .s, .s]) (c := 2 ≤ 51) rfl (fun h0 Rt => by kernel_rfl) (by decide)

end Go.Proofs.Ytapmgkemnedakaa.Sep
