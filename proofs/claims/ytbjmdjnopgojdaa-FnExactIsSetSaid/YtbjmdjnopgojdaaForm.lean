/- The printed forms of functions, by program out of the compiled code; each is held against it by the kernel. -/
import Derived.Test.YtbjmdjnopgojdaaSepX
import Derived.Test.YtbjmdjnopgojdaaProg
import Derived.KernelRfl
namespace Go.Proofs.Ytbjmdjnopgojdaa.Sep
set_option maxRecDepth 1000000
set_option linter.unusedVariables false

def laws_FnExactIsMove_F (x0 : V) (Φ : V → Prop) : Prop :=
pbox hnil 1 23 (cellsV x0) fun h0 =>
pld h0 (some 3) (fun v5_1 h2 =>
pcal Try.prog 10 6 h2 (fun v6_3 h4 =>
pcal Try.prog 9 7 h4 (fun v7_5 h6 =>
pld h6 (some 3) (fun v8_7 h8 =>
pcal Try.prog 10 9 h8 (fun v9_9 h10 =>
pcal Try.prog 11 10 h10 (fun v10_11 h12 =>
VL (veqa true false [.b] v10_11 v7_5) fun v13_13 =>
pcond (
FIN h12 (.bool false) Φ) (
FIN h12 (.bool true) Φ) v13_13) [v9_9]) [v8_7]) (.ptr 1 0)) [v6_3]) [v5_1]) (.ptr 1 0)
theorem laws_FnExactIsMove_f {x0 : V} {Φ : V → Prop} : laws_FnExactIsMove_F x0 Φ → PSpec Try.prog 3 [x0] Φ := pfun (fn := Try.f3) (m := [.s, .s, .s, .s, .s, .s, .s]) (c := 1 ≤ 14) rfl (by kernel_rfl) (by decide)

def laws_FnExactIsFraction_F (x0 : V) (Φ : V → Prop) : Prop :=
pbox hnil 1 29 (cellsV x0) fun h0 =>
pld h0 (some 2) (fun v5_1 h2 =>
pcal Try.prog 13 6 h2 (fun v6_3 h4 =>
pcal Try.prog 12 7 h4 (fun v7_5 h6 =>
pld h6 (some 2) (fun v8_7 h8 =>
pcal Try.prog 13 9 h8 (fun v9_9 h10 =>
pcal Try.prog 14 10 h10 (fun v10_11 h12 =>
VL (veqa true false [.b] v10_11 v7_5) fun v13_13 =>
pcond (
FIN h12 (.bool false) Φ) (
FIN h12 (.bool true) Φ) v13_13) [v9_9]) [v8_7]) (.ptr 1 0)) [v6_3]) [v5_1]) (.ptr 1 0)
theorem laws_FnExactIsFraction_f {x0 : V} {Φ : V → Prop} : laws_FnExactIsFraction_F x0 Φ → PSpec Try.prog 4 [x0] Φ := pfun (fn := Try.f4) (m := [.s, .s, .s, .s, .s, .s, .s]) (c := 1 ≤ 14) rfl (by kernel_rfl) (by decide)

def laws_FnExactFractionOf_F (x0 x1 : V) (Φ : V → Prop) : Prop :=
pcal Try.prog 15 12 hnil (fun v12_0 h1 =>
VL (vext 0 v12_0) fun v13_2 =>
VL (vext 1 v12_0) fun v14_3 =>
palloc h1 5 31 [(.int .i64 0), (.int .i64 0)] fun h4 =>
pst h4 2 (cellsV v13_2) (fun u5 h6 =>
pcal Try.prog 16 18 h6 (fun v18_7 h8 =>
VL (vext 0 v18_7) fun v19_9 =>
VL (vext 1 v18_7) fun v20_10 =>
palloc h8 7 31 [(.int .i64 0), (.int .i64 0)] fun h11 =>
pst h11 2 (cellsV v19_9) (fun u12 h13 =>
pld h13 (some 2) (fun v21_14 h15 =>
pld h15 (some 2) (fun v22_16 h17 =>
pcal Try.prog 17 23 h17 (fun v23_18 h19 =>
VL (lift1 (aun .not) v23_18) fun v24_20 =>
pgk false h19 (fun g21 k22 => k22 v20_10 h19) (fun g23 v26_24 h25 =>
pgk false h25 (fun g26 k27 => k27 v14_3 h25) (fun g28 v27_29 h30 =>
pgk false h30 (fun g31 k32 => VL (lift2 (abin .neq) v26_24 v27_29) fun v28_33 =>
k32 v28_33 h30) (fun g34 v28_35 h36 =>
VL (vpick g34 (.bool true) v28_35) fun v29_37 =>
pcond (
FIN h36 (.bool false) Φ) (
FIN h36 (.bool true) Φ) v29_37) g28) g23) v24_20) [v21_14, v22_16]) (.ptr 5 0)) (.ptr 7 0)) (.ptr 7 0)) [x0, x1]) (.ptr 5 0)) [x0, x1]
theorem laws_FnExactFractionOf_f {x0 x1 : V} {Φ : V → Prop} : laws_FnExactFractionOf_F x0 x1 Φ → PSpec Try.prog 5 [x0, x1] Φ := pfun (fn := Try.f5) (m := [.s, .s, .s, .s, .s, .s, .s]) (c := 2 ≤ 30) rfl (by kernel_rfl) (by decide)

def laws_FnExactCompareFractions_F (x0 x1 : V) (Φ : V → Prop) : Prop :=
pbox hnil 2 29 (cellsV x0) fun h0 =>
pbox h0 3 29 (cellsV x1) fun h1 =>
pld h1 (some 2) (fun v10_2 h3 =>
pld h3 (some 2) (fun v12_4 h5 =>
pcal Try.prog 13 11 h5 (fun v11_6 h7 =>
pcal Try.prog 13 13 h7 (fun v13_8 h9 =>
pcal Try.prog 18 14 h9 (fun v14_10 h11 =>
VL (vext 0 v14_10) fun v15_12 =>
VL (vext 1 v14_10) fun v16_13 =>
pld h11 (some 2) (fun v18_14 h15 =>
pld h15 (some 2) (fun v20_16 h17 =>
pcal Try.prog 13 19 h17 (fun v19_18 h19 =>
pcal Try.prog 13 21 h19 (fun v21_20 h21 =>
pcal Try.prog 19 22 h21 (fun v22_22 h23 =>
VL (vext 0 v22_22) fun v23_24 =>
VL (vext 1 v22_22) fun v24_25 =>
VL (lift2 (abin .neq) v23_24 v15_12) fun v27_26 =>
pgk false h23 (fun g27 k28 => k28 v24_25 h23) (fun g29 v29_30 h31 =>
pgk false h31 (fun g32 k33 => k33 v16_13 h31) (fun g34 v30_35 h36 =>
pgk false h36 (fun g37 k38 => VL (lift2 (abin .neq) v29_30 v30_35) fun v31_39 =>
k38 v31_39 h36) (fun g40 v31_41 h42 =>
VL (vpick g40 (.bool true) v31_41) fun v32_43 =>
pcond (
FIN h42 (.bool false) Φ) (
FIN h42 (.bool true) Φ) v32_43) g34) g29) v27_26) [v19_18, v21_20]) [v20_16]) [v18_14]) (.ptr 3 0)) (.ptr 2 0)) [v11_6, v13_8]) [v12_4]) [v10_2]) (.ptr 3 0)) (.ptr 2 0)
theorem laws_FnExactCompareFractions_f {x0 x1 : V} {Φ : V → Prop} : laws_FnExactCompareFractions_F x0 x1 Φ → PSpec Try.prog 6 [x0, x1] Φ := pfun (fn := Try.f6) (m := [.s, .s, .s, .s, .s, .s, .s]) (c := 2 ≤ 33) rfl (by kernel_rfl) (by decide)

def laws_FnExactDegreeOfMoves_F (x0 : V) (Φ : V → Prop) : Prop :=
pcal Try.prog 20 11 hnil (fun v11_0 h1 =>
VL (lift2 (abin .lss) v11_0 (.int .i64 0)) fun v13_2 =>
pcond (
FIN h1 (.bool true) Φ) (
pcal Try.prog 22 16 h1 (fun v16_3 h4 =>
pcal Try.prog 21 17 h4 (fun v17_5 h6 =>
VL (vext 0 v17_5) fun v18_7 =>
VL (vext 1 v17_5) fun v19_8 =>
pcal Try.prog 22 21 h6 (fun v21_9 h10 =>
pcal Try.prog 23 24 h10 (fun v24_11 h12 =>
VL (vext 0 v24_11) fun v25_13 =>
VL (vext 1 v24_11) fun v26_14 =>
VL (lift2 (abin .neq) v25_13 v18_7) fun v29_15 =>
pgk false h12 (fun g16 k17 => k17 v26_14 h12) (fun g18 v31_19 h20 =>
pgk false h20 (fun g21 k22 => k22 v19_8 h20) (fun g23 v32_24 h25 =>
pgk false h25 (fun g26 k27 => VL (lift2 (abin .neq) v31_19 v32_24) fun v33_28 =>
k27 v33_28 h25) (fun g29 v33_30 h31 =>
VL (vpick g29 (.bool true) v33_30) fun v34_32 =>
pcond (
FIN h31 (.bool false) Φ) (
pcal Try.prog 22 37 h31 (fun v37_33 h34 =>
pcal Try.prog 24 38 h34 (fun v38_35 h36 =>
VL (lift1 (aun .not) v38_35) fun v39_37 =>
pcond (
FIN h36 (.bool false) Φ) (
FIN h36 (.bool true) Φ) v39_37) [v21_9, v37_33]) [x0]) v34_32) g23) g18) v29_15) [v21_9]) [x0]) [v16_3]) [x0]) v13_2) [x0, (.int .i64 1048576)]
theorem laws_FnExactDegreeOfMoves_f {x0 : V} {Φ : V → Prop} : laws_FnExactDegreeOfMoves_F x0 Φ → PSpec Try.prog 7 [x0] Φ := pfun (fn := Try.f7) (m := [.s, .s, .s, .s, .s, .s, .s, .s, .s, .s, .s, .s, .s, .s, .s, .s]) (c := 1 ≤ 40) rfl (by kernel_rfl) (by decide)

def laws_FnExactIsSet_F (x0 : V) (Φ : V → Prop) : Prop :=
pcal Try.prog 25 9 hnil (fun v9_0 h1 =>
VL (lift2 (abin .lss) v9_0 (.int .i64 0)) fun v11_2 =>
pcond (
FIN h1 (.bool true) Φ) (
pcal Try.prog 27 13 h1 (fun v13_3 h4 =>
pcal Try.prog 26 14 h4 (fun v14_5 h6 =>
pcal Try.prog 27 16 h6 (fun v16_7 h8 =>
pcal Try.prog 28 18 h8 (fun v18_9 h10 =>
VL (veqa true false [.b] v18_9 v14_5) fun v21_11 =>
pcond (
FIN h10 (.bool false) Φ) (
pcal Try.prog 27 24 h10 (fun v24_12 h13 =>
pcal Try.prog 29 25 h13 (fun v25_14 h15 =>
VL (lift1 (aun .not) v25_14) fun v26_16 =>
pcond (
FIN h15 (.bool false) Φ) (
FIN h15 (.bool true) Φ) v26_16) [v16_7, v24_12]) [x0]) v21_11) [v16_7]) [x0]) [v13_3]) [x0]) v11_2) [x0, (.int .i64 1048576)]
theorem laws_FnExactIsSet_f {x0 : V} {Φ : V → Prop} : laws_FnExactIsSet_F x0 Φ → PSpec Try.prog 8 [x0] Φ := pfun (fn := Try.f8) (m := [.s, .s, .s, .s, .s, .s, .s, .s, .s, .s, .s, .s, .s, .s, .s, .s]) (c := 1 ≤ 27) rfl (by kernel_rfl) (by decide)

def spec_IsMove_F (x0 : V) (Φ : V → Prop) : Prop :=
pbox hnil 1 25 (cellsV x0) fun h0 =>
pld h0 (some 3) (fun v3_1 h2 =>
pcal Try.prog 30 4 h2 (fun v4_3 h4 =>
FIN h4 v4_3 Φ) [v3_1]) (.ptr 1 0)
theorem spec_IsMove_f {x0 : V} {Φ : V → Prop} : spec_IsMove_F x0 Φ → PSpec Try.prog 9 [x0] Φ := pfun (fn := Try.f9) (m := [.s, .s]) (c := 1 ≤ 5) rfl (by kernel_rfl) (by decide)

def laws_toMove_F (x0 : V) (Φ : V → Prop) : Prop :=
pbox hnil 1 23 (cellsV x0) fun h0 =>
palloc h0 2 25 [(.int .i64 0), (.int .i64 0), (.int .i64 0)] fun h1 =>
palloc h1 3 25 [(.int .i64 0), (.int .i64 0), (.int .i64 0)] fun h2 =>
pld h2 none (fun v5_3 h4 =>
pst h4 1 (cellsV v5_3) (fun u5 h6 =>
pld h6 none (fun v8_7 h8 =>
pst h8 1 (cellsV v8_7) (fun u9 h10 =>
pld h10 none (fun v11_11 h12 =>
pst h12 1 (cellsV v11_11) (fun u13 h14 =>
pld h14 (some 3) (fun v13_15 h16 =>
pst h16 3 (cellsV v13_15) (fun u17 h18 =>
VL (pcellV h18 (some 3) (.ptr 2 0)) fun r19 =>
FIN h18 r19 Φ) (.ptr 2 0)) (.ptr 3 0)) (.ptr 3 2)) (.ptr 1 2)) (.ptr 3 1)) (.ptr 1 1)) (.ptr 3 0)) (.ptr 1 0)
theorem laws_toMove_f {x0 : V} {Φ : V → Prop} : laws_toMove_F x0 Φ → PSpec Try.prog 10 [x0] Φ := pfun (fn := Try.f10) (m := [.s, .s, .s, .s, .s, .s]) (c := 1 ≤ 14) rfl (by kernel_rfl) (by decide)

def impl_IsMove_F (x0 : V) (Φ : V → Prop) : Prop :=
pbox hnil 1 25 (cellsV x0) fun h0 =>
pld h0 none (fun v4_1 h2 =>
VL (lift2 (abin .eql) v4_1 (.int .i64 2)) fun v5_3 =>
pcond (
pld h2 none (fun v7_4 h5 =>
VL (lift2 (abin .geq) v7_4 (.int .i64 1)) fun v8_6 =>
pgk true h5 (fun g7 k8 => k8 (.ptr 1 1) h5) (fun g9 v10_10 h11 =>
pgk true h11 (fun g12 k13 => pld h11 none (fun v11_14 h15 =>
k13 v11_14 h15) v10_10) (fun g16 v11_17 h18 =>
pgk true h18 (fun g19 k20 => VL (lift2 (abin .leq) v11_17 (.int .i64 20)) fun v12_21 =>
k20 v12_21 h18) (fun g22 v12_23 h24 =>
VL (vpick g22 v12_23 (.bool false)) fun v13_25 =>
pgk true h24 (fun g26 k27 => k27 (.ptr 1 2) h24) (fun g28 v15_29 h30 =>
pgk true h30 (fun g31 k32 => pld h30 none (fun v16_33 h34 =>
k32 v16_33 h34) v15_29) (fun g35 v16_36 h37 =>
pgk true h37 (fun g38 k39 => VL (lift2 (abin .geq) v16_36 (.int .i64 1)) fun v17_40 =>
k39 v17_40 h37) (fun g41 v17_42 h43 =>
VL (vpick g41 v17_42 (.bool false)) fun v18_44 =>
pgk true h43 (fun g45 k46 => k46 (.ptr 1 2) h43) (fun g47 v20_48 h49 =>
pgk true h49 (fun g50 k51 => pld h49 none (fun v21_52 h53 =>
k51 v21_52 h53) v20_48) (fun g54 v21_55 h56 =>
pgk true h56 (fun g57 k58 => VL (lift2 (abin .leq) v21_55 (.int .i64 20)) fun v22_59 =>
k58 v22_59 h56) (fun g60 v22_61 h62 =>
VL (vpick g60 v22_61 (.bool false)) fun v23_63 =>
FIN h62 v23_63 Φ) g54) g47) v18_44) g35) g28) v13_25) g16) g9) v8_6) (.ptr 1 1)) (
pld h2 none (fun v25_64 h65 =>
VL (lift2 (abin .eql) v25_64 (.int .i64 0)) fun v26_66 =>
pgk false h65 (fun g67 k68 => k68 (.ptr 1 0) h65) (fun g69 v28_70 h71 =>
pgk false h71 (fun g72 k73 => pld h71 none (fun v29_74 h75 =>
k73 v29_74 h75) v28_70) (fun g76 v29_77 h78 =>
pgk false h78 (fun g79 k80 => VL (lift2 (abin .eql) v29_77 (.int .i64 1)) fun v30_81 =>
k80 v30_81 h78) (fun g82 v30_83 h84 =>
VL (vpick g82 (.bool true) v30_83) fun v31_85 =>
pgk true h84 (fun g86 k87 => k87 (.ptr 1 1) h84) (fun g88 v33_89 h90 =>
pgk true h90 (fun g91 k92 => pld h90 none (fun v34_93 h94 =>
k92 v34_93 h94) v33_89) (fun g95 v34_96 h97 =>
pgk true h97 (fun g98 k99 => VL (lift2 (abin .eql) v34_96 (.int .i64 0)) fun v35_100 =>
k99 v35_100 h97) (fun g101 v35_102 h103 =>
VL (vpick g101 v35_102 (.bool false)) fun v36_104 =>
pgk true h103 (fun g105 k106 => k106 (.ptr 1 2) h103) (fun g107 v38_108 h109 =>
pgk true h109 (fun g110 k111 => pld h109 none (fun v39_112 h113 =>
k111 v39_112 h113) v38_108) (fun g114 v39_115 h116 =>
pgk true h116 (fun g117 k118 => VL (lift2 (abin .eql) v39_115 (.int .i64 0)) fun v40_119 =>
k118 v40_119 h116) (fun g120 v40_121 h122 =>
VL (vpick g120 v40_121 (.bool false)) fun v41_123 =>
FIN h122 v41_123 Φ) g114) g107) v36_104) g95) g88) v31_85) g76) g69) v26_66) (.ptr 1 0)) v5_3) (.ptr 1 0)
theorem impl_IsMove_f {x0 : V} {Φ : V → Prop} : impl_IsMove_F x0 Φ → PSpec Try.prog 11 [x0] Φ := pfun (fn := Try.f11) (m := [.s, .s, .s, .s, .s]) (c := 1 ≤ 42) rfl (by kernel_rfl) (by decide)

def spec_IsFraction_F (x0 : V) (Φ : V → Prop) : Prop :=
pbox hnil 1 31 (cellsV x0) fun h0 =>
pld h0 (some 2) (fun v3_1 h2 =>
pcal Try.prog 31 4 h2 (fun v4_3 h4 =>
FIN h4 v4_3 Φ) [v3_1]) (.ptr 1 0)
theorem spec_IsFraction_f {x0 : V} {Φ : V → Prop} : spec_IsFraction_F x0 Φ → PSpec Try.prog 12 [x0] Φ := pfun (fn := Try.f12) (m := [.s, .s]) (c := 1 ≤ 5) rfl (by kernel_rfl) (by decide)

def laws_toFraction_F (x0 : V) (Φ : V → Prop) : Prop :=
pbox hnil 1 29 (cellsV x0) fun h0 =>
palloc h0 2 31 [(.int .i64 0), (.int .i64 0)] fun h1 =>
palloc h1 3 31 [(.int .i64 0), (.int .i64 0)] fun h2 =>
pld h2 none (fun v5_3 h4 =>
pst h4 1 (cellsV v5_3) (fun u5 h6 =>
pld h6 none (fun v8_7 h8 =>
pst h8 1 (cellsV v8_7) (fun u9 h10 =>
pld h10 (some 2) (fun v10_11 h12 =>
pst h12 2 (cellsV v10_11) (fun u13 h14 =>
VL (pcellV h14 (some 2) (.ptr 2 0)) fun r15 =>
FIN h14 r15 Φ) (.ptr 2 0)) (.ptr 3 0)) (.ptr 3 1)) (.ptr 1 1)) (.ptr 3 0)) (.ptr 1 0)
theorem laws_toFraction_f {x0 : V} {Φ : V → Prop} : laws_toFraction_F x0 Φ → PSpec Try.prog 13 [x0] Φ := pfun (fn := Try.f13) (m := [.s, .s, .s, .s, .s]) (c := 1 ≤ 11) rfl (by kernel_rfl) (by decide)

def impl_IsFraction_F (x0 : V) (Φ : V → Prop) : Prop :=
pbox hnil 1 31 (cellsV x0) fun h0 =>
pld h0 none (fun v4_1 h2 =>
VL (lift2 (abin .lss) v4_1 (.int .i64 (-1000000000))) fun v5_3 =>
pgk false h2 (fun g4 k5 => k5 (.ptr 1 0) h2) (fun g6 v7_7 h8 =>
pgk false h8 (fun g9 k10 => pld h8 none (fun v8_11 h12 =>
k10 v8_11 h12) v7_7) (fun g13 v8_14 h15 =>
pgk false h15 (fun g16 k17 => VL (lift2 (abin .gtr) v8_14 (.int .i64 1000000000)) fun v9_18 =>
k17 v9_18 h15) (fun g19 v9_20 h21 =>
VL (vpick g19 (.bool true) v9_20) fun v10_22 =>
pgk false h21 (fun g23 k24 => k24 (.ptr 1 1) h21) (fun g25 v12_26 h27 =>
pgk false h27 (fun g28 k29 => pld h27 none (fun v13_30 h31 =>
k29 v13_30 h31) v12_26) (fun g32 v13_33 h34 =>
pgk false h34 (fun g35 k36 => VL (lift2 (abin .lss) v13_33 (.int .i64 0)) fun v14_37 =>
k36 v14_37 h34) (fun g38 v14_39 h40 =>
VL (vpick g38 (.bool true) v14_39) fun v15_41 =>
pgk false h40 (fun g42 k43 => k43 (.ptr 1 1) h40) (fun g44 v17_45 h46 =>
pgk false h46 (fun g47 k48 => pld h46 none (fun v18_49 h50 =>
k48 v18_49 h50) v17_45) (fun g51 v18_52 h53 =>
pgk false h53 (fun g54 k55 => VL (lift2 (abin .gtr) v18_52 (.int .i64 1000000000)) fun v19_56 =>
k55 v19_56 h53) (fun g57 v19_58 h59 =>
VL (vpick g57 (.bool true) v19_58) fun v20_60 =>
pcond (
FIN h59 (.bool false) Φ) (
pld h59 none (fun v22_61 h62 =>
VL (lift2 (abin .eql) v22_61 (.int .i64 0)) fun v23_63 =>
pcond (
pld h62 none (fun v25_64 h65 =>
VL (lift2 (abin .eql) v25_64 (.int .i64 1)) fun v26_66 =>
FIN h65 v26_66 Φ) (.ptr 1 0)) (
pld h62 none (fun v28_67 h68 =>
pld h68 none (fun v30_69 h70 =>
pcal Try.prog 32 31 h70 (fun v31_71 h72 =>
VL (lift2 (abin .eql) v31_71 (.int .i64 1)) fun v32_73 =>
FIN h72 v32_73 Φ) [v28_67, v30_69]) (.ptr 1 1)) (.ptr 1 0)) v23_63) (.ptr 1 1)) v20_60) g51) g44) v15_41) g32) g25) v10_22) g13) g6) v5_3) (.ptr 1 0)
theorem impl_IsFraction_f {x0 : V} {Φ : V → Prop} : impl_IsFraction_F x0 Φ → PSpec Try.prog 14 [x0] Φ := pfun (fn := Try.f14) (m := [.s, .s, .s, .s, .s, .s, .s, .s]) (c := 1 ≤ 33) rfl (by kernel_rfl) (by decide)

def spec_FractionOf_F (x0 x1 : V) (Φ : V → Prop) : Prop :=
palloc hnil 4 31 [(.int .i64 0), (.int .i64 0)] fun h0 =>
pcal Try.prog 33 9 h0 (fun v9_1 h2 =>
VL (lift1 (aun .not) v9_1) fun v10_3 =>
pgk false h2 (fun g4 k5 => k5 x1 h2) (fun g6 v12_7 h8 =>
pgk false h8 (fun g9 k10 => pcal Try.prog 33 13 h8 (fun v13_11 h12 =>
k10 v13_11 h12) [v12_7, (.int .i64 (-1000000000)), (.int .i64 1000000000)]) (fun g13 v13_14 h15 =>
pgk false h15 (fun g16 k17 => VL (lift1 (aun .not) v13_14) fun v14_18 =>
k17 v14_18 h15) (fun g19 v14_20 h21 =>
VL (vpick g19 (.bool true) v14_20) fun v15_22 =>
pgk false h21 (fun g23 k24 => k24 x0 h21) (fun g25 v17_26 h27 =>
pgk false h27 (fun g28 k29 => VL (lift2 (abin .eql) v17_26 (.int .i64 0)) fun v18_30 =>
k29 v18_30 h27) (fun g31 v18_32 h33 =>
pgk false h33 (fun g34 k35 => k35 v18_32 h33) (fun g36 v19_37 h38 =>
pgk true h38 (fun g39 k40 => k40 x1 h38) (fun g41 v20_42 h43 =>
pgk true h43 (fun g44 k45 => VL (lift2 (abin .eql) v20_42 (.int .i64 0)) fun v21_46 =>
k45 v21_46 h43) (fun g47 v21_48 h49 =>
pgk false h49 (fun g50 k51 => VL (vpick g47 v21_48 (.bool false)) fun v22_52 =>
k51 v22_52 h49) (fun g53 v22_54 h55 =>
VL (vpick g53 (.bool true) v22_54) fun v23_56 =>
pcond (
VL (vbld (vfill [(.int .i64 0), (.int .i64 0)] [])) fun v24_57 =>
pst h55 2 (cellsV v24_57) (fun u58 h59 =>
VL (pcellV h59 (some 2) (.ptr 4 0)) fun r60 =>
FIN h59 (.tup [r60, (.int .i64 2)]) Φ) (.ptr 4 0)) (
pcal Try.prog 34 28 h55 (fun v28_61 h62 =>
VL (vext 0 v28_61) fun v29_63 =>
VL (vext 1 v28_61) fun v30_64 =>
palloc h62 6 31 [(.int .i64 0), (.int .i64 0)] fun h65 =>
pst h65 2 (cellsV v29_63) (fun u66 h67 =>
pld h67 (some 2) (fun v31_68 h69 =>
pst h69 2 (cellsV v31_68) (fun u70 h71 =>
VL (pcellV h71 (some 2) (.ptr 4 0)) fun r72 =>
FIN h71 (.tup [r72, (.int .i64 0)]) Φ) (.ptr 4 0)) (.ptr 6 0)) (.ptr 6 0)) [x0, x1]) v23_56) g36) g41) v19_37) g31) g25) v15_22) g13) g6) v10_3) [x0, (.int .i64 (-1000000000)), (.int .i64 1000000000)]
theorem spec_FractionOf_f {x0 x1 : V} {Φ : V → Prop} : spec_FractionOf_F x0 x1 Φ → PSpec Try.prog 15 [x0, x1] Φ := pfun (fn := Try.f15) (m := [.s, .s, .s, .s, .s, .s]) (c := 2 ≤ 32) rfl (by kernel_rfl) (by decide)

def impl_FractionOf_F (x0 x1 : V) (Φ : V → Prop) : Prop :=
palloc hnil 4 31 [(.int .i64 0), (.int .i64 0)] fun h0 =>
VL (lift2 (abin .lss) x0 (.int .i64 (-1000000000))) fun v8_1 =>
pgk false h0 (fun g2 k3 => k3 x0 h0) (fun g4 v10_5 h6 =>
pgk false h6 (fun g7 k8 => VL (lift2 (abin .gtr) v10_5 (.int .i64 1000000000)) fun v11_9 =>
k8 v11_9 h6) (fun g10 v11_11 h12 =>
VL (vpick g10 (.bool true) v11_11) fun v12_13 =>
pgk false h12 (fun g14 k15 => k15 x1 h12) (fun g16 v14_17 h18 =>
pgk false h18 (fun g19 k20 => VL (lift2 (abin .lss) v14_17 (.int .i64 (-1000000000))) fun v15_21 =>
k20 v15_21 h18) (fun g22 v15_23 h24 =>
VL (vpick g22 (.bool true) v15_23) fun v16_25 =>
pgk false h24 (fun g26 k27 => k27 x1 h24) (fun g28 v18_29 h30 =>
pgk false h30 (fun g31 k32 => VL (lift2 (abin .gtr) v18_29 (.int .i64 1000000000)) fun v19_33 =>
k32 v19_33 h30) (fun g34 v19_35 h36 =>
VL (vpick g34 (.bool true) v19_35) fun v20_37 =>
pgk false h36 (fun g38 k39 => k39 x0 h36) (fun g40 v22_41 h42 =>
pgk false h42 (fun g43 k44 => VL (lift2 (abin .eql) v22_41 (.int .i64 0)) fun v23_45 =>
k44 v23_45 h42) (fun g46 v23_47 h48 =>
pgk false h48 (fun g49 k50 => k50 v23_47 h48) (fun g51 v24_52 h53 =>
pgk true h53 (fun g54 k55 => k55 x1 h53) (fun g56 v25_57 h58 =>
pgk true h58 (fun g59 k60 => VL (lift2 (abin .eql) v25_57 (.int .i64 0)) fun v26_61 =>
k60 v26_61 h58) (fun g62 v26_63 h64 =>
pgk false h64 (fun g65 k66 => VL (vpick g62 v26_63 (.bool false)) fun v27_67 =>
k66 v27_67 h64) (fun g68 v27_69 h70 =>
VL (vpick g68 (.bool true) v27_69) fun v28_71 =>
pcond (
VL (vbld (vfill [(.int .i64 0), (.int .i64 0)] [])) fun v29_72 =>
pst h70 2 (cellsV v29_72) (fun u73 h74 =>
VL (pcellV h74 (some 2) (.ptr 4 0)) fun r75 =>
FIN h74 (.tup [r75, (.int .i64 2)]) Φ) (.ptr 4 0)) (
VL (lift2 (abin .eql) x1 (.int .i64 0)) fun v31_76 =>
pcond (
VL (vbld (vfill [(.int .i64 0), (.int .i64 0)] [(0, 1, (.int .i64 1))])) fun v32_77 =>
pst h70 2 (cellsV v32_77) (fun u78 h79 =>
VL (pcellV h79 (some 2) (.ptr 4 0)) fun r80 =>
FIN h79 (.tup [r80, (.int .i64 0)]) Φ) (.ptr 4 0)) (
pcal Try.prog 32 35 h70 (fun v35_81 h82 =>
JN (fun k83 =>
VL (lift2 (abin .lss) x1 (.int .i64 0)) fun v37_86 =>
pcond (
VL (lift1 (aun .neg) v35_81) fun v39_87 =>
k83 [x0, x1, (.ptr 4 0), v39_87] h82) (
k83 [x0, x1, (.ptr 4 0), v35_81] h82) v37_86) fun o84 h85 =>
VL (lift2 (abin .quo) (o84.getD 0 .und) (o84.getD 3 .und)) fun v42_88 =>
VL (lift2 (abin .quo) (o84.getD 1 .und) (o84.getD 3 .und)) fun v45_89 =>
VL (vbld (vfill [(.int .i64 0), (.int .i64 0)] [(0, 1, v42_88), (1, 1, v45_89)])) fun v46_90 =>
pst h85 2 (cellsV v46_90) (fun u91 h92 =>
VL (pcellV h92 (some 2) (o84.getD 2 .und)) fun r93 =>
FIN h92 (.tup [r93, (.int .i64 0)]) Φ) (o84.getD 2 .und)) [x0, x1]) v31_76) v28_71) g51) g56) v24_52) g46) g40) v20_37) g28) v16_25) g16) v12_13) g4) v8_1
theorem impl_FractionOf_f {x0 x1 : V} {Φ : V → Prop} : impl_FractionOf_F x0 x1 Φ → PSpec Try.prog 16 [x0, x1] Φ := pfun (fn := Try.f16) (m := [.s, .s, .s, .s, .s, .s, .s, .s, .j [0, 1, 4, 6], .s, .s]) (c := 2 ≤ 47) rfl (by kernel_rfl) (by decide)

def laws_eqFraction_F (x0 x1 : V) (Φ : V → Prop) : Prop :=
pbox hnil 2 31 (cellsV x0) fun h0 =>
pbox h0 3 31 (cellsV x1) fun h1 =>
pld h1 none (fun v6_2 h3 =>
pld h3 none (fun v8_4 h5 =>
VL (lift2 (abin .neq) v6_2 v8_4) fun v9_6 =>
pcond (
FIN h5 (.bool false) Φ) (
pld h5 none (fun v11_7 h8 =>
pld h8 none (fun v13_9 h10 =>
VL (lift2 (abin .neq) v11_7 v13_9) fun v14_11 =>
pcond (
FIN h10 (.bool false) Φ) (
FIN h10 (.bool true) Φ) v14_11) (.ptr 3 1)) (.ptr 2 1)) v9_6) (.ptr 3 0)) (.ptr 2 0)
theorem laws_eqFraction_f {x0 x1 : V} {Φ : V → Prop} : laws_eqFraction_F x0 x1 Φ → PSpec Try.prog 17 [x0, x1] Φ := pfun (fn := Try.f17) (m := [.s, .s, .s, .s, .s, .s, .s, .s]) (c := 2 ≤ 15) rfl (by kernel_rfl) (by decide)

def spec_CompareFractions_F (x0 x1 : V) (Φ : V → Prop) : Prop :=
pbox hnil 2 31 (cellsV x0) fun h0 =>
pbox h0 3 31 (cellsV x1) fun h1 =>
pld h1 (some 2) (fun v6_2 h3 =>
pcal Try.prog 31 7 h3 (fun v7_4 h5 =>
VL (lift1 (aun .not) v7_4) fun v8_6 =>
pgk false h5 (fun g7 k8 => pld h5 (some 2) (fun v10_9 h10 =>
k8 v10_9 h10) (.ptr 3 0)) (fun g11 v10_12 h13 =>
pgk false h13 (fun g14 k15 => pcal Try.prog 31 11 h13 (fun v11_16 h17 =>
k15 v11_16 h17) [v10_12]) (fun g18 v11_19 h20 =>
pgk false h20 (fun g21 k22 => VL (lift1 (aun .not) v11_19) fun v12_23 =>
k22 v12_23 h20) (fun g24 v12_25 h26 =>
VL (vpick g24 (.bool true) v12_25) fun v13_27 =>
pcond (
FIN h26 (.tup [(.int .i64 0), (.int .i64 1)]) Φ) (
pld h26 (some 2) (fun v14_28 h29 =>
pld h29 (some 2) (fun v15_30 h31 =>
pcal Try.prog 35 16 h31 (fun v16_32 h33 =>
FIN h33 (.tup [v16_32, (.int .i64 0)]) Φ) [v14_28, v15_30]) (.ptr 3 0)) (.ptr 2 0)) v13_27) g18) g11) v8_6) [v6_2]) (.ptr 2 0)
theorem spec_CompareFractions_f {x0 x1 : V} {Φ : V → Prop} : spec_CompareFractions_F x0 x1 Φ → PSpec Try.prog 18 [x0, x1] Φ := pfun (fn := Try.f18) (m := [.s, .s, .s, .s, .s]) (c := 2 ≤ 17) rfl (by kernel_rfl) (by decide)

def impl_CompareFractions_F (x0 x1 : V) (Φ : V → Prop) : Prop :=
pbox hnil 2 31 (cellsV x0) fun h0 =>
pbox h0 3 31 (cellsV x1) fun h1 =>
pld h1 (some 2) (fun v6_2 h3 =>
pcal Try.prog 14 7 h3 (fun v7_4 h5 =>
VL (lift1 (aun .not) v7_4) fun v8_6 =>
pgk false h5 (fun g7 k8 => pld h5 (some 2) (fun v10_9 h10 =>
k8 v10_9 h10) (.ptr 3 0)) (fun g11 v10_12 h13 =>
pgk false h13 (fun g14 k15 => pcal Try.prog 14 11 h13 (fun v11_16 h17 =>
k15 v11_16 h17) [v10_12]) (fun g18 v11_19 h20 =>
pgk false h20 (fun g21 k22 => VL (lift1 (aun .not) v11_19) fun v12_23 =>
k22 v12_23 h20) (fun g24 v12_25 h26 =>
VL (vpick g24 (.bool true) v12_25) fun v13_27 =>
pcond (
FIN h26 (.tup [(.int .i64 0), (.int .i64 1)]) Φ) (
pld h26 (some 2) (fun v14_28 h29 =>
pld h29 (some 2) (fun v15_30 h31 =>
pcal Try.prog 36 16 h31 (fun v16_32 h33 =>
FIN h33 (.tup [v16_32, (.int .i64 0)]) Φ) [v14_28, v15_30]) (.ptr 3 0)) (.ptr 2 0)) v13_27) g18) g11) v8_6) [v6_2]) (.ptr 2 0)
theorem impl_CompareFractions_f {x0 x1 : V} {Φ : V → Prop} : impl_CompareFractions_F x0 x1 Φ → PSpec Try.prog 19 [x0, x1] Φ := pfun (fn := Try.f19) (m := [.s, .s, .s, .s, .s]) (c := 2 ≤ 17) rfl (by kernel_rfl) (by decide)

def laws_szMoveS_F (x0 x1 : V) (Φ : V → Prop) : Prop :=
VL (vlenS x0) fun v7_0 =>
VL (lift2 (abin .sub) x1 v7_0) fun v8_1 =>
VL (lift2 (abin .lss) v8_1 (.int .i64 0)) fun v10_2 =>
pcond (
FIN hnil (.int .i64 (-1)) Φ) (
FIN hnil v8_1 Φ) v10_2
theorem laws_szMoveS_f {x0 x1 : V} {Φ : V → Prop} : laws_szMoveS_F x0 x1 Φ → PSpec Try.prog 20 [x0, x1] Φ := pfun (fn := Try.f20) (m := [.s, .s, .s, .s, .s, .s]) (c := 2 ≤ 12) rfl (by kernel_rfl) (by decide)

def spec_DegreeOfMoves_F (x0 : V) (Φ : V → Prop) : Prop :=
pcal Try.prog 37 8 hnil (fun v8_0 h1 =>
VL (lift2 (abin .neq) v8_0 (.int .i64 0)) fun v10_2 =>
pcond (
FIN h1 (.tup [(.int .i64 0), v8_0]) Φ) (
LP [5, 6] [0] (fun w3 l4 h5 N6 =>
VL (vlenS (l4.getD 0 .und)) fun v14_7 =>
VL (lift2 (abin .lss) (w3.getD 1 .und) v14_7) fun v15_8 =>
pcond (
VL (vixS 3 (l4.getD 0 .und) (w3.getD 1 .und)) fun v21_9 =>
pld h5 (some 3) (fun v22_10 h11 =>
pcal Try.prog 38 23 h11 (fun v23_12 h13 =>
VL (lift2 (abin .mul) (w3.getD 0 .und) v23_12) fun v24_14 =>
VL (lift2 (abin .gtr) v24_14 (.int .i64 1000000000)) fun v26_15 =>
pcond (
FIN h13 (.tup [(.int .i64 0), (.int .i64 3)]) Φ) (
VL (lift2 (abin .add) (w3.getD 1 .und) (.int .i64 1)) fun v17_16 =>
N6 [v24_14, v17_16] [(l4.getD 0 .und)] h13) v26_15) [v22_10]) v21_9) (
FIN h5 (.tup [(w3.getD 0 .und), (.int .i64 0)]) Φ) v15_8) [(.int .i64 1), (.int .i64 0)] [x0] h1) v10_2) [x0]
theorem spec_DegreeOfMoves_f {x0 : V} {Φ : V → Prop} : spec_DegreeOfMoves_F x0 Φ → PSpec Try.prog 21 [x0] Φ := pfun (fn := Try.f21) (m := [.s, .s, .s, .s, .s, .s, .s, .s, .l [5, 6] [0], .s, .s, .s, .s, .s, .s, .s]) (c := 1 ≤ 28) rfl (by kernel_rfl) (by decide)

def laws_toMoveS_F (x0 : V) (Φ : V → Prop) : Prop :=
VL (vlenS x0) fun v6_0 =>
pmk hnil 7 25 24 [(.int .i64 0), (.int .i64 0), (.int .i64 0)] (fun v7_1 h2 =>
LP [4] [0, 3] (fun w3 l4 h5 N6 =>
VL (vlenS (l4.getD 0 .und)) fun v10_7 =>
VL (lift2 (abin .lss) (w3.getD 0 .und) v10_7) fun v11_8 =>
pcond (
VL (vixS 3 (l4.getD 0 .und) (w3.getD 0 .und)) fun v18_9 =>
pld h5 (some 3) (fun v19_10 h11 =>
pcal Try.prog 10 20 h11 (fun v20_12 h13 =>
VL (vixS 3 (l4.getD 1 .und) (w3.getD 0 .und)) fun v21_14 =>
pst h13 3 (cellsV v20_12) (fun u15 h16 =>
VL (lift2 (abin .add) (w3.getD 0 .und) (.int .i64 1)) fun v13_17 =>
N6 [v13_17] [(l4.getD 0 .und), (l4.getD 1 .und)] h16) v21_14) [v19_10]) v18_9) (
FIN h5 (l4.getD 1 .und) Φ) v11_8) [(.int .i64 0)] [x0, v7_1] h2) v6_0 v6_0
theorem laws_toMoveS_f {x0 : V} {Φ : V → Prop} : laws_toMoveS_F x0 Φ → PSpec Try.prog 22 [x0] Φ := pfun (fn := Try.f22) (m := [.s, .s, .s, .s, .l [4] [0, 3], .s, .s, .s, .s]) (c := 1 ≤ 23) rfl (by kernel_rfl) (by decide)

def impl_DegreeOfMoves_F (x0 : V) (Φ : V → Prop) : Prop :=
pcal Try.prog 39 9 hnil (fun v9_0 h1 =>
VL (lift2 (abin .neq) v9_0 (.int .i64 0)) fun v11_2 =>
pcond (
FIN h1 (.tup [(.int .i64 0), v9_0]) Φ) (
VL (vlenS x0) fun v14_3 =>
LP [5, 15] [13, 14] (fun w4 l5 h6 N7 =>
VL (lift2 (abin .lss) (w4.getD 1 .und) (l5.getD 1 .und)) fun v16_8 =>
pcond (
VL (vixS 3 (l5.getD 0 .und) (w4.getD 1 .und)) fun v17_9 =>
pld h6 (some 3) (fun v18_10 h11 =>
palloc h11 7 25 [(.int .i64 0), (.int .i64 0), (.int .i64 0)] fun h12 =>
pst h12 3 (cellsV v18_10) (fun u13 h14 =>
pld h14 (some 3) (fun v20_15 h16 =>
pcal Try.prog 40 21 h16 (fun v21_17 h18 =>
VL (lift2 (abin .mul) (w4.getD 0 .und) v21_17) fun v22_19 =>
VL (lift2 (abin .gtr) v22_19 (.int .i64 1000000000)) fun v24_20 =>
pcond (
FIN h18 (.tup [(.int .i64 0), (.int .i64 3)]) Φ) (
VL (lift2 (abin .add) (w4.getD 1 .und) (.int .i64 1)) fun v25_21 =>
N7 [v22_19, v25_21] [(l5.getD 0 .und), (l5.getD 1 .und)] h18) v24_20) [v20_15]) (.ptr 7 0)) (.ptr 7 0)) v17_9) (
FIN h6 (.tup [(w4.getD 0 .und), (.int .i64 0)]) Φ) v16_8) [(.int .i64 1), (.int .i64 0)] [x0, v14_3] h1) v11_2) [x0]
theorem impl_DegreeOfMoves_f {x0 : V} {Φ : V → Prop} : impl_DegreeOfMoves_F x0 Φ → PSpec Try.prog 23 [x0] Φ := pfun (fn := Try.f23) (m := [.s, .s, .s, .s, .s, .s, .s, .s, .l [5, 15] [13, 14], .s, .s, .s, .s, .s, .s, .s, .s]) (c := 1 ≤ 27) rfl (by kernel_rfl) (by decide)

def laws_eqMoveS_F (x0 x1 : V) (Φ : V → Prop) : Prop :=
VL (vlenS x0) fun v7_0 =>
VL (vlenS x1) fun v9_1 =>
VL (lift2 (abin .neq) v7_0 v9_1) fun v10_2 =>
pcond (
FIN hnil (.bool false) Φ) (
LP [5] [0, 1] (fun w3 l4 h5 N6 =>
VL (vlenS (l4.getD 0 .und)) fun v13_7 =>
VL (lift2 (abin .lss) (w3.getD 0 .und) v13_7) fun v14_8 =>
pcond (
VL (vixS 3 (l4.getD 0 .und) (w3.getD 0 .und)) fun v19_9 =>
pld h5 (some 3) (fun v20_10 h11 =>
VL (vixS 3 (l4.getD 1 .und) (w3.getD 0 .und)) fun v23_12 =>
pld h11 (some 3) (fun v24_13 h14 =>
pcal Try.prog 41 25 h14 (fun v25_15 h16 =>
VL (lift1 (aun .not) v25_15) fun v26_17 =>
pcond (
FIN h16 (.bool false) Φ) (
VL (lift2 (abin .add) (w3.getD 0 .und) (.int .i64 1)) fun v16_18 =>
N6 [v16_18] [(l4.getD 0 .und), (l4.getD 1 .und)] h16) v26_17) [v20_10, v24_13]) v23_12) v19_9) (
FIN h5 (.bool true) Φ) v14_8) [(.int .i64 0)] [x0, x1] hnil) v10_2
theorem laws_eqMoveS_f {x0 x1 : V} {Φ : V → Prop} : laws_eqMoveS_F x0 x1 Φ → PSpec Try.prog 24 [x0, x1] Φ := pfun (fn := Try.f24) (m := [.s, .s, .s, .s, .s, .s, .l [5] [0, 1], .s, .s, .s, .s, .s, .s]) (c := 2 ≤ 27) rfl (by kernel_rfl) (by decide)

def laws_szFractionS_F (x0 x1 : V) (Φ : V → Prop) : Prop :=
VL (vlenS x0) fun v7_0 =>
VL (lift2 (abin .sub) x1 v7_0) fun v8_1 =>
VL (lift2 (abin .lss) v8_1 (.int .i64 0)) fun v10_2 =>
pcond (
FIN hnil (.int .i64 (-1)) Φ) (
FIN hnil v8_1 Φ) v10_2
theorem laws_szFractionS_f {x0 x1 : V} {Φ : V → Prop} : laws_szFractionS_F x0 x1 Φ → PSpec Try.prog 25 [x0, x1] Φ := pfun (fn := Try.f25) (m := [.s, .s, .s, .s, .s, .s]) (c := 2 ≤ 12) rfl (by kernel_rfl) (by decide)

def spec_IsSet_F (x0 : V) (Φ : V → Prop) : Prop :=
pcal Try.prog 42 4 hnil (fun v4_0 h1 =>
FIN h1 v4_0 Φ) [x0]
theorem spec_IsSet_f {x0 : V} {Φ : V → Prop} : spec_IsSet_F x0 Φ → PSpec Try.prog 26 [x0] Φ := pfun (fn := Try.f26) (m := [.s, .s]) (c := 1 ≤ 5) rfl (by kernel_rfl) (by decide)

def laws_toFractionS_F (x0 : V) (Φ : V → Prop) : Prop :=
VL (vlenS x0) fun v6_0 =>
pmk hnil 7 31 16 [(.int .i64 0), (.int .i64 0)] (fun v7_1 h2 =>
LP [4] [0, 3] (fun w3 l4 h5 N6 =>
VL (vlenS (l4.getD 0 .und)) fun v10_7 =>
VL (lift2 (abin .lss) (w3.getD 0 .und) v10_7) fun v11_8 =>
pcond (
VL (vixS 2 (l4.getD 0 .und) (w3.getD 0 .und)) fun v18_9 =>
pld h5 (some 2) (fun v19_10 h11 =>
pcal Try.prog 13 20 h11 (fun v20_12 h13 =>
VL (vixS 2 (l4.getD 1 .und) (w3.getD 0 .und)) fun v21_14 =>
pst h13 2 (cellsV v20_12) (fun u15 h16 =>
VL (lift2 (abin .add) (w3.getD 0 .und) (.int .i64 1)) fun v13_17 =>
N6 [v13_17] [(l4.getD 0 .und), (l4.getD 1 .und)] h16) v21_14) [v19_10]) v18_9) (
FIN h5 (l4.getD 1 .und) Φ) v11_8) [(.int .i64 0)] [x0, v7_1] h2) v6_0 v6_0
theorem laws_toFractionS_f {x0 : V} {Φ : V → Prop} : laws_toFractionS_F x0 Φ → PSpec Try.prog 27 [x0] Φ := pfun (fn := Try.f27) (m := [.s, .s, .s, .s, .l [4] [0, 3], .s, .s, .s, .s]) (c := 1 ≤ 23) rfl (by kernel_rfl) (by decide)

def impl_IsSet_F (x0 : V) (Φ : V → Prop) : Prop :=
VL (vlenS x0) fun v6_0 =>
LP [7] [0, 5, 6] (fun w1 l2 h3 N4 =>
VL (lift2 (abin .lss) (w1.getD 0 .und) (l2.getD 2 .und)) fun v8_5 =>
pcond (
VL (vixS 2 (l2.getD 1 .und) (w1.getD 0 .und)) fun v10_6 =>
pld h3 (some 2) (fun v11_7 h8 =>
palloc h8 4 31 [(.int .i64 0), (.int .i64 0)] fun h9 =>
pst h9 2 (cellsV v11_7) (fun u10 h11 =>
pld h11 (some 2) (fun v12_12 h13 =>
pcal Try.prog 14 13 h13 (fun v13_14 h15 =>
VL (lift1 (aun .not) v13_14) fun v14_16 =>
pgk false h15 (fun g17 k18 => k18 (w1.getD 0 .und) h15) (fun g19 v16_20 h21 =>
pgk false h21 (fun g22 k23 => VL (lift2 (abin .gtr) v16_20 (.int .i64 0)) fun v17_24 =>
k23 v17_24 h21) (fun g25 v17_26 h27 =>
pgk false h27 (fun g28 k29 => k29 v17_26 h27) (fun g30 v18_31 h32 =>
pgk true h32 (fun g33 k34 => k34 (l2.getD 0 .und) h32) (fun g35 v19_36 h37 =>
pgk true h37 (fun g38 k39 => k39 (w1.getD 0 .und) h37) (fun g40 v20_41 h42 =>
pgk true h42 (fun g43 k44 => VL (lift2 (abin .sub) v20_41 (.int .i64 1)) fun v21_45 =>
k44 v21_45 h42) (fun g46 v21_47 h48 =>
pgk true h48 (fun g49 k50 => VL (vixS 2 v19_36 v21_47) fun v22_51 =>
k50 v22_51 h48) (fun g52 v22_53 h54 =>
pgk true h54 (fun g55 k56 => pld h54 (some 2) (fun v23_57 h58 =>
k56 v23_57 h58) v22_53) (fun g59 v23_60 h61 =>
pgk true h61 (fun g62 k63 => pld h61 (some 2) (fun v24_64 h65 =>
k63 v24_64 h65) (.ptr 4 0)) (fun g66 v24_67 h68 =>
pgk true h68 (fun g69 k70 => pcal Try.prog 36 25 h68 (fun v25_71 h72 =>
k70 v25_71 h72) [v23_60, v24_67]) (fun g73 v25_74 h75 =>
pgk true h75 (fun g76 k77 => VL (lift2 (abin .geq) v25_74 (.int .i64 0)) fun v26_78 =>
k77 v26_78 h75) (fun g79 v26_80 h81 =>
pgk false h81 (fun g82 k83 => VL (vpick g79 v26_80 (.bool false)) fun v27_84 =>
k83 v27_84 h81) (fun g85 v27_86 h87 =>
VL (vpick g85 (.bool true) v27_86) fun v28_88 =>
pcond (
FIN h87 (.bool false) Φ) (
VL (lift2 (abin .add) (w1.getD 0 .und) (.int .i64 1)) fun v29_89 =>
N4 [v29_89] [(l2.getD 0 .und), (l2.getD 1 .und), (l2.getD 2 .und)] h87) v28_88) g30) g73) g66) g59) g52) g46) g40) g35) v18_31) g25) g19) v14_16) [v12_12]) (.ptr 4 0)) (.ptr 4 0)) v10_6) (
VL (vlenS (l2.getD 0 .und)) fun v31_90 =>
VL (lift2 (abin .leq) v31_90 (.int .i64 12)) fun v32_91 =>
FIN h3 v32_91 Φ) v8_5) [(.int .i64 0)] [x0, x0, v6_0] hnil
theorem impl_IsSet_f {x0 : V} {Φ : V → Prop} : impl_IsSet_F x0 Φ → PSpec Try.prog 28 [x0] Φ := pfun (fn := Try.f28) (m := [.s, .s, .s, .l [7] [0, 5, 6], .s, .s, .s, .s, .s, .s, .s]) (c := 1 ≤ 33) rfl (by kernel_rfl) (by decide)

def laws_eqFractionS_F (x0 x1 : V) (Φ : V → Prop) : Prop :=
VL (vlenS x0) fun v7_0 =>
VL (vlenS x1) fun v9_1 =>
VL (lift2 (abin .neq) v7_0 v9_1) fun v10_2 =>
pcond (
FIN hnil (.bool false) Φ) (
LP [5] [0, 1] (fun w3 l4 h5 N6 =>
VL (vlenS (l4.getD 0 .und)) fun v13_7 =>
VL (lift2 (abin .lss) (w3.getD 0 .und) v13_7) fun v14_8 =>
pcond (
VL (vixS 2 (l4.getD 0 .und) (w3.getD 0 .und)) fun v19_9 =>
pld h5 (some 2) (fun v20_10 h11 =>
VL (vixS 2 (l4.getD 1 .und) (w3.getD 0 .und)) fun v23_12 =>
pld h11 (some 2) (fun v24_13 h14 =>
pcal Try.prog 17 25 h14 (fun v25_15 h16 =>
VL (lift1 (aun .not) v25_15) fun v26_17 =>
pcond (
FIN h16 (.bool false) Φ) (
VL (lift2 (abin .add) (w3.getD 0 .und) (.int .i64 1)) fun v16_18 =>
N6 [v16_18] [(l4.getD 0 .und), (l4.getD 1 .und)] h16) v26_17) [v20_10, v24_13]) v23_12) v19_9) (
FIN h5 (.bool true) Φ) v14_8) [(.int .i64 0)] [x0, x1] hnil) v10_2
theorem laws_eqFractionS_f {x0 x1 : V} {Φ : V → Prop} : laws_eqFractionS_F x0 x1 Φ → PSpec Try.prog 29 [x0, x1] Φ := pfun (fn := Try.f29) (m := [.s, .s, .s, .s, .s, .s, .l [5] [0, 1], .s, .s, .s, .s, .s, .s]) (c := 2 ≤ 27) rfl (by kernel_rfl) (by decide)

def spec_l10Move_F (x0 : V) (Φ : V → Prop) : Prop :=
pbox hnil 1 25 (cellsV x0) fun h0 =>
pld h0 none (fun v4_1 h2 =>
JN (fun k3 =>
VL (lift2 (abin .eql) v4_1 (.int .i64 0)) fun v6_6 =>
pcond (
k3 [(.ptr 1 0), v4_1, v6_6] h2) (
VL (lift2 (abin .eql) v4_1 (.int .i64 1)) fun v7_7 =>
k3 [(.ptr 1 0), v4_1, v7_7] h2) v6_6) fun o4 h5 =>
pcond (
VL (vfa 1 (o4.getD 0 .und)) fun v8_8 =>
pld h5 none (fun v9_9 h10 =>
VL (lift2 (abin .eql) v9_9 (.int .i64 0)) fun v10_11 =>
pgk true h10 (fun g12 k13 => VL (vfa 2 (o4.getD 0 .und)) fun v12_14 =>
k13 v12_14 h10) (fun g15 v12_16 h17 =>
pgk true h17 (fun g18 k19 => pld h17 none (fun v13_20 h21 =>
k19 v13_20 h21) v12_16) (fun g22 v13_23 h24 =>
pgk true h24 (fun g25 k26 => VL (lift2 (abin .eql) v13_23 (.int .i64 0)) fun v14_27 =>
k26 v14_27 h24) (fun g28 v14_29 h30 =>
VL (vpick g28 v14_29 (.bool false)) fun v15_31 =>
FIN h30 v15_31 Φ) g22) g15) v10_11) v8_8) (
VL (lift2 (abin .eql) (o4.getD 1 .und) (.int .i64 2)) fun v17_32 =>
pcond (
VL (vfa 1 (o4.getD 0 .und)) fun v18_33 =>
pld h5 none (fun v19_34 h35 =>
pcal Try.prog 33 20 h35 (fun v20_36 h37 =>
pgk true h37 (fun g38 k39 => VL (vfa 2 (o4.getD 0 .und)) fun v22_40 =>
k39 v22_40 h37) (fun g41 v22_42 h43 =>
pgk true h43 (fun g44 k45 => pld h43 none (fun v23_46 h47 =>
k45 v23_46 h47) v22_42) (fun g48 v23_49 h50 =>
pgk true h50 (fun g51 k52 => pcal Try.prog 33 24 h50 (fun v24_53 h54 =>
k52 v24_53 h54) [v23_49, (.int .i64 1), (.int .i64 20)]) (fun g55 v24_56 h57 =>
VL (vpick g55 v24_56 (.bool false)) fun v25_58 =>
FIN h57 v25_58 Φ) g48) g41) v20_36) [v19_34, (.int .i64 1), (.int .i64 20)]) v18_33) (
FIN h5 (.bool false) Φ) v17_32) (o4.getD 2 .und)) (.ptr 1 0)
theorem spec_l10Move_f {x0 : V} {Φ : V → Prop} : spec_l10Move_F x0 Φ → PSpec Try.prog 30 [x0] Φ := pfun (fn := Try.f30) (m := [.s, .s, .s, .j [1, 4, 5], .s, .s, .s, .s, .s]) (c := 1 ≤ 26) rfl (by kernel_rfl) (by decide)

def spec_l10Is_F (x0 : V) (Φ : V → Prop) : Prop :=
pbox hnil 1 31 (cellsV x0) fun h0 =>
pld h0 none (fun v4_1 h2 =>
pcal Try.prog 33 5 h2 (fun v5_3 h4 =>
VL (lift1 (aun .not) v5_3) fun v6_5 =>
pgk false h4 (fun g6 k7 => k7 (.ptr 1 1) h4) (fun g8 v8_9 h10 =>
pgk false h10 (fun g11 k12 => pld h10 none (fun v9_13 h14 =>
k12 v9_13 h14) v8_9) (fun g15 v9_16 h17 =>
pgk false h17 (fun g18 k19 => pcal Try.prog 33 10 h17 (fun v10_20 h21 =>
k19 v10_20 h21) [v9_16, (.int .i64 0), (.int .i64 1000000000)]) (fun g22 v10_23 h24 =>
pgk false h24 (fun g25 k26 => VL (lift1 (aun .not) v10_23) fun v11_27 =>
k26 v11_27 h24) (fun g28 v11_29 h30 =>
VL (vpick g28 (.bool true) v11_29) fun v12_31 =>
pcond (
FIN h30 (.bool false) Φ) (
pld h30 none (fun v14_32 h33 =>
pld h33 none (fun v16_34 h35 =>
pcal Try.prog 43 17 h35 (fun v17_36 h37 =>
VL (lift2 (abin .eql) v17_36 (.int .i64 1)) fun v18_38 =>
pgk true h37 (fun g39 k40 => k40 (.ptr 1 1) h37) (fun g41 v20_42 h43 =>
pgk true h43 (fun g44 k45 => pld h43 none (fun v21_46 h47 =>
k45 v21_46 h47) v20_42) (fun g48 v21_49 h50 =>
pgk true h50 (fun g51 k52 => VL (lift2 (abin .gtr) v21_49 (.int .i64 0)) fun v22_53 =>
k52 v22_53 h50) (fun g54 v22_55 h56 =>
pgk true h56 (fun g57 k58 => k58 v22_55 h56) (fun g59 v23_60 h61 =>
pgk false h61 (fun g62 k63 => k63 (.ptr 1 0) h61) (fun g64 v24_65 h66 =>
pgk false h66 (fun g67 k68 => pld h66 none (fun v25_69 h70 =>
k68 v25_69 h70) v24_65) (fun g71 v25_72 h73 =>
pgk false h73 (fun g74 k75 => VL (lift2 (abin .eql) v25_72 (.int .i64 1)) fun v26_76 =>
k75 v26_76 h73) (fun g77 v26_78 h79 =>
pgk true h79 (fun g80 k81 => VL (vpick g77 (.bool true) v26_78) fun v27_82 =>
k81 v27_82 h79) (fun g83 v27_84 h85 =>
VL (vpick g83 v27_84 (.bool false)) fun v28_86 =>
FIN h85 v28_86 Φ) g59) g71) g64) v23_60) g54) g48) g41) v18_38) [v14_32, v16_34]) (.ptr 1 1)) (.ptr 1 0)) v12_31) g22) g15) g8) v6_5) [v4_1, (.int .i64 (-1000000000)), (.int .i64 1000000000)]) (.ptr 1 0)
theorem spec_l10Is_f {x0 : V} {Φ : V → Prop} : spec_l10Is_F x0 Φ → PSpec Try.prog 31 [x0] Φ := pfun (fn := Try.f31) (m := [.s, .s, .s, .s, .s]) (c := 1 ≤ 29) rfl (by kernel_rfl) (by decide)

def impl_gcd_F (x0 x1 : V) (Φ : V → Prop) : Prop :=
LP [0, 1] [] (fun w0 l1 h2 N3 =>
VL (lift2 (abin .neq) (w0.getD 1 .und) (.int .i64 0)) fun v6_4 =>
pcond (
VL (lift2 (abin .rem) (w0.getD 0 .und) (w0.getD 1 .und)) fun v10_5 =>
N3 [(w0.getD 1 .und), v10_5] [] h2) (
VL (lift1 (aun .neg) (w0.getD 0 .und)) fun v13_6 =>
VL (lift2 amax (w0.getD 0 .und) v13_6) fun v14_7 =>
FIN h2 v14_7 Φ) v6_4) [x0, x1] [] hnil
theorem impl_gcd_f {x0 x1 : V} {Φ : V → Prop} : impl_gcd_F x0 x1 Φ → PSpec Try.prog 32 [x0, x1] Φ := pfun (fn := Try.f32) (m := [.s, .s, .l [0, 1] [], .s, .s, .s]) (c := 2 ≤ 15) rfl (by kernel_rfl) (by decide)

def spec_l01In_F (x0 x1 x2 : V) (Φ : V → Prop) : Prop :=
VL (lift2 (abin .geq) x0 x1) fun v9_0 =>
pgk true hnil (fun g1 k2 => k2 x0 hnil) (fun g3 v11_4 h5 =>
pgk true h5 (fun g6 k7 => k7 x2 h5) (fun g8 v12_9 h10 =>
pgk true h10 (fun g11 k12 => VL (lift2 (abin .leq) v11_4 v12_9) fun v13_13 =>
k12 v13_13 h10) (fun g14 v13_15 h16 =>
VL (vpick g14 v13_15 (.bool false)) fun v14_17 =>
FIN h16 v14_17 Φ) g8) g3) v9_0
theorem spec_l01In_f {x0 x1 x2 : V} {Φ : V → Prop} : spec_l01In_F x0 x1 x2 Φ → PSpec Try.prog 33 [x0, x1, x2] Φ := pfun (fn := Try.f33) (m := [.s, .s]) (c := 3 ≤ 15) rfl (by kernel_rfl) (by decide)

def spec_l10Make_F (x0 x1 : V) (Φ : V → Prop) : Prop :=
palloc hnil 4 31 [(.int .i64 0), (.int .i64 0)] fun h0 =>
pcal Try.prog 43 10 h0 (fun v10_1 h2 =>
JN (fun k3 =>
VL (lift2 (abin .lss) x1 (.int .i64 0)) fun v12_6 =>
pgk false h2 (fun g7 k8 => k8 x1 h2) (fun g9 v14_10 h11 =>
pgk false h11 (fun g12 k13 => VL (lift2 (abin .eql) v14_10 (.int .i64 0)) fun v15_14 =>
k13 v15_14 h11) (fun g15 v15_16 h17 =>
pgk false h17 (fun g18 k19 => k19 v15_16 h17) (fun g20 v16_21 h22 =>
pgk true h22 (fun g23 k24 => k24 x0 h22) (fun g25 v17_26 h27 =>
pgk true h27 (fun g28 k29 => VL (lift2 (abin .lss) v17_26 (.int .i64 0)) fun v18_30 =>
k29 v18_30 h27) (fun g31 v18_32 h33 =>
pgk false h33 (fun g34 k35 => VL (vpick g31 v18_32 (.bool false)) fun v19_36 =>
k35 v19_36 h33) (fun g37 v19_38 h39 =>
VL (vpick g37 (.bool true) v19_38) fun v20_40 =>
pcond (
VL (lift1 (aun .neg) v10_1) fun v22_41 =>
k3 [x0, x1, (.ptr 4 0), v22_41] h39) (
k3 [x0, x1, (.ptr 4 0), v10_1] h39) v20_40) g20) g25) v16_21) g15) g9) v12_6) fun o4 h5 =>
VL (lift2 (abin .quo) (o4.getD 0 .und) (o4.getD 3 .und)) fun v25_42 =>
VL (lift2 (abin .quo) (o4.getD 1 .und) (o4.getD 3 .und)) fun v28_43 =>
VL (vbld (vfill [(.int .i64 0), (.int .i64 0)] [(0, 1, v25_42), (1, 1, v28_43)])) fun v29_44 =>
palloc h5 7 31 [(.int .i64 0), (.int .i64 0)] fun h45 =>
pst h45 2 (cellsV v29_44) (fun u46 h47 =>
pld h47 (some 2) (fun v30_48 h49 =>
pld h49 (some 2) (fun v31_50 h51 =>
pcal Try.prog 31 32 h51 (fun v32_52 h53 =>
pst h53 2 (cellsV v30_48) (fun u54 h55 =>
VL (pcellV h55 (some 2) (o4.getD 2 .und)) fun r56 =>
FIN h55 (.tup [r56, v32_52]) Φ) (o4.getD 2 .und)) [v31_50]) (.ptr 7 0)) (.ptr 7 0)) (.ptr 7 0)) [x0, x1]
theorem spec_l10Make_f {x0 x1 : V} {Φ : V → Prop} : spec_l10Make_F x0 x1 Φ → PSpec Try.prog 34 [x0, x1] Φ := pfun (fn := Try.f34) (m := [.s, .s, .j [0, 1, 4, 6], .s, .s, .s]) (c := 2 ≤ 33) rfl (by kernel_rfl) (by decide)

def spec_l10Compare_F (x0 x1 : V) (Φ : V → Prop) : Prop :=
pbox hnil 2 31 (cellsV x0) fun h0 =>
pbox h0 3 31 (cellsV x1) fun h1 =>
pld h1 (some 2) (fun v6_2 h3 =>
pld h3 (some 2) (fun v7_4 h5 =>
VL (veqa false true [(.i .i64), (.i .i64)] v6_2 v7_4) fun v8_6 =>
pcond (
FIN h5 (.int .i64 0) Φ) (
pld h5 none (fun v11_7 h8 =>
VL (lift2 (abin .eql) v11_7 (.int .i64 0)) fun v12_9 =>
pcond (
FIN h8 (.int .i64 1) Φ) (
pld h8 none (fun v15_10 h11 =>
VL (lift2 (abin .eql) v15_10 (.int .i64 0)) fun v16_12 =>
pcond (
FIN h11 (.int .i64 (-1)) Φ) (
pld h11 none (fun v19_13 h14 =>
pld h14 none (fun v21_15 h16 =>
VL (lift2 (abin .mul) v19_13 v21_15) fun v22_17 =>
pld h16 none (fun v24_18 h19 =>
pld h19 none (fun v26_20 h21 =>
VL (lift2 (abin .mul) v24_18 v26_20) fun v27_22 =>
VL (lift2 (abin .lss) v22_17 v27_22) fun v28_23 =>
pcond (
FIN h21 (.int .i64 (-1)) Φ) (
FIN h21 (.int .i64 1) Φ) v28_23) (.ptr 2 1)) (.ptr 3 0)) (.ptr 3 1)) (.ptr 2 0)) v16_12) (.ptr 3 1)) v12_9) (.ptr 2 1)) v8_6) (.ptr 3 0)) (.ptr 2 0)
theorem spec_l10Compare_f {x0 x1 : V} {Φ : V → Prop} : spec_l10Compare_F x0 x1 Φ → PSpec Try.prog 35 [x0, x1] Φ := pfun (fn := Try.f35) (m := [.s, .s, .s, .s, .s, .s, .s, .s, .s, .s, .s]) (c := 2 ≤ 29) rfl (by kernel_rfl) (by decide)

def impl_compareFractions_F (x0 x1 : V) (Φ : V → Prop) : Prop :=
pbox hnil 2 31 (cellsV x0) fun h0 =>
pbox h0 3 31 (cellsV x1) fun h1 =>
pld h1 (some 2) (fun v6_2 h3 =>
pld h3 (some 2) (fun v7_4 h5 =>
VL (veqa false true [(.i .i64), (.i .i64)] v6_2 v7_4) fun v8_6 =>
pcond (
FIN h5 (.int .i64 0) Φ) (
pld h5 none (fun v11_7 h8 =>
VL (lift2 (abin .eql) v11_7 (.int .i64 0)) fun v12_9 =>
pcond (
FIN h8 (.int .i64 1) Φ) (
pld h8 none (fun v15_10 h11 =>
VL (lift2 (abin .eql) v15_10 (.int .i64 0)) fun v16_12 =>
pgk false h11 (fun g13 k14 => k14 (.ptr 2 0) h11) (fun g15 v18_16 h17 =>
pgk false h17 (fun g18 k19 => pld h17 none (fun v19_20 h21 =>
k19 v19_20 h21) v18_16) (fun g22 v19_23 h24 =>
pgk false h24 (fun g25 k26 => k26 (.ptr 3 1) h24) (fun g27 v20_28 h29 =>
pgk false h29 (fun g30 k31 => pld h29 none (fun v21_32 h33 =>
k31 v21_32 h33) v20_28) (fun g34 v21_35 h36 =>
pgk false h36 (fun g37 k38 => VL (lift2 (abin .mul) v19_23 v21_35) fun v22_39 =>
k38 v22_39 h36) (fun g40 v22_41 h42 =>
pgk false h42 (fun g43 k44 => k44 (.ptr 3 0) h42) (fun g45 v23_46 h47 =>
pgk false h47 (fun g48 k49 => pld h47 none (fun v24_50 h51 =>
k49 v24_50 h51) v23_46) (fun g52 v24_53 h54 =>
pgk false h54 (fun g55 k56 => k56 (.ptr 2 1) h54) (fun g57 v25_58 h59 =>
pgk false h59 (fun g60 k61 => pld h59 none (fun v26_62 h63 =>
k61 v26_62 h63) v25_58) (fun g64 v26_65 h66 =>
pgk false h66 (fun g67 k68 => VL (lift2 (abin .mul) v24_53 v26_65) fun v27_69 =>
k68 v27_69 h66) (fun g70 v27_71 h72 =>
pgk false h72 (fun g73 k74 => VL (lift2 (abin .lss) v22_41 v27_71) fun v28_75 =>
k74 v28_75 h72) (fun g76 v28_77 h78 =>
VL (vpick g76 (.bool true) v28_77) fun v29_79 =>
pcond (
FIN h78 (.int .i64 (-1)) Φ) (
FIN h78 (.int .i64 1) Φ) v29_79) g70) g64) g57) g52) g45) g40) g34) g27) g22) g15) v16_12) (.ptr 3 1)) v12_9) (.ptr 2 1)) v8_6) (.ptr 3 0)) (.ptr 2 0)
theorem impl_compareFractions_f {x0 x1 : V} {Φ : V → Prop} : impl_compareFractions_F x0 x1 Φ → PSpec Try.prog 36 [x0, x1] Φ := pfun (fn := Try.f36) (m := [.s, .s, .s, .s, .s, .s, .s, .s, .s]) (c := 2 ≤ 30) rfl (by kernel_rfl) (by decide)

def spec_l10Moves_F (x0 : V) (Φ : V → Prop) : Prop :=
LP [3] [0] (fun w0 l1 h2 N3 =>
VL (vlenS (l1.getD 0 .und)) fun v6_4 =>
VL (lift2 (abin .lss) (w0.getD 0 .und) v6_4) fun v7_5 =>
pcond (
VL (vixS 3 (l1.getD 0 .und) (w0.getD 0 .und)) fun v12_6 =>
pld h2 (some 3) (fun v13_7 h8 =>
pcal Try.prog 30 14 h8 (fun v14_9 h10 =>
VL (lift1 (aun .not) v14_9) fun v15_11 =>
pcond (
FIN h10 (.int .i64 1) Φ) (
VL (lift2 (abin .add) (w0.getD 0 .und) (.int .i64 1)) fun v9_12 =>
N3 [v9_12] [(l1.getD 0 .und)] h10) v15_11) [v13_7]) v12_6) (
VL (vlenS (l1.getD 0 .und)) fun v17_13 =>
VL (lift2 (abin .gtr) v17_13 (.int .i64 20)) fun v18_14 =>
pcond (
FIN h2 (.int .i64 2) Φ) (
FIN h2 (.int .i64 0) Φ) v18_14) v7_5) [(.int .i64 0)] [x0] hnil
theorem spec_l10Moves_f {x0 : V} {Φ : V → Prop} : spec_l10Moves_F x0 Φ → PSpec Try.prog 37 [x0] Φ := pfun (fn := Try.f37) (m := [.s, .s, .s, .l [3] [0], .s, .s, .s, .s, .s, .s, .s, .s, .s]) (c := 1 ≤ 19) rfl (by kernel_rfl) (by decide)

def spec_l10Degree_F (x0 : V) (Φ : V → Prop) : Prop :=
pbox hnil 1 25 (cellsV x0) fun h0 =>
pld h0 none (fun v4_1 h2 =>
pld h2 none (fun v6_3 h4 =>
VL (lift2 (abin .add) v4_1 v6_3) fun v7_5 =>
VL (lift2 amax (.int .i64 1) v7_5) fun v8_6 =>
FIN h4 v8_6 Φ) (.ptr 1 2)) (.ptr 1 1)
theorem spec_l10Degree_f {x0 : V} {Φ : V → Prop} : spec_l10Degree_F x0 Φ → PSpec Try.prog 38 [x0] Φ := pfun (fn := Try.f38) (m := [.s, .s]) (c := 1 ≤ 9) rfl (by kernel_rfl) (by decide)

def impl_movesCode_F (x0 : V) (Φ : V → Prop) : Prop :=
VL (vlenS x0) fun v6_0 =>
LP [7] [0, 5, 6] (fun w1 l2 h3 N4 =>
VL (lift2 (abin .lss) (w1.getD 0 .und) (l2.getD 2 .und)) fun v8_5 =>
pcond (
VL (vixS 3 (l2.getD 1 .und) (w1.getD 0 .und)) fun v9_6 =>
pld h3 (some 3) (fun v10_7 h8 =>
palloc h8 4 25 [(.int .i64 0), (.int .i64 0), (.int .i64 0)] fun h9 =>
pst h9 3 (cellsV v10_7) (fun u10 h11 =>
pld h11 (some 3) (fun v11_12 h13 =>
pcal Try.prog 11 12 h13 (fun v12_14 h15 =>
VL (lift1 (aun .not) v12_14) fun v13_16 =>
pcond (
FIN h15 (.int .i64 1) Φ) (
VL (lift2 (abin .add) (w1.getD 0 .und) (.int .i64 1)) fun v14_17 =>
N4 [v14_17] [(l2.getD 0 .und), (l2.getD 1 .und), (l2.getD 2 .und)] h15) v13_16) [v11_12]) (.ptr 4 0)) (.ptr 4 0)) v9_6) (
VL (vlenS (l2.getD 0 .und)) fun v16_18 =>
VL (lift2 (abin .gtr) v16_18 (.int .i64 20)) fun v17_19 =>
pcond (
FIN h3 (.int .i64 2) Φ) (
FIN h3 (.int .i64 0) Φ) v17_19) v8_5) [(.int .i64 0)] [x0, x0, v6_0] hnil
theorem impl_movesCode_f {x0 : V} {Φ : V → Prop} : impl_movesCode_F x0 Φ → PSpec Try.prog 39 [x0] Φ := pfun (fn := Try.f39) (m := [.s, .s, .s, .l [7] [0, 5, 6], .s, .s, .s, .s, .s, .s, .s, .s, .s, .s]) (c := 1 ≤ 18) rfl (by kernel_rfl) (by decide)

def impl_degree_F (x0 : V) (Φ : V → Prop) : Prop :=
pbox hnil 1 25 (cellsV x0) fun h0 =>
pld h0 none (fun v4_1 h2 =>
pld h2 none (fun v6_3 h4 =>
VL (lift2 (abin .add) v4_1 v6_3) fun v7_5 =>
VL (lift2 amax v7_5 (.int .i64 1)) fun v8_6 =>
FIN h4 v8_6 Φ) (.ptr 1 2)) (.ptr 1 1)
theorem impl_degree_f {x0 : V} {Φ : V → Prop} : impl_degree_F x0 Φ → PSpec Try.prog 40 [x0] Φ := pfun (fn := Try.f40) (m := [.s, .s]) (c := 1 ≤ 9) rfl (by kernel_rfl) (by decide)

def laws_eqMove_F (x0 x1 : V) (Φ : V → Prop) : Prop :=
pbox hnil 2 25 (cellsV x0) fun h0 =>
pbox h0 3 25 (cellsV x1) fun h1 =>
pld h1 none (fun v6_2 h3 =>
pld h3 none (fun v8_4 h5 =>
VL (lift2 (abin .neq) v6_2 v8_4) fun v9_6 =>
pcond (
FIN h5 (.bool false) Φ) (
pld h5 none (fun v11_7 h8 =>
pld h8 none (fun v13_9 h10 =>
VL (lift2 (abin .neq) v11_7 v13_9) fun v14_11 =>
pcond (
FIN h10 (.bool false) Φ) (
pld h10 none (fun v16_12 h13 =>
pld h13 none (fun v18_14 h15 =>
VL (lift2 (abin .neq) v16_12 v18_14) fun v19_16 =>
pcond (
FIN h15 (.bool false) Φ) (
FIN h15 (.bool true) Φ) v19_16) (.ptr 3 2)) (.ptr 2 2)) v14_11) (.ptr 3 1)) (.ptr 2 1)) v9_6) (.ptr 3 0)) (.ptr 2 0)
theorem laws_eqMove_f {x0 x1 : V} {Φ : V → Prop} : laws_eqMove_F x0 x1 Φ → PSpec Try.prog 41 [x0, x1] Φ := pfun (fn := Try.f41) (m := [.s, .s, .s, .s, .s, .s, .s, .s, .s, .s, .s]) (c := 2 ≤ 20) rfl (by kernel_rfl) (by decide)

def spec_l10Set_F (x0 : V) (Φ : V → Prop) : Prop :=
LP [3] [0] (fun w0 l1 h2 N3 =>
VL (vlenS (l1.getD 0 .und)) fun v6_4 =>
VL (lift2 (abin .lss) (w0.getD 0 .und) v6_4) fun v7_5 =>
pcond (
VL (vixS 2 (l1.getD 0 .und) (w0.getD 0 .und)) fun v12_6 =>
pld h2 (some 2) (fun v13_7 h8 =>
pcal Try.prog 31 14 h8 (fun v14_9 h10 =>
VL (lift1 (aun .not) v14_9) fun v15_11 =>
pgk false h10 (fun g12 k13 => k13 (w0.getD 0 .und) h10) (fun g14 v17_15 h16 =>
pgk false h16 (fun g17 k18 => VL (lift2 (abin .gtr) v17_15 (.int .i64 0)) fun v18_19 =>
k18 v18_19 h16) (fun g20 v18_21 h22 =>
pgk false h22 (fun g23 k24 => k24 v18_21 h22) (fun g25 v19_26 h27 =>
pgk true h27 (fun g28 k29 => k29 (l1.getD 0 .und) h27) (fun g30 v20_31 h32 =>
pgk true h32 (fun g33 k34 => k34 (w0.getD 0 .und) h32) (fun g35 v21_36 h37 =>
pgk true h37 (fun g38 k39 => VL (lift2 (abin .sub) v21_36 (.int .i64 1)) fun v22_40 =>
k39 v22_40 h37) (fun g41 v22_42 h43 =>
pgk true h43 (fun g44 k45 => VL (vixS 2 v20_31 v22_42) fun v23_46 =>
k45 v23_46 h43) (fun g47 v23_48 h49 =>
pgk true h49 (fun g50 k51 => pld h49 (some 2) (fun v24_52 h53 =>
k51 v24_52 h53) v23_48) (fun g54 v24_55 h56 =>
pgk true h56 (fun g57 k58 => k58 (l1.getD 0 .und) h56) (fun g59 v25_60 h61 =>
pgk true h61 (fun g62 k63 => k63 (w0.getD 0 .und) h61) (fun g64 v26_65 h66 =>
pgk true h66 (fun g67 k68 => VL (vixS 2 v25_60 v26_65) fun v27_69 =>
k68 v27_69 h66) (fun g70 v27_71 h72 =>
pgk true h72 (fun g73 k74 => pld h72 (some 2) (fun v28_75 h76 =>
k74 v28_75 h76) v27_71) (fun g77 v28_78 h79 =>
pgk true h79 (fun g80 k81 => pcal Try.prog 35 29 h79 (fun v29_82 h83 =>
k81 v29_82 h83) [v24_55, v28_78]) (fun g84 v29_85 h86 =>
pgk true h86 (fun g87 k88 => VL (lift2 (abin .geq) v29_85 (.int .i64 0)) fun v30_89 =>
k88 v30_89 h86) (fun g90 v30_91 h92 =>
pgk false h92 (fun g93 k94 => VL (vpick g90 v30_91 (.bool false)) fun v31_95 =>
k94 v31_95 h92) (fun g96 v31_97 h98 =>
VL (vpick g96 (.bool true) v31_97) fun v32_99 =>
pcond (
FIN h98 (.bool false) Φ) (
VL (lift2 (abin .add) (w0.getD 0 .und) (.int .i64 1)) fun v9_100 =>
N3 [v9_100] [(l1.getD 0 .und)] h98) v32_99) g25) g84) g77) g70) g64) g59) g54) g47) g41) g35) g30) v19_26) g20) g14) v15_11) [v13_7]) v12_6) (
VL (vlenS (l1.getD 0 .und)) fun v34_101 =>
VL (lift2 (abin .leq) v34_101 (.int .i64 12)) fun v35_102 =>
FIN h2 v35_102 Φ) v7_5) [(.int .i64 0)] [x0] hnil
theorem spec_l10Set_f {x0 : V} {Φ : V → Prop} : spec_l10Set_F x0 Φ → PSpec Try.prog 42 [x0] Φ := pfun (fn := Try.f42) (m := [.s, .s, .s, .l [3] [0], .s, .s, .s, .s, .s, .s]) (c := 1 ≤ 36) rfl (by kernel_rfl) (by decide)

def spec_l10Common_F (x0 x1 : V) (Φ : V → Prop) : Prop :=
LP [0, 1] [] (fun w0 l1 h2 N3 =>
VL (lift2 (abin .neq) (w0.getD 1 .und) (.int .i64 0)) fun v7_4 =>
pcond (
VL (lift2 (abin .rem) (w0.getD 0 .und) (w0.getD 1 .und)) fun v10_5 =>
N3 [(w0.getD 1 .und), v10_5] [] h2) (
VL (lift1 (aun .neg) (w0.getD 0 .und)) fun v15_6 =>
VL (lift2 amax (w0.getD 0 .und) v15_6) fun v16_7 =>
FIN h2 v16_7 Φ) v7_4) [x0, x1] [] hnil
theorem spec_l10Common_f {x0 x1 : V} {Φ : V → Prop} : spec_l10Common_F x0 x1 Φ → PSpec Try.prog 43 [x0, x1] Φ := pfun (fn := Try.f43) (m := [.s, .s, .l [0, 1] [], .s, .s, .s, .s, .s]) (c := 2 ≤ 17) rfl (by kernel_rfl) (by decide)

end Go.Proofs.Ytbjmdjnopgojdaa.Sep
