/- Texts put together: Form, C20, C21, C24, C25, C29, C23, C26, C27, C22. -/
import Derived.Test.YtpeglkcbhffaaaaGreatK3
import Derived.Test.YtpeglkcbhffaaaaGreatProg
import Derived.KernelRfl
namespace Go.Proofs.YtpeglkcbhffaaaaGreat.Sep
open Go.RowKit
set_option linter.unusedVariables false
set_option linter.unusedSimpArgs false
set_option maxRecDepth 20000
section
set_option maxRecDepth 1000000
def laws_FnHomology_F (x0 : V) (hi : Hp) (Rt : Hp → V → Prop) : Prop :=
pcal Tryz.prog 4 126 hi (fun a1 b1 =>
pcond (
Rt b1 (.bool true)) (
pcal Tryz.prog 5 128 b1 (fun c1 d1 =>
palloc d1 67 27 ([(.int .i64 0)] ++ (vi .u8 (List.replicate 32 0))) fun e1 =>
pst e1 33 (cellsV c1) (fun f1 g1 =>
pld g1 (some 33) (fun h1 i1 =>
pcal Tryz.prog 6 131 i1 (fun j1 k1 =>
VL (vext 0 j1) fun l1 =>
VL (vext 1 j1) fun m1 =>
pld k1 (some 33) (fun n1 o1 =>
pcal Tryz.prog 7 136 o1 (fun p1 q1 =>
VL (vext 0 p1) fun r1 =>
VL (vext 1 p1) fun s1 =>
pld q1 (some 33) (fun t1 u1 =>
pcal Tryz.prog 8 141 u1 (fun v1 w1 =>
VL (vext 0 v1) fun y1 =>
VL (vext 1 v1) fun z1 =>
pld w1 (some 33) (fun a2 b2 =>
pcal Tryz.prog 9 146 b2 (fun c2 d2 =>
VL (vext 0 c2) fun e2 =>
VL (vext 1 c2) fun f2 =>
pld d2 (some 33) (fun g2 h2 =>
pcal Tryz.prog 10 151 h2 (fun i2 j2 =>
VL (vext 0 i2) fun k2 =>
VL (vext 1 i2) fun l2 =>
pld j2 (some 33) (fun m2 n2 =>
pcal Tryz.prog 11 156 n2 (fun o2 p2 =>
VL (vext 0 o2) fun q2 =>
VL (vext 1 o2) fun r2 =>
pld p2 (some 33) (fun s2 t2 =>
pcal Tryz.prog 12 161 t2 (fun u2 v2 =>
VL (vext 0 u2) fun w2 =>
VL (vext 1 u2) fun y2 =>
pld v2 (some 33) (fun z2 a3 =>
pcal Tryz.prog 13 166 a3 (fun b3 c3 =>
VL (vext 0 b3) fun d3 =>
VL (vext 1 b3) fun e3 =>
VL (lift2 (abin .neq) m1 s1) fun f3 =>
pgk false c3 (fun g3 h3 => h3 l1 c3) (fun i3 j3 k3 =>
pgk false k3 (fun l3 m3 => m3 r1 k3) (fun n3 o3 p3 =>
pgk false p3 (fun q3 r3 => pcal Tryz.prog 14 175 p3 (fun s3 t3 =>
r3 s3 t3) [j3, o3]) (fun u3 v3 w3 =>
pgk false w3 (fun y3 z3 => VL (lift1 (aun .not) v3) fun a4 =>
z3 a4 w3) (fun b4 c4 d4 =>
VL (vpick b4 (.bool true) c4) fun e4 =>
pgk false d4 (fun f4 g4 => g4 z1 d4) (fun h4 i4 j4 =>
pgk false j4 (fun k4 l4 => l4 f2 j4) (fun m4 n4 o4 =>
pgk false o4 (fun p4 q4 => VL (lift2 (abin .neq) i4 n4) fun r4 =>
q4 r4 o4) (fun s4 t4 u4 =>
VL (vpick s4 (.bool true) t4) fun v4 =>
pgk false u4 (fun w4 y4 => y4 y1 u4) (fun z4 a5 b5 =>
pgk false b5 (fun c5 d5 => d5 e2 b5) (fun e5 f5 g5 =>
pgk false g5 (fun h5 i5 => pcal Tryz.prog 14 186 g5 (fun j5 k5 =>
i5 j5 k5) [a5, f5]) (fun l5 m5 n5 =>
pgk false n5 (fun o5 p5 => VL (lift1 (aun .not) m5) fun q5 =>
p5 q5 n5) (fun r5 s5 t5 =>
VL (vpick r5 (.bool true) s5) fun u5 =>
pgk false t5 (fun v5 w5 => w5 l2 t5) (fun y5 z5 a6 =>
pgk false a6 (fun b6 c6 => c6 r2 a6) (fun d6 e6 f6 =>
pgk false f6 (fun g6 h6 => VL (lift2 (abin .neq) z5 e6) fun i6 =>
h6 i6 f6) (fun j6 k6 l6 =>
VL (vpick j6 (.bool true) k6) fun m6 =>
pgk false l6 (fun n6 o6 => o6 k2 l6) (fun p6 q6 r6 =>
pgk false r6 (fun s6 t6 => t6 q2 r6) (fun u6 v6 w6 =>
pgk false w6 (fun y6 z6 => pcal Tryz.prog 14 197 w6 (fun a7 b7 =>
z6 a7 b7) [q6, v6]) (fun c7 d7 e7 =>
pgk false e7 (fun f7 g7 => VL (lift1 (aun .not) d7) fun h7 =>
g7 h7 e7) (fun i7 j7 k7 =>
VL (vpick i7 (.bool true) j7) fun l7 =>
pgk false k7 (fun m7 n7 => n7 y2 k7) (fun o7 p7 q7 =>
pgk false q7 (fun r7 s7 => s7 e3 q7) (fun t7 u7 v7 =>
pgk false v7 (fun w7 y7 => VL (lift2 (abin .neq) p7 u7) fun z7 =>
y7 z7 v7) (fun a8 b8 c8 =>
VL (vpick a8 (.bool true) b8) fun d8 =>
pgk false c8 (fun e8 f8 => f8 w2 c8) (fun g8 h8 i8 =>
pgk false i8 (fun j8 k8 => k8 d3 i8) (fun l8 m8 n8 =>
pgk false n8 (fun o8 p8 => pcal Tryz.prog 15 208 n8 (fun q8 r8 =>
p8 q8 r8) [h8, m8]) (fun s8 t8 v8 =>
pgk false v8 (fun w8 y8 => VL (lift1 (aun .not) t8) fun z8 =>
y8 z8 v8) (fun a9 b9 c9 =>
VL (vpick a9 (.bool true) b9) fun d9 =>
pcond (
Rt c9 (.bool false)) (
JN (fun e9 =>
VL (lift2 (abin .eql) m1 (.int .i64 0)) fun f9 =>
pcond (
pld c9 (some 33) (fun g9 h9 =>
pcal Tryz.prog 16 215 h9 (fun i9 j9 =>
VL (vext 0 i9) fun k9 =>
VL (vext 1 i9) fun l9 =>
VL (lift2 (abin .neq) l9 (.int .i64 0)) fun m9 =>
pgk false j9 (fun n9 o9 => o9 y1 j9) (fun p9 q9 r9 =>
pgk false r9 (fun s9 t9 => VL (vlenS q9) fun u9 =>
t9 u9 r9) (fun v9 w9 y9 =>
pgk false y9 (fun z9 a10 => a10 k9 y9) (fun b10 c10 d10 =>
pgk false d10 (fun e10 f10 => VL (lift2 (abin .mul) (.int .i64 2) c10) fun g10 =>
f10 g10 d10) (fun h10 i10 j10 =>
pgk false j10 (fun k10 l10 => VL (lift2 (abin .neq) w9 i10) fun m10 =>
l10 m10 j10) (fun n10 o10 p10 =>
VL (vpick n10 (.bool true) o10) fun q10 =>
pgk false p10 (fun r10 s10 => s10 l1 p10) (fun t10 u10 v10 =>
pgk false v10 (fun w10 y10 => VL (vlenS u10) fun z10 =>
y10 z10 v10) (fun a11 b11 c11 =>
pgk false c11 (fun d11 e11 => e11 y1 c11) (fun f11 g11 h11 =>
pgk false h11 (fun i11 j11 => VL (vlenS g11) fun k11 =>
j11 k11 h11) (fun l11 m11 n11 =>
pgk false n11 (fun o11 p11 => VL (lift2 (abin .neq) b11 m11) fun q11 =>
p11 q11 n11) (fun r11 s11 t11 =>
VL (vpick r11 (.bool true) s11) fun u11 =>
pcond (
Rt t11 (.bool false)) (
pld t11 none (fun v11 w11 =>
pmk w11 236 2 8 [(.int .i64 0)] (fun y11 z11 =>
LP [23] [0, 3, 4, 8, 12, 22] (fun a12 b12 c12 d12 =>
VL (vlenS (b12.getD 4 .und)) fun e12 =>
VL (lift2 (abin .lss) (a12.getD 0 .und) e12) fun f12 =>
pcond (
pld c12 (some 33) (fun g12 h12 =>
VL (vixS 1 (b12.getD 4 .und) (a12.getD 0 .und)) fun i12 =>
pld h12 none (fun j12 k12 =>
pcal Tryz.prog 17 249 k12 (fun l12 m12 =>
VL (vext 0 l12) fun n12 =>
VL (vext 1 l12) fun o12 =>
VL (lift2 (abin .neq) o12 (.int .i64 0)) fun p12 =>
pgk false m12 (fun q12 r12 => r12 n12 m12) (fun s12 t12 u12 =>
pgk false u12 (fun v12 w12 => VL (lift1 (aun .not) t12) fun y12 =>
w12 y12 u12) (fun z12 a13 b13 =>
VL (vpick z12 (.bool true) a13) fun c13 =>
pcond (
Rt b13 (.bool false)) (
LP [26] [0, 3, 4, 8, 12, 22, 23] (fun d13 e13 f13 g13 =>
VL (vfa 0 (e13.getD 1 .und)) fun h13 =>
pld f13 none (fun i13 j13 =>
VL (lift2 (abin .lss) (d13.getD 0 .und) i13) fun k13 =>
pcond (
VL (vixS 1 (e13.getD 5 .und) (d13.getD 0 .und)) fun l13 =>
pld j13 none (fun m13 n13 =>
VL (vixS 1 (e13.getD 4 .und) (e13.getD 6 .und)) fun o13 =>
pld n13 none (fun p13 q13 =>
VL (vixS 1 p13 (d13.getD 0 .und)) fun r13 =>
pld q13 none (fun s13 t13 =>
VL (lift2 (abin .add) m13 s13) fun u13 =>
VL (vixS 1 (e13.getD 5 .und) (d13.getD 0 .und)) fun v13 =>
pst t13 1 (cellsV u13) (fun w13 y13 =>
VL (lift2 (abin .add) (d13.getD 0 .und) (.int .i64 1)) fun z13 =>
g13 [z13] [(e13.getD 0 .und), (e13.getD 1 .und), (e13.getD 2 .und), (e13.getD 3 .und), (e13.getD 4 .und), (e13.getD 5 .und), (e13.getD 6 .und)] y13) v13) r13) o13) l13) (
VL (lift2 (abin .add) (e13.getD 6 .und) (.int .i64 1)) fun a14 =>
d12 [a14] [(e13.getD 0 .und), (e13.getD 1 .und), (e13.getD 2 .und), (e13.getD 3 .und), (e13.getD 4 .und), (e13.getD 5 .und)] j13) k13) h13) [(.int .i64 0)] [(b12.getD 0 .und), (b12.getD 1 .und), (b12.getD 2 .und), (b12.getD 3 .und), (b12.getD 4 .und), (b12.getD 5 .und), (a12.getD 0 .und)] b13) c13) s12) p12) [g12, j12]) i12) (b12.getD 1 .und)) (
LP [27] [0, 3, 4, 8, 22] (fun b14 c14 d14 e14 =>
VL (vfa 0 (c14.getD 1 .und)) fun f14 =>
pld d14 none (fun g14 h14 =>
VL (lift2 (abin .lss) (b14.getD 0 .und) g14) fun i14 =>
pcond (
VL (vixS 1 (c14.getD 4 .und) (b14.getD 0 .und)) fun j14 =>
pld h14 none (fun k14 l14 =>
VL (lift2 (abin .neq) k14 (.int .i64 0)) fun m14 =>
pcond (
Rt l14 (.bool false)) (
VL (lift2 (abin .add) (b14.getD 0 .und) (.int .i64 1)) fun n14 =>
e14 [n14] [(c14.getD 0 .und), (c14.getD 1 .und), (c14.getD 2 .und), (c14.getD 3 .und), (c14.getD 4 .und)] l14) m14) j14) (
LP [28] [0, 3, 4, 8] (fun o14 p14 q14 r14 =>
VL (vlenS (p14.getD 2 .und)) fun s14 =>
VL (lift2 (abin .lss) (o14.getD 0 .und) s14) fun t14 =>
pcond (
LP [29] [0, 3, 4, 8, 28] (fun u14 v14 w14 y14 =>
VL (vlenS (v14.getD 2 .und)) fun z14 =>
VL (lift2 (abin .lss) (u14.getD 0 .und) z14) fun a15 =>
pcond (
VL (vixS 1 (v14.getD 2 .und) (v14.getD 4 .und)) fun b15 =>
pld w14 none (fun c15 d15 =>
VL (vixS 1 c15 (u14.getD 0 .und)) fun e15 =>
pld d15 none (fun f15 g15 =>
VL (vixS 1 (v14.getD 2 .und) (u14.getD 0 .und)) fun h15 =>
pld g15 none (fun i15 j15 =>
VL (vixS 1 i15 (v14.getD 4 .und)) fun k15 =>
pld j15 none (fun l15 m15 =>
VL (lift1 (aun .neg) l15) fun n15 =>
VL (lift2 (abin .neq) f15 n15) fun o15 =>
pcond (
Rt m15 (.bool false)) (
VL (lift2 (abin .add) (u14.getD 0 .und) (.int .i64 1)) fun p15 =>
y14 [p15] [(v14.getD 0 .und), (v14.getD 1 .und), (v14.getD 2 .und), (v14.getD 3 .und), (v14.getD 4 .und)] m15) o15) k15) h15) e15) b15) (
pld w14 (some 33) (fun q15 r15 =>
VL (vixS 1 (v14.getD 3 .und) (v14.getD 4 .und)) fun s15 =>
pld r15 none (fun t15 u15 =>
pcal Tryz.prog 17 324 u15 (fun v15 w15 =>
VL (vext 0 v15) fun y15 =>
VL (vext 1 v15) fun z15 =>
VL (lift2 (abin .neq) z15 (.int .i64 0)) fun a16 =>
pgk false w15 (fun b16 c16 => c16 y15 w15) (fun d16 e16 f16 =>
VL (vpick d16 (.bool true) e16) fun g16 =>
pcond (
Rt f16 (.bool false)) (
VL (lift2 (abin .add) (v14.getD 4 .und) (.int .i64 1)) fun h16 =>
r14 [h16] [(v14.getD 0 .und), (v14.getD 1 .und), (v14.getD 2 .und), (v14.getD 3 .und)] f16) g16) a16) [q15, t15]) s15) (v14.getD 1 .und)) a15) [(.int .i64 0)] [(p14.getD 0 .und), (p14.getD 1 .und), (p14.getD 2 .und), (p14.getD 3 .und), (o14.getD 0 .und)] q14) (
e9 [(p14.getD 0 .und)] q14) t14) [(.int .i64 0)] [(c14.getD 0 .und), (c14.getD 1 .und), (c14.getD 2 .und), (c14.getD 3 .und)] h14) i14) f14) [(.int .i64 0)] [(b12.getD 0 .und), (b12.getD 1 .und), (b12.getD 2 .und), (b12.getD 3 .und), (b12.getD 5 .und)] c12) f12) [(.int .i64 0)] [x0, (.ptr 67 0), l1, y1, k2, y11] z11) v11 v11) (.ptr 67 0)) u11) l11) f11) a11) t10) q10) h10) b10) v9) p9) m9) [g9]) (.ptr 67 0)) (
e9 [x0] c9) f9) fun i16 j16 =>
pcal Tryz.prog 18 334 j16 (fun k16 l16 =>
VL (vext 0 k16) fun m16 =>
VL (vext 1 k16) fun n16 =>
VL (vext 2 k16) fun o16 =>
palloc l16 96 27 ([(.int .i64 0)] ++ (vi .u8 (List.replicate 32 0))) fun p16 =>
pst p16 33 (cellsV m16) (fun q16 r16 =>
pld r16 (some 33) (fun s16 t16 =>
pcal Tryz.prog 19 342 t16 (fun u16 v16 =>
VL (vext 0 u16) fun w16 =>
VL (vext 1 u16) fun y16 =>
pld v16 (some 33) (fun z16 a17 =>
pcal Tryz.prog 20 349 a17 (fun b17 c17 =>
VL (vext 0 b17) fun d17 =>
VL (vext 1 b17) fun e17 =>
VL (lift2 (abin .neq) y16 e17) fun f17 =>
pgk false c17 (fun g17 h17 => h17 w16 c17) (fun i17 j17 k17 =>
pgk false k17 (fun l17 m17 => m17 d17 k17) (fun n17 o17 p17 =>
pgk false p17 (fun q17 r17 => VL (lift2 (abin .neq) j17 o17) fun s17 =>
r17 s17 p17) (fun t17 u17 v17 =>
VL (vpick t17 (.bool true) u17) fun w17 =>
pcond (
Rt v17 (.bool false)) (
JN (fun y17 =>
VL (lift2 (abin .eql) y16 (.int .i64 0)) fun z17 =>
pcond (
pld v17 (some 33) (fun a18 b18 =>
pcal Tryz.prog 19 366 b18 (fun c18 d18 =>
VL (vext 0 c18) fun e18 =>
VL (vext 1 c18) fun f18 =>
VL (lift2 (abin .neq) f18 (.int .i64 0)) fun g18 =>
pgk false d18 (fun h18 i18 => i18 e18 d18) (fun j18 k18 l18 =>
pgk false l18 (fun m18 n18 => n18 w16 l18) (fun o18 p18 q18 =>
pgk false q18 (fun r18 s18 => VL (lift1 (aun .neg) p18) fun t18 =>
s18 t18 q18) (fun u18 v18 w18 =>
pgk false w18 (fun y18 z18 => VL (lift2 (abin .neq) k18 v18) fun a19 =>
z18 a19 w18) (fun b19 c19 d19 =>
VL (vpick b19 (.bool true) c19) fun e19 =>
pcond (
Rt d19 (.bool false)) (
y17 [(i16.getD 0 .und)] d19) e19) u18) o18) j18) g18) [a18, o16, n16]) (.ptr 96 0)) (
y17 [(i16.getD 0 .und)] v17) z17) fun f19 g19 =>
pcal Tryz.prog 21 379 g19 (fun h19 i19 =>
VL (vext 0 h19) fun j19 =>
VL (vext 1 h19) fun k19 =>
palloc i19 105 27 ([(.int .i64 0)] ++ (vi .u8 (List.replicate 32 0))) fun l19 =>
pst l19 33 (cellsV j19) (fun m19 n19 =>
pld n19 (some 33) (fun o19 p19 =>
pcal Tryz.prog 17 385 p19 (fun q19 r19 =>
VL (vext 0 q19) fun s19 =>
VL (vext 1 q19) fun t19 =>
pld r19 (some 33) (fun u19 v19 =>
pcal Tryz.prog 22 391 v19 (fun w19 y19 =>
VL (vext 0 w19) fun z19 =>
VL (vext 1 w19) fun a20 =>
pcal Tryz.prog 23 396 y19 (fun b20 c20 =>
VL (vext 0 b20) fun d20 =>
VL (vext 1 b20) fun e20 =>
palloc c20 111 27 ([(.int .i64 0)] ++ (vi .u8 (List.replicate 32 0))) fun f20 =>
pst f20 33 (cellsV d20) (fun g20 h20 =>
pld h20 (some 33) (fun i20 j20 =>
pcal Tryz.prog 24 402 j20 (fun k20 l20 =>
VL (vext 0 k20) fun m20 =>
VL (vext 1 k20) fun n20 =>
pld l20 (some 33) (fun o20 p20 =>
pcal Tryz.prog 25 408 p20 (fun q20 r20 =>
VL (vext 0 q20) fun s20 =>
VL (vext 1 q20) fun t20 =>
pcal Tryz.prog 26 413 r20 (fun u20 v20 =>
VL (vext 0 u20) fun w20 =>
VL (vext 1 u20) fun y20 =>
palloc v20 117 27 ([(.int .i64 0)] ++ (vi .u8 (List.replicate 32 0))) fun z20 =>
pst z20 33 (cellsV w20) (fun a21 b21 =>
pld b21 (some 33) (fun c21 d21 =>
pcal Tryz.prog 27 419 d21 (fun e21 f21 =>
VL (vext 0 e21) fun g21 =>
VL (vext 1 e21) fun h21 =>
pld f21 (some 33) (fun i21 j21 =>
pcal Tryz.prog 28 425 j21 (fun k21 l21 =>
VL (vext 0 k21) fun m21 =>
VL (vext 1 k21) fun n21 =>
VL (lift2 (abin .neq) t19 a20) fun o21 =>
pgk false l21 (fun p21 q21 => q21 s19 l21) (fun r21 s21 t21 =>
pgk false t21 (fun u21 v21 => v21 z19 t21) (fun w21 y21 z21 =>
pgk false z21 (fun a22 b22 => VL (veqa true false [.b] s21 y21) fun c22 =>
b22 c22 z21) (fun d22 e22 f22 =>
VL (vpick d22 (.bool true) e22) fun g22 =>
pgk false f22 (fun h22 i22 => i22 n20 f22) (fun j22 k22 l22 =>
pgk false l22 (fun m22 n22 => n22 t20 l22) (fun o22 p22 q22 =>
pgk false q22 (fun r22 s22 => VL (lift2 (abin .neq) k22 p22) fun t22 =>
s22 t22 q22) (fun u22 v22 w22 =>
VL (vpick u22 (.bool true) v22) fun y22 =>
pgk false w22 (fun z22 a23 => a23 m20 w22) (fun b23 c23 d23 =>
pgk false d23 (fun e23 f23 => f23 s20 d23) (fun g23 h23 i23 =>
pgk false i23 (fun j23 k23 => VL (veqa true false [.b] c23 h23) fun l23 =>
k23 l23 i23) (fun m23 n23 o23 =>
VL (vpick m23 (.bool true) n23) fun p23 =>
pgk false o23 (fun q23 r23 => r23 h21 o23) (fun s23 t23 u23 =>
pgk false u23 (fun v23 w23 => w23 n21 u23) (fun y23 z23 a24 =>
pgk false a24 (fun b24 c24 => VL (lift2 (abin .neq) t23 z23) fun d24 =>
c24 d24 a24) (fun e24 f24 g24 =>
VL (vpick e24 (.bool true) f24) fun h24 =>
pgk false g24 (fun i24 j24 => j24 g21 g24) (fun k24 l24 m24 =>
pgk false m24 (fun n24 o24 => o24 m21 m24) (fun p24 q24 r24 =>
pgk false r24 (fun s24 t24 => pcal Tryz.prog 15 454 r24 (fun u24 v24 =>
t24 u24 v24) [l24, q24]) (fun w24 y24 z24 =>
pgk false z24 (fun a25 b25 => VL (lift1 (aun .not) y24) fun c25 =>
b25 c25 z24) (fun d25 e25 f25 =>
VL (vpick d25 (.bool true) e25) fun g25 =>
pcond (
Rt f25 (.bool false)) (
JN (fun h25 =>
VL (lift2 (abin .eql) h21 (.int .i64 0)) fun i25 =>
pcond (
pld f25 (some 33) (fun j25 k25 =>
pcal Tryz.prog 24 462 k25 (fun l25 m25 =>
VL (vext 0 l25) fun n25 =>
VL (vext 1 l25) fun o25 =>
VL (lift2 (abin .neq) o25 (.int .i64 0)) fun p25 =>
pgk false m25 (fun q25 r25 => r25 n25 m25) (fun s25 t25 u25 =>
pgk false u25 (fun v25 w25 => VL (lift1 (aun .not) t25) fun y25 =>
w25 y25 u25) (fun z25 a26 b26 =>
VL (vpick z25 (.bool true) a26) fun c26 =>
pgk false b26 (fun d26 e26 => e26 g21 b26) (fun f26 g26 h26 =>
pgk false h26 (fun i26 j26 => j26 y20 h26) (fun k26 l26 m26 =>
pgk false m26 (fun n26 o26 => VL (vixS 1 g26 l26) fun p26 =>
o26 p26 m26) (fun q26 r26 s26 =>
pgk false s26 (fun t26 u26 => pld s26 none (fun v26 w26 =>
u26 v26 w26) r26) (fun y26 z26 a27 =>
pgk false a27 (fun b27 c27 => VL (lift2 (abin .neq) z26 (.int .i64 1)) fun d27 =>
c27 d27 a27) (fun e27 f27 g27 =>
VL (vpick e27 (.bool true) f27) fun h27 =>
pcond (
Rt g27 (.bool false)) (
h25 [] g27) h27) y26) q26) k26) f26) c26) s25) p25) [j25, g21]) (.ptr 117 0)) (
h25 [] f25) i25) fun i27 j27 =>
Rt j27 (.bool true)) g25) w24) p24) k24) h24) y23) s23) p23) g23) b23) y22) o22) j22) g22) w21) r21) o21) [i21, y20]) (.ptr 117 0)) [c21, y20]) (.ptr 117 0)) (.ptr 117 0)) [(f19.getD 0 .und)]) [o20, e20]) (.ptr 111 0)) [i20, e20]) (.ptr 111 0)) (.ptr 111 0)) [(f19.getD 0 .und)]) [u19, k19]) (.ptr 105 0)) [o19, k19]) (.ptr 105 0)) (.ptr 105 0)) [(f19.getD 0 .und)]) w17) n17) i17) f17) [z16, n16, o16]) (.ptr 96 0)) [s16, n16, o16]) (.ptr 96 0)) (.ptr 96 0)) [(i16.getD 0 .und)]) d9) s8) l8) g8) d8) t7) o7) l7) c7) u6) p6) m6) d6) y5) u5) l5) e5) z4) v4) m4) h4) e4) u3) n3) i3) f3) [z2]) (.ptr 67 0)) [s2]) (.ptr 67 0)) [m2]) (.ptr 67 0)) [g2]) (.ptr 67 0)) [a2]) (.ptr 67 0)) [t1]) (.ptr 67 0)) [n1]) (.ptr 67 0)) [h1]) (.ptr 67 0)) (.ptr 67 0)) [x0]) a1) [x0]
theorem laws_FnHomology_f {x0 : V} : Prt Tryz.prog 3 [x0] (laws_FnHomology_F x0) := pfun (fn := Tryz.f3) (m := [.s, .s, .s, .s, .s, .s, .s, .s, .s, .s, .s, .s, .s, .s, .s, .s, .j [0], .s, .s, .s, .s, .s, .s, .s, .s, .l [23] [0, 3, 4, 8, 12, 22], .s, .s, .s, .s, .s, .s, .s, .s, .l [26] [0, 3, 4, 8, 12, 22, 23], .s, .s, .s, .s, .s, .l [27] [0, 3, 4, 8, 22], .s, .s, .s, .s, .s, .s, .l [28] [0, 3, 4, 8], .s, .s, .s, .s, .s, .l [29] [0, 3, 4, 8, 28], .s, .s, .s, .s, .s, .s, .s, .s, .s, .s, .s, .s, .s, .s, .j [0], .s, .s, .s, .s, .s, .s, .s, .s, .s, .s, .s, .s, .s, .s, .s, .s, .j [], .s, .s, .s, .s, .s]) (c := 1 ≤ 414) rfl (fun h0 Rt => by kernel_rfl) (by decide)
def laws_big_F (x0 : V) (hi : Hp) (Rt : Hp → V → Prop) : Prop :=
VL (vlenS x0) fun a1 =>
VL (lift2 (abin .gtr) a1 (.int .i64 4096)) fun b1 =>
Rt hi b1
theorem laws_big_f {x0 : V} : Prt Tryz.prog 4 [x0] (laws_big_F x0) := pfun (fn := Tryz.f4) (m := [.s, .s]) (c := 1 ≤ 6) rfl (fun h0 Rt => by kernel_rfl) (by decide)
def spec_DrawIntersectionTable_F (x0 : V) (hi : Hp) (Rt : Hp → V → Prop) : Prop :=
palloc hi 66 27 ([(.int .i64 0)] ++ (vi .u8 (List.replicate 32 0))) fun a1 =>
pcal Tryz.prog 30 68 a1 (fun b1 c1 =>
pcal Tryz.prog 29 69 c1 (fun d1 e1 =>
pst e1 33 (cellsV d1) (fun f1 g1 =>
VL (pcellV g1 (some 33) (.ptr 66 0)) fun h1 =>
Rt g1 h1) (.ptr 66 0)) [b1, (.int .i64 16)]) [x0]
theorem spec_DrawIntersectionTable_f {x0 : V} : Prt Tryz.prog 5 [x0] (spec_DrawIntersectionTable_F x0) := pfun (fn := Tryz.f5) (m := [.s, .s]) (c := 1 ≤ 6) rfl (fun h0 Rt => by kernel_rfl) (by decide)
def impl_IntersectionTable_F (x0 : V) (hi : Hp) (Rt : Hp → V → Prop) : Prop :=
pbox hi 65 27 (cellsV x0) fun a1 =>
pld a1 (some 33) (fun b1 c1 =>
pcal Tryz.prog 31 76 c1 (fun d1 e1 =>
VL (lift1 (aun .not) d1) fun f1 =>
pcond (
Rt e1 (.tup [.nils, (.int .i64 1)])) (
pld e1 (some 33) (fun g1 h1 =>
pcal Tryz.prog 32 79 h1 (fun i1 j1 =>
pmks j1 80 32 0 0 (fun k1 =>
VL (vlenS i1) fun l1 =>
LP [5, 19] [1, 4, 17, 18] (fun m1 n1 o1 p1 =>
VL (lift2 (abin .lss) (m1.getD 1 .und) (n1.getD 3 .und)) fun q1 =>
pcond (
VL (vixS 1 (n1.getD 2 .und) (m1.getD 1 .und)) fun r1 =>
pld o1 none (fun s1 t1 =>
pmks t1 87 2 0 0 (fun u1 =>
VL (vlenS (n1.getD 1 .und)) fun v1 =>
LP [8, 26] [1, 4, 5, 7, 17, 18, 19, 24, 25] (fun w1 y1 z1 a2 =>
VL (lift2 (abin .lss) (w1.getD 1 .und) (y1.getD 8 .und)) fun b2 =>
pcond (
VL (vixS 1 (y1.getD 7 .und) (w1.getD 1 .und)) fun c2 =>
pld z1 none (fun d2 e2 =>
pld e2 (some 33) (fun f2 g2 =>
pcal Tryz.prog 33 98 g2 (fun h2 i2 =>
pmks i2 99 2 1 1 (fun j2 =>
papp j2 (fun k2 l2 => papV 2 1 8 100 j2 (fun m2 n2 =>
VL (lift2 (abin .add) (w1.getD 1 .und) (.int .i64 1)) fun o2 =>
a2 [m2, o2] [(y1.getD 0 .und), (y1.getD 1 .und), (y1.getD 2 .und), (y1.getD 3 .und), (y1.getD 4 .und), (y1.getD 5 .und), (y1.getD 6 .und), (y1.getD 7 .und), (y1.getD 8 .und)] n2) k2 l2 (w1.getD 0 .und)) (pavs j2 (w1.getD 0 .und) []) (preadS 1 j2 (.rf 99 0 1))) (vfill [(.int .i64 0)] [(0, 1, h2)])) [f2, (y1.getD 3 .und), d2]) (y1.getD 0 .und)) c2) (
pmks z1 104 32 1 1 (fun p2 =>
papp p2 (fun q2 r2 => papV 32 1 24 105 p2 (fun s2 t2 =>
VL (lift2 (abin .add) (y1.getD 6 .und) (.int .i64 1)) fun u2 =>
p1 [s2, u2] [(y1.getD 0 .und), (y1.getD 1 .und), (y1.getD 4 .und), (y1.getD 5 .und)] t2) q2 r2 (y1.getD 2 .und)) (pavs p2 (y1.getD 2 .und) []) (preadS 1 p2 (.rf 104 0 1))) (vfill [.nils] [(0, 1, (w1.getD 0 .und))])) b2) [(.rf 87 0 0), (.int .i64 0)] [(n1.getD 0 .und), (n1.getD 1 .und), (m1.getD 0 .und), s1, (n1.getD 2 .und), (n1.getD 3 .und), (m1.getD 1 .und), (n1.getD 1 .und), v1] u1) (vfill [] [])) r1) (
Rt o1 (.tup [(m1.getD 0 .und), (.int .i64 0)])) q1) [(.rf 80 0 0), (.int .i64 0)] [(.ptr 65 0), i1, i1, l1] k1) (vfill [] [])) [g1]) (.ptr 65 0)) f1) [b1]) (.ptr 65 0)
theorem impl_IntersectionTable_f {x0 : V} : Prt Tryz.prog 6 [x0] (impl_IntersectionTable_F x0) := pfun (fn := Tryz.f6) (m := [.s, .s, .s, .s, .s, .s, .s, .s, .l [5, 19] [1, 4, 17, 18], .s, .s, .s, .s, .s, .s, .s, .l [8, 26] [1, 4, 5, 7, 17, 18, 19, 24, 25], .s, .s, .s, .s, .s]) (c := 1 ≤ 44) rfl (fun h0 Rt => by kernel_rfl) (by decide)
def spec_IntersectionTable_F (x0 : V) (hi : Hp) (Rt : Hp → V → Prop) : Prop :=
pbox hi 65 27 (cellsV x0) fun a1 =>
pld a1 (some 33) (fun b1 c1 =>
pcal Tryz.prog 34 74 c1 (fun d1 e1 =>
VL (lift1 (aun .not) d1) fun f1 =>
pcond (
Rt e1 (.tup [.nils, (.int .i64 1)])) (
pld e1 (some 33) (fun g1 h1 =>
pcal Tryz.prog 35 77 h1 (fun i1 j1 =>
pmks j1 78 32 0 0 (fun k1 =>
LP [5, 6] [1, 4] (fun l1 m1 n1 o1 =>
VL (vlenS (m1.getD 1 .und)) fun p1 =>
VL (lift2 (abin .lss) (l1.getD 1 .und) p1) fun q1 =>
pcond (
pmks n1 85 2 0 0 (fun r1 =>
LP [7, 8] [1, 4, 5, 6] (fun s1 t1 u1 v1 =>
VL (vlenS (t1.getD 1 .und)) fun w1 =>
VL (lift2 (abin .lss) (s1.getD 1 .und) w1) fun y1 =>
pcond (
pld u1 (some 33) (fun z1 a2 =>
VL (vixS 1 (t1.getD 1 .und) (t1.getD 3 .und)) fun b2 =>
pld a2 none (fun c2 d2 =>
VL (vixS 1 (t1.getD 1 .und) (s1.getD 1 .und)) fun e2 =>
pld d2 none (fun f2 g2 =>
pcal Tryz.prog 36 102 g2 (fun h2 i2 =>
pmks i2 103 2 1 1 (fun j2 =>
papp j2 (fun k2 l2 => papV 2 1 8 104 j2 (fun m2 n2 =>
VL (lift2 (abin .add) (s1.getD 1 .und) (.int .i64 1)) fun o2 =>
v1 [m2, o2] [(t1.getD 0 .und), (t1.getD 1 .und), (t1.getD 2 .und), (t1.getD 3 .und)] n2) k2 l2 (s1.getD 0 .und)) (pavs j2 (s1.getD 0 .und) []) (preadS 1 j2 (.rf 103 0 1))) (vfill [(.int .i64 0)] [(0, 1, h2)])) [z1, c2, f2]) e2) b2) (t1.getD 0 .und)) (
pmks u1 107 32 1 1 (fun p2 =>
papp p2 (fun q2 r2 => papV 32 1 24 108 p2 (fun s2 t2 =>
VL (lift2 (abin .add) (t1.getD 3 .und) (.int .i64 1)) fun u2 =>
o1 [s2, u2] [(t1.getD 0 .und), (t1.getD 1 .und)] t2) q2 r2 (t1.getD 2 .und)) (pavs p2 (t1.getD 2 .und) []) (preadS 1 p2 (.rf 107 0 1))) (vfill [.nils] [(0, 1, (s1.getD 0 .und))])) y1) [(.rf 85 0 0), (.int .i64 0)] [(m1.getD 0 .und), (m1.getD 1 .und), (l1.getD 0 .und), (l1.getD 1 .und)] r1) (vfill [] [])) (
Rt n1 (.tup [(l1.getD 0 .und), (.int .i64 0)])) q1) [(.rf 78 0 0), (.int .i64 0)] [(.ptr 65 0), i1] k1) (vfill [] [])) [g1]) (.ptr 65 0)) f1) [b1]) (.ptr 65 0)
theorem spec_IntersectionTable_f {x0 : V} : Prt Tryz.prog 7 [x0] (spec_IntersectionTable_F x0) := pfun (fn := Tryz.f7) (m := [.s, .s, .s, .s, .s, .s, .s, .l [5, 6] [1, 4], .s, .s, .s, .s, .s, .s, .l [7, 8] [1, 4, 5, 6], .s, .s, .s, .s]) (c := 1 ≤ 46) rfl (fun h0 Rt => by kernel_rfl) (by decide)
def impl_HomologyBasis_F (x0 : V) (hi : Hp) (Rt : Hp → V → Prop) : Prop :=
pbox hi 65 27 (cellsV x0) fun a1 =>
pld a1 (some 33) (fun b1 c1 =>
pcal Tryz.prog 31 69 c1 (fun d1 e1 =>
VL (lift1 (aun .not) d1) fun f1 =>
pcond (
Rt e1 (.tup [.nils, (.int .i64 1)])) (
pld e1 (some 33) (fun g1 h1 =>
pcal Tryz.prog 32 72 h1 (fun i1 j1 =>
Rt j1 (.tup [i1, (.int .i64 0)])) [g1]) (.ptr 65 0)) f1) [b1]) (.ptr 65 0)
theorem impl_HomologyBasis_f {x0 : V} : Prt Tryz.prog 8 [x0] (impl_HomologyBasis_F x0) := pfun (fn := Tryz.f8) (m := [.s, .s, .s, .s, .s]) (c := 1 ≤ 9) rfl (fun h0 Rt => by kernel_rfl) (by decide)
def spec_HomologyBasis_F (x0 : V) (hi : Hp) (Rt : Hp → V → Prop) : Prop :=
pbox hi 65 27 (cellsV x0) fun a1 =>
pld a1 (some 33) (fun b1 c1 =>
pcal Tryz.prog 34 69 c1 (fun d1 e1 =>
VL (lift1 (aun .not) d1) fun f1 =>
pcond (
Rt e1 (.tup [.nils, (.int .i64 1)])) (
pld e1 (some 33) (fun g1 h1 =>
pcal Tryz.prog 35 72 h1 (fun i1 j1 =>
Rt j1 (.tup [i1, (.int .i64 0)])) [g1]) (.ptr 65 0)) f1) [b1]) (.ptr 65 0)
theorem spec_HomologyBasis_f {x0 : V} : Prt Tryz.prog 9 [x0] (spec_HomologyBasis_F x0) := pfun (fn := Tryz.f9) (m := [.s, .s, .s, .s, .s]) (c := 1 ≤ 9) rfl (fun h0 Rt => by kernel_rfl) (by decide)
def impl_BoundariesOf_F (x0 : V) (hi : Hp) (Rt : Hp → V → Prop) : Prop :=
pbox hi 65 27 (cellsV x0) fun a1 =>
pld a1 (some 33) (fun b1 c1 =>
pcal Tryz.prog 31 75 c1 (fun d1 e1 =>
VL (lift1 (aun .not) d1) fun f1 =>
pcond (
Rt e1 (.tup [.nils, (.int .i64 1)])) (
pmks e1 77 32 0 0 (fun g1 =>
pld g1 (some 33) (fun h1 i1 =>
pld i1 none (fun j1 k1 =>
pcalp Tryz.prog 38 79 k1 (fun l1 m1 =>
pcal Tryz.prog 37 82 m1 (fun n1 o1 =>
VL (vlenS n1) fun p1 =>
LP [4, 20] [1, 18, 19] (fun q1 r1 s1 t1 =>
VL (lift2 (abin .lss) (q1.getD 1 .und) (r1.getD 2 .und)) fun u1 =>
pcond (
VL (vixS 1 (r1.getD 1 .und) (q1.getD 1 .und)) fun v1 =>
pld s1 none (fun w1 y1 =>
VL (vfa 0 (r1.getD 0 .und)) fun z1 =>
pld y1 none (fun a2 b2 =>
pmk b2 90 2 8 [(.int .i64 0)] (fun c2 d2 =>
VL (vlenS w1) fun e2 =>
LP [29] [1, 4, 7, 18, 19, 20, 27, 28] (fun f2 g2 h2 i2 =>
VL (lift2 (abin .lss) (f2.getD 0 .und) (g2.getD 7 .und)) fun j2 =>
pcond (
VL (vixS 1 (g2.getD 6 .und) (f2.getD 0 .und)) fun k2 =>
pld h2 none (fun l2 m2 =>
VL (vfa 1 (g2.getD 0 .und)) fun n2 =>
VL (vixA 16 1 n2 l2) fun o2 =>
pld m2 none (fun p2 q2 =>
VL (vixS 1 (g2.getD 2 .und) p2) fun r2 =>
pld q2 none (fun s2 t2 =>
VL (lift2 (abin .add) s2 (.int .i64 1)) fun u2 =>
VL (vixS 1 (g2.getD 2 .und) p2) fun v2 =>
pst t2 1 (cellsV u2) (fun w2 y2 =>
VL (vixS 1 (g2.getD 2 .und) l2) fun z2 =>
pld y2 none (fun a3 b3 =>
VL (lift2 (abin .sub) a3 (.int .i64 1)) fun c3 =>
VL (vixS 1 (g2.getD 2 .und) l2) fun d3 =>
pst b3 1 (cellsV c3) (fun e3 f3 =>
VL (lift2 (abin .add) (f2.getD 0 .und) (.int .i64 1)) fun g3 =>
i2 [g3] [(g2.getD 0 .und), (g2.getD 1 .und), (g2.getD 2 .und), (g2.getD 3 .und), (g2.getD 4 .und), (g2.getD 5 .und), (g2.getD 6 .und), (g2.getD 7 .und)] f3) d3) z2) v2) r2) o2) k2) (
pmks h2 115 32 1 1 (fun h3 =>
papp h3 (fun i3 j3 => papV 32 1 24 116 h3 (fun k3 l3 =>
VL (lift2 (abin .add) (g2.getD 5 .und) (.int .i64 1)) fun m3 =>
t1 [k3, m3] [(g2.getD 0 .und), (g2.getD 3 .und), (g2.getD 4 .und)] l3) i3 j3 (g2.getD 1 .und)) (pavs h3 (g2.getD 1 .und) []) (preadS 1 h3 (.rf 115 0 1))) (vfill [.nils] [(0, 1, (g2.getD 2 .und))])) j2) [(.int .i64 0)] [(r1.getD 0 .und), (q1.getD 0 .und), c2, (r1.getD 1 .und), (r1.getD 2 .und), (q1.getD 1 .und), w1, e2] d2) a2 a2) z1) v1) (
Rt s1 (.tup [(q1.getD 0 .und), (.int .i64 0)])) u1) [(.rf 77 0 0), (.int .i64 0)] [(.ptr 65 0), n1, p1] o1) [l1, j1]) [h1]) (.ptr 65 0)) (.ptr 65 0)) (vfill [] [])) f1) [b1]) (.ptr 65 0)
theorem impl_BoundariesOf_f {x0 : V} : Prt Tryz.prog 10 [x0] (impl_BoundariesOf_F x0) := pfun (fn := Tryz.f10) (m := [.s, .s, .s, .s, .s, .s, .s, .l [4, 20] [1, 18, 19], .s, .s, .s, .s, .s, .s, .s, .l [29] [1, 4, 7, 18, 19, 20, 27, 28], .s, .s, .s, .s, .s, .s]) (c := 1 ≤ 55) rfl (fun h0 Rt => by kernel_rfl) (by decide)
def spec_BoundariesOf_F (x0 : V) (hi : Hp) (Rt : Hp → V → Prop) : Prop :=
pbox hi 65 27 (cellsV x0) fun a1 =>
pld a1 (some 33) (fun b1 c1 =>
pcal Tryz.prog 34 75 c1 (fun d1 e1 =>
VL (lift1 (aun .not) d1) fun f1 =>
pcond (
Rt e1 (.tup [.nils, (.int .i64 1)])) (
pld e1 (some 33) (fun g1 h1 =>
pld h1 none (fun i1 j1 =>
pcalp Tryz.prog 40 79 j1 (fun k1 l1 =>
pcalp Tryz.prog 39 82 l1 (fun m1 n1 =>
pmks n1 77 32 0 0 (fun o1 =>
LP [4, 6] [1, 5] (fun p1 q1 r1 s1 =>
VL (vlenS (q1.getD 1 .und)) fun t1 =>
VL (lift2 (abin .lss) (p1.getD 1 .und) t1) fun u1 =>
pcond (
VL (vfa 0 (q1.getD 0 .und)) fun v1 =>
pld r1 none (fun w1 y1 =>
pmk y1 91 2 8 [(.int .i64 0)] (fun z1 a2 =>
LP [8] [1, 4, 5, 6, 7] (fun b2 c2 d2 e2 =>
VL (vixS 1 (c2.getD 2 .und) (c2.getD 3 .und)) fun f2 =>
pld d2 none (fun g2 h2 =>
VL (vlenS g2) fun i2 =>
VL (lift2 (abin .lss) (b2.getD 0 .und) i2) fun j2 =>
pcond (
VL (vixS 1 (c2.getD 2 .und) (c2.getD 3 .und)) fun k2 =>
pld h2 none (fun l2 m2 =>
VL (vixS 1 l2 (b2.getD 0 .und)) fun n2 =>
pld m2 none (fun o2 p2 =>
VL (vfa 1 (c2.getD 0 .und)) fun q2 =>
VL (vixA 16 1 q2 o2) fun r2 =>
pld p2 none (fun s2 t2 =>
VL (vixS 1 (c2.getD 4 .und) s2) fun u2 =>
pld t2 none (fun v2 w2 =>
VL (lift2 (abin .add) v2 (.int .i64 1)) fun y2 =>
VL (vixS 1 (c2.getD 4 .und) s2) fun z2 =>
pst w2 1 (cellsV y2) (fun a3 b3 =>
VL (vixS 1 (c2.getD 4 .und) o2) fun c3 =>
pld b3 none (fun d3 e3 =>
VL (lift2 (abin .sub) d3 (.int .i64 1)) fun f3 =>
VL (vixS 1 (c2.getD 4 .und) o2) fun g3 =>
pst e3 1 (cellsV f3) (fun h3 i3 =>
VL (lift2 (abin .add) (b2.getD 0 .und) (.int .i64 1)) fun j3 =>
e2 [j3] [(c2.getD 0 .und), (c2.getD 1 .und), (c2.getD 2 .und), (c2.getD 3 .und), (c2.getD 4 .und)] i3) g3) c3) z2) u2) r2) n2) k2) (
pmks h2 125 32 1 1 (fun k3 =>
papp k3 (fun l3 m3 => papV 32 1 24 126 k3 (fun n3 o3 =>
VL (lift2 (abin .add) (c2.getD 3 .und) (.int .i64 1)) fun p3 =>
s1 [n3, p3] [(c2.getD 0 .und), (c2.getD 2 .und)] o3) l3 m3 (c2.getD 1 .und)) (pavs k3 (c2.getD 1 .und) []) (preadS 1 k3 (.rf 125 0 1))) (vfill [.nils] [(0, 1, (c2.getD 4 .und))])) j2) f2) [(.int .i64 0)] [(q1.getD 0 .und), (p1.getD 0 .und), (q1.getD 1 .und), (p1.getD 1 .und), z1] a2) w1 w1) v1) (
Rt r1 (.tup [(p1.getD 0 .und), (.int .i64 0)])) u1) [(.rf 77 0 0), (.int .i64 0)] [(.ptr 65 0), m1] o1) (vfill [] [])) [k1, i1]) [g1]) (.ptr 65 0)) (.ptr 65 0)) f1) [b1]) (.ptr 65 0)
theorem spec_BoundariesOf_f {x0 : V} : Prt Tryz.prog 11 [x0] (spec_BoundariesOf_F x0) := pfun (fn := Tryz.f11) (m := [.s, .s, .s, .s, .s, .s, .s, .l [4, 6] [1, 5], .s, .s, .s, .s, .s, .s, .l [8] [1, 4, 5, 6, 7], .s, .s, .s, .s, .s, .s]) (c := 1 ≤ 64) rfl (fun h0 Rt => by kernel_rfl) (by decide)
def impl_TreeEdges_F (x0 : V) (hi : Hp) (Rt : Hp → V → Prop) : Prop :=
pbox hi 65 27 (cellsV x0) fun a1 =>
pld a1 (some 33) (fun b1 c1 =>
pcal Tryz.prog 31 69 c1 (fun d1 e1 =>
VL (lift1 (aun .not) d1) fun f1 =>
pcond (
Rt e1 (.tup [.nils, (.int .i64 1)])) (
pld e1 (some 33) (fun g1 h1 =>
pcal Tryz.prog 41 72 h1 (fun i1 j1 =>
Rt j1 (.tup [i1, (.int .i64 0)])) [g1]) (.ptr 65 0)) f1) [b1]) (.ptr 65 0)
theorem impl_TreeEdges_f {x0 : V} : Prt Tryz.prog 12 [x0] (impl_TreeEdges_F x0) := pfun (fn := Tryz.f12) (m := [.s, .s, .s, .s, .s]) (c := 1 ≤ 9) rfl (fun h0 Rt => by kernel_rfl) (by decide)
def spec_TreeEdges_F (x0 : V) (hi : Hp) (Rt : Hp → V → Prop) : Prop :=
pbox hi 65 27 (cellsV x0) fun a1 =>
pld a1 (some 33) (fun b1 c1 =>
pcal Tryz.prog 34 72 c1 (fun d1 e1 =>
VL (lift1 (aun .not) d1) fun f1 =>
pcond (
Rt e1 (.tup [.nils, (.int .i64 1)])) (
pld e1 (some 33) (fun g1 h1 =>
pcal Tryz.prog 42 75 h1 (fun i1 j1 =>
pmks j1 76 2 0 0 (fun k1 =>
palloc k1 68 58 (vb (List.replicate 16 false)) fun l1 =>
pst l1 16 (cellsV i1) (fun m1 n1 =>
LP [5, 6] [1, 4] (fun o1 p1 q1 r1 =>
VL (vfa 0 (p1.getD 0 .und)) fun s1 =>
pld q1 none (fun t1 u1 =>
VL (lift2 (abin .lss) (o1.getD 1 .und) t1) fun v1 =>
pcond (
JN (fun w1 =>
VL (vixA 16 1 (p1.getD 1 .und) (o1.getD 1 .und)) fun y1 =>
pld u1 none (fun z1 a2 =>
pcond (
pmks a2 88 2 1 1 (fun b2 =>
papp b2 (fun c2 d2 => papV 2 1 8 89 b2 (fun e2 f2 =>
w1 [(p1.getD 0 .und), (p1.getD 1 .und), e2, (o1.getD 1 .und)] f2) c2 d2 (o1.getD 0 .und)) (pavs b2 (o1.getD 0 .und) []) (preadS 1 b2 (.rf 88 0 1))) (vfill [(.int .i64 0)] [(0, 1, (o1.getD 1 .und))])) (
w1 [(p1.getD 0 .und), (p1.getD 1 .und), (o1.getD 0 .und), (o1.getD 1 .und)] a2) z1) y1) fun g2 h2 =>
VL (lift2 (abin .add) (g2.getD 3 .und) (.int .i64 1)) fun i2 =>
r1 [(g2.getD 2 .und), i2] [(g2.getD 0 .und), (g2.getD 1 .und)] h2) (
Rt u1 (.tup [(o1.getD 0 .und), (.int .i64 0)])) v1) s1) [(.rf 76 0 0), (.int .i64 0)] [(.ptr 65 0), (.ptr 68 0)] n1) (.ptr 68 0)) (vfill [] [])) [g1]) (.ptr 65 0)) f1) [b1]) (.ptr 65 0)
theorem spec_TreeEdges_f {x0 : V} : Prt Tryz.prog 13 [x0] (spec_TreeEdges_F x0) := pfun (fn := Tryz.f13) (m := [.s, .s, .s, .s, .s, .s, .s, .l [5, 6] [1, 4], .s, .s, .j [1, 4, 5, 6], .s, .s]) (c := 1 ≤ 27) rfl (fun h0 Rt => by kernel_rfl) (by decide)
def laws_rows5_F (x0 x1 : V) (hi : Hp) (Rt : Hp → V → Prop) : Prop :=
VL (vlenS x0) fun a1 =>
VL (vlenS x1) fun b1 =>
VL (lift2 (abin .neq) a1 b1) fun c1 =>
pcond (
Rt hi (.bool false)) (
LP [5] [0, 1] (fun d1 e1 f1 g1 =>
VL (vlenS (e1.getD 0 .und)) fun h1 =>
VL (lift2 (abin .lss) (d1.getD 0 .und) h1) fun i1 =>
pcond (
VL (vixS 1 (e1.getD 0 .und) (d1.getD 0 .und)) fun j1 =>
pld f1 none (fun k1 l1 =>
VL (vixS 1 (e1.getD 1 .und) (d1.getD 0 .und)) fun m1 =>
pld l1 none (fun n1 o1 =>
pcal Tryz.prog 15 89 o1 (fun p1 q1 =>
VL (lift1 (aun .not) p1) fun r1 =>
pcond (
Rt q1 (.bool false)) (
VL (lift2 (abin .add) (d1.getD 0 .und) (.int .i64 1)) fun s1 =>
g1 [s1] [(e1.getD 0 .und), (e1.getD 1 .und)] q1) r1) [k1, n1]) m1) j1) (
Rt f1 (.bool true)) i1) [(.int .i64 0)] [x0, x1] hi) c1
theorem laws_rows5_f {x0 x1 : V} : Prt Tryz.prog 14 [x0, x1] (laws_rows5_F x0 x1) := pfun (fn := Tryz.f14) (m := [.s, .s, .s, .s, .s, .s, .l [5] [0, 1], .s, .s, .s, .s, .s, .s]) (c := 2 ≤ 27) rfl (fun h0 Rt => by kernel_rfl) (by decide)
def laws_likeInts_F (x0 x1 : V) (hi : Hp) (Rt : Hp → V → Prop) : Prop :=
VL (vlenS x0) fun a1 =>
VL (vlenS x1) fun b1 =>
VL (lift2 (abin .neq) a1 b1) fun c1 =>
pcond (
Rt hi (.bool false)) (
LP [5] [0, 1] (fun d1 e1 f1 g1 =>
VL (vlenS (e1.getD 0 .und)) fun h1 =>
VL (lift2 (abin .lss) (d1.getD 0 .und) h1) fun i1 =>
pcond (
VL (vixS 1 (e1.getD 0 .und) (d1.getD 0 .und)) fun j1 =>
pld f1 none (fun k1 l1 =>
VL (vixS 1 (e1.getD 1 .und) (d1.getD 0 .und)) fun m1 =>
pld l1 none (fun n1 o1 =>
VL (lift2 (abin .neq) k1 n1) fun p1 =>
pcond (
Rt o1 (.bool false)) (
VL (lift2 (abin .add) (d1.getD 0 .und) (.int .i64 1)) fun q1 =>
g1 [q1] [(e1.getD 0 .und), (e1.getD 1 .und)] o1) p1) m1) j1) (
Rt f1 (.bool true)) i1) [(.int .i64 0)] [x0, x1] hi) c1
theorem laws_likeInts_f {x0 x1 : V} : Prt Tryz.prog 15 [x0, x1] (laws_likeInts_F x0 x1) := pfun (fn := Tryz.f15) (m := [.s, .s, .s, .s, .s, .s, .l [5] [0, 1], .s, .s, .s, .s, .s, .s]) (c := 2 ≤ 26) rfl (fun h0 Rt => by kernel_rfl) (by decide)
def impl_GenusOf_F (x0 : V) (hi : Hp) (Rt : Hp → V → Prop) : Prop :=
pbox hi 65 27 (cellsV x0) fun a1 =>
pld a1 (some 33) (fun b1 c1 =>
pcal Tryz.prog 31 69 c1 (fun d1 e1 =>
VL (lift1 (aun .not) d1) fun f1 =>
pcond (
Rt e1 (.tup [(.int .i64 0), (.int .i64 1)])) (
pld e1 (some 33) (fun g1 h1 =>
pcal Tryz.prog 43 72 h1 (fun i1 j1 =>
Rt j1 (.tup [i1, (.int .i64 0)])) [g1]) (.ptr 65 0)) f1) [b1]) (.ptr 65 0)
theorem impl_GenusOf_f {x0 : V} : Prt Tryz.prog 16 [x0] (impl_GenusOf_F x0) := pfun (fn := Tryz.f16) (m := [.s, .s, .s, .s, .s]) (c := 1 ≤ 9) rfl (fun h0 Rt => by kernel_rfl) (by decide)
def impl_IsBounding_F (x0 x1 : V) (hi : Hp) (Rt : Hp → V → Prop) : Prop :=
pbox hi 66 27 (cellsV x0) fun a1 =>
pld a1 (some 33) (fun b1 c1 =>
pcal Tryz.prog 24 77 c1 (fun d1 e1 =>
VL (vext 0 d1) fun f1 =>
VL (vext 1 d1) fun g1 =>
VL (lift2 (abin .neq) g1 (.int .i64 0)) fun h1 =>
pgk false e1 (fun i1 j1 => j1 f1 e1) (fun k1 l1 m1 =>
pgk false m1 (fun n1 o1 => VL (lift1 (aun .not) l1) fun p1 =>
o1 p1 m1) (fun q1 r1 s1 =>
VL (vpick q1 (.bool true) r1) fun t1 =>
pcond (
Rt s1 (.tup [(.bool false), g1])) (
pld s1 (some 33) (fun u1 v1 =>
pcal Tryz.prog 44 88 v1 (fun w1 y1 =>
VL (vlenS w1) fun z1 =>
LP [26] [1, 2, 24, 25] (fun a2 b2 c2 d2 =>
VL (lift2 (abin .lss) (a2.getD 0 .und) (b2.getD 3 .und)) fun e2 =>
pcond (
VL (vixS 1 (b2.getD 2 .und) (a2.getD 0 .und)) fun f2 =>
pld c2 none (fun g2 h2 =>
pld h2 (some 33) (fun i2 j2 =>
pcal Tryz.prog 33 97 j2 (fun k2 l2 =>
VL (lift2 (abin .neq) k2 (.int .i64 0)) fun m2 =>
pcond (
Rt l2 (.tup [(.bool false), (.int .i64 0)])) (
VL (lift2 (abin .add) (a2.getD 0 .und) (.int .i64 1)) fun n2 =>
d2 [n2] [(b2.getD 0 .und), (b2.getD 1 .und), (b2.getD 2 .und), (b2.getD 3 .und)] l2) m2) [i2, (b2.getD 0 .und), g2]) (b2.getD 1 .und)) f2) (
Rt c2 (.tup [(.bool true), (.int .i64 0)])) e2) [(.int .i64 0)] [x1, (.ptr 66 0), w1, z1] y1) [u1]) (.ptr 66 0)) t1) k1) h1) [b1, x1]) (.ptr 66 0)
theorem impl_IsBounding_f {x0 x1 : V} : Prt Tryz.prog 17 [x0, x1] (impl_IsBounding_F x0 x1) := pfun (fn := Tryz.f17) (m := [.s, .s, .s, .s, .s, .s, .s, .l [26] [1, 2, 24, 25], .s, .s, .s, .s, .s, .s, .s]) (c := 2 ≤ 36) rfl (fun h0 Rt => by kernel_rfl) (by decide)
def spec_DrawIntersectionOf_F (x0 : V) (hi : Hp) (Rt : Hp → V → Prop) : Prop :=
palloc hi 66 27 ([(.int .i64 0)] ++ (vi .u8 (List.replicate 32 0))) fun a1 =>
pcal Tryz.prog 30 72 a1 (fun b1 c1 =>
pcal Tryz.prog 29 74 c1 (fun d1 e1 =>
palloc e1 70 27 ([(.int .i64 0)] ++ (vi .u8 (List.replicate 32 0))) fun f1 =>
pst f1 33 (cellsV d1) (fun g1 h1 =>
pldb h1 (some 33) (fun i1 j1 =>
pld j1 (some 33) (fun k1 l1 =>
pldb l1 (some 33) (fun m1 n1 =>
pcala Tryz.prog 45 78 n1 (fun o1 p1 =>
pcala Tryz.prog 45 81 p1 (fun q1 r1 =>
pst r1 33 (cellsV i1) (fun s1 t1 =>
VL (pcellV t1 (some 33) (.ptr 66 0)) fun u1 =>
Rt t1 (.tup [u1, o1, q1])) (.ptr 66 0)) [(.ptr 70 0)] [b1, m1]) [(.ptr 70 0), (.ptr 70 0)] [b1, k1]) (.ptr 70 0) (.ptr 70 0)) (.ptr 70 0)) (.ptr 70 0) (.ptr 70 0)) (.ptr 70 0)) [b1, (.int .i64 16)]) [x0]
theorem spec_DrawIntersectionOf_f {x0 : V} : Prt Tryz.prog 18 [x0] (spec_DrawIntersectionOf_F x0) := pfun (fn := Tryz.f18) (m := [.s, .s, .s, .s]) (c := 1 ≤ 18) rfl (fun h0 Rt => by kernel_rfl) (by decide)
def impl_IntersectionOf_F (x0 x1 x2 : V) (hi : Hp) (Rt : Hp → V → Prop) : Prop :=
pbox hi 67 27 (cellsV x0) fun a1 =>
pld a1 (some 33) (fun b1 c1 =>
pcal Tryz.prog 31 74 c1 (fun d1 e1 =>
VL (lift1 (aun .not) d1) fun f1 =>
pcond (
Rt e1 (.tup [(.int .i64 0), (.int .i64 1)])) (
pld e1 (some 33) (fun g1 h1 =>
pcal Tryz.prog 46 79 h1 (fun i1 j1 =>
VL (lift1 (aun .not) i1) fun k1 =>
pgk false j1 (fun l1 m1 => pld j1 (some 33) (fun n1 o1 =>
m1 n1 o1) (.ptr 67 0)) (fun p1 q1 r1 =>
pgk false r1 (fun s1 t1 => t1 x2 r1) (fun u1 v1 w1 =>
pgk false w1 (fun y1 z1 => pcal Tryz.prog 46 84 w1 (fun a2 b2 =>
z1 a2 b2) [q1, v1]) (fun c2 d2 e2 =>
pgk false e2 (fun f2 g2 => VL (lift1 (aun .not) d2) fun h2 =>
g2 h2 e2) (fun i2 j2 k2 =>
VL (vpick i2 (.bool true) j2) fun l2 =>
pcond (
Rt k2 (.tup [(.int .i64 0), (.int .i64 2)])) (
pld k2 (some 33) (fun m2 n2 =>
pcal Tryz.prog 47 90 n2 (fun o2 p2 =>
VL (lift1 (aun .not) o2) fun q2 =>
pgk false p2 (fun r2 s2 => pld p2 (some 33) (fun t2 u2 =>
s2 t2 u2) (.ptr 67 0)) (fun v2 w2 y2 =>
pgk false y2 (fun z2 a3 => a3 x2 y2) (fun b3 c3 d3 =>
pgk false d3 (fun e3 f3 => pcal Tryz.prog 47 95 d3 (fun g3 h3 =>
f3 g3 h3) [w2, c3]) (fun i3 j3 k3 =>
pgk false k3 (fun l3 m3 => VL (lift1 (aun .not) j3) fun n3 =>
m3 n3 k3) (fun o3 p3 q3 =>
VL (vpick o3 (.bool true) p3) fun r3 =>
pcond (
Rt q3 (.tup [(.int .i64 0), (.int .i64 5)])) (
pld q3 (some 33) (fun s3 t3 =>
pcal Tryz.prog 33 101 t3 (fun u3 v3 =>
Rt v3 (.tup [u3, (.int .i64 0)])) [s3, x1, x2]) (.ptr 67 0)) r3) i3) b3) v2) q2) [m2, x1]) (.ptr 67 0)) l2) c2) u1) p1) k1) [g1, x1]) (.ptr 67 0)) f1) [b1]) (.ptr 67 0)
theorem impl_IntersectionOf_f {x0 x1 x2 : V} : Prt Tryz.prog 19 [x0, x1, x2] (impl_IntersectionOf_F x0 x1 x2) := pfun (fn := Tryz.f19) (m := [.s, .s, .s, .s, .s, .s, .s, .s, .s]) (c := 3 ≤ 38) rfl (fun h0 Rt => by kernel_rfl) (by decide)
def spec_IntersectionOf_F (x0 x1 x2 : V) (hi : Hp) (Rt : Hp → V → Prop) : Prop :=
pbox hi 67 27 (cellsV x0) fun a1 =>
pld a1 (some 33) (fun b1 c1 =>
pcal Tryz.prog 34 74 c1 (fun d1 e1 =>
VL (lift1 (aun .not) d1) fun f1 =>
pcond (
Rt e1 (.tup [(.int .i64 0), (.int .i64 1)])) (
pld e1 (some 33) (fun g1 h1 =>
pcal Tryz.prog 48 79 h1 (fun i1 j1 =>
VL (lift1 (aun .not) i1) fun k1 =>
pgk false j1 (fun l1 m1 => pld j1 (some 33) (fun n1 o1 =>
m1 n1 o1) (.ptr 67 0)) (fun p1 q1 r1 =>
pgk false r1 (fun s1 t1 => t1 x2 r1) (fun u1 v1 w1 =>
pgk false w1 (fun y1 z1 => pcal Tryz.prog 48 84 w1 (fun a2 b2 =>
z1 a2 b2) [q1, v1]) (fun c2 d2 e2 =>
pgk false e2 (fun f2 g2 => VL (lift1 (aun .not) d2) fun h2 =>
g2 h2 e2) (fun i2 j2 k2 =>
VL (vpick i2 (.bool true) j2) fun l2 =>
pcond (
Rt k2 (.tup [(.int .i64 0), (.int .i64 2)])) (
pld k2 (some 33) (fun m2 n2 =>
pcal Tryz.prog 49 90 n2 (fun o2 p2 =>
VL (lift1 (aun .not) o2) fun q2 =>
pgk false p2 (fun r2 s2 => pld p2 (some 33) (fun t2 u2 =>
s2 t2 u2) (.ptr 67 0)) (fun v2 w2 y2 =>
pgk false y2 (fun z2 a3 => a3 x2 y2) (fun b3 c3 d3 =>
pgk false d3 (fun e3 f3 => pcal Tryz.prog 49 95 d3 (fun g3 h3 =>
f3 g3 h3) [w2, c3]) (fun i3 j3 k3 =>
pgk false k3 (fun l3 m3 => VL (lift1 (aun .not) j3) fun n3 =>
m3 n3 k3) (fun o3 p3 q3 =>
VL (vpick o3 (.bool true) p3) fun r3 =>
pcond (
Rt q3 (.tup [(.int .i64 0), (.int .i64 5)])) (
pld q3 (some 33) (fun s3 t3 =>
pcal Tryz.prog 36 101 t3 (fun u3 v3 =>
Rt v3 (.tup [u3, (.int .i64 0)])) [s3, x1, x2]) (.ptr 67 0)) r3) i3) b3) v2) q2) [m2, x1]) (.ptr 67 0)) l2) c2) u1) p1) k1) [g1, x1]) (.ptr 67 0)) f1) [b1]) (.ptr 67 0)
theorem spec_IntersectionOf_f {x0 x1 x2 : V} : Prt Tryz.prog 20 [x0, x1, x2] (spec_IntersectionOf_F x0 x1 x2) := pfun (fn := Tryz.f20) (m := [.s, .s, .s, .s, .s, .s, .s, .s, .s]) (c := 3 ≤ 38) rfl (fun h0 Rt => by kernel_rfl) (by decide)
def spec_DrawIsBounding_F (x0 : V) (hi : Hp) (Rt : Hp → V → Prop) : Prop :=
palloc hi 66 27 ([(.int .i64 0)] ++ (vi .u8 (List.replicate 32 0))) fun a1 =>
pcal Tryz.prog 30 73 a1 (fun b1 c1 =>
pcal Tryz.prog 29 75 c1 (fun d1 e1 =>
palloc e1 69 27 ([(.int .i64 0)] ++ (vi .u8 (List.replicate 32 0))) fun f1 =>
pst f1 33 (cellsV d1) (fun g1 h1 =>
pld h1 (some 33) (fun i1 j1 =>
pcal Tryz.prog 34 77 j1 (fun k1 l1 =>
pgk true l1 (fun m1 n1 => n1 b1 l1) (fun o1 p1 q1 =>
pgk true q1 (fun r1 s1 => pcal Tryz.prog 50 80 q1 (fun t1 u1 =>
s1 t1 u1) [p1, (.int .i64 3)]) (fun v1 w1 y1 =>
pgk true y1 (fun z1 a2 => VL (lift2 (abin .eql) w1 (.int .i64 0)) fun b2 =>
a2 b2 y1) (fun c2 d2 e2 =>
VL (vpick c2 d2 (.bool false)) fun f2 =>
pcond (
pld e2 (some 33) (fun g2 h2 =>
pcal Tryz.prog 11 85 h2 (fun i2 j2 =>
VL (vext 0 i2) fun k2 =>
VL (vext 1 i2) fun l2 =>
pldb j2 (some 33) (fun m2 n2 =>
VL (vlenS k2) fun o2 =>
pcala Tryz.prog 50 93 n2 (fun p2 q2 =>
VL (vixS 1 k2 p2) fun r2 =>
pldb q2 none (fun s2 t2 =>
Rq (pavsP t2 (.ptr 66 0) [k2]) (pst t2 33 (cellsV m2) (fun u2 v2 =>
VL (pcellV v2 (some 33) (.ptr 66 0)) fun w2 =>
Rt v2 (.tup [w2, s2])) (.ptr 66 0))) r2 k2) [(.ptr 69 0)] [b1, o2]) (.ptr 69 0) (.ptr 69 0)) [g2]) (.ptr 69 0)) (
pldb e2 (some 33) (fun y2 z2 =>
pld z2 (some 33) (fun a3 b3 =>
pcala Tryz.prog 45 99 b3 (fun c3 d3 =>
pst d3 33 (cellsV y2) (fun e3 f3 =>
VL (pcellV f3 (some 33) (.ptr 66 0)) fun g3 =>
Rt f3 (.tup [g3, c3])) (.ptr 66 0)) [(.ptr 69 0)] [b1, a3]) (.ptr 69 0)) (.ptr 69 0) (.ptr 69 0)) f2) v1) o1) k1) [i1]) (.ptr 69 0)) (.ptr 69 0)) [b1, (.int .i64 16)]) [x0]
theorem spec_DrawIsBounding_f {x0 : V} : Prt Tryz.prog 21 [x0] (spec_DrawIsBounding_F x0) := pfun (fn := Tryz.f21) (m := [.s, .s, .s, .s, .s, .s, .s, .s]) (c := 1 ≤ 36) rfl (fun h0 Rt => by kernel_rfl) (by decide)
def spec_IsBounding_F (x0 x1 : V) (hi : Hp) (Rt : Hp → V → Prop) : Prop :=
pbox hi 66 27 (cellsV x0) fun a1 =>
pld a1 (some 33) (fun b1 c1 =>
pcal Tryz.prog 34 74 c1 (fun d1 e1 =>
VL (lift1 (aun .not) d1) fun f1 =>
pcond (
Rt e1 (.tup [(.bool false), (.int .i64 1)])) (
pld e1 (some 33) (fun g1 h1 =>
pcal Tryz.prog 48 79 h1 (fun i1 j1 =>
VL (lift1 (aun .not) i1) fun k1 =>
pcond (
Rt j1 (.tup [(.bool false), (.int .i64 2)])) (
pld j1 (some 33) (fun l1 m1 =>
pcal Tryz.prog 49 84 m1 (fun n1 o1 =>
VL (lift1 (aun .not) n1) fun p1 =>
pcond (
Rt o1 (.tup [(.bool false), (.int .i64 0)])) (
pld o1 (some 33) (fun q1 r1 =>
pcal Tryz.prog 42 87 r1 (fun s1 t1 =>
palloc t1 70 58 (vb (List.replicate 16 false)) fun u1 =>
pst u1 16 (cellsV s1) (fun v1 w1 =>
LP [7] [1, 2, 6] (fun y1 z1 a2 b2 =>
VL (vfa 0 (z1.getD 1 .und)) fun c2 =>
pld a2 none (fun d2 e2 =>
VL (lift2 (abin .lss) (y1.getD 0 .und) d2) fun f2 =>
pcond (
VL (vixA 16 1 (z1.getD 2 .und) (y1.getD 0 .und)) fun g2 =>
pld e2 none (fun h2 i2 =>
VL (lift1 (aun .not) h2) fun j2 =>
pgk true i2 (fun k2 l2 => pld i2 (some 33) (fun m2 n2 =>
l2 m2 n2) (z1.getD 1 .und)) (fun o2 p2 q2 =>
pgk true q2 (fun r2 s2 => s2 (z1.getD 0 .und) q2) (fun t2 u2 v2 =>
pgk true v2 (fun w2 y2 => pld v2 (some 33) (fun z2 a3 =>
y2 z2 a3) (z1.getD 1 .und)) (fun b3 c3 d3 =>
pgk true d3 (fun e3 f3 => pld d3 (some 16) (fun g3 h3 =>
f3 g3 h3) (z1.getD 2 .und)) (fun i3 j3 k3 =>
pgk true k3 (fun l3 m3 => m3 (y1.getD 0 .und) k3) (fun n3 o3 p3 =>
pgk true p3 (fun q3 r3 => pcalp Tryz.prog 51 104 p3 (fun s3 t3 =>
r3 s3 t3) [c3, j3, o3]) (fun u3 v3 w3 =>
pgk true w3 (fun y3 z3 => pcal Tryz.prog 36 105 w3 (fun a4 b4 =>
z3 a4 b4) [p2, u2, v3]) (fun c4 d4 e4 =>
pgk true e4 (fun f4 g4 => VL (lift2 (abin .neq) d4 (.int .i64 0)) fun h4 =>
g4 h4 e4) (fun i4 j4 k4 =>
VL (vpick i4 j4 (.bool false)) fun l4 =>
pcond (
Rt k4 (.tup [(.bool false), (.int .i64 0)])) (
VL (lift2 (abin .add) (y1.getD 0 .und) (.int .i64 1)) fun m4 =>
b2 [m4] [(z1.getD 0 .und), (z1.getD 1 .und), (z1.getD 2 .und)] k4) l4) c4) u3) n3) i3) b3) t2) o2) j2) g2) (
Rt e2 (.tup [(.bool true), (.int .i64 0)])) f2) c2) [(.int .i64 0)] [x1, (.ptr 66 0), (.ptr 70 0)] w1) (.ptr 70 0)) [q1]) (.ptr 66 0)) p1) [l1, x1]) (.ptr 66 0)) k1) [g1, x1]) (.ptr 66 0)) f1) [b1]) (.ptr 66 0)
theorem spec_IsBounding_f {x0 x1 : V} : Prt Tryz.prog 22 [x0, x1] (spec_IsBounding_F x0 x1) := pfun (fn := Tryz.f22) (m := [.s, .s, .s, .s, .s, .s, .s, .s, .s, .s, .s, .l [7] [1, 2, 6], .s, .s, .s, .s, .s, .s]) (c := 2 ≤ 44) rfl (fun h0 Rt => by kernel_rfl) (by decide)
def spec_DrawIsCycle_F (x0 : V) (hi : Hp) (Rt : Hp → V → Prop) : Prop :=
palloc hi 66 27 ([(.int .i64 0)] ++ (vi .u8 (List.replicate 32 0))) fun a1 =>
pcal Tryz.prog 30 71 a1 (fun b1 c1 =>
pcal Tryz.prog 29 73 c1 (fun d1 e1 =>
palloc e1 69 27 ([(.int .i64 0)] ++ (vi .u8 (List.replicate 32 0))) fun f1 =>
pst f1 33 (cellsV d1) (fun g1 h1 =>
pldb h1 (some 33) (fun i1 j1 =>
pld j1 (some 33) (fun k1 l1 =>
pcala Tryz.prog 45 77 l1 (fun m1 n1 =>
pst n1 33 (cellsV i1) (fun o1 p1 =>
VL (pcellV p1 (some 33) (.ptr 66 0)) fun q1 =>
Rt p1 (.tup [q1, m1])) (.ptr 66 0)) [(.ptr 69 0)] [b1, k1]) (.ptr 69 0)) (.ptr 69 0) (.ptr 69 0)) (.ptr 69 0)) [b1, (.int .i64 16)]) [x0]
theorem spec_DrawIsCycle_f {x0 : V} : Prt Tryz.prog 23 [x0] (spec_DrawIsCycle_F x0) := pfun (fn := Tryz.f23) (m := [.s, .s, .s, .s]) (c := 1 ≤ 14) rfl (fun h0 Rt => by kernel_rfl) (by decide)
def impl_IsCycle_F (x0 x1 : V) (hi : Hp) (Rt : Hp → V → Prop) : Prop :=
pbox hi 66 27 (cellsV x0) fun a1 =>
pld a1 (some 33) (fun b1 c1 =>
pcal Tryz.prog 31 72 c1 (fun d1 e1 =>
VL (lift1 (aun .not) d1) fun f1 =>
pcond (
Rt e1 (.tup [(.bool false), (.int .i64 1)])) (
pld e1 (some 33) (fun g1 h1 =>
pcal Tryz.prog 46 77 h1 (fun i1 j1 =>
VL (lift1 (aun .not) i1) fun k1 =>
pcond (
Rt j1 (.tup [(.bool false), (.int .i64 2)])) (
pld j1 (some 33) (fun l1 m1 =>
pcal Tryz.prog 47 81 m1 (fun n1 o1 =>
Rt o1 (.tup [n1, (.int .i64 0)])) [l1, x1]) (.ptr 66 0)) k1) [g1, x1]) (.ptr 66 0)) f1) [b1]) (.ptr 66 0)
theorem impl_IsCycle_f {x0 x1 : V} : Prt Tryz.prog 24 [x0, x1] (impl_IsCycle_F x0 x1) := pfun (fn := Tryz.f24) (m := [.s, .s, .s, .s, .s, .s, .s]) (c := 2 ≤ 18) rfl (fun h0 Rt => by kernel_rfl) (by decide)
def spec_IsCycle_F (x0 x1 : V) (hi : Hp) (Rt : Hp → V → Prop) : Prop :=
pbox hi 66 27 (cellsV x0) fun a1 =>
pld a1 (some 33) (fun b1 c1 =>
pcal Tryz.prog 34 72 c1 (fun d1 e1 =>
VL (lift1 (aun .not) d1) fun f1 =>
pcond (
Rt e1 (.tup [(.bool false), (.int .i64 1)])) (
pld e1 (some 33) (fun g1 h1 =>
pcal Tryz.prog 48 77 h1 (fun i1 j1 =>
VL (lift1 (aun .not) i1) fun k1 =>
pcond (
Rt j1 (.tup [(.bool false), (.int .i64 2)])) (
pld j1 (some 33) (fun l1 m1 =>
pcal Tryz.prog 49 81 m1 (fun n1 o1 =>
Rt o1 (.tup [n1, (.int .i64 0)])) [l1, x1]) (.ptr 66 0)) k1) [g1, x1]) (.ptr 66 0)) f1) [b1]) (.ptr 66 0)
theorem spec_IsCycle_f {x0 x1 : V} : Prt Tryz.prog 25 [x0, x1] (spec_IsCycle_F x0 x1) := pfun (fn := Tryz.f25) (m := [.s, .s, .s, .s, .s, .s, .s]) (c := 2 ≤ 18) rfl (fun h0 Rt => by kernel_rfl) (by decide)
def spec_DrawCycleOfEdge_F (x0 : V) (hi : Hp) (Rt : Hp → V → Prop) : Prop :=
palloc hi 66 27 ([(.int .i64 0)] ++ (vi .u8 (List.replicate 32 0))) fun a1 =>
pcal Tryz.prog 30 71 a1 (fun b1 c1 =>
pcal Tryz.prog 29 73 c1 (fun d1 e1 =>
palloc e1 69 27 ([(.int .i64 0)] ++ (vi .u8 (List.replicate 32 0))) fun f1 =>
pst f1 33 (cellsV d1) (fun g1 h1 =>
pldb h1 (some 33) (fun i1 j1 =>
pldb j1 none (fun k1 l1 =>
pcala Tryz.prog 50 79 l1 (fun m1 n1 =>
VL (lift2 (abin .quo) m1 (.int .i64 23)) fun o1 =>
VL (lift2 (abin .add) k1 o1) fun p1 =>
pcala Tryz.prog 50 82 n1 (fun q1 r1 =>
pcala Tryz.prog 50 84 r1 (fun s1 t1 =>
VL (lift2 (abin .quo) s1 (.int .i64 39)) fun u1 =>
VL (lift2 (abin .sub) q1 u1) fun v1 =>
pst t1 33 (cellsV i1) (fun w1 y1 =>
VL (pcellV y1 (some 33) (.ptr 66 0)) fun z1 =>
Rt y1 (.tup [z1, v1])) (.ptr 66 0)) [(.ptr 69 0)] [b1, (.int .i64 40)]) [(.ptr 69 0)] [b1, p1]) [(.ptr 69 0), (.ptr 69 0)] [b1, (.int .i64 24)]) (.ptr 69 0) (.ptr 69 0)) (.ptr 69 0) (.ptr 69 0)) (.ptr 69 0)) [b1, (.int .i64 16)]) [x0]
theorem spec_DrawCycleOfEdge_f {x0 : V} : Prt Tryz.prog 26 [x0] (spec_DrawCycleOfEdge_F x0) := pfun (fn := Tryz.f26) (m := [.s, .s, .s, .s]) (c := 1 ≤ 23) rfl (fun h0 Rt => by kernel_rfl) (by decide)
def impl_CycleOfEdge_F (x0 x1 : V) (hi : Hp) (Rt : Hp → V → Prop) : Prop :=
pbox hi 66 27 (cellsV x0) fun a1 =>
pld a1 (some 33) (fun b1 c1 =>
pcal Tryz.prog 31 73 c1 (fun d1 e1 =>
VL (lift1 (aun .not) d1) fun f1 =>
pcond (
Rt e1 (.tup [.nils, (.int .i64 1)])) (
pld e1 (some 33) (fun g1 h1 =>
pmks h1 78 2 1 1 (fun i1 =>
pcal Tryz.prog 52 79 i1 (fun j1 k1 =>
VL (lift1 (aun .not) j1) fun l1 =>
pcond (
Rt k1 (.tup [.nils, (.int .i64 2)])) (
pld k1 (some 33) (fun m1 n1 =>
pcal Tryz.prog 41 82 n1 (fun o1 p1 =>
pcal Tryz.prog 53 85 p1 (fun q1 r1 =>
pcond (
Rt r1 (.tup [.nils, (.int .i64 5)])) (
pld r1 (some 33) (fun s1 t1 =>
pcal Tryz.prog 54 89 t1 (fun u1 v1 =>
Rt v1 (.tup [u1, (.int .i64 0)])) [s1, x1, o1]) (.ptr 66 0)) q1) [o1, x1]) [m1]) (.ptr 66 0)) l1) [g1, (.rf 78 0 1)]) (vfill [(.int .i64 0)] [(0, 1, x1)])) (.ptr 66 0)) f1) [b1]) (.ptr 66 0)
theorem impl_CycleOfEdge_f {x0 x1 : V} : Prt Tryz.prog 27 [x0, x1] (impl_CycleOfEdge_F x0 x1) := pfun (fn := Tryz.f27) (m := [.s, .s, .s, .s, .s, .s, .s, .s, .s, .s, .s]) (c := 2 ≤ 26) rfl (fun h0 Rt => by kernel_rfl) (by decide)
def spec_CycleOfEdge_F (x0 x1 : V) (hi : Hp) (Rt : Hp → V → Prop) : Prop :=
pbox hi 66 27 (cellsV x0) fun a1 =>
pld a1 (some 33) (fun b1 c1 =>
pcal Tryz.prog 34 73 c1 (fun d1 e1 =>
VL (lift1 (aun .not) d1) fun f1 =>
pcond (
Rt e1 (.tup [.nils, (.int .i64 1)])) (
pld e1 none (fun g1 h1 =>
VL (lift2 (abin .sub) g1 (.int .i64 1)) fun i1 =>
pcal Tryz.prog 55 80 h1 (fun j1 k1 =>
VL (lift1 (aun .not) j1) fun l1 =>
pcond (
Rt k1 (.tup [.nils, (.int .i64 2)])) (
pld k1 (some 33) (fun m1 n1 =>
pcal Tryz.prog 42 83 n1 (fun o1 p1 =>
palloc p1 70 58 (vb (List.replicate 16 false)) fun q1 =>
pst q1 16 (cellsV o1) (fun r1 s1 =>
VL (vixA 16 1 (.ptr 70 0) x1) fun t1 =>
pld s1 none (fun u1 v1 =>
pcond (
Rt v1 (.tup [.nils, (.int .i64 5)])) (
pld v1 (some 33) (fun w1 y1 =>
pld y1 (some 16) (fun z1 a2 =>
pcal Tryz.prog 51 90 a2 (fun b2 c2 =>
Rt c2 (.tup [b2, (.int .i64 0)])) [w1, z1, x1]) (.ptr 70 0)) (.ptr 66 0)) u1) t1) (.ptr 70 0)) [m1]) (.ptr 66 0)) l1) [x1, (.int .i64 0), i1]) (.ptr 66 0)) f1) [b1]) (.ptr 66 0)
theorem spec_CycleOfEdge_f {x0 x1 : V} : Prt Tryz.prog 28 [x0, x1] (spec_CycleOfEdge_F x0 x1) := pfun (fn := Tryz.f28) (m := [.s, .s, .s, .s, .s, .s, .s, .s, .s, .s, .s]) (c := 2 ≤ 27) rfl (fun h0 Rt => by kernel_rfl) (by decide)
def spec_l09Draw_F (x0 x1 : V) (hi : Hp) (Rt : Hp → V → Prop) : Prop :=
palloc hi 68 27 ([(.int .i64 0)] ++ (vi .u8 (List.replicate 32 0))) fun a1 =>
pcal Tryz.prog 50 73 a1 (fun b1 c1 =>
VL (lift2 (abin .add) (.int .i64 1) b1) fun d1 =>
pcal Tryz.prog 50 76 c1 (fun e1 f1 =>
VL (lift2 (abin .eql) e1 (.int .i64 0)) fun g1 =>
pcond (
pcal Tryz.prog 56 79 f1 (fun h1 i1 =>
palloc i1 70 27 ([(.int .i64 0)] ++ (vi .u8 (List.replicate 32 0))) fun j1 =>
pst j1 33 (cellsV h1) (fun k1 l1 =>
pcal Tryz.prog 57 82 l1 (fun m1 n1 =>
pst n1 16 (cellsV m1) (fun o1 p1 =>
pld p1 (some 33) (fun q1 r1 =>
pst r1 33 (cellsV q1) (fun s1 t1 =>
VL (pcellV t1 (some 33) (.ptr 68 0)) fun u1 =>
Rt t1 u1) (.ptr 68 0)) (.ptr 70 0)) (.ptr 70 17)) [x0, d1]) (.ptr 70 0)) [d1]) (
pcal Tryz.prog 58 87 f1 (fun v1 w1 =>
pst w1 33 (cellsV v1) (fun y1 z1 =>
VL (pcellV z1 (some 33) (.ptr 68 0)) fun a2 =>
Rt z1 a2) (.ptr 68 0)) [x0, x1]) g1) [x0, (.int .i64 2)]) [x0, x1]
theorem spec_l09Draw_f {x0 x1 : V} : Prt Tryz.prog 29 [x0, x1] (spec_l09Draw_F x0 x1) := pfun (fn := Tryz.f29) (m := [.s, .s, .s, .s, .s, .s, .s, .s]) (c := 2 ≤ 24) rfl (fun h0 Rt => by kernel_rfl) (by decide)
def spec_l01From_F (x0 : V) (hi : Hp) (Rt : Hp → V → Prop) : Prop :=
VL (vlenS x0) fun a1 =>
VL (lift1 (acvi .u64) a1) fun b1 =>
VL (lift2 (abin .add) (.int .u64 8117) b1) fun c1 =>
VL (vbld (vfill [.nils, (.int .i64 0), (.int .u64 0)] [(0, 1, x0), (2, 1, c1)])) fun d1 =>
pbox hi 75 73 (cellsV d1) fun e1 =>
LP [4] [0, 3] (fun f1 g1 h1 i1 =>
VL (vlenS (g1.getD 0 .und)) fun j1 =>
VL (lift2 (abin .lss) (f1.getD 0 .und) j1) fun k1 =>
pgk true h1 (fun l1 m1 => m1 (f1.getD 0 .und) h1) (fun n1 o1 p1 =>
pgk true p1 (fun q1 r1 => VL (lift2 (abin .lss) o1 (.int .i64 4096)) fun s1 =>
r1 s1 p1) (fun t1 u1 v1 =>
VL (vpick t1 u1 (.bool false)) fun w1 =>
pcond (
VL (vfa 0 (g1.getD 1 .und)) fun y1 =>
VL (vfa 2 y1) fun z1 =>
pld v1 none (fun a2 b2 =>
VL (lift2 (abin .mul) a2 (.int .u64 1099511628211)) fun c2 =>
VL (vixS 1 (g1.getD 0 .und) (f1.getD 0 .und)) fun d2 =>
pld b2 none (fun e2 f2 =>
VL (lift1 (acvi .u64) e2) fun g2 =>
VL (lift2 (abin .add) c2 g2) fun h2 =>
VL (lift2 (abin .add) h2 (.int .u64 23)) fun i2 =>
VL (vfa 0 (g1.getD 1 .und)) fun j2 =>
VL (vfa 2 j2) fun k2 =>
pst f2 1 (cellsV i2) (fun l2 m2 =>
VL (lift2 (abin .add) (f1.getD 0 .und) (.int .i64 1)) fun n2 =>
i1 [n2] [(g1.getD 0 .und), (g1.getD 1 .und)] m2) k2) d2) z1) (
Rt v1 (g1.getD 1 .und)) w1) n1) k1) [(.int .i64 0)] [x0, (.ptr 75 0)] e1
theorem spec_l01From_f {x0 : V} : Prt Tryz.prog 30 [x0] (spec_l01From_F x0) := pfun (fn := Tryz.f30) (m := [.s, .s, .s, .s, .l [4] [0, 3], .s, .s, .s, .s]) (c := 1 ≤ 38) rfl (fun h0 Rt => by kernel_rfl) (by decide)
def impl_IsDessin_F (x0 : V) (hi : Hp) (Rt : Hp → V → Prop) : Prop :=
pbox hi 65 27 (cellsV x0) fun a1 =>
pld a1 none (fun b1 c1 =>
pld c1 (some 16) (fun d1 e1 =>
pcal Tryz.prog 59 73 e1 (fun f1 g1 =>
pgk true g1 (fun h1 i1 => i1 (.ptr 65 17) g1) (fun j1 k1 l1 =>
pgk true l1 (fun m1 n1 => pld l1 (some 16) (fun o1 p1 =>
n1 o1 p1) k1) (fun q1 r1 s1 =>
pgk true s1 (fun t1 u1 => u1 b1 s1) (fun v1 w1 y1 =>
pgk true y1 (fun z1 a2 => pcal Tryz.prog 59 78 y1 (fun b2 c2 =>
a2 b2 c2) [r1, w1]) (fun d2 e2 f2 =>
VL (vpick d2 e2 (.bool false)) fun g2 =>
pgk true f2 (fun h2 i2 => i2 b1 f2) (fun j2 k2 l2 =>
pgk true l2 (fun m2 n2 => n2 (.ptr 65 1) l2) (fun o2 p2 q2 =>
pgk true q2 (fun r2 s2 => pld q2 (some 16) (fun t2 u2 =>
s2 t2 u2) p2) (fun v2 w2 y2 =>
pgk true y2 (fun z2 a3 => a3 (.ptr 65 17) y2) (fun b3 c3 d3 =>
pgk true d3 (fun e3 f3 => pld d3 (some 16) (fun g3 h3 =>
f3 g3 h3) c3) (fun i3 j3 k3 =>
pgk true k3 (fun l3 m3 => pmks k3 86 25 32 2 (fun n3 =>
m3 (.rf 86 0 2) n3) (vfill (vi .u8 (List.replicate 32 0)) [(0, 16, w2), (16, 16, j3)])) (fun o3 p3 q3 =>
pgk true q3 (fun r3 s3 => pcal Tryz.prog 60 87 q3 (fun t3 u3 =>
s3 t3 u3) [k2, p3]) (fun v3 w3 y3 =>
pgk true y3 (fun z3 a4 => a4 b1 y3) (fun b4 c4 d4 =>
pgk true d4 (fun e4 f4 => VL (lift2 (abin .eql) w3 c4) fun g4 =>
f4 g4 d4) (fun h4 i4 j4 =>
VL (vpick h4 i4 (.bool false)) fun k4 =>
Rt j4 k4) b4) v3) o3) i3) b3) v2) o2) j2) g2) v1) q1) j1) f1) [d1, b1]) (.ptr 65 1)) (.ptr 65 0)
theorem impl_IsDessin_f {x0 : V} : Prt Tryz.prog 31 [x0] (impl_IsDessin_F x0) := pfun (fn := Tryz.f31) (m := [.s, .s, .s]) (c := 1 ≤ 27) rfl (fun h0 Rt => by kernel_rfl) (by decide)
def impl_basis_F (x0 : V) (hi : Hp) (Rt : Hp → V → Prop) : Prop :=
pbox hi 65 27 (cellsV x0) fun a1 =>
pld a1 (some 33) (fun b1 c1 =>
pcal Tryz.prog 41 78 c1 (fun d1 e1 =>
pld e1 (some 33) (fun f1 g1 =>
pld g1 none (fun h1 i1 =>
pcalp Tryz.prog 38 80 i1 (fun j1 k1 =>
pcal Tryz.prog 37 83 k1 (fun l1 m1 =>
pld m1 none (fun n1 o1 =>
pmk o1 86 2 8 [(.int .i64 0)] (fun p1 q1 =>
VL (vlenS l1) fun r1 =>
LP [25] [1, 3, 4, 5, 23, 24] (fun s1 t1 u1 v1 =>
VL (lift2 (abin .lss) (s1.getD 0 .und) (t1.getD 5 .und)) fun w1 =>
pcond (
VL (vixS 1 (t1.getD 4 .und) (s1.getD 0 .und)) fun y1 =>
pld u1 none (fun z1 a2 =>
VL (vlenS z1) fun b2 =>
LP [32] [1, 3, 4, 5, 6, 23, 24, 25, 30, 31] (fun c2 d2 e2 f2 =>
VL (lift2 (abin .lss) (c2.getD 0 .und) (d2.getD 9 .und)) fun g2 =>
pcond (
VL (vixS 1 (d2.getD 8 .und) (c2.getD 0 .und)) fun h2 =>
pld e2 none (fun i2 j2 =>
VL (vixS 1 (d2.getD 3 .und) i2) fun k2 =>
pst j2 1 (cellsV (d2.getD 4 .und)) (fun l2 m2 =>
VL (lift2 (abin .add) (c2.getD 0 .und) (.int .i64 1)) fun n2 =>
f2 [n2] [(d2.getD 0 .und), (d2.getD 1 .und), (d2.getD 2 .und), (d2.getD 3 .und), (d2.getD 4 .und), (d2.getD 5 .und), (d2.getD 6 .und), (d2.getD 7 .und), (d2.getD 8 .und), (d2.getD 9 .und)] m2) k2) h2) (
VL (lift2 (abin .add) (d2.getD 7 .und) (.int .i64 1)) fun o2 =>
v1 [o2] [(d2.getD 0 .und), (d2.getD 1 .und), (d2.getD 2 .und), (d2.getD 3 .und), (d2.getD 5 .und), (d2.getD 6 .und)] e2) g2) [(.int .i64 0)] [(t1.getD 0 .und), (t1.getD 1 .und), (t1.getD 2 .und), (t1.getD 3 .und), (s1.getD 0 .und), (t1.getD 4 .und), (t1.getD 5 .und), (s1.getD 0 .und), z1, b2] a2) y1) (
VL (vlenS (t1.getD 2 .und)) fun p2 =>
pcal Tryz.prog 61 108 u1 (fun q2 r2 =>
pmks r2 109 32 0 0 (fun s2 =>
VL (vfa 0 (t1.getD 0 .und)) fun t2 =>
pld s2 none (fun u2 v2 =>
LP [11, 48] [1, 3, 5, 10, 47] (fun w2 y2 z2 a3 =>
VL (lift2 (abin .lss) (w2.getD 1 .und) (y2.getD 4 .und)) fun b3 =>
pcond (
JN (fun c3 =>
pcal Tryz.prog 53 117 z2 (fun d3 e3 =>
pcond (
c3 [(y2.getD 0 .und), (y2.getD 1 .und), (y2.getD 2 .und), (y2.getD 3 .und), (w2.getD 0 .und), (y2.getD 4 .und), (w2.getD 1 .und)] e3) (
VL (vixS 1 (y2.getD 2 .und) (w2.getD 1 .und)) fun f3 =>
pld e3 none (fun g3 h3 =>
VL (vfa 1 (y2.getD 0 .und)) fun i3 =>
pld h3 (some 16) (fun j3 k3 =>
VL (vfa 0 (y2.getD 0 .und)) fun l3 =>
pld k3 none (fun m3 n3 =>
pcalp Tryz.prog 63 128 n3 (fun o3 p3 =>
VL (vixV 16 1 none o3 (w2.getD 1 .und)) fun q3 =>
VL (vixS 1 (y2.getD 2 .und) q3) fun r3 =>
pld p3 none (fun s3 t3 =>
pcal Tryz.prog 62 133 t3 (fun u3 v3 =>
VL (lift1 (aun .not) u3) fun w3 =>
pcond (
pld v3 (some 33) (fun y3 z3 =>
pcal Tryz.prog 54 139 z3 (fun a4 b4 =>
pmks b4 140 32 1 1 (fun c4 =>
papp c4 (fun d4 e4 => papV 32 1 24 141 c4 (fun f4 g4 =>
c3 [(y2.getD 0 .und), (y2.getD 1 .und), (y2.getD 2 .und), (y2.getD 3 .und), f4, (y2.getD 4 .und), (w2.getD 1 .und)] g4) d4 e4 (w2.getD 0 .und)) (pavs c4 (w2.getD 0 .und) []) (preadS 1 c4 (.rf 140 0 1))) (vfill [.nils] [(0, 1, a4)])) [y3, (w2.getD 1 .und), (y2.getD 1 .und)]) (y2.getD 0 .und)) (
c3 [(y2.getD 0 .und), (y2.getD 1 .und), (y2.getD 2 .und), (y2.getD 3 .und), (w2.getD 0 .und), (y2.getD 4 .und), (w2.getD 1 .und)] v3) w3) [(y2.getD 3 .und), g3, s3]) r3) [j3, m3]) l3) i3) f3) d3) [(y2.getD 1 .und), (w2.getD 1 .und)]) fun h4 i4 =>
VL (lift2 (abin .add) (h4.getD 6 .und) (.int .i64 1)) fun j4 =>
a3 [(h4.getD 4 .und), j4] [(h4.getD 0 .und), (h4.getD 1 .und), (h4.getD 2 .und), (h4.getD 3 .und), (h4.getD 5 .und)] i4) (
Rt z2 (w2.getD 0 .und)) b3) [(.rf 109 0 0), (.int .i64 0)] [(t1.getD 0 .und), (t1.getD 1 .und), (t1.getD 3 .und), q2, u2] v2) t2) (vfill [] [])) [p2]) w1) [(.int .i64 0)] [(.ptr 65 0), d1, l1, p1, l1, r1] q1) n1 n1) (.ptr 65 0)) [j1, h1]) [f1]) (.ptr 65 0)) (.ptr 65 0)) [b1]) (.ptr 65 0)
theorem impl_basis_f {x0 : V} : Prt Tryz.prog 32 [x0] (impl_basis_F x0) := pfun (fn := Tryz.f32) (m := [.s, .s, .s, .s, .s, .s, .l [25] [1, 3, 4, 5, 23, 24], .s, .s, .s, .s, .s, .l [32] [1, 3, 4, 5, 6, 23, 24, 25, 30, 31], .s, .s, .s, .s, .s, .s, .s, .s, .l [11, 48] [1, 3, 5, 10, 47], .s, .s, .j [1, 3, 5, 10, 11, 47, 48], .s, .s, .s, .s, .s]) (c := 1 ≤ 80) rfl (fun h0 Rt => by kernel_rfl) (by decide)
def impl_intersection_F (x0 x1 x2 : V) (hi : Hp) (Rt : Hp → V → Prop) : Prop :=
pbox hi 67 27 (cellsV x0) fun a1 =>
pld a1 (some 33) (fun b1 c1 =>
pcal Tryz.prog 64 82 c1 (fun d1 e1 =>
VL (vext 0 d1) fun f1 =>
VL (vext 1 d1) fun g1 =>
VL (vlenS f1) fun h1 =>
LP [9, 23] [1, 2, 21, 22] (fun i1 j1 k1 l1 =>
VL (lift2 (abin .lss) (i1.getD 1 .und) (j1.getD 3 .und)) fun m1 =>
pcond (
VL (vixS 1 (j1.getD 2 .und) (i1.getD 1 .und)) fun n1 =>
pld k1 none (fun o1 p1 =>
VL (vlenS o1) fun q1 =>
LP [9, 29] [1, 2, 11, 21, 22, 23, 27, 28] (fun r1 s1 t1 u1 =>
VL (lift2 (abin .lss) (r1.getD 1 .und) (s1.getD 7 .und)) fun v1 =>
pcond (
VL (vixS 1 (s1.getD 6 .und) (r1.getD 1 .und)) fun w1 =>
pld t1 none (fun y1 z1 =>
VL (vslS 1 (s1.getD 2 .und) none (some (r1.getD 1 .und))) fun a2 =>
VL (vlenS a2) fun b2 =>
LP [9, 38] [1, 2, 11, 13, 21, 22, 23, 27, 28, 29, 36, 37] (fun c2 d2 e2 f2 =>
VL (lift2 (abin .lss) (c2.getD 1 .und) (d2.getD 11 .und)) fun g2 =>
pcond (
VL (vixS 1 (d2.getD 10 .und) (c2.getD 1 .und)) fun h2 =>
pld e2 none (fun i2 j2 =>
VL (vixS 1 (d2.getD 0 .und) i2) fun k2 =>
pld j2 none (fun l2 m2 =>
VL (vixS 1 (d2.getD 1 .und) (d2.getD 3 .und)) fun n2 =>
pld m2 none (fun o2 p2 =>
VL (lift2 (abin .mul) l2 o2) fun q2 =>
VL (vixS 1 (d2.getD 0 .und) (d2.getD 3 .und)) fun r2 =>
pld p2 none (fun s2 t2 =>
VL (vixS 1 (d2.getD 1 .und) i2) fun u2 =>
pld t2 none (fun v2 w2 =>
VL (lift2 (abin .mul) s2 v2) fun y2 =>
VL (lift2 (abin .sub) q2 y2) fun z2 =>
VL (lift2 (abin .add) (c2.getD 0 .und) z2) fun a3 =>
VL (lift2 (abin .add) (c2.getD 1 .und) (.int .i64 1)) fun b3 =>
f2 [a3, b3] [(d2.getD 0 .und), (d2.getD 1 .und), (d2.getD 2 .und), (d2.getD 3 .und), (d2.getD 4 .und), (d2.getD 5 .und), (d2.getD 6 .und), (d2.getD 7 .und), (d2.getD 8 .und), (d2.getD 9 .und), (d2.getD 10 .und), (d2.getD 11 .und)] w2) u2) r2) n2) k2) h2) (
VL (lift2 (abin .add) (d2.getD 9 .und) (.int .i64 1)) fun c3 =>
u1 [(c2.getD 0 .und), c3] [(d2.getD 0 .und), (d2.getD 1 .und), (d2.getD 2 .und), (d2.getD 4 .und), (d2.getD 5 .und), (d2.getD 6 .und), (d2.getD 7 .und), (d2.getD 8 .und)] e2) g2) [(r1.getD 0 .und), (.int .i64 0)] [(s1.getD 0 .und), (s1.getD 1 .und), (s1.getD 2 .und), y1, (s1.getD 3 .und), (s1.getD 4 .und), (s1.getD 5 .und), (s1.getD 6 .und), (s1.getD 7 .und), (r1.getD 1 .und), a2, b2] z1) w1) (
VL (lift2 (abin .add) (s1.getD 5 .und) (.int .i64 1)) fun d3 =>
l1 [(r1.getD 0 .und), d3] [(s1.getD 0 .und), (s1.getD 1 .und), (s1.getD 3 .und), (s1.getD 4 .und)] t1) v1) [(i1.getD 0 .und), (.int .i64 0)] [(j1.getD 0 .und), (j1.getD 1 .und), o1, (j1.getD 2 .und), (j1.getD 3 .und), (i1.getD 1 .und), o1, q1] p1) n1) (
VL (lift2 (abin .quo) (i1.getD 0 .und) (.int .i64 2)) fun e3 =>
Rt k1 e3) m1) [(.int .i64 0), (.int .i64 0)] [x1, x2, f1, h1] e1) [b1]) (.ptr 67 0)
theorem impl_intersection_f {x0 x1 x2 : V} : Prt Tryz.prog 33 [x0, x1, x2] (impl_intersection_F x0 x1 x2) := pfun (fn := Tryz.f33) (m := [.s, .s, .s, .s, .s, .l [9, 23] [1, 2, 21, 22], .s, .s, .s, .s, .s, .l [9, 29] [1, 2, 11, 21, 22, 23, 27, 28], .s, .s, .s, .s, .s, .l [9, 38] [1, 2, 11, 13, 21, 22, 23, 27, 28, 29, 36, 37], .s, .s, .s, .s, .s]) (c := 3 ≤ 68) rfl (fun h0 Rt => by kernel_rfl) (by decide)
def spec_l01Is_F (x0 : V) (hi : Hp) (Rt : Hp → V → Prop) : Prop :=
pbox hi 65 27 (cellsV x0) fun a1 =>
pld a1 (some 16) (fun b1 c1 =>
pld c1 none (fun d1 e1 =>
pcal Tryz.prog 65 71 e1 (fun f1 g1 =>
pgk true g1 (fun h1 i1 => i1 (.ptr 65 17) g1) (fun j1 k1 l1 =>
pgk true l1 (fun m1 n1 => pld l1 (some 16) (fun o1 p1 =>
n1 o1 p1) k1) (fun q1 r1 s1 =>
pgk true s1 (fun t1 u1 => u1 (.ptr 65 0) s1) (fun v1 w1 y1 =>
pgk true y1 (fun z1 a2 => pld y1 none (fun b2 c2 =>
a2 b2 c2) w1) (fun d2 e2 f2 =>
pgk true f2 (fun g2 h2 => pcal Tryz.prog 65 77 f2 (fun i2 j2 =>
h2 i2 j2) [r1, e2]) (fun k2 l2 m2 =>
VL (vpick k2 l2 (.bool false)) fun n2 =>
pgk true m2 (fun o2 p2 => p2 (.ptr 65 0) m2) (fun q2 r2 s2 =>
pgk true s2 (fun t2 u2 => pld s2 none (fun v2 w2 =>
u2 v2 w2) r2) (fun y2 z2 a3 =>
pgk true a3 (fun b3 c3 => c3 (.ptr 65 1) a3) (fun d3 e3 f3 =>
pgk true f3 (fun g3 h3 => pld f3 (some 16) (fun i3 j3 =>
h3 i3 j3) e3) (fun k3 l3 m3 =>
pgk true m3 (fun n3 o3 => o3 (.ptr 65 17) m3) (fun p3 q3 r3 =>
pgk true r3 (fun s3 t3 => pld r3 (some 16) (fun u3 v3 =>
t3 u3 v3) q3) (fun w3 y3 z3 =>
pgk true z3 (fun a4 b4 => pcal Tryz.prog 66 86 z3 (fun c4 d4 =>
b4 c4 d4) [z2, l3, y3]) (fun e4 f4 g4 =>
VL (vpick e4 f4 (.bool false)) fun h4 =>
Rt g4 h4) w3) p3) k3) d3) y2) q2) n2) d2) v1) q1) j1) f1) [b1, d1]) (.ptr 65 0)) (.ptr 65 1)
theorem spec_l01Is_f {x0 : V} : Prt Tryz.prog 34 [x0] (spec_l01Is_F x0) := pfun (fn := Tryz.f34) (m := [.s, .s]) (c := 1 ≤ 24) rfl (fun h0 Rt => by kernel_rfl) (by decide)
def spec_l09Basis_F (x0 : V) (hi : Hp) (Rt : Hp → V → Prop) : Prop :=
pbox hi 65 27 (cellsV x0) fun a1 =>
pld a1 (some 33) (fun b1 c1 =>
pld c1 (some 33) (fun d1 e1 =>
pld e1 none (fun f1 g1 =>
pld g1 (some 16) (fun h1 i1 =>
pld i1 none (fun j1 k1 =>
pcalp Tryz.prog 42 74 k1 (fun l1 m1 =>
pcalp Tryz.prog 40 76 m1 (fun n1 o1 =>
pcalp Tryz.prog 67 79 o1 (fun p1 q1 =>
pcalp Tryz.prog 68 84 q1 (fun r1 s1 =>
pcalp Tryz.prog 69 85 s1 (fun t1 u1 =>
palloc u1 67 58 (vb (List.replicate 16 false)) fun v1 =>
palloc v1 68 84 (vi .i64 (List.replicate 16 0)) fun w1 =>
palloc w1 69 25 (vi .u8 (List.replicate 16 0)) fun y1 =>
pst y1 16 (cellsV l1) (fun z1 a2 =>
pst a2 16 (cellsV p1) (fun b2 c2 =>
pst c2 16 (cellsV r1) (fun d2 e2 =>
pmks e2 86 32 0 0 (fun f2 =>
LP [7, 8] [1, 3, 4, 5, 6] (fun g2 h2 i2 j2 =>
VL (vfa 0 (h2.getD 0 .und)) fun k2 =>
pld i2 none (fun l2 m2 =>
VL (lift2 (abin .lss) (g2.getD 1 .und) l2) fun n2 =>
pcond (
JN (fun o2 =>
VL (vixA 16 1 (h2.getD 1 .und) (g2.getD 1 .und)) fun p2 =>
pld m2 none (fun q2 r2 =>
VL (lift1 (aun .not) q2) fun s2 =>
pgk true r2 (fun t2 u2 => u2 (h2.getD 4 .und) r2) (fun v2 w2 y2 =>
pgk true y2 (fun z2 a3 => a3 (g2.getD 1 .und) y2) (fun b3 c3 d3 =>
pgk true d3 (fun e3 f3 => VL (vixA 16 1 (h2.getD 2 .und) c3) fun g3 =>
f3 g3 d3) (fun h3 i3 j3 =>
pgk true j3 (fun k3 l3 => pld j3 none (fun m3 n3 =>
l3 m3 n3) i3) (fun o3 p3 q3 =>
pgk true q3 (fun r3 s3 => s3 (g2.getD 1 .und) q3) (fun t3 u3 v3 =>
pgk true v3 (fun w3 y3 => VL (vixA 16 1 (h2.getD 3 .und) u3) fun z3 =>
y3 z3 v3) (fun a4 b4 c4 =>
pgk true c4 (fun d4 e4 => pld c4 none (fun f4 g4 =>
e4 f4 g4) b4) (fun h4 i4 j4 =>
pgk true j4 (fun k4 l4 => VL (vixA 16 1 (h2.getD 2 .und) i4) fun m4 =>
l4 m4 j4) (fun n4 o4 p4 =>
pgk true p4 (fun q4 r4 => pld p4 none (fun s4 t4 =>
r4 s4 t4) o4) (fun u4 v4 w4 =>
pgk true w4 (fun y4 z4 => pcal Tryz.prog 70 107 w4 (fun a5 b5 =>
z4 a5 b5) [w2, p3, v4]) (fun c5 d5 e5 =>
pgk true e5 (fun f5 g5 => VL (lift1 (aun .not) d5) fun h5 =>
g5 h5 e5) (fun i5 j5 k5 =>
VL (vpick i5 j5 (.bool false)) fun l5 =>
pcond (
pld k5 (some 33) (fun m5 n5 =>
pld n5 (some 16) (fun o5 p5 =>
pcal Tryz.prog 51 114 p5 (fun q5 r5 =>
pmks r5 115 32 1 1 (fun s5 =>
papp s5 (fun t5 u5 => papV 32 1 24 116 s5 (fun v5 w5 =>
o2 [(h2.getD 0 .und), (h2.getD 1 .und), (h2.getD 2 .und), (h2.getD 3 .und), (h2.getD 4 .und), v5, (g2.getD 1 .und)] w5) t5 u5 (g2.getD 0 .und)) (pavs s5 (g2.getD 0 .und) []) (preadS 1 s5 (.rf 115 0 1))) (vfill [.nils] [(0, 1, q5)])) [m5, o5, (g2.getD 1 .und)]) (h2.getD 1 .und)) (h2.getD 0 .und)) (
o2 [(h2.getD 0 .und), (h2.getD 1 .und), (h2.getD 2 .und), (h2.getD 3 .und), (h2.getD 4 .und), (g2.getD 0 .und), (g2.getD 1 .und)] k5) l5) c5) u4) n4) h4) a4) t3) o3) h3) b3) v2) s2) p2) fun y5 z5 =>
VL (lift2 (abin .add) (y5.getD 6 .und) (.int .i64 1)) fun a6 =>
j2 [(y5.getD 5 .und), a6] [(y5.getD 0 .und), (y5.getD 1 .und), (y5.getD 2 .und), (y5.getD 3 .und), (y5.getD 4 .und)] z5) (
Rt m2 (g2.getD 0 .und)) n2) k2) [(.rf 86 0 0), (.int .i64 0)] [(.ptr 65 0), (.ptr 67 0), (.ptr 68 0), (.ptr 69 0), t1] f2) (vfill [] [])) (.ptr 69 0)) (.ptr 68 0)) (.ptr 67 0)) [(.int .i64 16)]) [h1, j1]) [n1, f1]) [d1]) [b1]) (.ptr 65 0)) (.ptr 65 1)) (.ptr 65 0)) (.ptr 65 0)) (.ptr 65 0)
theorem spec_l09Basis_f {x0 : V} : Prt Tryz.prog 35 [x0] (spec_l09Basis_F x0) := pfun (fn := Tryz.f35) (m := [.s, .s, .s, .s, .s, .l [7, 8] [1, 3, 4, 5, 6], .s, .s, .j [1, 3, 4, 5, 6, 7, 8], .s, .s]) (c := 1 ≤ 54) rfl (fun h0 Rt => by kernel_rfl) (by decide)
def spec_l09Meet_F (x0 x1 x2 : V) (hi : Hp) (Rt : Hp → V → Prop) : Prop :=
pbox hi 67 27 (cellsV x0) fun a1 =>
pld a1 (some 16) (fun b1 c1 =>
pld c1 none (fun d1 e1 =>
pldb e1 (some 16) (fun f1 g1 =>
pldb g1 none (fun h1 i1 =>
pcalp Tryz.prog 39 83 i1 (fun j1 k1 =>
pmks k1 78 32 0 0 (fun l1 =>
papp l1 (fun m1 n1 => papV 32 1 24 84 l1 (fun o1 p1 =>
pcal Tryz.prog 39 89 p1 (fun q1 r1 =>
papp r1 (fun s1 t1 => papV 32 1 24 90 r1 (fun u1 v1 =>
LP [8, 9] [1, 2, 7] (fun w1 y1 z1 a2 =>
VL (vlenS (y1.getD 2 .und)) fun b2 =>
VL (lift2 (abin .lss) (w1.getD 1 .und) b2) fun c2 =>
pcond (
LP [8, 10] [1, 2, 7, 9] (fun d2 e2 f2 g2 =>
VL (vixS 1 (e2.getD 2 .und) (e2.getD 3 .und)) fun h2 =>
pld f2 none (fun i2 j2 =>
VL (vlenS i2) fun k2 =>
VL (lift2 (abin .lss) (d2.getD 1 .und) k2) fun l2 =>
pcond (
LP [8, 11] [1, 2, 7, 9, 10] (fun m2 n2 o2 p2 =>
VL (lift2 (abin .lss) (m2.getD 1 .und) (n2.getD 4 .und)) fun q2 =>
pcond (
VL (vixS 1 (n2.getD 2 .und) (n2.getD 3 .und)) fun r2 =>
pld o2 none (fun s2 t2 =>
VL (vixS 1 s2 (m2.getD 1 .und)) fun u2 =>
pld t2 none (fun v2 w2 =>
VL (vixS 1 (n2.getD 2 .und) (n2.getD 3 .und)) fun y2 =>
pld w2 none (fun z2 a3 =>
VL (vixS 1 z2 (n2.getD 4 .und)) fun b3 =>
pld a3 none (fun c3 d3 =>
VL (vixS 1 (n2.getD 0 .und) v2) fun e3 =>
pld d3 none (fun f3 g3 =>
VL (vixS 1 (n2.getD 1 .und) c3) fun h3 =>
pld g3 none (fun i3 j3 =>
VL (lift2 (abin .mul) f3 i3) fun k3 =>
VL (lift2 (abin .add) (m2.getD 0 .und) k3) fun l3 =>
VL (vixS 1 (n2.getD 0 .und) c3) fun m3 =>
pld j3 none (fun n3 o3 =>
VL (vixS 1 (n2.getD 1 .und) v2) fun p3 =>
pld o3 none (fun q3 r3 =>
VL (lift2 (abin .mul) n3 q3) fun s3 =>
VL (lift2 (abin .sub) l3 s3) fun t3 =>
VL (lift2 (abin .add) (m2.getD 1 .und) (.int .i64 1)) fun u3 =>
p2 [t3, u3] [(n2.getD 0 .und), (n2.getD 1 .und), (n2.getD 2 .und), (n2.getD 3 .und), (n2.getD 4 .und)] r3) p3) m3) h3) e3) b3) y2) u2) r2) (
VL (lift2 (abin .add) (n2.getD 4 .und) (.int .i64 1)) fun v3 =>
g2 [(m2.getD 0 .und), v3] [(n2.getD 0 .und), (n2.getD 1 .und), (n2.getD 2 .und), (n2.getD 3 .und)] o2) q2) [(d2.getD 0 .und), (.int .i64 0)] [(e2.getD 0 .und), (e2.getD 1 .und), (e2.getD 2 .und), (e2.getD 3 .und), (d2.getD 1 .und)] j2) (
VL (lift2 (abin .add) (e2.getD 3 .und) (.int .i64 1)) fun w3 =>
a2 [(d2.getD 0 .und), w3] [(e2.getD 0 .und), (e2.getD 1 .und), (e2.getD 2 .und)] j2) l2) h2) [(w1.getD 0 .und), (.int .i64 0)] [(y1.getD 0 .und), (y1.getD 1 .und), (y1.getD 2 .und), (w1.getD 1 .und)] z1) (
VL (lift2 (abin .quo) (w1.getD 0 .und) (.int .i64 2)) fun y3 =>
Rt z1 y3) c2) [(.int .i64 0), (.int .i64 0)] [x1, x2, u1] v1) s1 t1 o1) (pavs r1 o1 []) (preadS 1 r1 q1)) [f1, h1]) m1 n1 (.rf 78 0 0)) (pavs l1 (.rf 78 0 0) [(.ptr 67 0), (.ptr 67 0)]) (preadS 1 l1 j1)) (vfill [] [])) [b1, d1]) (.ptr 67 0) (.ptr 67 0)) (.ptr 67 17) (.ptr 67 0)) (.ptr 67 0)) (.ptr 67 1)
theorem spec_l09Meet_f {x0 x1 x2 : V} : Prt Tryz.prog 36 [x0, x1, x2] (spec_l09Meet_F x0 x1 x2) := pfun (fn := Tryz.f36) (m := [.s, .s, .s, .s, .s, .l [8, 9] [1, 2, 7], .s, .s, .s, .s, .l [8, 10] [1, 2, 7, 9], .s, .s, .s, .s, .l [8, 11] [1, 2, 7, 9, 10], .s, .s, .s, .s, .s]) (c := 3 ≤ 84) rfl (fun h0 Rt => by kernel_rfl) (by decide)
def impl_cycles_F (x0 x1 : V) (hi : Hp) (Rt : Hp → V → Prop) : Prop :=
pbox hi 66 25 (cellsV x0) fun a1 =>
pmks a1 74 32 0 0 (fun b1 =>
VL (vbld (vfill (vb (List.replicate 16 false)) [])) fun c1 =>
palloc b1 70 58 (vb (List.replicate 16 false)) fun d1 =>
pst d1 16 (cellsV c1) (fun e1 f1 =>
LP [5, 13] [2, 6, 12] (fun g1 h1 i1 j1 =>
VL (lift2 (abin .lss) (g1.getD 1 .und) (h1.getD 2 .und)) fun k1 =>
pcond (
JN (fun l1 =>
VL (vixA 16 1 (h1.getD 1 .und) (g1.getD 1 .und)) fun m1 =>
pld i1 none (fun n1 o1 =>
pcond (
l1 [(h1.getD 0 .und), (g1.getD 0 .und), (h1.getD 1 .und), (h1.getD 2 .und), (g1.getD 1 .und)] o1) (
pmks o1 83 2 0 0 (fun p1 =>
LP [8, 9] [2, 5, 6, 12, 13] (fun q1 r1 s1 t1 =>
VL (vixA 16 1 (r1.getD 2 .und) (q1.getD 1 .und)) fun u1 =>
pld s1 none (fun v1 w1 =>
VL (lift1 (aun .not) v1) fun y1 =>
pcond (
VL (vixA 16 1 (r1.getD 2 .und) (q1.getD 1 .und)) fun z1 =>
pst w1 1 (cellsV (.bool true)) (fun a2 b2 =>
pmks b2 97 2 1 1 (fun c2 =>
papp c2 (fun d2 e2 => papV 2 1 8 98 c2 (fun f2 g2 =>
VL (vixA 16 1 (r1.getD 0 .und) (q1.getD 1 .und)) fun h2 =>
pld g2 none (fun i2 j2 =>
VL (lift1 (acvi .i64) i2) fun k2 =>
t1 [f2, k2] [(r1.getD 0 .und), (r1.getD 1 .und), (r1.getD 2 .und), (r1.getD 3 .und), (r1.getD 4 .und)] j2) h2) d2 e2 (q1.getD 0 .und)) (pavs c2 (q1.getD 0 .und) []) (preadS 1 c2 (.rf 97 0 1))) (vfill [(.int .i64 0)] [(0, 1, (q1.getD 1 .und))])) z1) (
pmks w1 101 32 1 1 (fun l2 =>
papp l2 (fun m2 n2 => papV 32 1 24 102 l2 (fun o2 p2 =>
l1 [(r1.getD 0 .und), o2, (r1.getD 2 .und), (r1.getD 3 .und), (r1.getD 4 .und)] p2) m2 n2 (r1.getD 1 .und)) (pavs l2 (r1.getD 1 .und) []) (preadS 1 l2 (.rf 101 0 1))) (vfill [.nils] [(0, 1, (q1.getD 0 .und))])) y1) u1) [(.rf 83 0 0), (g1.getD 1 .und)] [(h1.getD 0 .und), (g1.getD 0 .und), (h1.getD 1 .und), (h1.getD 2 .und), (g1.getD 1 .und)] p1) (vfill [] [])) n1) m1) fun q2 r2 =>
VL (lift2 (abin .add) (q2.getD 4 .und) (.int .i64 1)) fun s2 =>
j1 [(q2.getD 1 .und), s2] [(q2.getD 0 .und), (q2.getD 2 .und), (q2.getD 3 .und)] r2) (
Rt i1 (g1.getD 0 .und)) k1) [(.rf 74 0 0), (.int .i64 0)] [(.ptr 66 0), (.ptr 70 0), x1] f1) (.ptr 70 0)) (vfill [] [])
theorem impl_cycles_f {x0 x1 : V} : Prt Tryz.prog 37 [x0, x1] (impl_cycles_F x0 x1) := pfun (fn := Tryz.f37) (m := [.s, .s, .s, .s, .s, .l [5, 13] [2, 6, 12], .s, .s, .j [2, 5, 6, 12, 13], .s, .s, .s, .s, .s, .s, .l [8, 9] [2, 5, 6, 12, 13], .s, .s, .s, .s, .s]) (c := 2 ≤ 41) rfl (fun h0 Rt => by kernel_rfl) (by decide)
def impl_face_F (x0 : V) (hi : Hp) (Rt : Hp → V → Prop) : Prop :=
pbox hi 65 27 (cellsV x0) fun a1 =>
palloc a1 66 25 (vi .u8 (List.replicate 16 0)) fun b1 =>
pld b1 (some 16) (fun c1 d1 =>
pld d1 (some 16) (fun e1 f1 =>
pld f1 none (fun g1 h1 =>
pld h1 none (fun i1 j1 =>
pcalp Tryz.prog 71 73 j1 (fun k1 l1 =>
pcal Tryz.prog 63 76 l1 (fun m1 n1 =>
pst n1 16 (cellsV m1) (fun o1 p1 =>
VL (pcellV p1 (some 16) (.ptr 66 0)) fun q1 =>
Rt p1 q1) (.ptr 66 0)) [k1, i1]) [c1, e1, g1]) (.ptr 65 0)) (.ptr 65 0)) (.ptr 65 17)) (.ptr 65 1)
theorem impl_face_f {x0 : V} : Prt Tryz.prog 38 [x0] (impl_face_F x0) := pfun (fn := Tryz.f38) (m := [.s, .s]) (c := 1 ≤ 13) rfl (fun h0 Rt => by kernel_rfl) (by decide)
def spec_l01Cycles_F (x0 x1 : V) (hi : Hp) (Rt : Hp → V → Prop) : Prop :=
pbox hi 66 25 (cellsV x0) fun a1 =>
pmks a1 74 32 0 0 (fun b1 =>
VL (vbld (vfill (vb (List.replicate 16 false)) [])) fun c1 =>
palloc b1 70 58 (vb (List.replicate 16 false)) fun d1 =>
pst d1 16 (cellsV c1) (fun e1 f1 =>
LP [5, 7] [1, 2, 6] (fun g1 h1 i1 j1 =>
VL (lift2 (abin .lss) (g1.getD 1 .und) (h1.getD 0 .und)) fun k1 =>
pcond (
JN (fun l1 =>
pmks i1 81 2 0 0 (fun m1 =>
LP [8, 9] [1, 2, 5, 6, 7] (fun n1 o1 p1 q1 =>
VL (vixA 16 1 (o1.getD 3 .und) (n1.getD 1 .und)) fun r1 =>
pld p1 none (fun s1 t1 =>
VL (lift1 (aun .not) s1) fun u1 =>
pcond (
VL (vixA 16 1 (o1.getD 3 .und) (n1.getD 1 .und)) fun v1 =>
pst t1 1 (cellsV (.bool true)) (fun w1 y1 =>
pmks y1 95 2 1 1 (fun z1 =>
papp z1 (fun a2 b2 => papV 2 1 8 96 z1 (fun c2 d2 =>
VL (vixA 16 1 (o1.getD 1 .und) (n1.getD 1 .und)) fun e2 =>
pld d2 none (fun f2 g2 =>
VL (lift1 (acvi .i64) f2) fun h2 =>
q1 [c2, h2] [(o1.getD 0 .und), (o1.getD 1 .und), (o1.getD 2 .und), (o1.getD 3 .und), (o1.getD 4 .und)] g2) e2) a2 b2 (n1.getD 0 .und)) (pavs z1 (n1.getD 0 .und) []) (preadS 1 z1 (.rf 95 0 1))) (vfill [(.int .i64 0)] [(0, 1, (n1.getD 1 .und))])) v1) (
VL (vlenS (n1.getD 0 .und)) fun i2 =>
VL (lift2 (abin .gtr) i2 (.int .i64 0)) fun j2 =>
pcond (
pmks t1 102 32 1 1 (fun k2 =>
papp k2 (fun l2 m2 => papV 32 1 24 103 k2 (fun n2 o2 =>
l1 [(o1.getD 0 .und), (o1.getD 1 .und), n2, (o1.getD 3 .und), (o1.getD 4 .und)] o2) l2 m2 (o1.getD 2 .und)) (pavs k2 (o1.getD 2 .und) []) (preadS 1 k2 (.rf 102 0 1))) (vfill [.nils] [(0, 1, (n1.getD 0 .und))])) (
l1 [(o1.getD 0 .und), (o1.getD 1 .und), (o1.getD 2 .und), (o1.getD 3 .und), (o1.getD 4 .und)] t1) j2) u1) r1) [(.rf 81 0 0), (g1.getD 1 .und)] [(h1.getD 0 .und), (h1.getD 1 .und), (g1.getD 0 .und), (h1.getD 2 .und), (g1.getD 1 .und)] m1) (vfill [] [])) fun p2 q2 =>
VL (lift2 (abin .add) (p2.getD 4 .und) (.int .i64 1)) fun r2 =>
j1 [(p2.getD 2 .und), r2] [(p2.getD 0 .und), (p2.getD 1 .und), (p2.getD 3 .und)] q2) (
Rt i1 (g1.getD 0 .und)) k1) [(.rf 74 0 0), (.int .i64 0)] [x1, (.ptr 66 0), (.ptr 70 0)] f1) (.ptr 70 0)) (vfill [] [])
theorem spec_l01Cycles_f {x0 x1 : V} : Prt Tryz.prog 39 [x0, x1] (spec_l01Cycles_F x0 x1) := pfun (fn := Tryz.f39) (m := [.s, .s, .s, .s, .l [5, 7] [1, 2, 6], .s, .s, .j [1, 2, 5, 6, 7], .s, .s, .s, .l [8, 9] [1, 2, 5, 6, 7], .s, .s, .s, .s, .s, .s]) (c := 2 ≤ 41) rfl (fun h0 Rt => by kernel_rfl) (by decide)
def spec_l01Face_F (x0 : V) (hi : Hp) (Rt : Hp → V → Prop) : Prop :=
pbox hi 65 27 (cellsV x0) fun a1 =>
palloc a1 66 25 (vi .u8 (List.replicate 16 0)) fun b1 =>
pld b1 (some 16) (fun c1 d1 =>
pld d1 (some 16) (fun e1 f1 =>
pld f1 none (fun g1 h1 =>
pld h1 none (fun i1 j1 =>
pcalp Tryz.prog 72 73 j1 (fun k1 l1 =>
pcal Tryz.prog 68 76 l1 (fun m1 n1 =>
pst n1 16 (cellsV m1) (fun o1 p1 =>
VL (pcellV p1 (some 16) (.ptr 66 0)) fun q1 =>
Rt p1 q1) (.ptr 66 0)) [k1, i1]) [c1, e1, g1]) (.ptr 65 0)) (.ptr 65 0)) (.ptr 65 17)) (.ptr 65 1)
theorem spec_l01Face_f {x0 : V} : Prt Tryz.prog 40 [x0] (spec_l01Face_F x0) := pfun (fn := Tryz.f40) (m := [.s, .s]) (c := 1 ≤ 13) rfl (fun h0 Rt => by kernel_rfl) (by decide)
def impl_treeEdges_F (x0 : V) (hi : Hp) (Rt : Hp → V → Prop) : Prop :=
pbox hi 65 27 (cellsV x0) fun a1 =>
pld a1 (some 33) (fun b1 c1 =>
pcal Tryz.prog 64 74 c1 (fun d1 e1 =>
VL (vext 0 d1) fun f1 =>
VL (vext 1 d1) fun g1 =>
VL (vlenS f1) fun h1 =>
pcal Tryz.prog 61 79 e1 (fun i1 j1 =>
pmks j1 80 2 0 0 (fun k1 =>
pld k1 none (fun l1 m1 =>
LP [6, 19] [4, 5, 18] (fun n1 o1 p1 q1 =>
VL (lift2 (abin .lss) (n1.getD 1 .und) (o1.getD 2 .und)) fun r1 =>
pcond (
JN (fun s1 =>
VL (vixS 2 (o1.getD 0 .und) (n1.getD 1 .und)) fun t1 =>
VL (vixA 2 1 t1 (.int .i64 0)) fun u1 =>
pld p1 none (fun v1 w1 =>
VL (vixS 2 (o1.getD 0 .und) (n1.getD 1 .und)) fun y1 =>
VL (vixA 2 1 y1 (.int .i64 1)) fun z1 =>
pld w1 none (fun a2 b2 =>
pcal Tryz.prog 62 97 b2 (fun c2 d2 =>
pcond (
pmks d2 100 2 1 1 (fun e2 =>
papp e2 (fun f2 g2 => papV 2 1 8 101 e2 (fun h2 i2 =>
s1 [(o1.getD 0 .und), (o1.getD 1 .und), h2, (o1.getD 2 .und), (n1.getD 1 .und)] i2) f2 g2 (n1.getD 0 .und)) (pavs e2 (n1.getD 0 .und) []) (preadS 1 e2 (.rf 100 0 1))) (vfill [(.int .i64 0)] [(0, 1, (n1.getD 1 .und))])) (
s1 [(o1.getD 0 .und), (o1.getD 1 .und), (n1.getD 0 .und), (o1.getD 2 .und), (n1.getD 1 .und)] d2) c2) [(o1.getD 1 .und), v1, a2]) z1) u1) fun j2 k2 =>
VL (lift2 (abin .add) (j2.getD 4 .und) (.int .i64 1)) fun l2 =>
q1 [(j2.getD 2 .und), l2] [(j2.getD 0 .und), (j2.getD 1 .und), (j2.getD 3 .und)] k2) (
Rt p1 (n1.getD 0 .und)) r1) [(.rf 80 0 0), (.int .i64 0)] [g1, i1, l1] m1) (.ptr 65 0)) (vfill [] [])) [h1]) [b1]) (.ptr 65 0)
theorem impl_treeEdges_f {x0 : V} : Prt Tryz.prog 41 [x0] (impl_treeEdges_F x0) := pfun (fn := Tryz.f41) (m := [.s, .s, .s, .s, .s, .s, .l [6, 19] [4, 5, 18], .s, .s, .j [4, 5, 6, 18, 19], .s, .s, .s]) (c := 1 ≤ 40) rfl (fun h0 Rt => by kernel_rfl) (by decide)
def spec_l09Tree_F (x0 : V) (hi : Hp) (Rt : Hp → V → Prop) : Prop :=
pbox hi 65 27 (cellsV x0) fun a1 =>
palloc a1 66 58 (vb (List.replicate 16 false)) fun b1 =>
pld b1 (some 16) (fun c1 d1 =>
pld d1 none (fun e1 f1 =>
pld f1 (some 16) (fun g1 h1 =>
pld h1 none (fun i1 j1 =>
VL (vbld (vfill (vb (List.replicate 16 false)) [])) fun k1 =>
pcalp Tryz.prog 67 76 j1 (fun l1 m1 =>
pcalp Tryz.prog 67 81 m1 (fun n1 o1 =>
palloc o1 67 84 (vi .i64 (List.replicate 16 0)) fun p1 =>
palloc p1 68 84 (vi .i64 (List.replicate 16 0)) fun q1 =>
palloc q1 69 58 (vb (List.replicate 16 false)) fun r1 =>
pst r1 16 (cellsV l1) (fun s1 t1 =>
pst t1 16 (cellsV n1) (fun u1 v1 =>
pst v1 16 (cellsV k1) (fun w1 y1 =>
pcal Tryz.prog 69 83 y1 (fun z1 a2 =>
LP [7] [1, 2, 3, 4, 5, 6] (fun b2 c2 d2 e2 =>
VL (vfa 0 (c2.getD 0 .und)) fun f2 =>
pld d2 none (fun g2 h2 =>
VL (lift2 (abin .lss) (b2.getD 0 .und) g2) fun i2 =>
pcond (
VL (vixA 16 1 (c2.getD 2 .und) (b2.getD 0 .und)) fun j2 =>
pld h2 none (fun k2 l2 =>
VL (vixA 16 1 (c2.getD 3 .und) (b2.getD 0 .und)) fun m2 =>
pld l2 none (fun n2 o2 =>
VL (lift2 (abin .add) (.int .i64 16) n2) fun p2 =>
pcal Tryz.prog 70 99 o2 (fun q2 r2 =>
VL (vixA 16 1 (c2.getD 4 .und) (b2.getD 0 .und)) fun s2 =>
pst r2 1 (cellsV q2) (fun t2 u2 =>
VL (lift2 (abin .add) (b2.getD 0 .und) (.int .i64 1)) fun v2 =>
e2 [v2] [(c2.getD 0 .und), (c2.getD 1 .und), (c2.getD 2 .und), (c2.getD 3 .und), (c2.getD 4 .und), (c2.getD 5 .und)] u2) s2) [(c2.getD 5 .und), k2, p2]) m2) j2) (
pld h2 (some 16) (fun w2 y2 =>
pst y2 16 (cellsV w2) (fun z2 a3 =>
VL (pcellV a3 (some 16) (c2.getD 1 .und)) fun b3 =>
Rt a3 b3) (c2.getD 1 .und)) (c2.getD 4 .und)) i2) f2) [(.int .i64 0)] [(.ptr 65 0), (.ptr 66 0), (.ptr 67 0), (.ptr 68 0), (.ptr 69 0), z1] a2) [(.int .i64 32)]) (.ptr 69 0)) (.ptr 68 0)) (.ptr 67 0)) [g1, i1]) [c1, e1]) (.ptr 65 0)) (.ptr 65 17)) (.ptr 65 0)) (.ptr 65 1)
theorem spec_l09Tree_f {x0 : V} : Prt Tryz.prog 42 [x0] (spec_l09Tree_F x0) := pfun (fn := Tryz.f42) (m := [.s, .s, .s, .s, .s, .l [7] [1, 2, 3, 4, 5, 6], .s, .s, .s, .s]) (c := 1 ≤ 38) rfl (fun h0 Rt => by kernel_rfl) (by decide)
def impl_genus_F (x0 : V) (hi : Hp) (Rt : Hp → V → Prop) : Prop :=
pbox hi 65 27 (cellsV x0) fun a1 =>
pld a1 (some 33) (fun b1 c1 =>
pld c1 none (fun d1 e1 =>
pcalp Tryz.prog 74 68 e1 (fun f1 g1 =>
pcal Tryz.prog 73 71 g1 (fun h1 i1 =>
VL (lift2 (abin .quo) h1 (.int .i64 2)) fun j1 =>
VL (lift2 (abin .sub) (.int .i64 1) j1) fun k1 =>
Rt i1 k1) [f1, d1]) [b1]) (.ptr 65 0)) (.ptr 65 0)
theorem impl_genus_f {x0 : V} : Prt Tryz.prog 43 [x0] (impl_genus_F x0) := pfun (fn := Tryz.f43) (m := [.s, .s]) (c := 1 ≤ 10) rfl (fun h0 Rt => by kernel_rfl) (by decide)
def impl_allCycles_F (x0 : V) (hi : Hp) (Rt : Hp → V → Prop) : Prop :=
pbox hi 65 27 (cellsV x0) fun a1 =>
pld a1 (some 33) (fun b1 c1 =>
pcal Tryz.prog 41 71 c1 (fun d1 e1 =>
pmks e1 72 32 0 0 (fun f1 =>
pld f1 none (fun g1 h1 =>
LP [4, 11] [1, 3, 10] (fun i1 j1 k1 l1 =>
VL (lift2 (abin .lss) (i1.getD 1 .und) (j1.getD 2 .und)) fun m1 =>
pcond (
JN (fun n1 =>
pcal Tryz.prog 53 80 k1 (fun o1 p1 =>
VL (lift1 (aun .not) o1) fun q1 =>
pcond (
pld p1 (some 33) (fun r1 s1 =>
pcal Tryz.prog 54 86 s1 (fun t1 u1 =>
pmks u1 87 32 1 1 (fun v1 =>
papp v1 (fun w1 y1 => papV 32 1 24 88 v1 (fun z1 a2 =>
n1 [(j1.getD 0 .und), (j1.getD 1 .und), z1, (j1.getD 2 .und), (i1.getD 1 .und)] a2) w1 y1 (i1.getD 0 .und)) (pavs v1 (i1.getD 0 .und) []) (preadS 1 v1 (.rf 87 0 1))) (vfill [.nils] [(0, 1, t1)])) [r1, (i1.getD 1 .und), (j1.getD 1 .und)]) (j1.getD 0 .und)) (
n1 [(j1.getD 0 .und), (j1.getD 1 .und), (i1.getD 0 .und), (j1.getD 2 .und), (i1.getD 1 .und)] p1) q1) [(j1.getD 1 .und), (i1.getD 1 .und)]) fun b2 c2 =>
VL (lift2 (abin .add) (b2.getD 4 .und) (.int .i64 1)) fun d2 =>
l1 [(b2.getD 2 .und), d2] [(b2.getD 0 .und), (b2.getD 1 .und), (b2.getD 3 .und)] c2) (
Rt k1 (i1.getD 0 .und)) m1) [(.rf 72 0 0), (.int .i64 0)] [(.ptr 65 0), d1, g1] h1) (.ptr 65 0)) (vfill [] [])) [b1]) (.ptr 65 0)
theorem impl_allCycles_f {x0 : V} : Prt Tryz.prog 44 [x0] (impl_allCycles_F x0) := pfun (fn := Tryz.f44) (m := [.s, .s, .s, .s, .s, .l [4, 11] [1, 3, 10], .s, .s, .j [1, 3, 4, 10, 11], .s, .s, .s]) (c := 1 ≤ 27) rfl (fun h0 Rt => by kernel_rfl) (by decide)
def spec_l09Chains_F (x0 x1 : V) (hi : Hp) (Rt : Hp → V → Prop) : Prop :=
pbox hi 67 27 (cellsV x1) fun a1 =>
pld a1 none (fun b1 c1 =>
VL (lift2 amax b1 (.int .i64 0)) fun d1 =>
VL (lift2 amin d1 (.int .i64 16)) fun e1 =>
pmk c1 79 2 8 [(.int .i64 0)] (fun f1 g1 =>
pld g1 (some 33) (fun h1 i1 =>
pcal Tryz.prog 34 81 i1 (fun j1 k1 =>
VL (lift1 (aun .not) j1) fun l1 =>
pcond (
Rt k1 f1) (
pld k1 (some 33) (fun m1 n1 =>
pcal Tryz.prog 42 85 n1 (fun o1 p1 =>
palloc p1 70 58 (vb (List.replicate 16 false)) fun q1 =>
pst q1 16 (cellsV o1) (fun r1 s1 =>
LP [7] [0, 3, 5, 6] (fun t1 u1 v1 w1 =>
VL (vfa 0 (u1.getD 1 .und)) fun y1 =>
pld v1 none (fun z1 a2 =>
VL (lift2 (abin .lss) (t1.getD 0 .und) z1) fun b2 =>
pcond (
JN (fun c2 =>
VL (vixA 16 1 (u1.getD 3 .und) (t1.getD 0 .und)) fun d2 =>
pld a2 none (fun e2 f2 =>
VL (lift1 (aun .not) e2) fun g2 =>
pgk true f2 (fun h2 i2 => i2 (u1.getD 0 .und) f2) (fun j2 k2 l2 =>
pgk true l2 (fun m2 n2 => pcal Tryz.prog 50 98 l2 (fun o2 p2 =>
n2 o2 p2) [k2, (.int .i64 2)]) (fun q2 r2 s2 =>
pgk true s2 (fun t2 u2 => VL (lift2 (abin .eql) r2 (.int .i64 0)) fun v2 =>
u2 v2 s2) (fun w2 y2 z2 =>
VL (vpick w2 y2 (.bool false)) fun a3 =>
pcond (
pldb z2 (some 33) (fun b3 c3 =>
pldb c3 (some 16) (fun d3 e3 =>
pcala Tryz.prog 50 103 e3 (fun f3 g3 =>
VL (lift2 (abin .sub) f3 (.int .i64 4)) fun h3 =>
pmks g3 105 2 4 4 (fun i3 =>
pcala Tryz.prog 75 106 i3 (fun j3 k3 =>
pcal Tryz.prog 51 110 k3 (fun l3 m3 =>
LP [10] [0, 3, 5, 6, 7, 8, 9] (fun n3 o3 p3 q3 =>
VL (vlenS (o3.getD 2 .und)) fun r3 =>
VL (lift2 (abin .lss) (n3.getD 0 .und) r3) fun s3 =>
pcond (
VL (vixS 1 (o3.getD 2 .und) (n3.getD 0 .und)) fun t3 =>
pld p3 none (fun u3 v3 =>
VL (vixS 1 (o3.getD 6 .und) (n3.getD 0 .und)) fun w3 =>
pld v3 none (fun y3 z3 =>
VL (lift2 (abin .mul) (o3.getD 5 .und) y3) fun a4 =>
VL (lift2 (abin .add) u3 a4) fun b4 =>
VL (vixS 1 (o3.getD 2 .und) (n3.getD 0 .und)) fun c4 =>
pst z3 1 (cellsV b4) (fun d4 e4 =>
VL (lift2 (abin .add) (n3.getD 0 .und) (.int .i64 1)) fun f4 =>
q3 [f4] [(o3.getD 0 .und), (o3.getD 1 .und), (o3.getD 2 .und), (o3.getD 3 .und), (o3.getD 4 .und), (o3.getD 5 .und), (o3.getD 6 .und)] e4) c4) w3) t3) (
c2 [(o3.getD 0 .und), (o3.getD 1 .und), (o3.getD 2 .und), (o3.getD 3 .und), (o3.getD 4 .und)] p3) s3) [(.int .i64 0)] [(u1.getD 0 .und), (u1.getD 1 .und), (u1.getD 2 .und), (u1.getD 3 .und), (t1.getD 0 .und), j3, l3] m3) [b3, d3, (t1.getD 0 .und)]) [(u1.getD 1 .und), (u1.getD 3 .und)] [(u1.getD 0 .und), (.rf 105 0 4)]) (vfill (vi .i64 (List.replicate 4 0)) [(0, 1, (.int .i64 1)), (1, 1, (.int .i64 (-1))), (2, 1, (.int .i64 2)), (3, 1, h3)])) [(u1.getD 1 .und), (u1.getD 3 .und)] [(u1.getD 0 .und), (.int .i64 9)]) (u1.getD 3 .und) (u1.getD 3 .und)) (u1.getD 1 .und) (u1.getD 1 .und)) (
c2 [(u1.getD 0 .und), (u1.getD 1 .und), (u1.getD 2 .und), (u1.getD 3 .und), (t1.getD 0 .und)] z2) a3) q2) j2) g2) d2) fun g4 h4 =>
VL (lift2 (abin .add) (g4.getD 4 .und) (.int .i64 1)) fun i4 =>
w1 [i4] [(g4.getD 0 .und), (g4.getD 1 .und), (g4.getD 2 .und), (g4.getD 3 .und)] h4) (
JN (fun j4 =>
pcal Tryz.prog 50 132 a2 (fun k4 l4 =>
VL (lift2 (abin .eql) k4 (.int .i64 0)) fun m4 =>
pcond (
VL (vfa 0 (u1.getD 1 .und)) fun n4 =>
pld l4 none (fun o4 p4 =>
pcal Tryz.prog 50 139 p4 (fun q4 r4 =>
VL (vixS 1 (u1.getD 2 .und) q4) fun s4 =>
pld r4 none (fun t4 u4 =>
VL (lift2 (abin .add) t4 (.int .i64 1)) fun v4 =>
VL (vixS 1 (u1.getD 2 .und) q4) fun w4 =>
pst u4 1 (cellsV v4) (fun y4 z4 =>
j4 [(u1.getD 2 .und)] z4) w4) s4) [(u1.getD 0 .und), o4]) n4) (
VL (lift2 (abin .eql) k4 (.int .i64 1)) fun a5 =>
pcond (
pmks l4 148 2 3 3 (fun b5 =>
pcal Tryz.prog 75 149 b5 (fun c5 d5 =>
VL (vixS 1 (u1.getD 2 .und) (.int .i64 0)) fun e5 =>
pst d5 1 (cellsV c5) (fun f5 g5 =>
j4 [(u1.getD 2 .und)] g5) e5) [(u1.getD 0 .und), (.rf 148 0 3)]) (vfill [(.int .i64 0), (.int .i64 0), (.int .i64 0)] [(0, 1, (.int .i64 1001)), (1, 1, (.int .i64 (-1001))), (2, 1, (.int .i64 1000))])) (
VL (lift2 (abin .eql) k4 (.int .i64 2)) fun h5 =>
pcond (
pmks l4 154 2 1 1 (fun i5 =>
papp i5 (fun j5 k5 => papV 2 1 8 155 i5 (fun l5 m5 =>
j4 [l5] m5) j5 k5 (u1.getD 2 .und)) (pavs i5 (u1.getD 2 .und) []) (preadS 1 i5 (.rf 154 0 1))) (vfill [(.int .i64 0)] [(0, 1, (.int .i64 0))])) (
j4 [(u1.getD 2 .und)] l4) h5) a5) m4) [(u1.getD 0 .und), (.int .i64 16)]) fun n5 o5 =>
Rt o5 (n5.getD 0 .und)) b2) y1) [(.int .i64 0)] [x0, (.ptr 67 0), f1, (.ptr 70 0)] s1) (.ptr 70 0)) [m1]) (.ptr 67 0)) l1) [h1]) (.ptr 67 0)) e1 e1) (.ptr 67 0)
theorem spec_l09Chains_f {x0 x1 : V} : Prt Tryz.prog 45 [x0, x1] (spec_l09Chains_F x0 x1) := pfun (fn := Tryz.f45) (m := [.s, .s, .s, .s, .s, .s, .s, .s, .l [7] [0, 3, 5, 6], .s, .s, .j [0, 3, 5, 6, 7], .s, .s, .s, .l [10] [0, 3, 5, 6, 7, 8, 9], .s, .s, .s, .j [5], .s, .s, .s, .s, .s]) (c := 2 ≤ 93) rfl (fun h0 Rt => by kernel_rfl) (by decide)
def impl_isChain_F (x0 x1 : V) (hi : Hp) (Rt : Hp → V → Prop) : Prop :=
pbox hi 66 27 (cellsV x0) fun a1 =>
VL (vlenS x1) fun b1 =>
pld a1 none (fun c1 d1 =>
VL (lift2 (abin .neq) b1 c1) fun e1 =>
pcond (
Rt d1 (.bool false)) (
VL (vlenS x1) fun f1 =>
LP [14] [12, 13] (fun g1 h1 i1 j1 =>
VL (lift2 (abin .lss) (g1.getD 0 .und) (h1.getD 1 .und)) fun k1 =>
pcond (
VL (vixS 1 (h1.getD 0 .und) (g1.getD 0 .und)) fun l1 =>
pld i1 none (fun m1 n1 =>
VL (lift2 (abin .lss) m1 (.int .i64 (-1000))) fun o1 =>
pgk false n1 (fun p1 q1 => q1 m1 n1) (fun r1 s1 t1 =>
pgk false t1 (fun u1 v1 => VL (lift2 (abin .gtr) s1 (.int .i64 1000)) fun w1 =>
v1 w1 t1) (fun y1 z1 a2 =>
VL (vpick y1 (.bool true) z1) fun b2 =>
pcond (
Rt a2 (.bool false)) (
VL (lift2 (abin .add) (g1.getD 0 .und) (.int .i64 1)) fun c2 =>
j1 [c2] [(h1.getD 0 .und), (h1.getD 1 .und)] a2) b2) r1) o1) l1) (
Rt i1 (.bool true)) k1) [(.int .i64 0)] [x1, f1] d1) e1) (.ptr 66 0)
theorem impl_isChain_f {x0 x1 : V} : Prt Tryz.prog 46 [x0, x1] (impl_isChain_F x0 x1) := pfun (fn := Tryz.f46) (m := [.s, .s, .s, .s, .s, .s, .l [14] [12, 13], .s, .s, .s, .s, .s, .s, .s]) (c := 2 ≤ 25) rfl (fun h0 Rt => by kernel_rfl) (by decide)
def impl_isCycle_F (x0 x1 : V) (hi : Hp) (Rt : Hp → V → Prop) : Prop :=
pbox hi 66 27 (cellsV x0) fun a1 =>
pld a1 (some 33) (fun b1 c1 =>
pcal Tryz.prog 64 78 c1 (fun d1 e1 =>
VL (vext 0 d1) fun f1 =>
VL (vext 1 d1) fun g1 =>
VL (vlenS f1) fun h1 =>
LP [19] [1, 17, 18] (fun i1 j1 k1 l1 =>
VL (lift2 (abin .lss) (i1.getD 0 .und) (j1.getD 2 .und)) fun m1 =>
pcond (
VL (vixS 1 (j1.getD 1 .und) (i1.getD 0 .und)) fun n1 =>
pld k1 none (fun o1 p1 =>
VL (vlenS o1) fun q1 =>
LP [9, 25] [1, 17, 18, 19, 23, 24] (fun r1 s1 t1 u1 =>
VL (lift2 (abin .lss) (r1.getD 1 .und) (s1.getD 5 .und)) fun v1 =>
pcond (
VL (vixS 1 (s1.getD 4 .und) (r1.getD 1 .und)) fun w1 =>
pld t1 none (fun y1 z1 =>
VL (vixS 1 (s1.getD 0 .und) y1) fun a2 =>
pld z1 none (fun b2 c2 =>
VL (lift2 (abin .add) (r1.getD 0 .und) b2) fun d2 =>
VL (lift2 (abin .add) (r1.getD 1 .und) (.int .i64 1)) fun e2 =>
u1 [d2, e2] [(s1.getD 0 .und), (s1.getD 1 .und), (s1.getD 2 .und), (s1.getD 3 .und), (s1.getD 4 .und), (s1.getD 5 .und)] c2) a2) w1) (
VL (lift2 (abin .neq) (r1.getD 0 .und) (.int .i64 0)) fun f2 =>
pcond (
Rt t1 (.bool false)) (
VL (lift2 (abin .add) (s1.getD 3 .und) (.int .i64 1)) fun g2 =>
l1 [g2] [(s1.getD 0 .und), (s1.getD 1 .und), (s1.getD 2 .und)] t1) f2) v1) [(.int .i64 0), (.int .i64 0)] [(j1.getD 0 .und), (j1.getD 1 .und), (j1.getD 2 .und), (i1.getD 0 .und), o1, q1] p1) n1) (
Rt k1 (.bool true)) m1) [(.int .i64 0)] [x1, f1, h1] e1) [b1]) (.ptr 66 0)
theorem impl_isCycle_f {x0 x1 : V} : Prt Tryz.prog 47 [x0, x1] (impl_isCycle_F x0 x1) := pfun (fn := Tryz.f47) (m := [.s, .s, .s, .s, .l [19] [1, 17, 18], .s, .s, .s, .s, .s, .s, .s, .l [9, 25] [1, 17, 18, 19, 23, 24], .s, .s, .s, .s, .s, .s, .s]) (c := 2 ≤ 39) rfl (fun h0 Rt => by kernel_rfl) (by decide)
def spec_l09Chain_F (x0 x1 : V) (hi : Hp) (Rt : Hp → V → Prop) : Prop :=
pbox hi 66 27 (cellsV x0) fun a1 =>
pld a1 none (fun b1 c1 =>
pcal Tryz.prog 76 72 c1 (fun d1 e1 =>
Rt e1 d1) [x1, b1, (.int .i64 (-1000)), (.int .i64 1000)]) (.ptr 66 0)
theorem spec_l09Chain_f {x0 x1 : V} : Prt Tryz.prog 48 [x0, x1] (spec_l09Chain_F x0 x1) := pfun (fn := Tryz.f48) (m := [.s, .s]) (c := 2 ≤ 9) rfl (fun h0 Rt => by kernel_rfl) (by decide)
def spec_l09Cycle_F (x0 x1 : V) (hi : Hp) (Rt : Hp → V → Prop) : Prop :=
pbox hi 66 27 (cellsV x0) fun a1 =>
pld a1 (some 16) (fun b1 c1 =>
pld c1 none (fun d1 e1 =>
pldb e1 (some 16) (fun f1 g1 =>
pldb g1 none (fun h1 i1 =>
pcalp Tryz.prog 39 78 i1 (fun j1 k1 =>
pmks k1 73 32 0 0 (fun l1 =>
papp l1 (fun m1 n1 => papV 32 1 24 79 l1 (fun o1 p1 =>
pcal Tryz.prog 39 84 p1 (fun q1 r1 =>
papp r1 (fun s1 t1 => papV 32 1 24 85 r1 (fun u1 v1 =>
LP [6] [1, 5] (fun w1 y1 z1 a2 =>
VL (vlenS (y1.getD 1 .und)) fun b2 =>
VL (lift2 (abin .lss) (w1.getD 0 .und) b2) fun c2 =>
pcond (
LP [7, 8] [1, 5, 6] (fun d2 e2 f2 g2 =>
VL (vixS 1 (e2.getD 1 .und) (e2.getD 2 .und)) fun h2 =>
pld f2 none (fun i2 j2 =>
VL (vlenS i2) fun k2 =>
VL (lift2 (abin .lss) (d2.getD 1 .und) k2) fun l2 =>
pcond (
VL (vixS 1 (e2.getD 1 .und) (e2.getD 2 .und)) fun m2 =>
pld j2 none (fun n2 o2 =>
VL (vixS 1 n2 (d2.getD 1 .und)) fun p2 =>
pld o2 none (fun q2 r2 =>
VL (vixS 1 (e2.getD 0 .und) q2) fun s2 =>
pld r2 none (fun t2 u2 =>
VL (lift2 (abin .add) (d2.getD 0 .und) t2) fun v2 =>
VL (lift2 (abin .add) (d2.getD 1 .und) (.int .i64 1)) fun w2 =>
g2 [v2, w2] [(e2.getD 0 .und), (e2.getD 1 .und), (e2.getD 2 .und)] u2) s2) p2) m2) (
VL (lift2 (abin .neq) (d2.getD 0 .und) (.int .i64 0)) fun y2 =>
pcond (
Rt j2 (.bool false)) (
VL (lift2 (abin .add) (e2.getD 2 .und) (.int .i64 1)) fun z2 =>
a2 [z2] [(e2.getD 0 .und), (e2.getD 1 .und)] j2) y2) l2) h2) [(.int .i64 0), (.int .i64 0)] [(y1.getD 0 .und), (y1.getD 1 .und), (w1.getD 0 .und)] z1) (
Rt z1 (.bool true)) c2) [(.int .i64 0)] [x1, u1] v1) s1 t1 o1) (pavs r1 o1 []) (preadS 1 r1 q1)) [f1, h1]) m1 n1 (.rf 73 0 0)) (pavs l1 (.rf 73 0 0) [(.ptr 66 0), (.ptr 66 0)]) (preadS 1 l1 j1)) (vfill [] [])) [b1, d1]) (.ptr 66 0) (.ptr 66 0)) (.ptr 66 17) (.ptr 66 0)) (.ptr 66 0)) (.ptr 66 1)
theorem spec_l09Cycle_f {x0 x1 : V} : Prt Tryz.prog 49 [x0, x1] (spec_l09Cycle_F x0 x1) := pfun (fn := Tryz.f49) (m := [.s, .s, .s, .s, .l [6] [1, 5], .s, .s, .s, .s, .s, .s, .l [7, 8] [1, 5, 6], .s, .s, .s, .s, .s, .s]) (c := 2 ≤ 51) rfl (fun h0 Rt => by kernel_rfl) (by decide)
def spec_l01Next_F (x0 x1 : V) (hi : Hp) (Rt : Hp → V → Prop) : Prop :=
VL (lift2 (abin .lss) x1 (.int .i64 1)) fun a1 =>
pcond (
Rt hi (.int .i64 0)) (
VL (vfa 0 x0) fun b1 =>
VL (vfa 2 b1) fun c1 =>
pld hi none (fun d1 e1 =>
VL (lift2 (abin .mul) d1 (.int .u64 6364136223846793005)) fun f1 =>
VL (lift2 (abin .add) f1 (.int .u64 1442695040888963407)) fun g1 =>
VL (vfa 0 x0) fun h1 =>
VL (vfa 2 h1) fun i1 =>
pst e1 1 (cellsV g1) (fun j1 k1 =>
VL (vfa 0 x0) fun l1 =>
VL (vfa 2 l1) fun m1 =>
pld k1 none (fun n1 o1 =>
VL (lift2 (abin .shr) n1 (.int .u64 33)) fun p1 =>
VL (lift2 (abin .and) p1 (.int .u64 16777215)) fun q1 =>
VL (lift1 (acvi .i64) q1) fun r1 =>
JN (fun s1 =>
VL (vfa 0 x0) fun t1 =>
VL (vfa 1 t1) fun u1 =>
pld o1 none (fun v1 w1 =>
VL (vfa 0 x0) fun y1 =>
VL (vfa 0 y1) fun z1 =>
pld w1 none (fun a2 b2 =>
VL (vlenS a2) fun c2 =>
VL (lift2 (abin .lss) v1 c2) fun d2 =>
pcond (
VL (vfa 0 x0) fun e2 =>
VL (vfa 0 e2) fun f2 =>
pld b2 none (fun g2 h2 =>
VL (vfa 0 x0) fun i2 =>
VL (vfa 1 i2) fun j2 =>
pld h2 none (fun k2 l2 =>
VL (vixS 1 g2 k2) fun m2 =>
pld l2 none (fun n2 o2 =>
VL (lift1 (acvi .i64) n2) fun p2 =>
VL (lift2 (abin .add) r1 p2) fun q2 =>
VL (vfa 0 x0) fun r2 =>
VL (vfa 1 r2) fun s2 =>
pld o2 none (fun t2 u2 =>
VL (lift2 (abin .add) t2 (.int .i64 1)) fun v2 =>
VL (vfa 0 x0) fun w2 =>
VL (vfa 1 w2) fun y2 =>
pst u2 1 (cellsV v2) (fun z2 a3 =>
s1 [x1, q2] a3) y2) s2) m2) j2) f2) (
s1 [x1, r1] b2) d2) z1) u1) fun b3 c3 =>
VL (lift2 (abin .rem) (b3.getD 1 .und) (b3.getD 0 .und)) fun d3 =>
Rt c3 d3) m1) i1) c1) a1
theorem spec_l01Next_f {x0 x1 : V} : Prt Tryz.prog 50 [x0, x1] (spec_l01Next_F x0 x1) := pfun (fn := Tryz.f50) (m := [.s, .s, .s, .s, .s, .s, .j [1, 5], .s, .s, .s]) (c := 2 ≤ 58) rfl (fun h0 Rt => by kernel_rfl) (by decide)
def spec_l09Of_F (x0 x1 x2 : V) (hi : Hp) (Rt : Hp → V → Prop) : Prop :=
pbox hi 67 27 (cellsV x0) fun a1 =>
pbox a1 68 58 (cellsV x1) fun b1 =>
pld b1 none (fun c1 d1 =>
pmk d1 84 2 8 [(.int .i64 0)] (fun e1 f1 =>
VL (vbld (vfill (vb (List.replicate 16 false)) [])) fun g1 =>
palloc f1 72 58 (vb (List.replicate 16 false)) fun h1 =>
pst h1 16 (cellsV g1) (fun i1 j1 =>
LP [9] [2, 3, 4, 7, 8] (fun k1 l1 m1 n1 =>
VL (vfa 0 (l1.getD 1 .und)) fun o1 =>
pld m1 none (fun p1 q1 =>
VL (lift2 (abin .lss) (k1.getD 0 .und) p1) fun r1 =>
pcond (
VL (vixA 16 1 (l1.getD 2 .und) (k1.getD 0 .und)) fun s1 =>
pld q1 none (fun t1 u1 =>
VL (lift1 (aun .not) t1) fun v1 =>
VL (vixA 16 1 (l1.getD 4 .und) (k1.getD 0 .und)) fun w1 =>
pst u1 1 (cellsV v1) (fun y1 z1 =>
VL (lift2 (abin .add) (k1.getD 0 .und) (.int .i64 1)) fun a2 =>
n1 [a2] [(l1.getD 0 .und), (l1.getD 1 .und), (l1.getD 2 .und), (l1.getD 3 .und), (l1.getD 4 .und)] z1) w1) s1) (
VL (vixS 1 (l1.getD 3 .und) (l1.getD 0 .und)) fun b2 =>
pst q1 1 (cellsV (.int .i64 1)) (fun c2 d2 =>
VL (vfa 1 (l1.getD 1 .und)) fun e2 =>
pld d2 (some 16) (fun f2 g2 =>
VL (vfa 0 (l1.getD 1 .und)) fun h2 =>
pld g2 none (fun i2 j2 =>
VL (vfa 17 (l1.getD 1 .und)) fun k2 =>
pldb j2 (some 16) (fun l2 m2 =>
VL (vfa 0 (l1.getD 1 .und)) fun n2 =>
pldb m2 none (fun o2 p2 =>
pcalp Tryz.prog 39 106 p2 (fun q2 r2 =>
pmks r2 101 32 0 0 (fun s2 =>
papp s2 (fun t2 u2 => papV 32 1 24 107 s2 (fun v2 w2 =>
pcal Tryz.prog 39 112 w2 (fun y2 z2 =>
papp z2 (fun a3 b3 => papV 32 1 24 113 z2 (fun c3 d3 =>
LP [11] [3, 7, 8, 10] (fun e3 f3 g3 h3 =>
VL (vfa 0 (f3.getD 0 .und)) fun i3 =>
pld g3 none (fun j3 k3 =>
VL (lift2 (abin .leq) (e3.getD 0 .und) j3) fun l3 =>
pcond (
LP [12] [3, 7, 8, 10, 11] (fun m3 n3 o3 p3 =>
VL (vlenS (n3.getD 3 .und)) fun q3 =>
VL (lift2 (abin .lss) (m3.getD 0 .und) q3) fun r3 =>
pcond (
JN (fun s3 =>
LP [13, 14, 15, 16] [3, 7, 8, 10, 11, 12] (fun t3 u3 v3 w3 =>
VL (vixS 1 (u3.getD 3 .und) (u3.getD 5 .und)) fun y3 =>
pld v3 none (fun z3 a4 =>
VL (vlenS z3) fun b4 =>
VL (lift2 (abin .lss) (t3.getD 3 .und) b4) fun c4 =>
pcond (
JN (fun d4 =>
VL (vixS 1 (u3.getD 3 .und) (u3.getD 5 .und)) fun e4 =>
pld a4 none (fun f4 g4 =>
VL (vixS 1 f4 (t3.getD 3 .und)) fun h4 =>
pld g4 none (fun i4 j4 =>
VL (vixS 1 (u3.getD 1 .und) i4) fun k4 =>
pld j4 none (fun l4 m4 =>
VL (lift2 (abin .add) (t3.getD 0 .und) l4) fun n4 =>
VL (vixA 16 1 (u3.getD 2 .und) i4) fun o4 =>
pld m4 none (fun p4 q4 =>
VL (lift1 (aun .not) p4) fun r4 =>
pcond (
VL (lift2 (abin .add) (t3.getD 1 .und) (.int .i64 1)) fun s4 =>
d4 [(u3.getD 0 .und), (u3.getD 1 .und), (u3.getD 2 .und), (u3.getD 3 .und), (u3.getD 4 .und), (u3.getD 5 .und), n4, s4, i4, (t3.getD 3 .und)] q4) (
d4 [(u3.getD 0 .und), (u3.getD 1 .und), (u3.getD 2 .und), (u3.getD 3 .und), (u3.getD 4 .und), (u3.getD 5 .und), n4, (t3.getD 1 .und), (t3.getD 2 .und), (t3.getD 3 .und)] q4) r4) o4) k4) h4) e4) fun t4 u4 =>
VL (lift2 (abin .add) (t4.getD 9 .und) (.int .i64 1)) fun v4 =>
w3 [(t4.getD 6 .und), (t4.getD 7 .und), (t4.getD 8 .und), v4] [(t4.getD 0 .und), (t4.getD 1 .und), (t4.getD 2 .und), (t4.getD 3 .und), (t4.getD 4 .und), (t4.getD 5 .und)] u4) (
VL (lift2 (abin .eql) (t3.getD 1 .und) (.int .i64 1)) fun w4 =>
pcond (
VL (lift1 (aun .neg) (t3.getD 0 .und)) fun y4 =>
VL (vixS 1 (u3.getD 1 .und) (t3.getD 2 .und)) fun z4 =>
pst a4 1 (cellsV y4) (fun a5 b5 =>
VL (vixA 16 1 (u3.getD 2 .und) (t3.getD 2 .und)) fun c5 =>
pst b5 1 (cellsV (.bool true)) (fun d5 e5 =>
s3 [(u3.getD 0 .und), (u3.getD 1 .und), (u3.getD 2 .und), (u3.getD 3 .und), (u3.getD 4 .und), (u3.getD 5 .und)] e5) c5) z4) (
s3 [(u3.getD 0 .und), (u3.getD 1 .und), (u3.getD 2 .und), (u3.getD 3 .und), (u3.getD 4 .und), (u3.getD 5 .und)] a4) w4) c4) y3) [(.int .i64 0), (.int .i64 0), (.int .i64 0), (.int .i64 0)] [(n3.getD 0 .und), (n3.getD 1 .und), (n3.getD 2 .und), (n3.getD 3 .und), (n3.getD 4 .und), (m3.getD 0 .und)] o3) fun f5 g5 =>
VL (lift2 (abin .add) (f5.getD 5 .und) (.int .i64 1)) fun h5 =>
p3 [h5] [(f5.getD 0 .und), (f5.getD 1 .und), (f5.getD 2 .und), (f5.getD 3 .und), (f5.getD 4 .und)] g5) (
VL (lift2 (abin .add) (n3.getD 4 .und) (.int .i64 1)) fun i5 =>
h3 [i5] [(n3.getD 0 .und), (n3.getD 1 .und), (n3.getD 2 .und), (n3.getD 3 .und)] o3) r3) [(.int .i64 0)] [(f3.getD 0 .und), (f3.getD 1 .und), (f3.getD 2 .und), (f3.getD 3 .und), (e3.getD 0 .und)] k3) (
Rt k3 (f3.getD 1 .und)) l3) i3) [(.int .i64 0)] [(l1.getD 1 .und), (l1.getD 3 .und), (l1.getD 4 .und), c3] d3) a3 b3 v2) (pavs z2 v2 []) (preadS 1 z2 y2)) [l2, o2]) t2 u2 (.rf 101 0 0)) (pavs s2 (.rf 101 0 0) [(l1.getD 1 .und), (l1.getD 1 .und)]) (preadS 1 s2 q2)) (vfill [] [])) [f2, i2]) n2 (l1.getD 1 .und)) k2 (l1.getD 1 .und)) h2) e2) b2) r1) o1) [(.int .i64 0)] [x2, (.ptr 67 0), (.ptr 68 0), e1, (.ptr 72 0)] j1) (.ptr 72 0)) c1 c1) (.ptr 67 0)
theorem spec_l09Of_f {x0 x1 x2 : V} : Prt Tryz.prog 51 [x0, x1, x2] (spec_l09Of_F x0 x1 x2) := pfun (fn := Tryz.f51) (m := [.s, .s, .s, .s, .l [9] [2, 3, 4, 7, 8], .s, .s, .s, .s, .s, .s, .s, .l [11] [3, 7, 8, 10], .s, .s, .s, .s, .l [12] [3, 7, 8, 10, 11], .s, .s, .j [3, 7, 8, 10, 11, 12], .s, .s, .s, .l [13, 14, 15, 16] [3, 7, 8, 10, 11, 12], .s, .s, .j [3, 7, 8, 10, 11, 12, 13, 14, 15, 16], .s, .s, .s, .s, .s, .s, .s]) (c := 3 ≤ 101) rfl (fun h0 Rt => by kernel_rfl) (by decide)
def impl_isDart_F (x0 x1 : V) (hi : Hp) (Rt : Hp → V → Prop) : Prop :=
pbox hi 66 27 (cellsV x0) fun a1 =>
VL (vlenS x1) fun b1 =>
LP [9] [2, 7, 8] (fun c1 d1 e1 f1 =>
VL (lift2 (abin .lss) (c1.getD 0 .und) (d1.getD 2 .und)) fun g1 =>
pcond (
VL (vixS 1 (d1.getD 1 .und) (c1.getD 0 .und)) fun h1 =>
pld e1 none (fun i1 j1 =>
VL (lift2 (abin .lss) i1 (.int .i64 0)) fun k1 =>
pgk false j1 (fun l1 m1 => m1 i1 j1) (fun n1 o1 p1 =>
pgk false p1 (fun q1 r1 => VL (vfa 0 (d1.getD 0 .und)) fun s1 =>
r1 s1 p1) (fun t1 u1 v1 =>
pgk false v1 (fun w1 y1 => pld v1 none (fun z1 a2 =>
y1 z1 a2) u1) (fun b2 c2 d2 =>
pgk false d2 (fun e2 f2 => VL (lift2 (abin .geq) o1 c2) fun g2 =>
f2 g2 d2) (fun h2 i2 j2 =>
VL (vpick h2 (.bool true) i2) fun k2 =>
pcond (
Rt j2 (.bool false)) (
VL (lift2 (abin .add) (c1.getD 0 .und) (.int .i64 1)) fun l2 =>
f1 [l2] [(d1.getD 0 .und), (d1.getD 1 .und), (d1.getD 2 .und)] j2) k2) b2) t1) n1) k1) h1) (
Rt e1 (.bool true)) g1) [(.int .i64 0)] [(.ptr 66 0), x1, b1] a1
theorem impl_isDart_f {x0 x1 : V} : Prt Tryz.prog 52 [x0, x1] (impl_isDart_F x0 x1) := pfun (fn := Tryz.f52) (m := [.s, .s, .s, .l [9] [2, 7, 8], .s, .s, .s, .s, .s, .s, .s]) (c := 2 ≤ 22) rfl (fun h0 Rt => by kernel_rfl) (by decide)
def slices_Contains_int64_int64_i_F (x0 x1 : V) (hi : Hp) (Rt : Hp → V → Prop) : Prop :=
pcal Tryz.prog 77 71 hi (fun a1 b1 =>
VL (lift2 (abin .geq) a1 (.int .i64 0)) fun c1 =>
Rt b1 c1) [x0, x1]
theorem slices_Contains_int64_int64_i_f {x0 x1 : V} : Prt Tryz.prog 53 [x0, x1] (slices_Contains_int64_int64_i_F x0 x1) := pfun (fn := Tryz.f53) (m := [.s, .s]) (c := 2 ≤ 9) rfl (fun h0 Rt => by kernel_rfl) (by decide)
def impl_cycleOf_F (x0 x1 x2 : V) (hi : Hp) (Rt : Hp → V → Prop) : Prop :=
pbox hi 67 27 (cellsV x0) fun a1 =>
pld a1 (some 33) (fun b1 c1 =>
pcal Tryz.prog 64 87 c1 (fun d1 e1 =>
VL (vext 0 d1) fun f1 =>
VL (vext 1 d1) fun g1 =>
pld e1 none (fun h1 i1 =>
pmk i1 92 2 8 [(.int .i64 0)] (fun j1 k1 =>
VL (vixS 1 j1 x1) fun l1 =>
pst k1 1 (cellsV (.int .i64 1)) (fun m1 n1 =>
VL (vlenS f1) fun o1 =>
pmk n1 98 2 8 [(.int .i64 0)] (fun p1 q1 =>
VL (vixS 2 g1 x1) fun r1 =>
VL (vixA 2 1 r1 (.int .i64 0)) fun s1 =>
pld q1 none (fun t1 u1 =>
VL (vixS 1 p1 t1) fun v1 =>
pst u1 1 (cellsV (.int .i64 1)) (fun w1 y1 =>
VL (vixS 2 g1 x1) fun z1 =>
VL (vixA 2 1 z1 (.int .i64 1)) fun a2 =>
pld y1 none (fun b2 c2 =>
VL (vixS 1 p1 b2) fun d2 =>
pst c2 1 (cellsV (.int .i64 1)) (fun e2 f2 =>
pcal Tryz.prog 78 114 f2 (fun g2 h2 =>
LP [11] [7, 8, 9, 10] (fun i2 j2 k2 l2 =>
VL (vlenS (i2.getD 0 .und)) fun m2 =>
VL (lift2 (abin .gtr) m2 (.int .i64 0)) fun n2 =>
pcond (
VL (vlenS (i2.getD 0 .und)) fun o2 =>
LP [56] [7, 8, 9, 10, 11, 54, 55] (fun p2 q2 r2 s2 =>
VL (lift2 (abin .lss) (p2.getD 0 .und) (q2.getD 6 .und)) fun t2 =>
pcond (
VL (vixS 1 (q2.getD 5 .und) (p2.getD 0 .und)) fun u2 =>
pld r2 none (fun v2 w2 =>
VL (vixS 2 (q2.getD 1 .und) v2) fun y2 =>
pld w2 (some 2) (fun z2 a3 =>
LP [14, 65] [7, 8, 9, 10, 11, 12, 13, 54, 55, 56, 64] (fun b3 c3 d3 e3 =>
VL (lift2 (abin .lss) (b3.getD 1 .und) (.int .i64 2)) fun f3 =>
pcond (
JN (fun g3 =>
VL (vixV 2 1 none (c3.getD 10 .und) (b3.getD 1 .und)) fun h3 =>
VL (vlenS (c3.getD 4 .und)) fun i3 =>
LP [17, 70] [7, 8, 9, 10, 11, 12, 13, 14, 16, 54, 55, 56, 64, 65, 68, 69] (fun j3 k3 l3 m3 =>
VL (lift2 (abin .lss) (j3.getD 1 .und) (k3.getD 15 .und)) fun n3 =>
pcond (
JN (fun o3 =>
VL (vixS 1 (k3.getD 14 .und) (j3.getD 1 .und)) fun p3 =>
pld l3 none (fun q3 r3 =>
VL (vixS 1 (k3.getD 0 .und) (k3.getD 8 .und)) fun s3 =>
pld r3 none (fun t3 u3 =>
pcal Tryz.prog 53 143 u3 (fun v3 w3 =>
pcond (
VL (lift2 (abin .add) (j3.getD 0 .und) (.int .i64 1)) fun y3 =>
o3 [(k3.getD 0 .und), (k3.getD 1 .und), (k3.getD 2 .und), (k3.getD 3 .und), (k3.getD 4 .und), (k3.getD 5 .und), (k3.getD 6 .und), (k3.getD 7 .und), (k3.getD 8 .und), y3, (k3.getD 9 .und), (k3.getD 10 .und), (k3.getD 11 .und), (k3.getD 12 .und), (k3.getD 13 .und), (k3.getD 14 .und), (k3.getD 15 .und), (j3.getD 1 .und)] w3) (
o3 [(k3.getD 0 .und), (k3.getD 1 .und), (k3.getD 2 .und), (k3.getD 3 .und), (k3.getD 4 .und), (k3.getD 5 .und), (k3.getD 6 .und), (k3.getD 7 .und), (k3.getD 8 .und), (j3.getD 0 .und), (k3.getD 9 .und), (k3.getD 10 .und), (k3.getD 11 .und), (k3.getD 12 .und), (k3.getD 13 .und), (k3.getD 14 .und), (k3.getD 15 .und), (j3.getD 1 .und)] w3) v3) [t3, q3]) s3) p3) fun z3 a4 =>
VL (lift2 (abin .add) (z3.getD 17 .und) (.int .i64 1)) fun b4 =>
m3 [(z3.getD 9 .und), b4] [(z3.getD 0 .und), (z3.getD 1 .und), (z3.getD 2 .und), (z3.getD 3 .und), (z3.getD 4 .und), (z3.getD 5 .und), (z3.getD 6 .und), (z3.getD 7 .und), (z3.getD 8 .und), (z3.getD 10 .und), (z3.getD 11 .und), (z3.getD 12 .und), (z3.getD 13 .und), (z3.getD 14 .und), (z3.getD 15 .und), (z3.getD 16 .und)] a4) (
VL (lift2 (abin .eql) (j3.getD 0 .und) (.int .i64 1)) fun c4 =>
pcond (
g3 [(k3.getD 0 .und), (k3.getD 1 .und), (k3.getD 2 .und), (k3.getD 3 .und), (k3.getD 4 .und), (k3.getD 5 .und), (k3.getD 6 .und), (k3.getD 8 .und), (k3.getD 9 .und), (k3.getD 10 .und), (k3.getD 11 .und), (k3.getD 12 .und), (k3.getD 13 .und)] l3) (
g3 [(k3.getD 0 .und), (k3.getD 1 .und), (k3.getD 2 .und), (k3.getD 3 .und), (k3.getD 4 .und), (k3.getD 5 .und), (k3.getD 6 .und), (k3.getD 7 .und), (k3.getD 9 .und), (k3.getD 10 .und), (k3.getD 11 .und), (k3.getD 12 .und), (k3.getD 13 .und)] l3) c4) n3) [(.int .i64 0), (.int .i64 0)] [(c3.getD 0 .und), (c3.getD 1 .und), (c3.getD 2 .und), (c3.getD 3 .und), (c3.getD 4 .und), (c3.getD 5 .und), (c3.getD 6 .und), (b3.getD 0 .und), h3, (c3.getD 7 .und), (c3.getD 8 .und), (c3.getD 9 .und), (c3.getD 10 .und), (b3.getD 1 .und), (c3.getD 4 .und), i3] d3) fun d4 e4 =>
VL (lift2 (abin .add) (d4.getD 12 .und) (.int .i64 1)) fun f4 =>
e3 [(d4.getD 7 .und), f4] [(d4.getD 0 .und), (d4.getD 1 .und), (d4.getD 2 .und), (d4.getD 3 .und), (d4.getD 4 .und), (d4.getD 5 .und), (d4.getD 6 .und), (d4.getD 8 .und), (d4.getD 9 .und), (d4.getD 10 .und), (d4.getD 11 .und)] e4) (
VL (lift2 (abin .lss) (b3.getD 0 .und) (.int .i64 0)) fun g4 =>
pcond (
VL (lift2 (abin .add) (c3.getD 9 .und) (.int .i64 1)) fun h4 =>
s2 [h4] [(c3.getD 0 .und), (c3.getD 1 .und), (c3.getD 2 .und), (c3.getD 3 .und), (c3.getD 4 .und), (c3.getD 7 .und), (c3.getD 8 .und)] d3) (
VL (vixS 1 (c3.getD 3 .und) (b3.getD 0 .und)) fun i4 =>
pld d3 none (fun j4 k4 =>
VL (lift1 (aun .neg) j4) fun l4 =>
VL (vixS 1 (c3.getD 2 .und) (c3.getD 6 .und)) fun m4 =>
pst k4 1 (cellsV l4) (fun n4 o4 =>
VL (vixS 2 (c3.getD 1 .und) (c3.getD 6 .und)) fun p4 =>
VL (vixA 2 1 p4 (.int .i64 0)) fun q4 =>
pld o4 none (fun r4 s4 =>
VL (vixS 1 (c3.getD 3 .und) r4) fun t4 =>
pld s4 none (fun u4 v4 =>
VL (lift2 (abin .add) u4 l4) fun w4 =>
VL (vixS 1 (c3.getD 3 .und) r4) fun y4 =>
pst v4 1 (cellsV w4) (fun z4 a5 =>
VL (vixS 2 (c3.getD 1 .und) (c3.getD 6 .und)) fun b5 =>
VL (vixA 2 1 b5 (.int .i64 1)) fun c5 =>
pld a5 none (fun d5 e5 =>
VL (vixS 1 (c3.getD 3 .und) d5) fun f5 =>
pld e5 none (fun g5 h5 =>
VL (lift2 (abin .add) g5 l4) fun i5 =>
VL (vixS 1 (c3.getD 3 .und) d5) fun j5 =>
pst h5 1 (cellsV i5) (fun k5 l5 =>
VL (lift2 (abin .add) (c3.getD 5 .und) (.int .i64 1)) fun m5 =>
pcal Tryz.prog 79 188 l5 (fun n5 o5 =>
l2 [n5] [(c3.getD 0 .und), (c3.getD 1 .und), (c3.getD 2 .und), (c3.getD 3 .und)] o5) [(c3.getD 4 .und), (c3.getD 5 .und), m5]) j5) f5) c5) y4) t4) q4) m4) i4) g4) f3) [(.int .i64 (-1)), (.int .i64 0)] [(q2.getD 0 .und), (q2.getD 1 .und), (q2.getD 2 .und), (q2.getD 3 .und), (q2.getD 4 .und), (p2.getD 0 .und), v2, (q2.getD 5 .und), (q2.getD 6 .und), (p2.getD 0 .und), z2] a3) y2) u2) (
l2 [(q2.getD 4 .und)] [(q2.getD 0 .und), (q2.getD 1 .und), (q2.getD 2 .und), (q2.getD 3 .und)] r2) t2) [(.int .i64 0)] [(j2.getD 0 .und), (j2.getD 1 .und), (j2.getD 2 .und), (j2.getD 3 .und), (i2.getD 0 .und), (i2.getD 0 .und), o2] k2) (
Rt k2 (j2.getD 2 .und)) n2) [g2] [f1, g1, j1, p1] h2) [x2]) d2) a2) v1) s1) o1 o1) l1) h1 h1) (.ptr 67 0)) [b1]) (.ptr 67 0)
theorem impl_cycleOf_f {x0 x1 x2 : V} : Prt Tryz.prog 54 [x0, x1, x2] (impl_cycleOf_F x0 x1 x2) := pfun (fn := Tryz.f54) (m := [.s, .s, .s, .s, .s, .s, .s, .s, .s, .l [11] [7, 8, 9, 10], .s, .s, .s, .l [56] [7, 8, 9, 10, 11, 54, 55], .s, .s, .s, .s, .s, .s, .s, .l [14, 65] [7, 8, 9, 10, 11, 12, 13, 54, 55, 56, 64], .s, .s, .j [7, 8, 9, 10, 11, 12, 13, 14, 54, 55, 56, 64, 65], .s, .s, .s, .s, .l [17, 70] [7, 8, 9, 10, 11, 12, 13, 14, 16, 54, 55, 56, 64, 65, 68, 69], .s, .s, .j [7, 8, 9, 10, 11, 12, 13, 14, 16, 17, 54, 55, 56, 64, 65, 68, 69, 70], .s, .s, .s, .s, .s, .s, .s, .s, .s, .s, .s]) (c := 3 ≤ 127) rfl (fun h0 Rt => by kernel_rfl) (by decide)
def spec_l01In_F (x0 x1 x2 : V) (hi : Hp) (Rt : Hp → V → Prop) : Prop :=
VL (lift2 (abin .geq) x0 x1) fun a1 =>
pgk true hi (fun b1 c1 => c1 x0 hi) (fun d1 e1 f1 =>
pgk true f1 (fun g1 h1 => h1 x2 f1) (fun i1 j1 k1 =>
pgk true k1 (fun l1 m1 => VL (lift2 (abin .leq) e1 j1) fun n1 =>
m1 n1 k1) (fun o1 p1 q1 =>
VL (vpick o1 p1 (.bool false)) fun r1 =>
Rt q1 r1) i1) d1) a1
theorem spec_l01In_f {x0 x1 x2 : V} : Prt Tryz.prog 55 [x0, x1, x2] (spec_l01In_F x0 x1 x2) := pfun (fn := Tryz.f55) (m := [.s, .s]) (c := 3 ≤ 15) rfl (fun h0 Rt => by kernel_rfl) (by decide)
def spec_l01Star_F (x0 : V) (hi : Hp) (Rt : Hp → V → Prop) : Prop :=
palloc hi 66 27 ([(.int .i64 0)] ++ (vi .u8 (List.replicate 32 0))) fun a1 =>
pcal Tryz.prog 80 69 a1 (fun b1 c1 =>
pcal Tryz.prog 81 71 c1 (fun d1 e1 =>
VL (vbld (vfill ([(.int .i64 0)] ++ (vi .u8 (List.replicate 32 0))) [(0, 1, x0), (1, 16, b1), (17, 16, d1)])) fun f1 =>
pst e1 33 (cellsV f1) (fun g1 h1 =>
VL (pcellV h1 (some 33) (.ptr 66 0)) fun i1 =>
Rt h1 i1) (.ptr 66 0)) [x0]) [x0]
theorem spec_l01Star_f {x0 : V} : Prt Tryz.prog 56 [x0] (spec_l01Star_F x0) := pfun (fn := Tryz.f56) (m := [.s, .s]) (c := 1 ≤ 9) rfl (fun h0 Rt => by kernel_rfl) (by decide)
def spec_l01DrawPlaces_F (x0 x1 : V) (hi : Hp) (Rt : Hp → V → Prop) : Prop :=
palloc hi 68 25 (vi .u8 (List.replicate 16 0)) fun a1 =>
pcal Tryz.prog 81 74 a1 (fun b1 c1 =>
palloc c1 69 25 (vi .u8 (List.replicate 16 0)) fun d1 =>
pst d1 16 (cellsV b1) (fun e1 f1 =>
pcal Tryz.prog 50 76 f1 (fun g1 h1 =>
VL (lift2 (abin .eql) g1 (.int .i64 0)) fun i1 =>
pcond (
pld h1 (some 16) (fun j1 k1 =>
pst k1 16 (cellsV j1) (fun l1 m1 =>
VL (pcellV m1 (some 16) (.ptr 68 0)) fun n1 =>
Rt m1 n1) (.ptr 68 0)) (.ptr 69 0)) (
VL (lift2 (abin .sub) x1 (.int .i64 1)) fun o1 =>
LP [6] [0, 4, 5] (fun p1 q1 r1 s1 =>
VL (lift2 (abin .gtr) (p1.getD 0 .und) (.int .i64 0)) fun t1 =>
pcond (
VL (lift2 (abin .add) (p1.getD 0 .und) (.int .i64 1)) fun u1 =>
pcal Tryz.prog 50 88 r1 (fun v1 w1 =>
VL (vixA 16 1 (q1.getD 2 .und) (p1.getD 0 .und)) fun y1 =>
pld w1 none (fun z1 a2 =>
VL (vixA 16 1 (q1.getD 2 .und) v1) fun b2 =>
pld a2 none (fun c2 d2 =>
VL (vixA 16 1 (q1.getD 2 .und) (p1.getD 0 .und)) fun e2 =>
pst d2 1 (cellsV c2) (fun f2 g2 =>
VL (vixA 16 1 (q1.getD 2 .und) v1) fun h2 =>
pst g2 1 (cellsV z1) (fun i2 j2 =>
VL (lift2 (abin .sub) (p1.getD 0 .und) (.int .i64 1)) fun k2 =>
s1 [k2] [(q1.getD 0 .und), (q1.getD 1 .und), (q1.getD 2 .und)] j2) h2) e2) b2) y1) [(q1.getD 0 .und), u1]) (
pld r1 (some 16) (fun l2 m2 =>
pst m2 16 (cellsV l2) (fun n2 o2 =>
VL (pcellV o2 (some 16) (q1.getD 1 .und)) fun p2 =>
Rt o2 p2) (q1.getD 1 .und)) (q1.getD 2 .und)) t1) [o1] [x0, (.ptr 68 0), (.ptr 69 0)] h1) i1) [x0, (.int .i64 8)]) (.ptr 69 0)) [x1]
theorem spec_l01DrawPlaces_f {x0 x1 : V} : Prt Tryz.prog 57 [x0, x1] (spec_l01DrawPlaces_F x0 x1) := pfun (fn := Tryz.f57) (m := [.s, .s, .s, .s, .s, .s, .s, .l [6] [0, 4, 5], .s, .s, .s, .s, .s, .s, .s]) (c := 2 ≤ 37) rfl (fun h0 Rt => by kernel_rfl) (by decide)
def spec_l01Spoil_F (x0 x1 : V) (hi : Hp) (Rt : Hp → V → Prop) : Prop :=
palloc hi 68 27 ([(.int .i64 0)] ++ (vi .u8 (List.replicate 32 0))) fun a1 =>
pcal Tryz.prog 82 72 a1 (fun b1 c1 =>
palloc c1 69 27 ([(.int .i64 0)] ++ (vi .u8 (List.replicate 32 0))) fun d1 =>
pst d1 33 (cellsV b1) (fun e1 f1 =>
JN (fun g1 =>
pcal Tryz.prog 50 74 f1 (fun h1 i1 =>
VL (lift2 (abin .eql) h1 (.int .i64 0)) fun j1 =>
pcond (
VL (vixA 16 1 (.ptr 69 1) (.int .i64 0)) fun k1 =>
pld i1 none (fun l1 m1 =>
VL (lift2 (abin .add) l1 (.int .u8 1)) fun n1 =>
VL (vixA 16 1 (.ptr 69 1) (.int .i64 0)) fun o1 =>
pst m1 1 (cellsV n1) (fun p1 q1 =>
g1 [(.ptr 68 0), (.ptr 69 0)] q1) o1) k1) (
VL (lift2 (abin .eql) h1 (.int .i64 1)) fun r1 =>
pcond (
pld i1 none (fun s1 t1 =>
VL (lift2 (abin .add) s1 (.int .i64 1)) fun u1 =>
pld t1 none (fun v1 w1 =>
VL (lift2 (abin .sub) v1 (.int .i64 1)) fun y1 =>
pmks w1 92 2 5 5 (fun z1 =>
pcal Tryz.prog 75 93 z1 (fun a2 b2 =>
pst b2 1 (cellsV a2) (fun c2 d2 =>
g1 [(.ptr 68 0), (.ptr 69 0)] d2) (.ptr 69 0)) [x0, (.rf 92 0 5)]) (vfill (vi .i64 (List.replicate 5 0)) [(0, 1, (.int .i64 0)), (1, 1, (.int .i64 17)), (2, 1, (.int .i64 (-1))), (3, 1, u1), (4, 1, y1)])) (.ptr 69 0)) (.ptr 69 0)) (
VL (lift2 (abin .eql) h1 (.int .i64 2)) fun e2 =>
pcond (
pld i1 none (fun f2 g2 =>
VL (lift2 amin f2 (.int .i64 16)) fun h2 =>
pcal Tryz.prog 81 100 g2 (fun i2 j2 =>
pst j2 16 (cellsV i2) (fun k2 l2 =>
g1 [(.ptr 68 0), (.ptr 69 0)] l2) (.ptr 69 17)) [h2]) (.ptr 69 0)) (
VL (lift2 (abin .eql) h1 (.int .i64 3)) fun m2 =>
pcond (
pmks i1 105 2 2 2 (fun n2 =>
pcal Tryz.prog 75 106 n2 (fun o2 p2 =>
VL (lift1 (acvi .u8) o2) fun q2 =>
VL (vixA 16 1 (.ptr 69 17) (.int .i64 15)) fun r2 =>
pst p2 1 (cellsV q2) (fun s2 t2 =>
g1 [(.ptr 68 0), (.ptr 69 0)] t2) r2) [x0, (.rf 105 0 2)]) (vfill [(.int .i64 0), (.int .i64 0)] [(0, 1, (.int .i64 1)), (1, 1, (.int .i64 255))])) (
g1 [(.ptr 68 0), (.ptr 69 0)] i1) m2) e2) r1) j1) [x0, (.int .i64 40)]) fun u2 v2 =>
pld v2 (some 33) (fun w2 y2 =>
pst y2 33 (cellsV w2) (fun z2 a3 =>
VL (pcellV a3 (some 33) (u2.getD 0 .und)) fun b3 =>
Rt a3 b3) (u2.getD 0 .und)) (u2.getD 1 .und)) (.ptr 69 0)) [x0, x1]
theorem spec_l01Spoil_f {x0 x1 : V} : Prt Tryz.prog 58 [x0, x1] (spec_l01Spoil_F x0 x1) := pfun (fn := Tryz.f58) (m := [.s, .s, .j [4, 5], .s, .s, .s, .s, .s, .s]) (c := 2 ≤ 47) rfl (fun h0 Rt => by kernel_rfl) (by decide)
def impl_IsPermutation_F (x0 x1 : V) (hi : Hp) (Rt : Hp → V → Prop) : Prop :=
pbox hi 66 25 (cellsV x0) fun a1 =>
pcal Tryz.prog 83 73 a1 (fun b1 c1 =>
VL (lift1 (aun .not) b1) fun d1 =>
pcond (
Rt c1 (.bool false)) (
VL (vbld (vfill (vb (List.replicate 16 false)) [])) fun e1 =>
palloc c1 69 58 (vb (List.replicate 16 false)) fun f1 =>
pst f1 16 (cellsV e1) (fun g1 h1 =>
pld h1 (some 16) (fun i1 j1 =>
LP [13] [1, 5, 12] (fun k1 l1 m1 n1 =>
VL (lift2 (abin .lss) (k1.getD 0 .und) (.int .i64 16)) fun o1 =>
pcond (
JN (fun p1 =>
VL (vixV 16 1 none (l1.getD 2 .und) (k1.getD 0 .und)) fun q1 =>
VL (lift2 (abin .geq) (k1.getD 0 .und) (l1.getD 0 .und)) fun r1 =>
pcond (
VL (lift2 (abin .neq) q1 (.int .u8 0)) fun s1 =>
pcond (
Rt m1 (.bool false)) (
p1 [(l1.getD 0 .und), (l1.getD 1 .und), (l1.getD 2 .und), (k1.getD 0 .und)] m1) s1) (
VL (lift1 (acvi .i64) q1) fun t1 =>
VL (lift2 (abin .geq) t1 (l1.getD 0 .und)) fun u1 =>
pgk false m1 (fun v1 w1 => w1 q1 m1) (fun y1 z1 a2 =>
pgk false a2 (fun b2 c2 => VL (vixA 16 1 (l1.getD 1 .und) z1) fun d2 =>
c2 d2 a2) (fun e2 f2 g2 =>
pgk false g2 (fun h2 i2 => pld g2 none (fun j2 k2 =>
i2 j2 k2) f2) (fun l2 m2 n2 =>
VL (vpick l2 (.bool true) m2) fun o2 =>
pcond (
Rt n2 (.bool false)) (
VL (vixA 16 1 (l1.getD 1 .und) q1) fun p2 =>
pst n2 1 (cellsV (.bool true)) (fun q2 r2 =>
p1 [(l1.getD 0 .und), (l1.getD 1 .und), (l1.getD 2 .und), (k1.getD 0 .und)] r2) p2) o2) e2) y1) u1) r1) fun s2 t2 =>
VL (lift2 (abin .add) (s2.getD 3 .und) (.int .i64 1)) fun u2 =>
n1 [u2] [(s2.getD 0 .und), (s2.getD 1 .und), (s2.getD 2 .und)] t2) (
Rt m1 (.bool true)) o1) [(.int .i64 0)] [x1, (.ptr 69 0), i1] j1) (.ptr 66 0)) (.ptr 69 0)) d1) [x1]
theorem impl_IsPermutation_f {x0 x1 : V} : Prt Tryz.prog 59 [x0, x1] (impl_IsPermutation_F x0 x1) := pfun (fn := Tryz.f59) (m := [.s, .s, .s, .s, .s, .s, .s, .l [13] [1, 5, 12], .s, .s, .j [1, 5, 12, 13], .s, .s, .s, .s, .s, .s, .s, .s, .s, .s]) (c := 2 ≤ 34) rfl (fun h0 Rt => by kernel_rfl) (by decide)
def impl_reached_F (x0 x1 : V) (hi : Hp) (Rt : Hp → V → Prop) : Prop :=
VL (vbld (vfill (vb (List.replicate 16 false)) [(0, 1, (.bool true))])) fun a1 =>
palloc hi 69 58 (vb (List.replicate 16 false)) fun b1 =>
pst b1 16 (cellsV a1) (fun c1 d1 =>
pmks d1 76 5 1 1 (fun e1 =>
LP [6, 7] [1, 5] (fun f1 g1 h1 i1 =>
VL (vlenS (f1.getD 0 .und)) fun j1 =>
VL (lift2 (abin .lss) (f1.getD 1 .und) j1) fun k1 =>
pcond (
VL (vlenS (g1.getD 0 .und)) fun l1 =>
LP [6, 21] [1, 5, 7, 19, 20] (fun m1 n1 o1 p1 =>
VL (lift2 (abin .lss) (m1.getD 1 .und) (n1.getD 4 .und)) fun q1 =>
pcond (
JN (fun r1 =>
VL (vixS 16 (n1.getD 3 .und) (m1.getD 1 .und)) fun s1 =>
pld o1 (some 16) (fun t1 u1 =>
palloc u1 73 25 (vi .u8 (List.replicate 16 0)) fun v1 =>
pst v1 16 (cellsV t1) (fun w1 y1 =>
VL (vixS 1 (m1.getD 0 .und) (n1.getD 2 .und)) fun z1 =>
pld y1 none (fun a2 b2 =>
VL (vixA 16 1 (.ptr 73 0) a2) fun c2 =>
pld b2 none (fun d2 e2 =>
VL (vixA 16 1 (n1.getD 1 .und) d2) fun f2 =>
pld e2 none (fun g2 h2 =>
VL (lift1 (aun .not) g2) fun i2 =>
pcond (
VL (vixA 16 1 (n1.getD 1 .und) d2) fun j2 =>
pst h2 1 (cellsV (.bool true)) (fun k2 l2 =>
pmks l2 103 5 1 1 (fun m2 =>
papp m2 (fun n2 o2 => papV 5 1 1 104 m2 (fun p2 q2 =>
r1 [(n1.getD 0 .und), (n1.getD 1 .und), p2, (n1.getD 2 .und), (n1.getD 3 .und), (n1.getD 4 .und), (m1.getD 1 .und)] q2) n2 o2 (m1.getD 0 .und)) (pavs m2 (m1.getD 0 .und) []) (preadS 1 m2 (.rf 103 0 1))) (vfill [(.int .u8 0)] [(0, 1, d2)])) j2) (
r1 [(n1.getD 0 .und), (n1.getD 1 .und), (m1.getD 0 .und), (n1.getD 2 .und), (n1.getD 3 .und), (n1.getD 4 .und), (m1.getD 1 .und)] h2) i2) f2) c2) z1) (.ptr 73 0)) s1) fun r2 s2 =>
VL (lift2 (abin .add) (r2.getD 6 .und) (.int .i64 1)) fun t2 =>
p1 [(r2.getD 2 .und), t2] [(r2.getD 0 .und), (r2.getD 1 .und), (r2.getD 3 .und), (r2.getD 4 .und), (r2.getD 5 .und)] s2) (
VL (lift2 (abin .add) (n1.getD 2 .und) (.int .i64 1)) fun u2 =>
i1 [(m1.getD 0 .und), u2] [(n1.getD 0 .und), (n1.getD 1 .und)] o1) q1) [(f1.getD 0 .und), (.int .i64 0)] [(g1.getD 0 .und), (g1.getD 1 .und), (f1.getD 1 .und), (g1.getD 0 .und), l1] h1) (
VL (vlenS (f1.getD 0 .und)) fun v2 =>
Rt h1 v2) k1) [(.rf 76 0 1), (.int .i64 0)] [x1, (.ptr 69 0)] e1) (vfill [(.int .u8 0)] [(0, 1, (.int .u8 0))])) (.ptr 69 0)
theorem impl_reached_f {x0 x1 : V} : Prt Tryz.prog 60 [x0, x1] (impl_reached_F x0 x1) := pfun (fn := Tryz.f60) (m := [.s, .s, .s, .s, .s, .l [6, 7] [1, 5], .s, .s, .s, .s, .l [6, 21] [1, 5, 7, 19, 20], .s, .s, .j [1, 5, 6, 7, 19, 20, 21], .s, .s, .s, .s, .s]) (c := 2 ≤ 44) rfl (fun h0 Rt => by kernel_rfl) (by decide)
def impl_newClasses_F (x0 : V) (hi : Hp) (Rt : Hp → V → Prop) : Prop :=
pmks hi 69 2 0 0 (fun a1 =>
LP [3, 7] [6] (fun b1 c1 d1 e1 =>
VL (lift2 (abin .lss) (b1.getD 1 .und) (c1.getD 0 .und)) fun f1 =>
pcond (
pmks d1 76 2 1 1 (fun g1 =>
papp g1 (fun h1 i1 => papV 2 1 8 77 g1 (fun j1 k1 =>
VL (lift2 (abin .add) (b1.getD 1 .und) (.int .i64 1)) fun l1 =>
e1 [j1, l1] [(c1.getD 0 .und)] k1) h1 i1 (b1.getD 0 .und)) (pavs g1 (b1.getD 0 .und) []) (preadS 1 g1 (.rf 76 0 1))) (vfill [(.int .i64 0)] [(0, 1, (b1.getD 1 .und))])) (
Rt d1 (b1.getD 0 .und)) f1) [(.rf 69 0 0), (.int .i64 0)] [x0] a1) (vfill [] [])
theorem impl_newClasses_f {x0 : V} : Prt Tryz.prog 61 [x0] (impl_newClasses_F x0) := pfun (fn := Tryz.f61) (m := [.s, .s, .s, .s, .l [3, 7] [6], .s, .s, .s, .s, .s]) (c := 1 ≤ 16) rfl (fun h0 Rt => by kernel_rfl) (by decide)
def impl_classes_join_F (x0 x1 x2 : V) (hi : Hp) (Rt : Hp → V → Prop) : Prop :=
VL (vixS 1 x0 x1) fun a1 =>
pld hi none (fun b1 c1 =>
VL (vixS 1 x0 x2) fun d1 =>
pld c1 none (fun e1 f1 =>
VL (lift2 amin b1 e1) fun g1 =>
VL (vixS 1 x0 x1) fun h1 =>
pld f1 none (fun i1 j1 =>
VL (vixS 1 x0 x2) fun k1 =>
pld j1 none (fun l1 m1 =>
VL (lift2 amax i1 l1) fun n1 =>
VL (vlenS x0) fun o1 =>
LP [31] [0, 7, 8, 29, 30] (fun p1 q1 r1 s1 =>
VL (lift2 (abin .lss) (p1.getD 0 .und) (q1.getD 4 .und)) fun t1 =>
pcond (
JN (fun u1 =>
VL (vixS 1 (q1.getD 3 .und) (p1.getD 0 .und)) fun v1 =>
pld r1 none (fun w1 y1 =>
VL (lift2 (abin .eql) w1 (q1.getD 2 .und)) fun z1 =>
pcond (
VL (vixS 1 (q1.getD 0 .und) (p1.getD 0 .und)) fun a2 =>
pst y1 1 (cellsV (q1.getD 1 .und)) (fun b2 c2 =>
u1 [(q1.getD 0 .und), (q1.getD 1 .und), (q1.getD 2 .und), (q1.getD 3 .und), (q1.getD 4 .und), (p1.getD 0 .und)] c2) a2) (
u1 [(q1.getD 0 .und), (q1.getD 1 .und), (q1.getD 2 .und), (q1.getD 3 .und), (q1.getD 4 .und), (p1.getD 0 .und)] y1) z1) v1) fun d2 e2 =>
VL (lift2 (abin .add) (d2.getD 5 .und) (.int .i64 1)) fun f2 =>
s1 [f2] [(d2.getD 0 .und), (d2.getD 1 .und), (d2.getD 2 .und), (d2.getD 3 .und), (d2.getD 4 .und)] e2) (
VL (lift2 (abin .neq) (q1.getD 1 .und) (q1.getD 2 .und)) fun g2 =>
Rt r1 g2) t1) [(.int .i64 0)] [x0, g1, n1, x0, o1] m1) k1) h1) d1) a1
theorem impl_classes_join_f {x0 x1 x2 : V} : Prt Tryz.prog 62 [x0, x1, x2] (impl_classes_join_F x0 x1 x2) := pfun (fn := Tryz.f62) (m := [.s, .s, .s, .s, .l [31] [0, 7, 8, 29, 30], .s, .s, .j [0, 7, 8, 29, 30, 31], .s, .s, .s]) (c := 3 ≤ 47) rfl (fun h0 Rt => by kernel_rfl) (by decide)
def impl_back_F (x0 x1 : V) (hi : Hp) (Rt : Hp → V → Prop) : Prop :=
pbox hi 66 25 (cellsV x0) fun a1 =>
palloc a1 68 25 (vi .u8 (List.replicate 16 0)) fun b1 =>
VL (vbld (vfill (vi .u8 (List.replicate 16 0)) [])) fun c1 =>
palloc b1 69 25 (vi .u8 (List.replicate 16 0)) fun d1 =>
pst d1 16 (cellsV c1) (fun e1 f1 =>
LP [9] [2, 4, 5, 8] (fun g1 h1 i1 j1 =>
VL (lift2 (abin .lss) (g1.getD 0 .und) (h1.getD 3 .und)) fun k1 =>
pcond (
VL (vixA 16 1 (h1.getD 0 .und) (g1.getD 0 .und)) fun l1 =>
pld i1 none (fun m1 n1 =>
VL (lift1 (acvi .u8) (g1.getD 0 .und)) fun o1 =>
VL (vixA 16 1 (h1.getD 2 .und) m1) fun p1 =>
pst n1 1 (cellsV o1) (fun q1 r1 =>
VL (lift2 (abin .add) (g1.getD 0 .und) (.int .i64 1)) fun s1 =>
j1 [s1] [(h1.getD 0 .und), (h1.getD 1 .und), (h1.getD 2 .und), (h1.getD 3 .und)] r1) p1) l1) (
pld i1 (some 16) (fun t1 u1 =>
pst u1 16 (cellsV t1) (fun v1 w1 =>
VL (pcellV w1 (some 16) (h1.getD 1 .und)) fun y1 =>
Rt w1 y1) (h1.getD 1 .und)) (h1.getD 2 .und)) k1) [(.int .i64 0)] [(.ptr 66 0), (.ptr 68 0), (.ptr 69 0), x1] f1) (.ptr 69 0)
theorem impl_back_f {x0 x1 : V} : Prt Tryz.prog 63 [x0, x1] (impl_back_F x0 x1) := pfun (fn := Tryz.f63) (m := [.s, .s, .s, .s, .l [9] [2, 4, 5, 8], .s, .s, .s, .s, .s]) (c := 2 ≤ 20) rfl (fun h0 Rt => by kernel_rfl) (by decide)
def impl_vertices_F (x0 : V) (hi : Hp) (Rt : Hp → V → Prop) : Prop :=
pbox hi 65 27 (cellsV x0) fun a1 =>
pld a1 (some 16) (fun b1 c1 =>
pld c1 none (fun d1 e1 =>
pcal Tryz.prog 37 79 e1 (fun f1 g1 =>
pld g1 (some 16) (fun h1 i1 =>
pld i1 none (fun j1 k1 =>
pcalp Tryz.prog 84 81 k1 (fun l1 m1 =>
pcal Tryz.prog 37 86 m1 (fun n1 o1 =>
papp o1 (fun p1 q1 => papV 32 1 24 87 o1 (fun r1 s1 =>
pld s1 none (fun t1 u1 =>
pmk u1 90 89 16 [(.int .i64 0), (.int .i64 0)] (fun v1 w1 =>
VL (vlenS r1) fun y1 =>
LP [29] [4, 5, 6, 27, 28] (fun z1 a2 b2 c2 =>
VL (lift2 (abin .lss) (z1.getD 0 .und) (a2.getD 4 .und)) fun d2 =>
pcond (
VL (vixS 1 (a2.getD 3 .und) (z1.getD 0 .und)) fun e2 =>
pld b2 none (fun f2 g2 =>
VL (vlenS f2) fun h2 =>
LP [36] [4, 5, 6, 7, 27, 28, 29, 34, 35] (fun i2 j2 k2 l2 =>
VL (lift2 (abin .lss) (i2.getD 0 .und) (j2.getD 8 .und)) fun m2 =>
pcond (
JN (fun n2 =>
VL (vixS 1 (j2.getD 7 .und) (i2.getD 0 .und)) fun o2 =>
pld k2 none (fun p2 q2 =>
VL (vlenS (j2.getD 0 .und)) fun r2 =>
VL (lift2 (abin .lss) (j2.getD 3 .und) r2) fun s2 =>
pcond (
VL (vixS 2 (j2.getD 2 .und) p2) fun t2 =>
VL (vixA 2 1 t2 (.int .i64 0)) fun u2 =>
pst q2 1 (cellsV (j2.getD 3 .und)) (fun v2 w2 =>
n2 [(j2.getD 0 .und), (j2.getD 1 .und), (j2.getD 2 .und), (j2.getD 3 .und), (j2.getD 4 .und), (j2.getD 5 .und), (j2.getD 6 .und), (j2.getD 7 .und), (j2.getD 8 .und), (i2.getD 0 .und)] w2) u2) (
VL (vixS 2 (j2.getD 2 .und) p2) fun y2 =>
VL (vixA 2 1 y2 (.int .i64 1)) fun z2 =>
pst q2 1 (cellsV (j2.getD 3 .und)) (fun a3 b3 =>
n2 [(j2.getD 0 .und), (j2.getD 1 .und), (j2.getD 2 .und), (j2.getD 3 .und), (j2.getD 4 .und), (j2.getD 5 .und), (j2.getD 6 .und), (j2.getD 7 .und), (j2.getD 8 .und), (i2.getD 0 .und)] b3) z2) s2) o2) fun c3 d3 =>
VL (lift2 (abin .add) (c3.getD 9 .und) (.int .i64 1)) fun e3 =>
l2 [e3] [(c3.getD 0 .und), (c3.getD 1 .und), (c3.getD 2 .und), (c3.getD 3 .und), (c3.getD 4 .und), (c3.getD 5 .und), (c3.getD 6 .und), (c3.getD 7 .und), (c3.getD 8 .und)] d3) (
VL (lift2 (abin .add) (j2.getD 6 .und) (.int .i64 1)) fun f3 =>
c2 [f3] [(j2.getD 0 .und), (j2.getD 1 .und), (j2.getD 2 .und), (j2.getD 4 .und), (j2.getD 5 .und)] k2) m2) [(.int .i64 0)] [(a2.getD 0 .und), (a2.getD 1 .und), (a2.getD 2 .und), (z1.getD 0 .und), (a2.getD 3 .und), (a2.getD 4 .und), (z1.getD 0 .und), f2, h2] g2) e2) (
Rt b2 (.tup [(a2.getD 1 .und), (a2.getD 2 .und)])) d2) [(.int .i64 0)] [f1, r1, v1, r1, y1] w1) t1 t1) (.ptr 65 0)) p1 q1 l1) (pavs o1 l1 []) (preadS 1 o1 n1)) [h1, j1]) [f1]) (.ptr 65 0)) (.ptr 65 17)) [b1, d1]) (.ptr 65 0)) (.ptr 65 1)
theorem impl_vertices_f {x0 : V} : Prt Tryz.prog 64 [x0] (impl_vertices_F x0) := pfun (fn := Tryz.f64) (m := [.s, .s, .s, .s, .s, .s, .l [29] [4, 5, 6, 27, 28], .s, .s, .s, .s, .s, .l [36] [4, 5, 6, 7, 27, 28, 29, 34, 35], .s, .s, .j [4, 5, 6, 7, 27, 28, 29, 34, 35, 36], .s, .s, .s]) (c := 1 ≤ 58) rfl (fun h0 Rt => by kernel_rfl) (by decide)
def spec_l01Perm_F (x0 x1 : V) (hi : Hp) (Rt : Hp → V → Prop) : Prop :=
pbox hi 66 25 (cellsV x0) fun a1 =>
pcal Tryz.prog 55 72 a1 (fun b1 c1 =>
VL (lift1 (aun .not) b1) fun d1 =>
pcond (
Rt c1 (.bool false)) (
VL (vbld (vfill (vb (List.replicate 16 false)) [])) fun e1 =>
palloc c1 69 58 (vb (List.replicate 16 false)) fun f1 =>
pst f1 16 (cellsV e1) (fun g1 h1 =>
LP [6] [1, 2, 5] (fun i1 j1 k1 l1 =>
VL (lift2 (abin .lss) (i1.getD 0 .und) (.int .i64 16)) fun m1 =>
pcond (
JN (fun n1 =>
VL (lift2 (abin .geq) (i1.getD 0 .und) (j1.getD 0 .und)) fun o1 =>
pcond (
VL (vixA 16 1 (j1.getD 1 .und) (i1.getD 0 .und)) fun p1 =>
pld k1 none (fun q1 r1 =>
VL (lift2 (abin .neq) q1 (.int .u8 0)) fun s1 =>
pcond (
Rt r1 (.bool false)) (
n1 [(j1.getD 0 .und), (j1.getD 1 .und), (j1.getD 2 .und), (i1.getD 0 .und)] r1) s1) p1) (
VL (vixA 16 1 (j1.getD 1 .und) (i1.getD 0 .und)) fun t1 =>
pld k1 none (fun u1 v1 =>
VL (lift1 (acvi .i64) u1) fun w1 =>
VL (lift2 (abin .geq) w1 (j1.getD 0 .und)) fun y1 =>
pgk false v1 (fun z1 a2 => a2 (i1.getD 0 .und) v1) (fun b2 c2 d2 =>
pgk false d2 (fun e2 f2 => VL (vixA 16 1 (j1.getD 1 .und) c2) fun g2 =>
f2 g2 d2) (fun h2 i2 j2 =>
pgk false j2 (fun k2 l2 => pld j2 none (fun m2 n2 =>
l2 m2 n2) i2) (fun o2 p2 q2 =>
pgk false q2 (fun r2 s2 => VL (vixA 16 1 (j1.getD 2 .und) p2) fun t2 =>
s2 t2 q2) (fun u2 v2 w2 =>
pgk false w2 (fun y2 z2 => pld w2 none (fun a3 b3 =>
z2 a3 b3) v2) (fun c3 d3 e3 =>
VL (vpick c3 (.bool true) d3) fun f3 =>
pcond (
Rt e3 (.bool false)) (
VL (vixA 16 1 (j1.getD 1 .und) (i1.getD 0 .und)) fun g3 =>
pld e3 none (fun h3 i3 =>
VL (vixA 16 1 (j1.getD 2 .und) h3) fun j3 =>
pst i3 1 (cellsV (.bool true)) (fun k3 l3 =>
n1 [(j1.getD 0 .und), (j1.getD 1 .und), (j1.getD 2 .und), (i1.getD 0 .und)] l3) j3) g3) f3) u2) o2) h2) b2) y1) t1) o1) fun m3 n3 =>
VL (lift2 (abin .add) (m3.getD 3 .und) (.int .i64 1)) fun o3 =>
l1 [o3] [(m3.getD 0 .und), (m3.getD 1 .und), (m3.getD 2 .und)] n3) (
Rt k1 (.bool true)) m1) [(.int .i64 0)] [x1, (.ptr 66 0), (.ptr 69 0)] h1) (.ptr 69 0)) d1) [x1, (.int .i64 1), (.int .i64 16)]
theorem spec_l01Perm_f {x0 x1 : V} : Prt Tryz.prog 65 [x0, x1] (spec_l01Perm_F x0 x1) := pfun (fn := Tryz.f65) (m := [.s, .s, .s, .s, .s, .s, .s, .l [6] [1, 2, 5], .s, .s, .j [1, 2, 5, 6], .s, .s, .s, .s, .s, .s]) (c := 2 ≤ 41) rfl (fun h0 Rt => by kernel_rfl) (by decide)
def spec_l01Connected_F (x0 x1 x2 : V) (hi : Hp) (Rt : Hp → V → Prop) : Prop :=
pbox hi 68 25 (cellsV x1) fun a1 =>
pbox a1 69 25 (cellsV x2) fun b1 =>
VL (vbld (vfill (vb (List.replicate 16 false)) [])) fun c1 =>
pmks b1 77 5 1 1 (fun d1 =>
palloc d1 71 58 (vb (List.replicate 16 false)) fun e1 =>
pst e1 16 (cellsV c1) (fun f1 g1 =>
VL (vixA 16 1 (.ptr 71 0) (.int .i64 0)) fun h1 =>
pst g1 1 (cellsV (.bool true)) (fun i1 j1 =>
LP [8, 9] [0, 4, 5, 7] (fun k1 l1 m1 n1 =>
VL (vlenS (k1.getD 0 .und)) fun o1 =>
VL (lift2 (abin .lss) (k1.getD 1 .und) o1) fun p1 =>
pcond (
VL (vixS 1 (k1.getD 0 .und) (k1.getD 1 .und)) fun q1 =>
pld m1 none (fun r1 s1 =>
VL (vixA 16 1 (l1.getD 1 .und) r1) fun t1 =>
pld s1 none (fun u1 v1 =>
VL (vixS 1 (k1.getD 0 .und) (k1.getD 1 .und)) fun w1 =>
pld v1 none (fun y1 z1 =>
VL (vixA 16 1 (l1.getD 2 .und) y1) fun a2 =>
pld z1 none (fun b2 c2 =>
pmks c2 97 5 2 2 (fun d2 =>
LP [8, 11] [0, 4, 5, 7, 9, 10] (fun e2 f2 g2 h2 =>
VL (lift2 (abin .lss) (e2.getD 1 .und) (.int .i64 2)) fun i2 =>
pcond (
JN (fun j2 =>
VL (vixS 1 (f2.getD 5 .und) (e2.getD 1 .und)) fun k2 =>
pld g2 none (fun l2 m2 =>
VL (vixA 16 1 (f2.getD 3 .und) l2) fun n2 =>
pld m2 none (fun o2 p2 =>
VL (lift1 (aun .not) o2) fun q2 =>
pcond (
VL (vixS 1 (f2.getD 5 .und) (e2.getD 1 .und)) fun r2 =>
pld p2 none (fun s2 t2 =>
VL (vixA 16 1 (f2.getD 3 .und) s2) fun u2 =>
pst t2 1 (cellsV (.bool true)) (fun v2 w2 =>
VL (vixS 1 (f2.getD 5 .und) (e2.getD 1 .und)) fun y2 =>
pld w2 none (fun z2 a3 =>
pmks a3 119 5 1 1 (fun b3 =>
papp b3 (fun c3 d3 => papV 5 1 1 120 b3 (fun e3 f3 =>
j2 [(f2.getD 0 .und), (f2.getD 1 .und), (f2.getD 2 .und), (f2.getD 3 .und), e3, (f2.getD 4 .und), (f2.getD 5 .und), (e2.getD 1 .und)] f3) c3 d3 (e2.getD 0 .und)) (pavs b3 (e2.getD 0 .und) []) (preadS 1 b3 (.rf 119 0 1))) (vfill [(.int .u8 0)] [(0, 1, z2)])) y2) u2) r2) (
j2 [(f2.getD 0 .und), (f2.getD 1 .und), (f2.getD 2 .und), (f2.getD 3 .und), (e2.getD 0 .und), (f2.getD 4 .und), (f2.getD 5 .und), (e2.getD 1 .und)] p2) q2) n2) k2) fun g3 h3 =>
VL (lift2 (abin .add) (g3.getD 7 .und) (.int .i64 1)) fun i3 =>
h2 [(g3.getD 4 .und), i3] [(g3.getD 0 .und), (g3.getD 1 .und), (g3.getD 2 .und), (g3.getD 3 .und), (g3.getD 5 .und), (g3.getD 6 .und)] h3) (
VL (lift2 (abin .add) (f2.getD 4 .und) (.int .i64 1)) fun j3 =>
n1 [(e2.getD 0 .und), j3] [(f2.getD 0 .und), (f2.getD 1 .und), (f2.getD 2 .und), (f2.getD 3 .und)] g2) i2) [(k1.getD 0 .und), (.int .i64 0)] [(l1.getD 0 .und), (l1.getD 1 .und), (l1.getD 2 .und), (l1.getD 3 .und), (k1.getD 1 .und), (.rf 97 0 2)] d2) (vfill [(.int .u8 0), (.int .u8 0)] [(0, 1, u1), (1, 1, b2)])) a2) w1) t1) q1) (
VL (vlenS (k1.getD 0 .und)) fun k3 =>
VL (lift2 (abin .eql) k3 (l1.getD 0 .und)) fun l3 =>
Rt m1 l3) p1) [(.rf 77 0 1), (.int .i64 0)] [x0, (.ptr 68 0), (.ptr 69 0), (.ptr 71 0)] j1) h1) (.ptr 71 0)) (vfill [(.int .u8 0)] [(0, 1, (.int .u8 0))])
theorem spec_l01Connected_f {x0 x1 x2 : V} : Prt Tryz.prog 66 [x0, x1, x2] (spec_l01Connected_F x0 x1 x2) := pfun (fn := Tryz.f66) (m := [.s, .s, .s, .s, .s, .l [8, 9] [0, 4, 5, 7], .s, .s, .s, .s, .s, .l [8, 11] [0, 4, 5, 7, 9, 10], .s, .s, .j [0, 4, 5, 7, 8, 9, 10, 11], .s, .s, .s]) (c := 3 ≤ 61) rfl (fun h0 Rt => by kernel_rfl) (by decide)
def spec_l01Which_F (x0 x1 : V) (hi : Hp) (Rt : Hp → V → Prop) : Prop :=
pbox hi 66 25 (cellsV x0) fun a1 =>
palloc a1 68 84 (vi .i64 (List.replicate 16 0)) fun b1 =>
VL (vbld (vfill (vi .i64 (List.replicate 16 0)) [])) fun c1 =>
pld b1 (some 16) (fun d1 e1 =>
pcal Tryz.prog 39 76 e1 (fun f1 g1 =>
palloc g1 69 84 (vi .i64 (List.replicate 16 0)) fun h1 =>
pst h1 16 (cellsV c1) (fun i1 j1 =>
LP [7] [4, 5, 6] (fun k1 l1 m1 n1 =>
VL (vlenS (l1.getD 2 .und)) fun o1 =>
VL (lift2 (abin .lss) (k1.getD 0 .und) o1) fun p1 =>
pcond (
LP [8] [4, 5, 6, 7] (fun q1 r1 s1 t1 =>
VL (vixS 1 (r1.getD 2 .und) (r1.getD 3 .und)) fun u1 =>
pld s1 none (fun v1 w1 =>
VL (vlenS v1) fun y1 =>
VL (lift2 (abin .lss) (q1.getD 0 .und) y1) fun z1 =>
pcond (
VL (vixS 1 (r1.getD 2 .und) (r1.getD 3 .und)) fun a2 =>
pld w1 none (fun b2 c2 =>
VL (vixS 1 b2 (q1.getD 0 .und)) fun d2 =>
pld c2 none (fun e2 f2 =>
VL (vixA 16 1 (r1.getD 1 .und) e2) fun g2 =>
pst f2 1 (cellsV (r1.getD 3 .und)) (fun h2 i2 =>
VL (lift2 (abin .add) (q1.getD 0 .und) (.int .i64 1)) fun j2 =>
t1 [j2] [(r1.getD 0 .und), (r1.getD 1 .und), (r1.getD 2 .und), (r1.getD 3 .und)] i2) g2) d2) a2) (
VL (lift2 (abin .add) (r1.getD 3 .und) (.int .i64 1)) fun k2 =>
n1 [k2] [(r1.getD 0 .und), (r1.getD 1 .und), (r1.getD 2 .und)] w1) z1) u1) [(.int .i64 0)] [(l1.getD 0 .und), (l1.getD 1 .und), (l1.getD 2 .und), (k1.getD 0 .und)] m1) (
pld m1 (some 16) (fun l2 m2 =>
pst m2 16 (cellsV l2) (fun n2 o2 =>
VL (pcellV o2 (some 16) (l1.getD 0 .und)) fun p2 =>
Rt o2 p2) (l1.getD 0 .und)) (l1.getD 1 .und)) p1) [(.int .i64 0)] [(.ptr 68 0), (.ptr 69 0), f1] j1) (.ptr 69 0)) [d1, x1]) (.ptr 66 0)
theorem spec_l01Which_f {x0 x1 : V} : Prt Tryz.prog 67 [x0, x1] (spec_l01Which_F x0 x1) := pfun (fn := Tryz.f67) (m := [.s, .s, .s, .s, .l [7] [4, 5, 6], .s, .s, .s, .s, .l [8] [4, 5, 6, 7], .s, .s, .s, .s]) (c := 2 ≤ 38) rfl (fun h0 Rt => by kernel_rfl) (by decide)
def spec_l01Back_F (x0 x1 : V) (hi : Hp) (Rt : Hp → V → Prop) : Prop :=
pbox hi 66 25 (cellsV x0) fun a1 =>
palloc a1 68 25 (vi .u8 (List.replicate 16 0)) fun b1 =>
VL (vbld (vfill (vi .u8 (List.replicate 16 0)) [])) fun c1 =>
palloc b1 69 25 (vi .u8 (List.replicate 16 0)) fun d1 =>
pst d1 16 (cellsV c1) (fun e1 f1 =>
LP [6] [1, 2, 4, 5] (fun g1 h1 i1 j1 =>
VL (lift2 (abin .lss) (g1.getD 0 .und) (h1.getD 0 .und)) fun k1 =>
pcond (
VL (vixA 16 1 (h1.getD 1 .und) (g1.getD 0 .und)) fun l1 =>
pld i1 none (fun m1 n1 =>
VL (lift1 (acvi .u8) (g1.getD 0 .und)) fun o1 =>
VL (vixA 16 1 (h1.getD 3 .und) m1) fun p1 =>
pst n1 1 (cellsV o1) (fun q1 r1 =>
VL (lift2 (abin .add) (g1.getD 0 .und) (.int .i64 1)) fun s1 =>
j1 [s1] [(h1.getD 0 .und), (h1.getD 1 .und), (h1.getD 2 .und), (h1.getD 3 .und)] r1) p1) l1) (
pld i1 (some 16) (fun t1 u1 =>
pst u1 16 (cellsV t1) (fun v1 w1 =>
VL (pcellV w1 (some 16) (h1.getD 2 .und)) fun y1 =>
Rt w1 y1) (h1.getD 2 .und)) (h1.getD 3 .und)) k1) [(.int .i64 0)] [x1, (.ptr 66 0), (.ptr 68 0), (.ptr 69 0)] f1) (.ptr 69 0)
theorem spec_l01Back_f {x0 x1 : V} : Prt Tryz.prog 68 [x0, x1] (spec_l01Back_F x0 x1) := pfun (fn := Tryz.f68) (m := [.s, .s, .s, .s, .l [6] [1, 2, 4, 5], .s, .s, .s, .s]) (c := 2 ≤ 20) rfl (fun h0 Rt => by kernel_rfl) (by decide)
def spec_l09Alone_F (x0 : V) (hi : Hp) (Rt : Hp → V → Prop) : Prop :=
pmks hi 69 2 0 0 (fun a1 =>
LP [3, 4] [0] (fun b1 c1 d1 e1 =>
VL (lift2 (abin .lss) (b1.getD 1 .und) (c1.getD 0 .und)) fun f1 =>
pcond (
pmks d1 77 2 1 1 (fun g1 =>
papp g1 (fun h1 i1 => papV 2 1 8 78 g1 (fun j1 k1 =>
VL (lift2 (abin .add) (b1.getD 1 .und) (.int .i64 1)) fun l1 =>
e1 [j1, l1] [(c1.getD 0 .und)] k1) h1 i1 (b1.getD 0 .und)) (pavs g1 (b1.getD 0 .und) []) (preadS 1 g1 (.rf 77 0 1))) (vfill [(.int .i64 0)] [(0, 1, (b1.getD 1 .und))])) (
Rt d1 (b1.getD 0 .und)) f1) [(.rf 69 0 0), (.int .i64 0)] [x0] a1) (vfill [] [])
theorem spec_l09Alone_f {x0 : V} : Prt Tryz.prog 69 [x0] (spec_l09Alone_F x0) := pfun (fn := Tryz.f69) (m := [.s, .s, .s, .s, .l [3, 4] [0], .s, .s, .s, .s]) (c := 1 ≤ 16) rfl (fun h0 Rt => by kernel_rfl) (by decide)
def spec_l09Join_F (x0 x1 x2 : V) (hi : Hp) (Rt : Hp → V → Prop) : Prop :=
VL (vixS 1 x0 x2) fun a1 =>
pld hi none (fun b1 c1 =>
VL (vixS 1 x0 x1) fun d1 =>
pld c1 none (fun e1 f1 =>
VL (lift2 (abin .eql) b1 e1) fun g1 =>
pcond (
Rt f1 (.bool false)) (
LP [9] [0, 7, 8] (fun h1 i1 j1 k1 =>
VL (vlenS (i1.getD 0 .und)) fun l1 =>
VL (lift2 (abin .lss) (h1.getD 0 .und) l1) fun m1 =>
pcond (
JN (fun n1 =>
VL (vixS 1 (i1.getD 0 .und) (h1.getD 0 .und)) fun o1 =>
pld j1 none (fun p1 q1 =>
VL (lift2 (abin .eql) p1 (i1.getD 1 .und)) fun r1 =>
pcond (
VL (vixS 1 (i1.getD 0 .und) (h1.getD 0 .und)) fun s1 =>
pst q1 1 (cellsV (i1.getD 2 .und)) (fun t1 u1 =>
n1 [(i1.getD 0 .und), (i1.getD 1 .und), (i1.getD 2 .und), (h1.getD 0 .und)] u1) s1) (
n1 [(i1.getD 0 .und), (i1.getD 1 .und), (i1.getD 2 .und), (h1.getD 0 .und)] q1) r1) o1) fun v1 w1 =>
VL (lift2 (abin .add) (v1.getD 3 .und) (.int .i64 1)) fun y1 =>
k1 [y1] [(v1.getD 0 .und), (v1.getD 1 .und), (v1.getD 2 .und)] w1) (
Rt j1 (.bool true)) m1) [(.int .i64 0)] [x0, b1, e1] f1) g1) d1) a1
theorem spec_l09Join_f {x0 x1 x2 : V} : Prt Tryz.prog 70 [x0, x1, x2] (spec_l09Join_F x0 x1 x2) := pfun (fn := Tryz.f70) (m := [.s, .s, .s, .s, .s, .s, .s, .l [9] [0, 7, 8], .s, .s, .j [0, 7, 8, 9], .s, .s]) (c := 3 ≤ 37) rfl (fun h0 Rt => by kernel_rfl) (by decide)
def impl_then_F (x0 x1 x2 : V) (hi : Hp) (Rt : Hp → V → Prop) : Prop :=
pbox hi 67 25 (cellsV x0) fun a1 =>
pbox a1 68 25 (cellsV x1) fun b1 =>
palloc b1 70 25 (vi .u8 (List.replicate 16 0)) fun c1 =>
VL (vbld (vfill (vi .u8 (List.replicate 16 0)) [])) fun d1 =>
palloc c1 71 25 (vi .u8 (List.replicate 16 0)) fun e1 =>
pst e1 16 (cellsV d1) (fun f1 g1 =>
LP [11] [3, 4, 6, 7, 10] (fun h1 i1 j1 k1 =>
VL (lift2 (abin .lss) (h1.getD 0 .und) (i1.getD 4 .und)) fun l1 =>
pcond (
VL (vixA 16 1 (i1.getD 0 .und) (h1.getD 0 .und)) fun m1 =>
pld j1 none (fun n1 o1 =>
VL (vixA 16 1 (i1.getD 1 .und) n1) fun p1 =>
pld o1 none (fun q1 r1 =>
VL (vixA 16 1 (i1.getD 3 .und) (h1.getD 0 .und)) fun s1 =>
pst r1 1 (cellsV q1) (fun t1 u1 =>
VL (lift2 (abin .add) (h1.getD 0 .und) (.int .i64 1)) fun v1 =>
k1 [v1] [(i1.getD 0 .und), (i1.getD 1 .und), (i1.getD 2 .und), (i1.getD 3 .und), (i1.getD 4 .und)] u1) s1) p1) m1) (
pld j1 (some 16) (fun w1 y1 =>
pst y1 16 (cellsV w1) (fun z1 a2 =>
VL (pcellV a2 (some 16) (i1.getD 2 .und)) fun b2 =>
Rt a2 b2) (i1.getD 2 .und)) (i1.getD 3 .und)) l1) [(.int .i64 0)] [(.ptr 67 0), (.ptr 68 0), (.ptr 70 0), (.ptr 71 0), x2] g1) (.ptr 71 0)
theorem impl_then_f {x0 x1 x2 : V} : Prt Tryz.prog 71 [x0, x1, x2] (impl_then_F x0 x1 x2) := pfun (fn := Tryz.f71) (m := [.s, .s, .s, .s, .l [11] [3, 4, 6, 7, 10], .s, .s, .s, .s, .s]) (c := 3 ≤ 23) rfl (fun h0 Rt => by kernel_rfl) (by decide)
def spec_l01Then_F (x0 x1 x2 : V) (hi : Hp) (Rt : Hp → V → Prop) : Prop :=
pbox hi 67 25 (cellsV x0) fun a1 =>
pbox a1 68 25 (cellsV x1) fun b1 =>
palloc b1 70 25 (vi .u8 (List.replicate 16 0)) fun c1 =>
VL (vbld (vfill (vi .u8 (List.replicate 16 0)) [])) fun d1 =>
palloc c1 71 25 (vi .u8 (List.replicate 16 0)) fun e1 =>
pst e1 16 (cellsV d1) (fun f1 g1 =>
LP [8] [2, 3, 4, 6, 7] (fun h1 i1 j1 k1 =>
VL (lift2 (abin .lss) (h1.getD 0 .und) (i1.getD 0 .und)) fun l1 =>
pcond (
VL (vixA 16 1 (i1.getD 1 .und) (h1.getD 0 .und)) fun m1 =>
pld j1 none (fun n1 o1 =>
VL (vixA 16 1 (i1.getD 2 .und) n1) fun p1 =>
pld o1 none (fun q1 r1 =>
VL (vixA 16 1 (i1.getD 4 .und) (h1.getD 0 .und)) fun s1 =>
pst r1 1 (cellsV q1) (fun t1 u1 =>
VL (lift2 (abin .add) (h1.getD 0 .und) (.int .i64 1)) fun v1 =>
k1 [v1] [(i1.getD 0 .und), (i1.getD 1 .und), (i1.getD 2 .und), (i1.getD 3 .und), (i1.getD 4 .und)] u1) s1) p1) m1) (
pld j1 (some 16) (fun w1 y1 =>
pst y1 16 (cellsV w1) (fun z1 a2 =>
VL (pcellV a2 (some 16) (i1.getD 3 .und)) fun b2 =>
Rt a2 b2) (i1.getD 3 .und)) (i1.getD 4 .und)) l1) [(.int .i64 0)] [x2, (.ptr 67 0), (.ptr 68 0), (.ptr 70 0), (.ptr 71 0)] g1) (.ptr 71 0)
theorem spec_l01Then_f {x0 x1 x2 : V} : Prt Tryz.prog 72 [x0, x1, x2] (spec_l01Then_F x0 x1 x2) := pfun (fn := Tryz.f72) (m := [.s, .s, .s, .s, .l [8] [2, 3, 4, 6, 7], .s, .s, .s, .s]) (c := 3 ≤ 23) rfl (fun h0 Rt => by kernel_rfl) (by decide)
def impl_eulerOf_F (x0 x1 : V) (hi : Hp) (Rt : Hp → V → Prop) : Prop :=
VL (vixS 1 x0 (.int .i64 0)) fun a1 =>
pld hi none (fun b1 c1 =>
VL (vlenS b1) fun d1 =>
VL (vixS 1 x0 (.int .i64 1)) fun e1 =>
pld c1 none (fun f1 g1 =>
VL (vlenS f1) fun h1 =>
VL (lift2 (abin .add) d1 h1) fun i1 =>
VL (vixS 1 x0 (.int .i64 2)) fun j1 =>
pld g1 none (fun k1 l1 =>
VL (vlenS k1) fun m1 =>
VL (lift2 (abin .add) i1 m1) fun n1 =>
VL (lift2 (abin .sub) n1 x1) fun o1 =>
Rt l1 o1) j1) e1) a1
theorem impl_eulerOf_f {x0 x1 : V} : Prt Tryz.prog 73 [x0, x1] (impl_eulerOf_F x0 x1) := pfun (fn := Tryz.f73) (m := [.s, .s]) (c := 2 ≤ 21) rfl (fun h0 Rt => by kernel_rfl) (by decide)
def impl_passport_F (x0 : V) (hi : Hp) (Rt : Hp → V → Prop) : Prop :=
pbox hi 65 27 (cellsV x0) fun a1 =>
pld a1 (some 16) (fun b1 c1 =>
pld c1 none (fun d1 e1 =>
pld e1 (some 16) (fun f1 g1 =>
pld g1 none (fun h1 i1 =>
pld i1 (some 33) (fun j1 k1 =>
pld k1 none (fun l1 m1 =>
pcalp Tryz.prog 85 71 m1 (fun n1 o1 =>
pcalp Tryz.prog 85 76 o1 (fun p1 q1 =>
pcalp Tryz.prog 38 78 q1 (fun r1 s1 =>
pcal Tryz.prog 85 81 s1 (fun t1 u1 =>
pmks u1 82 32 3 3 (fun v1 =>
Rt v1 (.rf 82 0 3)) (vfill [.nils, .nils, .nils] [(0, 1, n1), (1, 1, p1), (2, 1, t1)])) [r1, l1]) [j1]) [f1, h1]) [b1, d1]) (.ptr 65 0)) (.ptr 65 0)) (.ptr 65 0)) (.ptr 65 17)) (.ptr 65 0)) (.ptr 65 1)
theorem impl_passport_f {x0 : V} : Prt Tryz.prog 74 [x0] (impl_passport_F x0) := pfun (fn := Tryz.f74) (m := [.s, .s]) (c := 1 ≤ 19) rfl (fun h0 Rt => by kernel_rfl) (by decide)
def spec_l01Pick_F (x0 x1 : V) (hi : Hp) (Rt : Hp → V → Prop) : Prop :=
VL (vlenS x1) fun a1 =>
pcal Tryz.prog 50 73 hi (fun b1 c1 =>
VL (vixS 1 x1 b1) fun d1 =>
pld c1 none (fun e1 f1 =>
Rt f1 e1) d1) [x0, a1]
theorem spec_l01Pick_f {x0 x1 : V} : Prt Tryz.prog 75 [x0, x1] (spec_l01Pick_F x0 x1) := pfun (fn := Tryz.f75) (m := [.s, .s]) (c := 2 ≤ 12) rfl (fun h0 Rt => by kernel_rfl) (by decide)
def spec_l09List_F (x0 x1 x2 x3 : V) (hi : Hp) (Rt : Hp → V → Prop) : Prop :=
LP [9] [0, 1, 2, 3] (fun a1 b1 c1 d1 =>
VL (vlenS (b1.getD 0 .und)) fun e1 =>
VL (lift2 (abin .lss) (a1.getD 0 .und) e1) fun f1 =>
pcond (
VL (vixS 1 (b1.getD 0 .und) (a1.getD 0 .und)) fun g1 =>
pld c1 none (fun h1 i1 =>
pcal Tryz.prog 55 86 i1 (fun j1 k1 =>
VL (lift1 (aun .not) j1) fun l1 =>
pcond (
Rt k1 (.bool false)) (
VL (lift2 (abin .add) (a1.getD 0 .und) (.int .i64 1)) fun m1 =>
d1 [m1] [(b1.getD 0 .und), (b1.getD 1 .und), (b1.getD 2 .und), (b1.getD 3 .und)] k1) l1) [h1, (b1.getD 2 .und), (b1.getD 3 .und)]) g1) (
VL (vlenS (b1.getD 0 .und)) fun n1 =>
VL (lift2 (abin .eql) n1 (b1.getD 1 .und)) fun o1 =>
Rt c1 o1) f1) [(.int .i64 0)] [x0, x1, x2, x3] hi
theorem spec_l09List_f {x0 x1 x2 x3 : V} : Prt Tryz.prog 76 [x0, x1, x2, x3] (spec_l09List_F x0 x1 x2 x3) := pfun (fn := Tryz.f76) (m := [.s, .s, .s, .l [9] [0, 1, 2, 3], .s, .s, .s, .s, .s, .s]) (c := 4 ≤ 28) rfl (fun h0 Rt => by kernel_rfl) (by decide)
def slices_Index_int64_int64_i_F (x0 x1 : V) (hi : Hp) (Rt : Hp → V → Prop) : Prop :=
VL (vlenS x0) fun a1 =>
LP [8] [0, 1, 7] (fun b1 c1 d1 e1 =>
VL (lift2 (abin .lss) (b1.getD 0 .und) (c1.getD 2 .und)) fun f1 =>
pcond (
VL (vixS 1 (c1.getD 0 .und) (b1.getD 0 .und)) fun g1 =>
pld d1 none (fun h1 i1 =>
VL (lift2 (abin .eql) (c1.getD 1 .und) h1) fun j1 =>
pcond (
Rt i1 (b1.getD 0 .und)) (
VL (lift2 (abin .add) (b1.getD 0 .und) (.int .i64 1)) fun k1 =>
e1 [k1] [(c1.getD 0 .und), (c1.getD 1 .und), (c1.getD 2 .und)] i1) j1) g1) (
Rt d1 (.int .i64 (-1))) f1) [(.int .i64 0)] [x0, x1, a1] hi
theorem slices_Index_int64_int64_i_f {x0 x1 : V} : Prt Tryz.prog 77 [x0, x1] (slices_Index_int64_int64_i_F x0 x1) := pfun (fn := Tryz.f77) (m := [.s, .s, .s, .l [8] [0, 1, 7], .s, .s, .s, .s, .s, .s, .s]) (c := 2 ≤ 19) rfl (fun h0 Rt => by kernel_rfl) (by decide)
def slices_Clone_int64_int64_i_F (x0 : V) (hi : Hp) (Rt : Hp → V → Prop) : Prop :=
VL (vnilS false x0) fun a1 =>
pcond (
Rt hi .nils) (
pmks hi 69 2 0 0 (fun b1 =>
papp b1 (fun c1 d1 => papV 2 1 8 71 b1 (fun e1 f1 =>
Rt f1 e1) c1 d1 (.rf 69 0 0)) (pavs b1 (.rf 69 0 0) []) (preadS 1 b1 x0)) (vfill [] [])) a1
theorem slices_Clone_int64_int64_i_f {x0 : V} : Prt Tryz.prog 78 [x0] (slices_Clone_int64_int64_i_F x0) := pfun (fn := Tryz.f78) (m := [.s, .s, .s, .s, .s]) (c := 1 ≤ 8) rfl (fun h0 Rt => by kernel_rfl) (by decide)
def spec_l01Turn_F (x0 : V) (hi : Hp) (Rt : Hp → V → Prop) : Prop :=
palloc hi 66 25 (vi .u8 (List.replicate 16 0)) fun a1 =>
VL (vbld (vfill (vi .u8 (List.replicate 16 0)) [])) fun b1 =>
palloc a1 67 25 (vi .u8 (List.replicate 16 0)) fun c1 =>
pst c1 16 (cellsV b1) (fun d1 e1 =>
LP [4] [0, 2, 3] (fun f1 g1 h1 i1 =>
VL (lift2 (abin .lss) (f1.getD 0 .und) (g1.getD 0 .und)) fun j1 =>
pcond (
VL (lift2 (abin .add) (f1.getD 0 .und) (.int .i64 1)) fun k1 =>
VL (lift2 (abin .rem) k1 (g1.getD 0 .und)) fun l1 =>
VL (lift1 (acvi .u8) l1) fun m1 =>
VL (vixA 16 1 (g1.getD 2 .und) (f1.getD 0 .und)) fun n1 =>
pst h1 1 (cellsV m1) (fun o1 p1 =>
VL (lift2 (abin .add) (f1.getD 0 .und) (.int .i64 1)) fun q1 =>
i1 [q1] [(g1.getD 0 .und), (g1.getD 1 .und), (g1.getD 2 .und)] p1) n1) (
pld h1 (some 16) (fun r1 s1 =>
pst s1 16 (cellsV r1) (fun t1 u1 =>
VL (pcellV u1 (some 16) (g1.getD 1 .und)) fun v1 =>
Rt u1 v1) (g1.getD 1 .und)) (g1.getD 2 .und)) j1) [(.int .i64 0)] [x0, (.ptr 66 0), (.ptr 67 0)] e1) (.ptr 67 0)
theorem spec_l01Turn_f {x0 : V} : Prt Tryz.prog 80 [x0] (spec_l01Turn_F x0) := pfun (fn := Tryz.f80) (m := [.s, .s, .s, .s, .l [4] [0, 2, 3], .s, .s, .s, .s]) (c := 1 ≤ 19) rfl (fun h0 Rt => by kernel_rfl) (by decide)
def spec_l01Same_F (x0 : V) (hi : Hp) (Rt : Hp → V → Prop) : Prop :=
palloc hi 66 25 (vi .u8 (List.replicate 16 0)) fun a1 =>
VL (vbld (vfill (vi .u8 (List.replicate 16 0)) [])) fun b1 =>
palloc a1 67 25 (vi .u8 (List.replicate 16 0)) fun c1 =>
pst c1 16 (cellsV b1) (fun d1 e1 =>
LP [4] [0, 2, 3] (fun f1 g1 h1 i1 =>
VL (lift2 (abin .lss) (f1.getD 0 .und) (g1.getD 0 .und)) fun j1 =>
pcond (
VL (lift1 (acvi .u8) (f1.getD 0 .und)) fun k1 =>
VL (vixA 16 1 (g1.getD 2 .und) (f1.getD 0 .und)) fun l1 =>
pst h1 1 (cellsV k1) (fun m1 n1 =>
VL (lift2 (abin .add) (f1.getD 0 .und) (.int .i64 1)) fun o1 =>
i1 [o1] [(g1.getD 0 .und), (g1.getD 1 .und), (g1.getD 2 .und)] n1) l1) (
pld h1 (some 16) (fun p1 q1 =>
pst q1 16 (cellsV p1) (fun r1 s1 =>
VL (pcellV s1 (some 16) (g1.getD 1 .und)) fun t1 =>
Rt s1 t1) (g1.getD 1 .und)) (g1.getD 2 .und)) j1) [(.int .i64 0)] [x0, (.ptr 66 0), (.ptr 67 0)] e1) (.ptr 67 0)
theorem spec_l01Same_f {x0 : V} : Prt Tryz.prog 81 [x0] (spec_l01Same_F x0) := pfun (fn := Tryz.f81) (m := [.s, .s, .s, .s, .l [4] [0, 2, 3], .s, .s, .s, .s]) (c := 1 ≤ 16) rfl (fun h0 Rt => by kernel_rfl) (by decide)
def spec_l01Draw_F (x0 x1 : V) (hi : Hp) (Rt : Hp → V → Prop) : Prop :=
palloc hi 68 27 ([(.int .i64 0)] ++ (vi .u8 (List.replicate 32 0))) fun a1 =>
pcal Tryz.prog 50 75 a1 (fun b1 c1 =>
VL (lift2 (abin .add) (.int .i64 1) b1) fun d1 =>
LP [6] [0, 4, 5] (fun e1 f1 g1 h1 =>
VL (lift2 (abin .lss) (e1.getD 0 .und) (.int .i64 8)) fun i1 =>
pcond (
pmks g1 86 2 4 4 (fun j1 =>
pcal Tryz.prog 75 87 j1 (fun k1 l1 =>
pcal Tryz.prog 86 88 l1 (fun m1 n1 =>
pmks n1 93 2 4 4 (fun o1 =>
pcal Tryz.prog 75 94 o1 (fun p1 q1 =>
pcal Tryz.prog 86 95 q1 (fun r1 s1 =>
VL (vbld (vfill ([(.int .i64 0)] ++ (vi .u8 (List.replicate 32 0))) [(0, 1, (f1.getD 2 .und)), (1, 16, m1), (17, 16, r1)])) fun t1 =>
palloc s1 71 27 ([(.int .i64 0)] ++ (vi .u8 (List.replicate 32 0))) fun u1 =>
pst u1 33 (cellsV t1) (fun v1 w1 =>
pld w1 (some 33) (fun y1 z1 =>
pcal Tryz.prog 34 98 z1 (fun a2 b2 =>
pcond (
pld b2 (some 33) (fun c2 d2 =>
pst d2 33 (cellsV c2) (fun e2 f2 =>
VL (pcellV f2 (some 33) (f1.getD 1 .und)) fun g2 =>
Rt f2 g2) (f1.getD 1 .und)) (.ptr 71 0)) (
VL (lift2 (abin .add) (e1.getD 0 .und) (.int .i64 1)) fun h2 =>
h1 [h2] [(f1.getD 0 .und), (f1.getD 1 .und), (f1.getD 2 .und)] b2) a2) [y1]) (.ptr 71 0)) (.ptr 71 0)) [(f1.getD 0 .und), (f1.getD 2 .und), p1]) [(f1.getD 0 .und), (.rf 93 0 4)]) (vfill (vi .i64 (List.replicate 4 0)) [(0, 1, (.int .i64 2)), (1, 1, (.int .i64 2)), (2, 1, (.int .i64 3)), (3, 1, (f1.getD 2 .und))])) [(f1.getD 0 .und), (f1.getD 2 .und), k1]) [(f1.getD 0 .und), (.rf 86 0 4)]) (vfill (vi .i64 (List.replicate 4 0)) [(0, 1, (.int .i64 2)), (1, 1, (.int .i64 3)), (2, 1, (.int .i64 4)), (3, 1, (f1.getD 2 .und))])) (
pcal Tryz.prog 56 101 g1 (fun i2 j2 =>
palloc j2 72 27 ([(.int .i64 0)] ++ (vi .u8 (List.replicate 32 0))) fun k2 =>
pst k2 33 (cellsV i2) (fun l2 m2 =>
pcal Tryz.prog 57 104 m2 (fun n2 o2 =>
pst o2 16 (cellsV n2) (fun p2 q2 =>
pld q2 (some 33) (fun r2 s2 =>
pst s2 33 (cellsV r2) (fun t2 u2 =>
VL (pcellV u2 (some 33) (f1.getD 1 .und)) fun v2 =>
Rt u2 v2) (f1.getD 1 .und)) (.ptr 72 0)) (.ptr 72 17)) [(f1.getD 0 .und), (f1.getD 2 .und)]) (.ptr 72 0)) [(f1.getD 2 .und)]) i1) [(.int .i64 0)] [x0, (.ptr 68 0), d1] c1) [x0, x1]
theorem spec_l01Draw_f {x0 x1 : V} : Prt Tryz.prog 82 [x0, x1] (spec_l01Draw_F x0 x1) := pfun (fn := Tryz.f82) (m := [.s, .s, .s, .s, .l [6] [0, 4, 5], .s, .s, .s, .s, .s, .s, .s, .s, .s]) (c := 2 ≤ 43) rfl (fun h0 Rt => by kernel_rfl) (by decide)
def impl_isSize_F (x0 : V) (hi : Hp) (Rt : Hp → V → Prop) : Prop :=
VL (lift2 (abin .geq) x0 (.int .i64 1)) fun a1 =>
pgk true hi (fun b1 c1 => c1 x0 hi) (fun d1 e1 f1 =>
pgk true f1 (fun g1 h1 => VL (lift2 (abin .leq) e1 (.int .i64 16)) fun i1 =>
h1 i1 f1) (fun j1 k1 l1 =>
VL (vpick j1 k1 (.bool false)) fun m1 =>
Rt l1 m1) d1) a1
theorem impl_isSize_f {x0 : V} : Prt Tryz.prog 83 [x0] (impl_isSize_F x0) := pfun (fn := Tryz.f83) (m := [.s, .s]) (c := 1 ≤ 9) rfl (fun h0 Rt => by kernel_rfl) (by decide)
def slices_Clone_int64_int64_F (x0 : V) (hi : Hp) (Rt : Hp → V → Prop) : Prop :=
VL (vnilS false x0) fun a1 =>
pcond (
Rt hi .nils) (
pmks hi 69 32 0 0 (fun b1 =>
papp b1 (fun c1 d1 => papV 32 1 24 71 b1 (fun e1 f1 =>
Rt f1 e1) c1 d1 (.rf 69 0 0)) (pavs b1 (.rf 69 0 0) []) (preadS 1 b1 x0)) (vfill [] [])) a1
theorem slices_Clone_int64_int64_f {x0 : V} : Prt Tryz.prog 84 [x0] (slices_Clone_int64_int64_F x0) := pfun (fn := Tryz.f84) (m := [.s, .s, .s, .s, .s]) (c := 1 ≤ 8) rfl (fun h0 Rt => by kernel_rfl) (by decide)
def impl_typeOf_F (x0 x1 : V) (hi : Hp) (Rt : Hp → V → Prop) : Prop :=
pbox hi 66 25 (cellsV x0) fun a1 =>
pmks a1 72 2 0 0 (fun b1 =>
pld b1 (some 16) (fun c1 d1 =>
pcal Tryz.prog 37 75 d1 (fun e1 f1 =>
VL (vlenS e1) fun g1 =>
LP [5, 13] [11, 12] (fun h1 i1 j1 k1 =>
VL (lift2 (abin .lss) (h1.getD 1 .und) (i1.getD 1 .und)) fun l1 =>
pcond (
VL (vixS 1 (i1.getD 0 .und) (h1.getD 1 .und)) fun m1 =>
pld j1 none (fun n1 o1 =>
VL (vlenS n1) fun p1 =>
pmks o1 84 2 1 1 (fun q1 =>
papp q1 (fun r1 s1 => papV 2 1 8 85 q1 (fun t1 u1 =>
VL (lift2 (abin .add) (h1.getD 1 .und) (.int .i64 1)) fun v1 =>
k1 [t1, v1] [(i1.getD 0 .und), (i1.getD 1 .und)] u1) r1 s1 (h1.getD 0 .und)) (pavs q1 (h1.getD 0 .und) []) (preadS 1 q1 (.rf 84 0 1))) (vfill [(.int .i64 0)] [(0, 1, p1)])) m1) (
pcal Tryz.prog 87 88 j1 (fun w1 y1 =>
Rt y1 w1) [(h1.getD 0 .und)]) l1) [(.rf 72 0 0), (.int .i64 0)] [e1, g1] f1) [c1, x1]) (.ptr 66 0)) (vfill [] [])
theorem impl_typeOf_f {x0 x1 : V} : Prt Tryz.prog 85 [x0, x1] (impl_typeOf_F x0 x1) := pfun (fn := Tryz.f85) (m := [.s, .s, .s, .s, .l [5, 13] [11, 12], .s, .s, .s, .s, .s]) (c := 2 ≤ 25) rfl (fun h0 Rt => by kernel_rfl) (by decide)
def spec_l01Pairs_F (x0 x1 x2 : V) (hi : Hp) (Rt : Hp → V → Prop) : Prop :=
palloc hi 70 25 (vi .u8 (List.replicate 16 0)) fun a1 =>
pcal Tryz.prog 57 78 a1 (fun b1 c1 =>
pcal Tryz.prog 81 80 c1 (fun d1 e1 =>
palloc e1 71 25 (vi .u8 (List.replicate 16 0)) fun f1 =>
palloc f1 72 25 (vi .u8 (List.replicate 16 0)) fun g1 =>
pst g1 16 (cellsV b1) (fun h1 i1 =>
pst i1 16 (cellsV d1) (fun j1 k1 =>
LP [9] [0, 1, 2, 6, 7, 8] (fun l1 m1 n1 o1 =>
VL (lift2 (abin .lss) (l1.getD 0 .und) (m1.getD 1 .und)) fun p1 =>
pcond (
pcal Tryz.prog 50 86 n1 (fun q1 r1 =>
VL (lift2 (abin .add) (.int .i64 1) q1) fun s1 =>
VL (lift2 (abin .sub) (m1.getD 1 .und) (l1.getD 0 .und)) fun t1 =>
VL (lift2 amin s1 t1) fun u1 =>
LP [11] [0, 1, 2, 6, 7, 8, 9, 10] (fun v1 w1 y1 z1 =>
VL (lift2 (abin .lss) (v1.getD 0 .und) (w1.getD 7 .und)) fun a2 =>
pcond (
VL (lift2 (abin .add) (w1.getD 6 .und) (v1.getD 0 .und)) fun b2 =>
VL (vixA 16 1 (w1.getD 4 .und) b2) fun c2 =>
pld y1 none (fun d2 e2 =>
VL (lift2 (abin .add) (v1.getD 0 .und) (.int .i64 1)) fun f2 =>
VL (lift2 (abin .rem) f2 (w1.getD 7 .und)) fun g2 =>
VL (lift2 (abin .add) (w1.getD 6 .und) g2) fun h2 =>
VL (vixA 16 1 (w1.getD 4 .und) h2) fun i2 =>
pld e2 none (fun j2 k2 =>
VL (vixA 16 1 (w1.getD 5 .und) d2) fun l2 =>
pst k2 1 (cellsV j2) (fun m2 n2 =>
VL (lift2 (abin .add) (v1.getD 0 .und) (.int .i64 1)) fun o2 =>
z1 [o2] [(w1.getD 0 .und), (w1.getD 1 .und), (w1.getD 2 .und), (w1.getD 3 .und), (w1.getD 4 .und), (w1.getD 5 .und), (w1.getD 6 .und), (w1.getD 7 .und)] n2) l2) i2) c2) (
VL (lift2 (abin .add) (w1.getD 6 .und) (w1.getD 7 .und)) fun p2 =>
o1 [p2] [(w1.getD 0 .und), (w1.getD 1 .und), (w1.getD 2 .und), (w1.getD 3 .und), (w1.getD 4 .und), (w1.getD 5 .und)] y1) a2) [(.int .i64 0)] [(m1.getD 0 .und), (m1.getD 1 .und), (m1.getD 2 .und), (m1.getD 3 .und), (m1.getD 4 .und), (m1.getD 5 .und), (l1.getD 0 .und), u1] r1) [(m1.getD 0 .und), (m1.getD 2 .und)]) (
pld n1 (some 16) (fun q2 r2 =>
pst r2 16 (cellsV q2) (fun s2 t2 =>
VL (pcellV t2 (some 16) (m1.getD 3 .und)) fun u2 =>
Rt t2 u2) (m1.getD 3 .und)) (m1.getD 5 .und)) p1) [(.int .i64 0)] [x0, x1, x2, (.ptr 70 0), (.ptr 71 0), (.ptr 72 0)] k1) (.ptr 72 0)) (.ptr 71 0)) [x1]) [x0, x1]
theorem spec_l01Pairs_f {x0 x1 x2 : V} : Prt Tryz.prog 86 [x0, x1, x2] (spec_l01Pairs_F x0 x1 x2) := pfun (fn := Tryz.f86) (m := [.s, .s, .s, .s, .l [9] [0, 1, 2, 6, 7, 8], .s, .s, .s, .s, .s, .l [11] [0, 1, 2, 6, 7, 8, 9, 10], .s, .s, .s, .s]) (c := 3 ≤ 51) rfl (fun h0 Rt => by kernel_rfl) (by decide)
def impl_descending_F (x0 : V) (hi : Hp) (Rt : Hp → V → Prop) : Prop :=
pcal Tryz.prog 88 68 hi (fun a1 b1 =>
pcal Tryz.prog 89 70 b1 (fun c1 d1 =>
Rt d1 x0) [x0]) [x0]
theorem impl_descending_f {x0 : V} : Prt Tryz.prog 87 [x0] (impl_descending_F x0) := pfun (fn := Tryz.f87) (m := [.s, .s, .s, .s]) (c := 1 ≤ 8) rfl (fun h0 Rt => by kernel_rfl) (by decide)
def slices_Sort_int64_int64_i_F (x0 : V) (hi : Hp) (Rt : Hp → V → Prop) : Prop :=
VL (vlenS x0) fun a1 =>
VL (lift1 (acvi .u64) a1) fun b1 =>
pcal Tryz.prog 91 73 hi (fun c1 d1 =>
pcal Tryz.prog 90 74 d1 (fun e1 f1 =>
Rt f1 (.tup [])) [x0, (.int .i64 0), a1, c1]) [b1]
theorem slices_Sort_int64_int64_i_f {x0 : V} : Prt Tryz.prog 88 [x0] (slices_Sort_int64_int64_i_F x0) := pfun (fn := Tryz.f88) (m := [.s]) (c := 1 ≤ 11) rfl (fun h0 Rt => by kernel_rfl) (by decide)
def slices_Reverse_int64_int64_i_F (x0 : V) (hi : Hp) (Rt : Hp → V → Prop) : Prop :=
VL (vlenS x0) fun a1 =>
VL (lift2 (abin .sub) a1 (.int .i64 1)) fun b1 =>
LP [2, 3] [0] (fun c1 d1 e1 f1 =>
VL (lift2 (abin .lss) (c1.getD 0 .und) (c1.getD 1 .und)) fun g1 =>
pcond (
VL (vixS 1 (d1.getD 0 .und) (c1.getD 1 .und)) fun h1 =>
pld e1 none (fun i1 j1 =>
VL (vixS 1 (d1.getD 0 .und) (c1.getD 0 .und)) fun k1 =>
pld j1 none (fun l1 m1 =>
VL (vixS 1 (d1.getD 0 .und) (c1.getD 0 .und)) fun n1 =>
pst m1 1 (cellsV i1) (fun o1 p1 =>
VL (vixS 1 (d1.getD 0 .und) (c1.getD 1 .und)) fun q1 =>
pst p1 1 (cellsV l1) (fun r1 s1 =>
VL (lift2 (abin .add) (c1.getD 0 .und) (.int .i64 1)) fun t1 =>
VL (lift2 (abin .sub) (c1.getD 1 .und) (.int .i64 1)) fun u1 =>
f1 [t1, u1] [(d1.getD 0 .und)] s1) q1) n1) k1) h1) (
Rt e1 (.tup [])) g1) [(.int .i64 0), b1] [x0] hi
theorem slices_Reverse_int64_int64_i_f {x0 : V} : Prt Tryz.prog 89 [x0] (slices_Reverse_int64_int64_i_F x0) := pfun (fn := Tryz.f89) (m := [.s, .l [2, 3] [0], .s, .s, .s]) (c := 1 ≤ 28) rfl (fun h0 Rt => by kernel_rfl) (by decide)
def slices_pdqsortOrdered_int64_F (x0 x1 x2 x3 : V) (hi : Hp) (Rt : Hp → V → Prop) : Prop :=
LP [1, 2, 3, 8, 9] [0] (fun a1 b1 c1 d1 =>
VL (lift2 (abin .sub) (a1.getD 1 .und) (a1.getD 0 .und)) fun e1 =>
VL (lift2 (abin .leq) e1 (.int .i64 12)) fun f1 =>
pcond (
pcal Tryz.prog 92 91 c1 (fun g1 h1 =>
Rt h1 (.tup [])) [(b1.getD 0 .und), (a1.getD 0 .und), (a1.getD 1 .und)]) (
VL (lift2 (abin .eql) (a1.getD 2 .und) (.int .i64 0)) fun i1 =>
pcond (
pcal Tryz.prog 93 97 c1 (fun j1 k1 =>
Rt k1 (.tup [])) [(b1.getD 0 .und), (a1.getD 0 .und), (a1.getD 1 .und)]) (
JN (fun l1 =>
VL (lift1 (aun .not) (a1.getD 3 .und)) fun m1 =>
pcond (
pcal Tryz.prog 94 103 c1 (fun n1 o1 =>
VL (lift2 (abin .sub) (a1.getD 2 .und) (.int .i64 1)) fun p1 =>
l1 [(b1.getD 0 .und), (a1.getD 0 .und), (a1.getD 1 .und), p1, (a1.getD 3 .und), (a1.getD 4 .und), e1] o1) [(b1.getD 0 .und), (a1.getD 0 .und), (a1.getD 1 .und)]) (
l1 [(b1.getD 0 .und), (a1.getD 0 .und), (a1.getD 1 .und), (a1.getD 2 .und), (a1.getD 3 .und), (a1.getD 4 .und), e1] c1) m1) fun q1 r1 =>
pcal Tryz.prog 95 110 r1 (fun s1 t1 =>
VL (vext 0 s1) fun u1 =>
VL (vext 1 s1) fun v1 =>
JN (fun w1 =>
VL (lift2 (abin .eql) v1 (.int .i64 2)) fun y1 =>
pcond (
pcal Tryz.prog 96 118 t1 (fun z1 a2 =>
VL (lift2 (abin .sub) (q1.getD 2 .und) (.int .i64 1)) fun b2 =>
VL (lift2 (abin .sub) u1 (q1.getD 1 .und)) fun c2 =>
VL (lift2 (abin .sub) b2 c2) fun d2 =>
w1 [(q1.getD 0 .und), (q1.getD 1 .und), (q1.getD 2 .und), (q1.getD 3 .und), (q1.getD 4 .und), (q1.getD 5 .und), (q1.getD 6 .und), d2, (.int .i64 1)] a2) [(q1.getD 0 .und), (q1.getD 1 .und), (q1.getD 2 .und)]) (
w1 [(q1.getD 0 .und), (q1.getD 1 .und), (q1.getD 2 .und), (q1.getD 3 .und), (q1.getD 4 .und), (q1.getD 5 .und), (q1.getD 6 .und), u1, v1] t1) y1) fun e2 f2 =>
JN (fun g2 =>
pgk true f2 (fun h2 i2 => i2 (e2.getD 5 .und) f2) (fun j2 k2 l2 =>
VL (vpick j2 k2 (.bool false)) fun m2 =>
pgk true l2 (fun n2 o2 => o2 (e2.getD 8 .und) l2) (fun p2 q2 r2 =>
pgk true r2 (fun s2 t2 => VL (lift2 (abin .eql) q2 (.int .i64 1)) fun u2 =>
t2 u2 r2) (fun v2 w2 y2 =>
VL (vpick v2 w2 (.bool false)) fun z2 =>
pcond (
pcal Tryz.prog 97 136 y2 (fun a3 b3 =>
pcond (
Rt b3 (.tup [])) (
g2 [(e2.getD 0 .und), (e2.getD 1 .und), (e2.getD 2 .und), (e2.getD 3 .und), (e2.getD 4 .und), (e2.getD 5 .und), (e2.getD 6 .und), (e2.getD 7 .und)] b3) a3) [(e2.getD 0 .und), (e2.getD 1 .und), (e2.getD 2 .und)]) (
g2 [(e2.getD 0 .und), (e2.getD 1 .und), (e2.getD 2 .und), (e2.getD 3 .und), (e2.getD 4 .und), (e2.getD 5 .und), (e2.getD 6 .und), (e2.getD 7 .und)] y2) z2) p2) m2) (e2.getD 4 .und)) fun c3 d3 =>
VL (lift2 (abin .gtr) (c3.getD 1 .und) (.int .i64 0)) fun e3 =>
pgk true d3 (fun f3 g3 => g3 (c3.getD 0 .und) d3) (fun h3 i3 j3 =>
pgk true j3 (fun k3 l3 => l3 (c3.getD 1 .und) j3) (fun m3 n3 o3 =>
pgk true o3 (fun p3 q3 => VL (lift2 (abin .sub) n3 (.int .i64 1)) fun r3 =>
q3 r3 o3) (fun s3 t3 u3 =>
pgk true u3 (fun v3 w3 => VL (vixS 1 i3 t3) fun y3 =>
w3 y3 u3) (fun z3 a4 b4 =>
pgk true b4 (fun c4 d4 => pld b4 none (fun e4 f4 =>
d4 e4 f4) a4) (fun g4 h4 i4 =>
pgk true i4 (fun j4 k4 => k4 (c3.getD 0 .und) i4) (fun l4 m4 n4 =>
pgk true n4 (fun o4 p4 => p4 (c3.getD 7 .und) n4) (fun q4 r4 s4 =>
pgk true s4 (fun t4 u4 => VL (vixS 1 m4 r4) fun v4 =>
u4 v4 s4) (fun w4 y4 z4 =>
pgk true z4 (fun a5 b5 => pld z4 none (fun c5 d5 =>
b5 c5 d5) y4) (fun e5 f5 g5 =>
pgk true g5 (fun h5 i5 => pcal Tryz.prog 98 149 g5 (fun j5 k5 =>
i5 j5 k5) [h4, f5]) (fun l5 m5 n5 =>
pgk true n5 (fun o5 p5 => VL (lift1 (aun .not) m5) fun q5 =>
p5 q5 n5) (fun r5 s5 t5 =>
VL (vpick r5 s5 (.bool false)) fun u5 =>
pcond (
pcal Tryz.prog 99 156 t5 (fun v5 w5 =>
d1 [v5, (c3.getD 2 .und), (c3.getD 3 .und), (c3.getD 4 .und), (c3.getD 5 .und)] [(c3.getD 0 .und)] w5) [(c3.getD 0 .und), (c3.getD 1 .und), (c3.getD 2 .und), (c3.getD 7 .und)]) (
pcal Tryz.prog 100 163 t5 (fun y5 z5 =>
VL (vext 0 y5) fun a6 =>
VL (vext 1 y5) fun b6 =>
VL (lift2 (abin .sub) a6 (c3.getD 1 .und)) fun c6 =>
VL (lift2 (abin .sub) (c3.getD 2 .und) a6) fun d6 =>
VL (lift2 (abin .quo) (c3.getD 6 .und) (.int .i64 8)) fun e6 =>
VL (lift2 (abin .lss) c6 d6) fun f6 =>
pcond (
VL (lift2 (abin .geq) c6 e6) fun g6 =>
pcal Tryz.prog 90 185 z5 (fun h6 i6 =>
VL (lift2 (abin .add) a6 (.int .i64 1)) fun j6 =>
d1 [j6, (c3.getD 2 .und), (c3.getD 3 .und), g6, b6] [(c3.getD 0 .und)] i6) [(c3.getD 0 .und), (c3.getD 1 .und), a6, (c3.getD 3 .und)]) (
VL (lift2 (abin .geq) d6 e6) fun k6 =>
VL (lift2 (abin .add) a6 (.int .i64 1)) fun l6 =>
pcal Tryz.prog 90 196 z5 (fun m6 n6 =>
d1 [(c3.getD 1 .und), a6, (c3.getD 3 .und), k6, b6] [(c3.getD 0 .und)] n6) [(c3.getD 0 .und), l6, (c3.getD 2 .und), (c3.getD 3 .und)]) f6) [(c3.getD 0 .und), (c3.getD 1 .und), (c3.getD 2 .und), (c3.getD 7 .und)]) u5) l5) e5) w4) q4) l4) g4) z3) s3) m3) h3) e3) [(q1.getD 0 .und), (q1.getD 1 .und), (q1.getD 2 .und)]) i1) f1) [x1, x2, x3, (.bool true), (.bool true)] [x0] hi
theorem slices_pdqsortOrdered_int64_f {x0 x1 x2 x3 : V} : Prt Tryz.prog 90 [x0, x1, x2, x3] (slices_pdqsortOrdered_int64_F x0 x1 x2 x3) := pfun (fn := Tryz.f90) (m := [.s, .s, .l [1, 2, 3, 8, 9] [0], .s, .s, .s, .s, .s, .s, .s, .j [0, 1, 2, 3, 8, 9, 10], .s, .s, .s, .j [0, 1, 2, 3, 8, 9, 10, 11, 12], .s, .s, .s, .j [0, 1, 2, 3, 8, 9, 10, 11], .s, .s, .s, .s, .s, .s, .s, .s, .s, .s, .s, .s, .s, .s, .s]) (c := 4 ≤ 134) rfl (fun h0 Rt => by kernel_rfl) (by decide)
def math_bits_Len_F (x0 : V) (hi : Hp) (Rt : Hp → V → Prop) : Prop :=
pcond (
VL (lift1 (acvi .u32) x0) fun a1 =>
pcal Tryz.prog 101 69 hi (fun b1 c1 =>
Rt c1 b1) [a1]) (
pcal Tryz.prog 102 71 hi (fun d1 e1 =>
Rt e1 d1) [x0]) (.bool false)
theorem math_bits_Len_f {x0 : V} : Prt Tryz.prog 91 [x0] (math_bits_Len_F x0) := pfun (fn := Tryz.f91) (m := [.s, .s, .s, .s]) (c := 1 ≤ 8) rfl (fun h0 Rt => by kernel_rfl) (by decide)
def slices_insertionSortOrdered_int64_F (x0 x1 x2 : V) (hi : Hp) (Rt : Hp → V → Prop) : Prop :=
VL (lift2 (abin .add) x1 (.int .i64 1)) fun a1 =>
LP [6] [0, 1, 2] (fun b1 c1 d1 e1 =>
VL (lift2 (abin .lss) (b1.getD 0 .und) (c1.getD 2 .und)) fun f1 =>
pcond (
LP [7] [0, 1, 2, 6] (fun g1 h1 i1 j1 =>
VL (lift2 (abin .gtr) (g1.getD 0 .und) (h1.getD 1 .und)) fun k1 =>
pgk true i1 (fun l1 m1 => m1 (h1.getD 0 .und) i1) (fun n1 o1 p1 =>
pgk true p1 (fun q1 r1 => r1 (g1.getD 0 .und) p1) (fun s1 t1 u1 =>
pgk true u1 (fun v1 w1 => VL (vixS 1 o1 t1) fun y1 =>
w1 y1 u1) (fun z1 a2 b2 =>
pgk true b2 (fun c2 d2 => pld b2 none (fun e2 f2 =>
d2 e2 f2) a2) (fun g2 h2 i2 =>
pgk true i2 (fun j2 k2 => k2 (h1.getD 0 .und) i2) (fun l2 m2 n2 =>
pgk true n2 (fun o2 p2 => p2 (g1.getD 0 .und) n2) (fun q2 r2 s2 =>
pgk true s2 (fun t2 u2 => VL (lift2 (abin .sub) r2 (.int .i64 1)) fun v2 =>
u2 v2 s2) (fun w2 y2 z2 =>
pgk true z2 (fun a3 b3 => VL (vixS 1 m2 y2) fun c3 =>
b3 c3 z2) (fun d3 e3 f3 =>
pgk true f3 (fun g3 h3 => pld f3 none (fun i3 j3 =>
h3 i3 j3) e3) (fun k3 l3 m3 =>
pgk true m3 (fun n3 o3 => pcal Tryz.prog 98 93 m3 (fun p3 q3 =>
o3 p3 q3) [h2, l3]) (fun r3 s3 t3 =>
VL (vpick r3 s3 (.bool false)) fun u3 =>
pcond (
VL (lift2 (abin .sub) (g1.getD 0 .und) (.int .i64 1)) fun v3 =>
VL (lift2 (abin .sub) (g1.getD 0 .und) (.int .i64 1)) fun w3 =>
VL (vixS 1 (h1.getD 0 .und) w3) fun y3 =>
pld t3 none (fun z3 a4 =>
VL (vixS 1 (h1.getD 0 .und) (g1.getD 0 .und)) fun b4 =>
pld a4 none (fun c4 d4 =>
VL (vixS 1 (h1.getD 0 .und) (g1.getD 0 .und)) fun e4 =>
pst d4 1 (cellsV z3) (fun f4 g4 =>
VL (vixS 1 (h1.getD 0 .und) v3) fun h4 =>
pst g4 1 (cellsV c4) (fun i4 j4 =>
VL (lift2 (abin .sub) (g1.getD 0 .und) (.int .i64 1)) fun k4 =>
j1 [k4] [(h1.getD 0 .und), (h1.getD 1 .und), (h1.getD 2 .und), (h1.getD 3 .und)] j4) h4) e4) b4) y3) (
VL (lift2 (abin .add) (h1.getD 3 .und) (.int .i64 1)) fun l4 =>
e1 [l4] [(h1.getD 0 .und), (h1.getD 1 .und), (h1.getD 2 .und)] t3) u3) k3) d3) w2) q2) l2) g2) z1) s1) n1) k1) [(b1.getD 0 .und)] [(c1.getD 0 .und), (c1.getD 1 .und), (c1.getD 2 .und), (b1.getD 0 .und)] d1) (
Rt d1 (.tup [])) f1) [a1] [x0, x1, x2] hi
theorem slices_insertionSortOrdered_int64_f {x0 x1 x2 : V} : Prt Tryz.prog 92 [x0, x1, x2] (slices_insertionSortOrdered_int64_F x0 x1 x2) := pfun (fn := Tryz.f92) (m := [.s, .l [6] [0, 1, 2], .s, .s, .s, .s, .l [7] [0, 1, 2, 6], .s, .s, .s]) (c := 3 ≤ 49) rfl (fun h0 Rt => by kernel_rfl) (by decide)
def slices_heapSortOrdered_int64_F (x0 x1 x2 : V) (hi : Hp) (Rt : Hp → V → Prop) : Prop :=
VL (lift2 (abin .sub) x2 x1) fun a1 =>
VL (lift2 (abin .sub) a1 (.int .i64 1)) fun b1 =>
VL (lift2 (abin .quo) b1 (.int .i64 2)) fun c1 =>
LP [9] [0, 6, 7, 8] (fun d1 e1 f1 g1 =>
VL (lift2 (abin .geq) (d1.getD 0 .und) (.int .i64 0)) fun h1 =>
pcond (
pcal Tryz.prog 103 90 f1 (fun i1 j1 =>
VL (lift2 (abin .sub) (d1.getD 0 .und) (.int .i64 1)) fun k1 =>
g1 [k1] [(e1.getD 0 .und), (e1.getD 1 .und), (e1.getD 2 .und), (e1.getD 3 .und)] j1) [(e1.getD 0 .und), (d1.getD 0 .und), (e1.getD 3 .und), (e1.getD 1 .und)]) (
VL (lift2 (abin .sub) (e1.getD 3 .und) (.int .i64 1)) fun l1 =>
LP [10] [0, 6, 7] (fun m1 n1 o1 p1 =>
VL (lift2 (abin .geq) (m1.getD 0 .und) (.int .i64 0)) fun q1 =>
pcond (
VL (lift2 (abin .add) (n1.getD 1 .und) (m1.getD 0 .und)) fun r1 =>
VL (lift2 (abin .add) (n1.getD 1 .und) (m1.getD 0 .und)) fun s1 =>
VL (vixS 1 (n1.getD 0 .und) s1) fun t1 =>
pld o1 none (fun u1 v1 =>
VL (vixS 1 (n1.getD 0 .und) (n1.getD 1 .und)) fun w1 =>
pld v1 none (fun y1 z1 =>
VL (vixS 1 (n1.getD 0 .und) (n1.getD 1 .und)) fun a2 =>
pst z1 1 (cellsV u1) (fun b2 c2 =>
VL (vixS 1 (n1.getD 0 .und) r1) fun d2 =>
pst c2 1 (cellsV y1) (fun e2 f2 =>
pcal Tryz.prog 103 119 f2 (fun g2 h2 =>
VL (lift2 (abin .sub) (m1.getD 0 .und) (.int .i64 1)) fun i2 =>
p1 [i2] [(n1.getD 0 .und), (n1.getD 1 .und), (n1.getD 2 .und)] h2) [(n1.getD 0 .und), (n1.getD 2 .und), (m1.getD 0 .und), (n1.getD 1 .und)]) d2) a2) w1) t1) (
Rt o1 (.tup [])) q1) [l1] [(e1.getD 0 .und), (e1.getD 1 .und), (e1.getD 2 .und)] f1) h1) [c1] [x0, x1, (.int .i64 0), a1] hi
theorem slices_heapSortOrdered_int64_f {x0 x1 x2 : V} : Prt Tryz.prog 93 [x0, x1, x2] (slices_heapSortOrdered_int64_F x0 x1 x2) := pfun (fn := Tryz.f93) (m := [.s, .s, .s, .s, .s, .l [9] [0, 6, 7, 8], .s, .s, .s, .s, .l [10] [0, 6, 7], .s, .s, .s, .s]) (c := 3 ≤ 56) rfl (fun h0 Rt => by kernel_rfl) (by decide)
def slices_breakPatternsOrdered_int64_F (x0 x1 x2 : V) (hi : Hp) (Rt : Hp → V → Prop) : Prop :=
VL (lift2 (abin .sub) x2 x1) fun a1 =>
VL (lift2 (abin .geq) a1 (.int .i64 8)) fun b1 =>
pcond (
VL (lift1 (acvi .u64) a1) fun c1 =>
palloc hi 71 117 [(.int .u64 0)] fun d1 =>
pst d1 1 (cellsV c1) (fun e1 f1 =>
pcal Tryz.prog 104 83 f1 (fun g1 h1 =>
VL (lift2 (abin .quo) a1 (.int .i64 4)) fun i1 =>
VL (lift2 (abin .mul) i1 (.int .i64 2)) fun j1 =>
VL (lift2 (abin .add) x1 j1) fun k1 =>
VL (lift2 (abin .sub) k1 (.int .i64 1)) fun l1 =>
LP [9] [0, 1, 6, 7, 8] (fun m1 n1 o1 p1 =>
VL (lift2 (abin .quo) (n1.getD 2 .und) (.int .i64 4)) fun q1 =>
VL (lift2 (abin .mul) q1 (.int .i64 2)) fun r1 =>
VL (lift2 (abin .add) (n1.getD 1 .und) r1) fun s1 =>
VL (lift2 (abin .add) s1 (.int .i64 1)) fun t1 =>
VL (lift2 (abin .leq) (m1.getD 0 .und) t1) fun u1 =>
pcond (
pcal Tryz.prog 105 100 o1 (fun v1 w1 =>
VL (lift2 (abin .sub) (n1.getD 4 .und) (.int .u64 1)) fun y1 =>
VL (lift2 (abin .and) v1 y1) fun z1 =>
VL (lift1 (acvi .i64) z1) fun a2 =>
JN (fun b2 =>
VL (lift2 (abin .geq) a2 (n1.getD 2 .und)) fun c2 =>
pcond (
VL (lift2 (abin .sub) a2 (n1.getD 2 .und)) fun d2 =>
b2 [(n1.getD 0 .und), (n1.getD 1 .und), (n1.getD 2 .und), (n1.getD 3 .und), (n1.getD 4 .und), (m1.getD 0 .und), d2] w1) (
b2 [(n1.getD 0 .und), (n1.getD 1 .und), (n1.getD 2 .und), (n1.getD 3 .und), (n1.getD 4 .und), (m1.getD 0 .und), a2] w1) c2) fun e2 f2 =>
VL (lift2 (abin .add) (e2.getD 1 .und) (e2.getD 6 .und)) fun g2 =>
VL (lift2 (abin .add) (e2.getD 1 .und) (e2.getD 6 .und)) fun h2 =>
VL (vixS 1 (e2.getD 0 .und) h2) fun i2 =>
pld f2 none (fun j2 k2 =>
VL (vixS 1 (e2.getD 0 .und) (e2.getD 5 .und)) fun l2 =>
pld k2 none (fun m2 n2 =>
VL (vixS 1 (e2.getD 0 .und) (e2.getD 5 .und)) fun o2 =>
pst n2 1 (cellsV j2) (fun p2 q2 =>
VL (vixS 1 (e2.getD 0 .und) g2) fun r2 =>
pst q2 1 (cellsV m2) (fun s2 t2 =>
VL (lift2 (abin .add) (e2.getD 5 .und) (.int .i64 1)) fun u2 =>
p1 [u2] [(e2.getD 0 .und), (e2.getD 1 .und), (e2.getD 2 .und), (e2.getD 3 .und), (e2.getD 4 .und)] t2) r2) o2) l2) i2) [(n1.getD 3 .und)]) (
Rt o1 (.tup [])) u1) [l1] [x0, x1, a1, (.ptr 71 0), g1] h1) [a1]) (.ptr 71 0)) (
Rt hi (.tup [])) b1
theorem slices_breakPatternsOrdered_int64_f {x0 x1 x2 : V} : Prt Tryz.prog 94 [x0, x1, x2] (slices_breakPatternsOrdered_int64_F x0 x1 x2) := pfun (fn := Tryz.f94) (m := [.s, .s, .s, .s, .s, .l [9] [0, 1, 6, 7, 8], .s, .s, .s, .s, .j [0, 1, 6, 7, 8, 9, 10], .s]) (c := 3 ≤ 65) rfl (fun h0 Rt => by kernel_rfl) (by decide)
def slices_choosePivotOrdered_int64_F (x0 x1 x2 : V) (hi : Hp) (Rt : Hp → V → Prop) : Prop :=
VL (lift2 (abin .sub) x2 x1) fun a1 =>
palloc hi 73 3 [(.int .i64 0)] fun b1 =>
VL (lift2 (abin .quo) a1 (.int .i64 4)) fun c1 =>
VL (lift2 (abin .mul) c1 (.int .i64 1)) fun d1 =>
VL (lift2 (abin .add) x1 d1) fun e1 =>
VL (lift2 (abin .quo) a1 (.int .i64 4)) fun f1 =>
VL (lift2 (abin .mul) f1 (.int .i64 2)) fun g1 =>
VL (lift2 (abin .add) x1 g1) fun h1 =>
VL (lift2 (abin .quo) a1 (.int .i64 4)) fun i1 =>
VL (lift2 (abin .mul) i1 (.int .i64 3)) fun j1 =>
VL (lift2 (abin .add) x1 j1) fun k1 =>
JN (fun l1 =>
VL (lift2 (abin .geq) a1 (.int .i64 8)) fun m1 =>
pcond (
JN (fun n1 =>
VL (lift2 (abin .geq) a1 (.int .i64 50)) fun o1 =>
pcond (
pcal Tryz.prog 106 101 b1 (fun p1 q1 =>
pcal Tryz.prog 106 104 q1 (fun r1 s1 =>
pcal Tryz.prog 106 107 s1 (fun t1 u1 =>
n1 [x0, (.ptr 73 0), p1, r1, t1] u1) [x0, k1, (.ptr 73 0)]) [x0, h1, (.ptr 73 0)]) [x0, e1, (.ptr 73 0)]) (
n1 [x0, (.ptr 73 0), e1, h1, k1] b1) o1) fun v1 w1 =>
pcal Tryz.prog 107 112 w1 (fun y1 z1 =>
l1 [(v1.getD 1 .und), y1] z1) [(v1.getD 0 .und), (v1.getD 2 .und), (v1.getD 3 .und), (v1.getD 4 .und), (v1.getD 1 .und)]) (
l1 [(.ptr 73 0), h1] b1) m1) fun a2 b2 =>
pld b2 none (fun c2 d2 =>
VL (lift2 (abin .eql) c2 (.int .i64 0)) fun e2 =>
pcond (
Rt d2 (.tup [(a2.getD 1 .und), (.int .i64 1)])) (
VL (lift2 (abin .eql) c2 (.int .i64 12)) fun f2 =>
pcond (
Rt d2 (.tup [(a2.getD 1 .und), (.int .i64 2)])) (
Rt d2 (.tup [(a2.getD 1 .und), (.int .i64 0)])) f2) e2) (a2.getD 0 .und)
theorem slices_choosePivotOrdered_int64_f {x0 x1 x2 : V} : Prt Tryz.prog 95 [x0, x1, x2] (slices_choosePivotOrdered_int64_F x0 x1 x2) := pfun (fn := Tryz.f95) (m := [.s, .s, .s, .s, .s, .s, .j [9, 11], .s, .j [0, 9, 10, 11, 12], .s, .s, .s, .s, .s, .s, .s, .s, .s]) (c := 3 ≤ 57) rfl (fun h0 Rt => by kernel_rfl) (by decide)
def slices_reverseRangeOrdered_int64_F (x0 x1 x2 : V) (hi : Hp) (Rt : Hp → V → Prop) : Prop :=
VL (lift2 (abin .sub) x2 (.int .i64 1)) fun a1 =>
LP [6, 7] [0] (fun b1 c1 d1 e1 =>
VL (lift2 (abin .lss) (b1.getD 0 .und) (b1.getD 1 .und)) fun f1 =>
pcond (
VL (vixS 1 (c1.getD 0 .und) (b1.getD 1 .und)) fun g1 =>
pld d1 none (fun h1 i1 =>
VL (vixS 1 (c1.getD 0 .und) (b1.getD 0 .und)) fun j1 =>
pld i1 none (fun k1 l1 =>
VL (vixS 1 (c1.getD 0 .und) (b1.getD 0 .und)) fun m1 =>
pst l1 1 (cellsV h1) (fun n1 o1 =>
VL (vixS 1 (c1.getD 0 .und) (b1.getD 1 .und)) fun p1 =>
pst o1 1 (cellsV k1) (fun q1 r1 =>
VL (lift2 (abin .add) (b1.getD 0 .und) (.int .i64 1)) fun s1 =>
VL (lift2 (abin .sub) (b1.getD 1 .und) (.int .i64 1)) fun t1 =>
e1 [s1, t1] [(c1.getD 0 .und)] r1) p1) m1) j1) g1) (
Rt d1 (.tup [])) f1) [x1, a1] [x0] hi
theorem slices_reverseRangeOrdered_int64_f {x0 x1 x2 : V} : Prt Tryz.prog 96 [x0, x1, x2] (slices_reverseRangeOrdered_int64_F x0 x1 x2) := pfun (fn := Tryz.f96) (m := [.s, .s, .l [6, 7] [0], .s, .s, .s, .s]) (c := 3 ≤ 32) rfl (fun h0 Rt => by kernel_rfl) (by decide)
def slices_partialInsertionSortOrdered_int64_F (x0 x1 x2 : V) (hi : Hp) (Rt : Hp → V → Prop) : Prop :=
VL (lift2 (abin .add) x1 (.int .i64 1)) fun a1 =>
LP [7, 8] [0, 1, 2] (fun b1 c1 d1 e1 =>
VL (lift2 (abin .lss) (b1.getD 1 .und) (.int .i64 5)) fun f1 =>
pcond (
JN (fun g1 =>
LP [7] [0, 1, 2, 8] (fun h1 i1 j1 k1 =>
VL (lift2 (abin .lss) (h1.getD 0 .und) (i1.getD 2 .und)) fun l1 =>
pgk true j1 (fun m1 n1 => n1 (i1.getD 0 .und) j1) (fun o1 p1 q1 =>
pgk true q1 (fun r1 s1 => s1 (h1.getD 0 .und) q1) (fun t1 u1 v1 =>
pgk true v1 (fun w1 y1 => VL (vixS 1 p1 u1) fun z1 =>
y1 z1 v1) (fun a2 b2 c2 =>
pgk true c2 (fun d2 e2 => pld c2 none (fun f2 g2 =>
e2 f2 g2) b2) (fun h2 i2 j2 =>
pgk true j2 (fun k2 l2 => l2 (i1.getD 0 .und) j2) (fun m2 n2 o2 =>
pgk true o2 (fun p2 q2 => q2 (h1.getD 0 .und) o2) (fun r2 s2 t2 =>
pgk true t2 (fun u2 v2 => VL (lift2 (abin .sub) s2 (.int .i64 1)) fun w2 =>
v2 w2 t2) (fun y2 z2 a3 =>
pgk true a3 (fun b3 c3 => VL (vixS 1 n2 z2) fun d3 =>
c3 d3 a3) (fun e3 f3 g3 =>
pgk true g3 (fun h3 i3 => pld g3 none (fun j3 k3 =>
i3 j3 k3) f3) (fun l3 m3 n3 =>
pgk true n3 (fun o3 p3 => pcal Tryz.prog 98 94 n3 (fun q3 r3 =>
p3 q3 r3) [i2, m3]) (fun s3 t3 u3 =>
pgk true u3 (fun v3 w3 => VL (lift1 (aun .not) t3) fun y3 =>
w3 y3 u3) (fun z3 a4 b4 =>
VL (vpick z3 a4 (.bool false)) fun c4 =>
pcond (
VL (lift2 (abin .add) (h1.getD 0 .und) (.int .i64 1)) fun d4 =>
k1 [d4] [(i1.getD 0 .und), (i1.getD 1 .und), (i1.getD 2 .und), (i1.getD 3 .und)] b4) (
VL (lift2 (abin .eql) (h1.getD 0 .und) (i1.getD 2 .und)) fun e4 =>
pcond (
Rt b4 (.bool true)) (
VL (lift2 (abin .sub) (i1.getD 2 .und) (i1.getD 1 .und)) fun f4 =>
VL (lift2 (abin .lss) f4 (.int .i64 50)) fun g4 =>
pcond (
Rt b4 (.bool false)) (
VL (lift2 (abin .sub) (h1.getD 0 .und) (.int .i64 1)) fun h4 =>
VL (lift2 (abin .sub) (h1.getD 0 .und) (.int .i64 1)) fun i4 =>
VL (vixS 1 (i1.getD 0 .und) i4) fun j4 =>
pld b4 none (fun k4 l4 =>
VL (vixS 1 (i1.getD 0 .und) (h1.getD 0 .und)) fun m4 =>
pld l4 none (fun n4 o4 =>
VL (vixS 1 (i1.getD 0 .und) (h1.getD 0 .und)) fun p4 =>
pst o4 1 (cellsV k4) (fun q4 r4 =>
VL (vixS 1 (i1.getD 0 .und) h4) fun s4 =>
pst r4 1 (cellsV n4) (fun t4 u4 =>
JN (fun v4 =>
VL (lift2 (abin .sub) (h1.getD 0 .und) (i1.getD 1 .und)) fun w4 =>
VL (lift2 (abin .geq) w4 (.int .i64 2)) fun y4 =>
pcond (
VL (lift2 (abin .sub) (h1.getD 0 .und) (.int .i64 1)) fun z4 =>
LP [9] [0, 1, 2, 7, 8] (fun a5 b5 c5 d5 =>
VL (lift2 (abin .geq) (a5.getD 0 .und) (.int .i64 1)) fun e5 =>
pcond (
VL (vixS 1 (b5.getD 0 .und) (a5.getD 0 .und)) fun f5 =>
pld c5 none (fun g5 h5 =>
VL (lift2 (abin .sub) (a5.getD 0 .und) (.int .i64 1)) fun i5 =>
VL (vixS 1 (b5.getD 0 .und) i5) fun j5 =>
pld h5 none (fun k5 l5 =>
pcal Tryz.prog 98 141 l5 (fun m5 n5 =>
VL (lift1 (aun .not) m5) fun o5 =>
pcond (
v4 [(b5.getD 0 .und), (b5.getD 1 .und), (b5.getD 2 .und), (b5.getD 3 .und), (b5.getD 4 .und)] n5) (
VL (lift2 (abin .sub) (a5.getD 0 .und) (.int .i64 1)) fun p5 =>
VL (lift2 (abin .sub) (a5.getD 0 .und) (.int .i64 1)) fun q5 =>
VL (vixS 1 (b5.getD 0 .und) q5) fun r5 =>
pld n5 none (fun s5 t5 =>
VL (vixS 1 (b5.getD 0 .und) (a5.getD 0 .und)) fun u5 =>
pld t5 none (fun v5 w5 =>
VL (vixS 1 (b5.getD 0 .und) (a5.getD 0 .und)) fun y5 =>
pst w5 1 (cellsV s5) (fun z5 a6 =>
VL (vixS 1 (b5.getD 0 .und) p5) fun b6 =>
pst a6 1 (cellsV v5) (fun c6 d6 =>
VL (lift2 (abin .sub) (a5.getD 0 .und) (.int .i64 1)) fun e6 =>
d5 [e6] [(b5.getD 0 .und), (b5.getD 1 .und), (b5.getD 2 .und), (b5.getD 3 .und), (b5.getD 4 .und)] d6) b6) y5) u5) r5) o5) [g5, k5]) j5) f5) (
v4 [(b5.getD 0 .und), (b5.getD 1 .und), (b5.getD 2 .und), (b5.getD 3 .und), (b5.getD 4 .und)] c5) e5) [z4] [(i1.getD 0 .und), (i1.getD 1 .und), (i1.getD 2 .und), (h1.getD 0 .und), (i1.getD 3 .und)] u4) (
v4 [(i1.getD 0 .und), (i1.getD 1 .und), (i1.getD 2 .und), (h1.getD 0 .und), (i1.getD 3 .und)] u4) y4) fun f6 g6 =>
VL (lift2 (abin .sub) (f6.getD 2 .und) (f6.getD 3 .und)) fun h6 =>
VL (lift2 (abin .geq) h6 (.int .i64 2)) fun i6 =>
pcond (
VL (lift2 (abin .add) (f6.getD 3 .und) (.int .i64 1)) fun j6 =>
LP [10] [0, 1, 2, 7, 8] (fun k6 l6 m6 n6 =>
VL (lift2 (abin .lss) (k6.getD 0 .und) (l6.getD 2 .und)) fun o6 =>
pcond (
VL (vixS 1 (l6.getD 0 .und) (k6.getD 0 .und)) fun p6 =>
pld m6 none (fun q6 r6 =>
VL (lift2 (abin .sub) (k6.getD 0 .und) (.int .i64 1)) fun s6 =>
VL (vixS 1 (l6.getD 0 .und) s6) fun t6 =>
pld r6 none (fun u6 v6 =>
pcal Tryz.prog 98 179 v6 (fun w6 y6 =>
VL (lift1 (aun .not) w6) fun z6 =>
pcond (
g1 [(l6.getD 0 .und), (l6.getD 1 .und), (l6.getD 2 .und), (l6.getD 3 .und), (l6.getD 4 .und)] y6) (
VL (lift2 (abin .sub) (k6.getD 0 .und) (.int .i64 1)) fun a7 =>
VL (lift2 (abin .sub) (k6.getD 0 .und) (.int .i64 1)) fun b7 =>
VL (vixS 1 (l6.getD 0 .und) b7) fun c7 =>
pld y6 none (fun d7 e7 =>
VL (vixS 1 (l6.getD 0 .und) (k6.getD 0 .und)) fun f7 =>
pld e7 none (fun g7 h7 =>
VL (vixS 1 (l6.getD 0 .und) (k6.getD 0 .und)) fun i7 =>
pst h7 1 (cellsV d7) (fun j7 k7 =>
VL (vixS 1 (l6.getD 0 .und) a7) fun l7 =>
pst k7 1 (cellsV g7) (fun m7 n7 =>
VL (lift2 (abin .add) (k6.getD 0 .und) (.int .i64 1)) fun o7 =>
n6 [o7] [(l6.getD 0 .und), (l6.getD 1 .und), (l6.getD 2 .und), (l6.getD 3 .und), (l6.getD 4 .und)] n7) l7) i7) f7) c7) z6) [q6, u6]) t6) p6) (
g1 [(l6.getD 0 .und), (l6.getD 1 .und), (l6.getD 2 .und), (l6.getD 3 .und), (l6.getD 4 .und)] m6) o6) [j6] [(f6.getD 0 .und), (f6.getD 1 .und), (f6.getD 2 .und), (f6.getD 3 .und), (f6.getD 4 .und)] g6) (
g1 [(f6.getD 0 .und), (f6.getD 1 .und), (f6.getD 2 .und), (f6.getD 3 .und), (f6.getD 4 .und)] g6) i6) s4) p4) m4) j4) g4) e4) c4) s3) l3) e3) y2) r2) m2) h2) a2) t1) o1) l1) [(b1.getD 0 .und)] [(c1.getD 0 .und), (c1.getD 1 .und), (c1.getD 2 .und), (b1.getD 1 .und)] d1) fun p7 q7 =>
VL (lift2 (abin .add) (p7.getD 4 .und) (.int .i64 1)) fun r7 =>
e1 [(p7.getD 3 .und), r7] [(p7.getD 0 .und), (p7.getD 1 .und), (p7.getD 2 .und)] q7) (
Rt d1 (.bool false)) f1) [a1, (.int .i64 0)] [x0, x1, x2] hi
theorem slices_partialInsertionSortOrdered_int64_f {x0 x1 x2 : V} : Prt Tryz.prog 97 [x0, x1, x2] (slices_partialInsertionSortOrdered_int64_F x0 x1 x2) := pfun (fn := Tryz.f97) (m := [.s, .s, .s, .s, .l [7, 8] [0, 1, 2], .s, .s, .j [0, 1, 2, 7, 8], .s, .l [7] [0, 1, 2, 8], .s, .s, .s, .s, .s, .s, .s, .s, .s, .j [0, 1, 2, 7, 8], .s, .s, .l [9] [0, 1, 2, 7, 8], .s, .s, .s, .s, .s, .s, .s, .l [10] [0, 1, 2, 7, 8], .s, .s, .s, .s, .s, .s]) (c := 3 ≤ 133) rfl (fun h0 Rt => by kernel_rfl) (by decide)
def cmp_Less_int64_F (x0 x1 : V) (hi : Hp) (Rt : Hp → V → Prop) : Prop :=
pcal Tryz.prog 108 70 hi (fun a1 b1 =>
pgk true b1 (fun c1 d1 => d1 x1 b1) (fun e1 f1 g1 =>
pgk true g1 (fun h1 i1 => pcal Tryz.prog 108 73 g1 (fun j1 k1 =>
i1 j1 k1) [f1]) (fun l1 m1 n1 =>
pgk true n1 (fun o1 p1 => VL (lift1 (aun .not) m1) fun q1 =>
p1 q1 n1) (fun r1 s1 t1 =>
VL (vpick r1 s1 (.bool false)) fun u1 =>
pgk false t1 (fun v1 w1 => w1 x0 t1) (fun y1 z1 a2 =>
pgk false a2 (fun b2 c2 => c2 x1 a2) (fun d2 e2 f2 =>
pgk false f2 (fun g2 h2 => VL (lift2 (abin .lss) z1 e2) fun i2 =>
h2 i2 f2) (fun j2 k2 l2 =>
VL (vpick j2 (.bool true) k2) fun m2 =>
Rt l2 m2) d2) y1) u1) l1) e1) a1) [x0]
theorem cmp_Less_int64_f {x0 x1 : V} : Prt Tryz.prog 98 [x0, x1] (cmp_Less_int64_F x0 x1) := pfun (fn := Tryz.f98) (m := [.s, .s]) (c := 2 ≤ 17) rfl (fun h0 Rt => by kernel_rfl) (by decide)
def slices_partitionEqualOrdered_int64_F (x0 x1 x2 x3 : V) (hi : Hp) (Rt : Hp → V → Prop) : Prop :=
VL (vixS 1 x0 x3) fun a1 =>
pld hi none (fun b1 c1 =>
VL (vixS 1 x0 x1) fun d1 =>
pld c1 none (fun e1 f1 =>
VL (vixS 1 x0 x1) fun g1 =>
pst f1 1 (cellsV b1) (fun h1 i1 =>
VL (vixS 1 x0 x3) fun j1 =>
pst i1 1 (cellsV e1) (fun k1 l1 =>
VL (lift2 (abin .add) x1 (.int .i64 1)) fun m1 =>
VL (lift2 (abin .sub) x2 (.int .i64 1)) fun n1 =>
LP [9, 10] [0, 1] (fun o1 p1 q1 r1 =>
LP [9] [0, 1, 10] (fun s1 t1 u1 v1 =>
VL (lift2 (abin .leq) (s1.getD 0 .und) (t1.getD 2 .und)) fun w1 =>
pgk true u1 (fun y1 z1 => z1 (t1.getD 0 .und) u1) (fun a2 b2 c2 =>
pgk true c2 (fun d2 e2 => e2 (t1.getD 1 .und) c2) (fun f2 g2 h2 =>
pgk true h2 (fun i2 j2 => VL (vixS 1 b2 g2) fun k2 =>
j2 k2 h2) (fun l2 m2 n2 =>
pgk true n2 (fun o2 p2 => pld n2 none (fun q2 r2 =>
p2 q2 r2) m2) (fun s2 t2 u2 =>
pgk true u2 (fun v2 w2 => w2 (t1.getD 0 .und) u2) (fun y2 z2 a3 =>
pgk true a3 (fun b3 c3 => c3 (s1.getD 0 .und) a3) (fun d3 e3 f3 =>
pgk true f3 (fun g3 h3 => VL (vixS 1 z2 e3) fun i3 =>
h3 i3 f3) (fun j3 k3 l3 =>
pgk true l3 (fun m3 n3 => pld l3 none (fun o3 p3 =>
n3 o3 p3) k3) (fun q3 r3 s3 =>
pgk true s3 (fun t3 u3 => pcal Tryz.prog 98 105 s3 (fun v3 w3 =>
u3 v3 w3) [t2, r3]) (fun y3 z3 a4 =>
pgk true a4 (fun b4 c4 => VL (lift1 (aun .not) z3) fun d4 =>
c4 d4 a4) (fun e4 f4 g4 =>
VL (vpick e4 f4 (.bool false)) fun h4 =>
pcond (
VL (lift2 (abin .add) (s1.getD 0 .und) (.int .i64 1)) fun i4 =>
v1 [i4] [(t1.getD 0 .und), (t1.getD 1 .und), (t1.getD 2 .und)] g4) (
LP [10] [0, 1, 9] (fun j4 k4 l4 m4 =>
VL (lift2 (abin .leq) (k4.getD 2 .und) (j4.getD 0 .und)) fun n4 =>
pgk true l4 (fun o4 p4 => p4 (k4.getD 0 .und) l4) (fun q4 r4 s4 =>
pgk true s4 (fun t4 u4 => u4 (k4.getD 1 .und) s4) (fun v4 w4 y4 =>
pgk true y4 (fun z4 a5 => VL (vixS 1 r4 w4) fun b5 =>
a5 b5 y4) (fun c5 d5 e5 =>
pgk true e5 (fun f5 g5 => pld e5 none (fun h5 i5 =>
g5 h5 i5) d5) (fun j5 k5 l5 =>
pgk true l5 (fun m5 n5 => n5 (k4.getD 0 .und) l5) (fun o5 p5 q5 =>
pgk true q5 (fun r5 s5 => s5 (j4.getD 0 .und) q5) (fun t5 u5 v5 =>
pgk true v5 (fun w5 y5 => VL (vixS 1 p5 u5) fun z5 =>
y5 z5 v5) (fun a6 b6 c6 =>
pgk true c6 (fun d6 e6 => pld c6 none (fun f6 g6 =>
e6 f6 g6) b6) (fun h6 i6 j6 =>
pgk true j6 (fun k6 l6 => pcal Tryz.prog 98 122 j6 (fun m6 n6 =>
l6 m6 n6) [k5, i6]) (fun o6 p6 q6 =>
VL (vpick o6 p6 (.bool false)) fun r6 =>
pcond (
VL (lift2 (abin .sub) (j4.getD 0 .und) (.int .i64 1)) fun s6 =>
m4 [s6] [(k4.getD 0 .und), (k4.getD 1 .und), (k4.getD 2 .und)] q6) (
VL (lift2 (abin .gtr) (k4.getD 2 .und) (j4.getD 0 .und)) fun t6 =>
pcond (
Rt q6 (k4.getD 2 .und)) (
VL (vixS 1 (k4.getD 0 .und) (j4.getD 0 .und)) fun u6 =>
pld q6 none (fun v6 w6 =>
VL (vixS 1 (k4.getD 0 .und) (k4.getD 2 .und)) fun y6 =>
pld w6 none (fun z6 a7 =>
VL (vixS 1 (k4.getD 0 .und) (k4.getD 2 .und)) fun b7 =>
pst a7 1 (cellsV v6) (fun c7 d7 =>
VL (vixS 1 (k4.getD 0 .und) (j4.getD 0 .und)) fun e7 =>
pst d7 1 (cellsV z6) (fun f7 g7 =>
VL (lift2 (abin .add) (k4.getD 2 .und) (.int .i64 1)) fun h7 =>
VL (lift2 (abin .sub) (j4.getD 0 .und) (.int .i64 1)) fun i7 =>
r1 [h7, i7] [(k4.getD 0 .und), (k4.getD 1 .und)] g7) e7) b7) y6) u6) t6) r6) h6) a6) t5) o5) j5) c5) v4) q4) n4) [(t1.getD 2 .und)] [(t1.getD 0 .und), (t1.getD 1 .und), (s1.getD 0 .und)] g4) h4) y3) q3) j3) d3) y2) s2) l2) f2) a2) w1) [(o1.getD 0 .und)] [(p1.getD 0 .und), (p1.getD 1 .und), (o1.getD 1 .und)] q1) [m1, n1] [x0, x1] l1) j1) g1) d1) a1
theorem slices_partitionEqualOrdered_int64_f {x0 x1 x2 x3 : V} : Prt Tryz.prog 99 [x0, x1, x2, x3] (slices_partitionEqualOrdered_int64_F x0 x1 x2 x3) := pfun (fn := Tryz.f99) (m := [.s, .s, .s, .s, .l [9, 10] [0, 1], .s, .l [9] [0, 1, 10], .s, .s, .s, .l [10] [0, 1, 9], .s, .s, .s, .s, .s, .s, .s]) (c := 4 ≤ 84) rfl (fun h0 Rt => by kernel_rfl) (by decide)
def slices_partitionOrdered_int64_F (x0 x1 x2 x3 : V) (hi : Hp) (Rt : Hp → V → Prop) : Prop :=
VL (vixS 1 x0 x3) fun a1 =>
pld hi none (fun b1 c1 =>
VL (vixS 1 x0 x1) fun d1 =>
pld c1 none (fun e1 f1 =>
VL (vixS 1 x0 x1) fun g1 =>
pst f1 1 (cellsV b1) (fun h1 i1 =>
VL (vixS 1 x0 x3) fun j1 =>
pst i1 1 (cellsV e1) (fun k1 l1 =>
VL (lift2 (abin .add) x1 (.int .i64 1)) fun m1 =>
VL (lift2 (abin .sub) x2 (.int .i64 1)) fun n1 =>
LP [10] [0, 1, 11] (fun o1 p1 q1 r1 =>
VL (lift2 (abin .leq) (o1.getD 0 .und) (p1.getD 2 .und)) fun s1 =>
pgk true q1 (fun t1 u1 => u1 (p1.getD 0 .und) q1) (fun v1 w1 y1 =>
pgk true y1 (fun z1 a2 => a2 (o1.getD 0 .und) y1) (fun b2 c2 d2 =>
pgk true d2 (fun e2 f2 => VL (vixS 1 w1 c2) fun g2 =>
f2 g2 d2) (fun h2 i2 j2 =>
pgk true j2 (fun k2 l2 => pld j2 none (fun m2 n2 =>
l2 m2 n2) i2) (fun o2 p2 q2 =>
pgk true q2 (fun r2 s2 => s2 (p1.getD 0 .und) q2) (fun t2 u2 v2 =>
pgk true v2 (fun w2 y2 => y2 (p1.getD 1 .und) v2) (fun z2 a3 b3 =>
pgk true b3 (fun c3 d3 => VL (vixS 1 u2 a3) fun e3 =>
d3 e3 b3) (fun f3 g3 h3 =>
pgk true h3 (fun i3 j3 => pld h3 none (fun k3 l3 =>
j3 k3 l3) g3) (fun m3 n3 o3 =>
pgk true o3 (fun p3 q3 => pcal Tryz.prog 98 106 o3 (fun r3 s3 =>
q3 r3 s3) [p2, n3]) (fun t3 u3 v3 =>
VL (vpick t3 u3 (.bool false)) fun w3 =>
pcond (
VL (lift2 (abin .add) (o1.getD 0 .und) (.int .i64 1)) fun y3 =>
r1 [y3] [(p1.getD 0 .und), (p1.getD 1 .und), (p1.getD 2 .und)] v3) (
LP [11] [0, 1, 10] (fun z3 a4 b4 c4 =>
VL (lift2 (abin .leq) (a4.getD 2 .und) (z3.getD 0 .und)) fun d4 =>
pgk true b4 (fun e4 f4 => f4 (a4.getD 0 .und) b4) (fun g4 h4 i4 =>
pgk true i4 (fun j4 k4 => k4 (z3.getD 0 .und) i4) (fun l4 m4 n4 =>
pgk true n4 (fun o4 p4 => VL (vixS 1 h4 m4) fun q4 =>
p4 q4 n4) (fun r4 s4 t4 =>
pgk true t4 (fun u4 v4 => pld t4 none (fun w4 y4 =>
v4 w4 y4) s4) (fun z4 a5 b5 =>
pgk true b5 (fun c5 d5 => d5 (a4.getD 0 .und) b5) (fun e5 f5 g5 =>
pgk true g5 (fun h5 i5 => i5 (a4.getD 1 .und) g5) (fun j5 k5 l5 =>
pgk true l5 (fun m5 n5 => VL (vixS 1 f5 k5) fun o5 =>
n5 o5 l5) (fun p5 q5 r5 =>
pgk true r5 (fun s5 t5 => pld r5 none (fun u5 v5 =>
t5 u5 v5) q5) (fun w5 y5 z5 =>
pgk true z5 (fun a6 b6 => pcal Tryz.prog 98 122 z5 (fun c6 d6 =>
b6 c6 d6) [a5, y5]) (fun e6 f6 g6 =>
pgk true g6 (fun h6 i6 => VL (lift1 (aun .not) f6) fun j6 =>
i6 j6 g6) (fun k6 l6 m6 =>
VL (vpick k6 l6 (.bool false)) fun n6 =>
pcond (
VL (lift2 (abin .sub) (z3.getD 0 .und) (.int .i64 1)) fun o6 =>
c4 [o6] [(a4.getD 0 .und), (a4.getD 1 .und), (a4.getD 2 .und)] m6) (
VL (lift2 (abin .gtr) (a4.getD 2 .und) (z3.getD 0 .und)) fun p6 =>
pcond (
VL (vixS 1 (a4.getD 0 .und) (a4.getD 1 .und)) fun q6 =>
pld m6 none (fun r6 s6 =>
VL (vixS 1 (a4.getD 0 .und) (z3.getD 0 .und)) fun t6 =>
pld s6 none (fun u6 v6 =>
VL (vixS 1 (a4.getD 0 .und) (z3.getD 0 .und)) fun w6 =>
pst v6 1 (cellsV r6) (fun y6 z6 =>
VL (vixS 1 (a4.getD 0 .und) (a4.getD 1 .und)) fun a7 =>
pst z6 1 (cellsV u6) (fun b7 c7 =>
Rt c7 (.tup [(z3.getD 0 .und), (.bool true)])) a7) w6) t6) q6) (
VL (vixS 1 (a4.getD 0 .und) (z3.getD 0 .und)) fun d7 =>
pld m6 none (fun e7 f7 =>
VL (vixS 1 (a4.getD 0 .und) (a4.getD 2 .und)) fun g7 =>
pld f7 none (fun h7 i7 =>
VL (vixS 1 (a4.getD 0 .und) (a4.getD 2 .und)) fun j7 =>
pst i7 1 (cellsV e7) (fun k7 l7 =>
VL (vixS 1 (a4.getD 0 .und) (z3.getD 0 .und)) fun m7 =>
pst l7 1 (cellsV h7) (fun n7 o7 =>
VL (lift2 (abin .add) (a4.getD 2 .und) (.int .i64 1)) fun p7 =>
VL (lift2 (abin .sub) (z3.getD 0 .und) (.int .i64 1)) fun q7 =>
LP [10, 11] [0, 1] (fun r7 s7 t7 u7 =>
LP [10] [0, 1, 11] (fun v7 w7 y7 z7 =>
VL (lift2 (abin .leq) (v7.getD 0 .und) (w7.getD 2 .und)) fun a8 =>
pgk true y7 (fun b8 c8 => c8 (w7.getD 0 .und) y7) (fun d8 e8 f8 =>
pgk true f8 (fun g8 h8 => h8 (v7.getD 0 .und) f8) (fun i8 j8 k8 =>
pgk true k8 (fun l8 m8 => VL (vixS 1 e8 j8) fun n8 =>
m8 n8 k8) (fun o8 p8 q8 =>
pgk true q8 (fun r8 s8 => pld q8 none (fun t8 u8 =>
s8 t8 u8) p8) (fun v8 w8 y8 =>
pgk true y8 (fun z8 a9 => a9 (w7.getD 0 .und) y8) (fun b9 c9 d9 =>
pgk true d9 (fun e9 f9 => f9 (w7.getD 1 .und) d9) (fun g9 h9 i9 =>
pgk true i9 (fun j9 k9 => VL (vixS 1 c9 h9) fun l9 =>
k9 l9 i9) (fun m9 n9 o9 =>
pgk true o9 (fun p9 q9 => pld o9 none (fun r9 s9 =>
q9 r9 s9) n9) (fun t9 u9 v9 =>
pgk true v9 (fun w9 y9 => pcal Tryz.prog 98 175 v9 (fun z9 a10 =>
y9 z9 a10) [w8, u9]) (fun b10 c10 d10 =>
VL (vpick b10 c10 (.bool false)) fun e10 =>
pcond (
VL (lift2 (abin .add) (v7.getD 0 .und) (.int .i64 1)) fun f10 =>
z7 [f10] [(w7.getD 0 .und), (w7.getD 1 .und), (w7.getD 2 .und)] d10) (
LP [11] [0, 1, 10] (fun g10 h10 i10 j10 =>
VL (lift2 (abin .leq) (h10.getD 2 .und) (g10.getD 0 .und)) fun k10 =>
pgk true i10 (fun l10 m10 => m10 (h10.getD 0 .und) i10) (fun n10 o10 p10 =>
pgk true p10 (fun q10 r10 => r10 (g10.getD 0 .und) p10) (fun s10 t10 u10 =>
pgk true u10 (fun v10 w10 => VL (vixS 1 o10 t10) fun y10 =>
w10 y10 u10) (fun z10 a11 b11 =>
pgk true b11 (fun c11 d11 => pld b11 none (fun e11 f11 =>
d11 e11 f11) a11) (fun g11 h11 i11 =>
pgk true i11 (fun j11 k11 => k11 (h10.getD 0 .und) i11) (fun l11 m11 n11 =>
pgk true n11 (fun o11 p11 => p11 (h10.getD 1 .und) n11) (fun q11 r11 s11 =>
pgk true s11 (fun t11 u11 => VL (vixS 1 m11 r11) fun v11 =>
u11 v11 s11) (fun w11 y11 z11 =>
pgk true z11 (fun a12 b12 => pld z11 none (fun c12 d12 =>
b12 c12 d12) y11) (fun e12 f12 g12 =>
pgk true g12 (fun h12 i12 => pcal Tryz.prog 98 191 g12 (fun j12 k12 =>
i12 j12 k12) [h11, f12]) (fun l12 m12 n12 =>
pgk true n12 (fun o12 p12 => VL (lift1 (aun .not) m12) fun q12 =>
p12 q12 n12) (fun r12 s12 t12 =>
VL (vpick r12 s12 (.bool false)) fun u12 =>
pcond (
VL (lift2 (abin .sub) (g10.getD 0 .und) (.int .i64 1)) fun v12 =>
j10 [v12] [(h10.getD 0 .und), (h10.getD 1 .und), (h10.getD 2 .und)] t12) (
VL (lift2 (abin .gtr) (h10.getD 2 .und) (g10.getD 0 .und)) fun w12 =>
pcond (
VL (vixS 1 (h10.getD 0 .und) (h10.getD 1 .und)) fun y12 =>
pld t12 none (fun z12 a13 =>
VL (vixS 1 (h10.getD 0 .und) (g10.getD 0 .und)) fun b13 =>
pld a13 none (fun c13 d13 =>
VL (vixS 1 (h10.getD 0 .und) (g10.getD 0 .und)) fun e13 =>
pst d13 1 (cellsV z12) (fun f13 g13 =>
VL (vixS 1 (h10.getD 0 .und) (h10.getD 1 .und)) fun h13 =>
pst g13 1 (cellsV c13) (fun i13 j13 =>
Rt j13 (.tup [(g10.getD 0 .und), (.bool false)])) h13) e13) b13) y12) (
VL (vixS 1 (h10.getD 0 .und) (g10.getD 0 .und)) fun k13 =>
pld t12 none (fun l13 m13 =>
VL (vixS 1 (h10.getD 0 .und) (h10.getD 2 .und)) fun n13 =>
pld m13 none (fun o13 p13 =>
VL (vixS 1 (h10.getD 0 .und) (h10.getD 2 .und)) fun q13 =>
pst p13 1 (cellsV l13) (fun r13 s13 =>
VL (vixS 1 (h10.getD 0 .und) (g10.getD 0 .und)) fun t13 =>
pst s13 1 (cellsV o13) (fun u13 v13 =>
VL (lift2 (abin .add) (h10.getD 2 .und) (.int .i64 1)) fun w13 =>
VL (lift2 (abin .sub) (g10.getD 0 .und) (.int .i64 1)) fun y13 =>
u7 [w13, y13] [(h10.getD 0 .und), (h10.getD 1 .und)] v13) t13) q13) n13) k13) w12) u12) l12) e12) w11) q11) l11) g11) z10) s10) n10) k10) [(w7.getD 2 .und)] [(w7.getD 0 .und), (w7.getD 1 .und), (v7.getD 0 .und)] d10) e10) t9) m9) g9) b9) v8) o8) i8) d8) a8) [(r7.getD 0 .und)] [(s7.getD 0 .und), (s7.getD 1 .und), (r7.getD 1 .und)] t7) [p7, q7] [(a4.getD 0 .und), (a4.getD 1 .und)] o7) m7) j7) g7) d7) p6) n6) e6) w5) p5) j5) e5) z4) r4) l4) g4) d4) [(p1.getD 2 .und)] [(p1.getD 0 .und), (p1.getD 1 .und), (o1.getD 0 .und)] v3) w3) m3) f3) z2) t2) o2) h2) b2) v1) s1) [m1] [x0, x1, n1] l1) j1) g1) d1) a1
theorem slices_partitionOrdered_int64_f {x0 x1 x2 x3 : V} : Prt Tryz.prog 100 [x0, x1, x2, x3] (slices_partitionOrdered_int64_F x0 x1 x2 x3) := pfun (fn := Tryz.f100) (m := [.s, .s, .s, .s, .l [10] [0, 1, 11], .s, .s, .s, .l [11] [0, 1, 10], .s, .s, .s, .s, .s, .s, .s, .s, .s, .s, .l [10, 11] [0, 1], .s, .l [10] [0, 1, 11], .s, .s, .s, .l [11] [0, 1, 10], .s, .s, .s, .s, .s, .s, .s, .s]) (c := 4 ≤ 168) rfl (fun h0 Rt => by kernel_rfl) (by decide)
def math_bits_Len64_F (x0 : V) (hi : Hp) (Rt : Hp → V → Prop) : Prop :=
JN (fun a1 =>
VL (lift2 (abin .geq) x0 (.int .u64 4294967296)) fun b1 =>
pcond (
VL (lift2 (abin .shr) x0 (.int .u64 32)) fun c1 =>
a1 [c1, (.int .i64 32)] hi) (
a1 [x0, (.int .i64 0)] hi) b1) fun d1 e1 =>
JN (fun f1 =>
VL (lift2 (abin .geq) (d1.getD 0 .und) (.int .u64 65536)) fun g1 =>
pcond (
VL (lift2 (abin .shr) (d1.getD 0 .und) (.int .u64 16)) fun h1 =>
VL (lift2 (abin .add) (d1.getD 1 .und) (.int .i64 16)) fun i1 =>
f1 [h1, i1] e1) (
f1 [(d1.getD 0 .und), (d1.getD 1 .und)] e1) g1) fun j1 k1 =>
JN (fun l1 =>
VL (lift2 (abin .geq) (j1.getD 0 .und) (.int .u64 256)) fun m1 =>
pcond (
VL (lift2 (abin .shr) (j1.getD 0 .und) (.int .u64 8)) fun n1 =>
VL (lift2 (abin .add) (j1.getD 1 .und) (.int .i64 8)) fun o1 =>
l1 [n1, o1] k1) (
l1 [(j1.getD 0 .und), (j1.getD 1 .und)] k1) m1) fun p1 q1 =>
VL (lift1 (acvi .u8) (p1.getD 0 .und)) fun r1 =>
VL (vixT (.str [0, 1, 2, 2, 3, 3, 3, 3, 4, 4, 4, 4, 4, 4, 4, 4, 5, 5, 5, 5, 5, 5, 5, 5, 5, 5, 5, 5, 5, 5, 5, 5, 6, 6, 6, 6, 6, 6, 6, 6, 6, 6, 6, 6, 6, 6, 6, 6, 6, 6, 6, 6, 6, 6, 6, 6, 6, 6, 6, 6, 6, 6, 6, 6, 7, 7, 7, 7, 7, 7, 7, 7, 7, 7, 7, 7, 7, 7, 7, 7, 7, 7, 7, 7, 7, 7, 7, 7, 7, 7, 7, 7, 7, 7, 7, 7, 7, 7, 7, 7, 7, 7, 7, 7, 7, 7, 7, 7, 7, 7, 7, 7, 7, 7, 7, 7, 7, 7, 7, 7, 7, 7, 7, 7, 7, 7, 7, 7, 8, 8, 8, 8, 8, 8, 8, 8, 8, 8, 8, 8, 8, 8, 8, 8, 8, 8, 8, 8, 8, 8, 8, 8, 8, 8, 8, 8, 8, 8, 8, 8, 8, 8, 8, 8, 8, 8, 8, 8, 8, 8, 8, 8, 8, 8, 8, 8, 8, 8, 8, 8, 8, 8, 8, 8, 8, 8, 8, 8, 8, 8, 8, 8, 8, 8, 8, 8, 8, 8, 8, 8, 8, 8, 8, 8, 8, 8, 8, 8, 8, 8, 8, 8, 8, 8, 8, 8, 8, 8, 8, 8, 8, 8, 8, 8, 8, 8, 8, 8, 8, 8, 8, 8, 8, 8, 8, 8, 8, 8, 8, 8, 8, 8, 8, 8, 8, 8, 8, 8, 8, 8, 8, 8, 8, 8, 8, 8]) r1) fun s1 =>
VL (lift1 (acvi .i64) s1) fun t1 =>
VL (lift2 (abin .add) (p1.getD 1 .und) t1) fun u1 =>
Rt q1 u1
theorem math_bits_Len64_f {x0 : V} : Prt Tryz.prog 102 [x0] (math_bits_Len64_F x0) := pfun (fn := Tryz.f102) (m := [.s, .j [0, 2], .s, .s, .j [0, 2], .s, .s, .j [0, 2], .s, .s, .s]) (c := 1 ≤ 25) rfl (fun h0 Rt => by kernel_rfl) (by decide)
def slices_siftDownOrdered_int64_F (x0 x1 x2 x3 : V) (hi : Hp) (Rt : Hp → V → Prop) : Prop :=
LP [8] [0, 2, 3] (fun a1 b1 c1 d1 =>
VL (lift2 (abin .mul) (.int .i64 2) (a1.getD 0 .und)) fun e1 =>
VL (lift2 (abin .add) e1 (.int .i64 1)) fun f1 =>
VL (lift2 (abin .geq) f1 (b1.getD 1 .und)) fun g1 =>
pcond (
Rt c1 (.tup [])) (
JN (fun h1 =>
VL (lift2 (abin .add) f1 (.int .i64 1)) fun i1 =>
VL (lift2 (abin .lss) i1 (b1.getD 1 .und)) fun j1 =>
pgk true c1 (fun k1 l1 => l1 (b1.getD 0 .und) c1) (fun m1 n1 o1 =>
pgk true o1 (fun p1 q1 => q1 (b1.getD 2 .und) o1) (fun r1 s1 t1 =>
pgk true t1 (fun u1 v1 => v1 f1 t1) (fun w1 y1 z1 =>
pgk true z1 (fun a2 b2 => VL (lift2 (abin .add) s1 y1) fun c2 =>
b2 c2 z1) (fun d2 e2 f2 =>
pgk true f2 (fun g2 h2 => VL (vixS 1 n1 e2) fun i2 =>
h2 i2 f2) (fun j2 k2 l2 =>
pgk true l2 (fun m2 n2 => pld l2 none (fun o2 p2 =>
n2 o2 p2) k2) (fun q2 r2 s2 =>
pgk true s2 (fun t2 u2 => u2 (b1.getD 0 .und) s2) (fun v2 w2 y2 =>
pgk true y2 (fun z2 a3 => a3 (b1.getD 2 .und) y2) (fun b3 c3 d3 =>
pgk true d3 (fun e3 f3 => f3 f1 d3) (fun g3 h3 i3 =>
pgk true i3 (fun j3 k3 => VL (lift2 (abin .add) c3 h3) fun l3 =>
k3 l3 i3) (fun m3 n3 o3 =>
pgk true o3 (fun p3 q3 => VL (lift2 (abin .add) n3 (.int .i64 1)) fun r3 =>
q3 r3 o3) (fun s3 t3 u3 =>
pgk true u3 (fun v3 w3 => VL (vixS 1 w2 t3) fun y3 =>
w3 y3 u3) (fun z3 a4 b4 =>
pgk true b4 (fun c4 d4 => pld b4 none (fun e4 f4 =>
d4 e4 f4) a4) (fun g4 h4 i4 =>
pgk true i4 (fun j4 k4 => pcal Tryz.prog 98 99 i4 (fun l4 m4 =>
k4 l4 m4) [r2, h4]) (fun n4 o4 p4 =>
VL (vpick n4 o4 (.bool false)) fun q4 =>
pcond (
VL (lift2 (abin .add) f1 (.int .i64 1)) fun r4 =>
h1 [(b1.getD 0 .und), (b1.getD 1 .und), (b1.getD 2 .und), (a1.getD 0 .und), r4] p4) (
h1 [(b1.getD 0 .und), (b1.getD 1 .und), (b1.getD 2 .und), (a1.getD 0 .und), f1] p4) q4) g4) z3) s3) m3) g3) b3) v2) q2) j2) d2) w1) r1) m1) j1) fun s4 t4 =>
VL (lift2 (abin .add) (s4.getD 2 .und) (s4.getD 3 .und)) fun u4 =>
VL (vixS 1 (s4.getD 0 .und) u4) fun v4 =>
pld t4 none (fun w4 y4 =>
VL (lift2 (abin .add) (s4.getD 2 .und) (s4.getD 4 .und)) fun z4 =>
VL (vixS 1 (s4.getD 0 .und) z4) fun a5 =>
pld y4 none (fun b5 c5 =>
pcal Tryz.prog 98 115 c5 (fun d5 e5 =>
VL (lift1 (aun .not) d5) fun f5 =>
pcond (
Rt e5 (.tup [])) (
VL (lift2 (abin .add) (s4.getD 2 .und) (s4.getD 3 .und)) fun g5 =>
VL (lift2 (abin .add) (s4.getD 2 .und) (s4.getD 4 .und)) fun h5 =>
VL (lift2 (abin .add) (s4.getD 2 .und) (s4.getD 4 .und)) fun i5 =>
VL (vixS 1 (s4.getD 0 .und) i5) fun j5 =>
pld e5 none (fun k5 l5 =>
VL (lift2 (abin .add) (s4.getD 2 .und) (s4.getD 3 .und)) fun m5 =>
VL (vixS 1 (s4.getD 0 .und) m5) fun n5 =>
pld l5 none (fun o5 p5 =>
VL (vixS 1 (s4.getD 0 .und) g5) fun q5 =>
pst p5 1 (cellsV k5) (fun r5 s5 =>
VL (vixS 1 (s4.getD 0 .und) h5) fun t5 =>
pst s5 1 (cellsV o5) (fun u5 v5 =>
d1 [(s4.getD 4 .und)] [(s4.getD 0 .und), (s4.getD 1 .und), (s4.getD 2 .und)] v5) t5) q5) n5) j5) f5) [w4, b5]) a5) v4) g1) [x1] [x0, x2, x3] hi
theorem slices_siftDownOrdered_int64_f {x0 x1 x2 x3 : V} : Prt Tryz.prog 103 [x0, x1, x2, x3] (slices_siftDownOrdered_int64_F x0 x1 x2 x3) := pfun (fn := Tryz.f103) (m := [.s, .l [8] [0, 2, 3], .s, .s, .s, .j [0, 2, 3, 8, 9], .s, .s, .s, .s]) (c := 4 ≤ 76) rfl (fun h0 Rt => by kernel_rfl) (by decide)
def slices_nextPowerOfTwo_F (x0 : V) (hi : Hp) (Rt : Hp → V → Prop) : Prop :=
VL (lift1 (acvi .u64) x0) fun a1 =>
pcal Tryz.prog 91 69 hi (fun b1 c1 =>
VL (lift2 (abin .shl) (.int .u64 1) b1) fun d1 =>
Rt c1 d1) [a1]
theorem slices_nextPowerOfTwo_f {x0 : V} : Prt Tryz.prog 104 [x0] (slices_nextPowerOfTwo_F x0) := pfun (fn := Tryz.f104) (m := [.s, .s]) (c := 1 ≤ 7) rfl (fun h0 Rt => by kernel_rfl) (by decide)
def slices_xorshift_Next_F (x0 : V) (hi : Hp) (Rt : Hp → V → Prop) : Prop :=
VL (vfa 0 x0) fun a1 =>
pld hi none (fun b1 c1 =>
VL (vfa 0 x0) fun d1 =>
pld c1 none (fun e1 f1 =>
VL (lift2 (abin .shl) e1 (.int .u64 13)) fun g1 =>
VL (lift2 (abin .xor) b1 g1) fun h1 =>
VL (vfa 0 x0) fun i1 =>
pst f1 1 (cellsV h1) (fun j1 k1 =>
VL (vfa 0 x0) fun l1 =>
pld k1 none (fun m1 n1 =>
VL (vfa 0 x0) fun o1 =>
pld n1 none (fun p1 q1 =>
VL (lift2 (abin .shr) p1 (.int .u64 7)) fun r1 =>
VL (lift2 (abin .xor) m1 r1) fun s1 =>
VL (vfa 0 x0) fun t1 =>
pst q1 1 (cellsV s1) (fun u1 v1 =>
VL (vfa 0 x0) fun w1 =>
pld v1 none (fun y1 z1 =>
VL (vfa 0 x0) fun a2 =>
pld z1 none (fun b2 c2 =>
VL (lift2 (abin .shl) b2 (.int .u64 17)) fun d2 =>
VL (lift2 (abin .xor) y1 d2) fun e2 =>
VL (vfa 0 x0) fun f2 =>
pst c2 1 (cellsV e2) (fun g2 h2 =>
VL (vfa 0 x0) fun i2 =>
pld h2 none (fun j2 k2 =>
Rt k2 j2) i2) f2) a2) w1) t1) o1) l1) i1) d1) a1
theorem slices_xorshift_Next_f {x0 : V} : Prt Tryz.prog 105 [x0] (slices_xorshift_Next_F x0) := pfun (fn := Tryz.f105) (m := [.s, .s, .s, .s, .s]) (c := 1 ≤ 33) rfl (fun h0 Rt => by kernel_rfl) (by decide)
def slices_medianOrdered_int64_F (x0 x1 x2 x3 x4 : V) (hi : Hp) (Rt : Hp → V → Prop) : Prop :=
pcal Tryz.prog 109 80 hi (fun a1 b1 =>
VL (vext 0 a1) fun c1 =>
VL (vext 1 a1) fun d1 =>
pcal Tryz.prog 109 88 b1 (fun e1 f1 =>
VL (vext 0 e1) fun g1 =>
VL (vext 1 e1) fun h1 =>
pcal Tryz.prog 109 96 f1 (fun i1 j1 =>
VL (vext 0 i1) fun k1 =>
VL (vext 1 i1) fun l1 =>
Rt j1 l1) [x0, c1, g1, x4]) [x0, d1, x3, x4]) [x0, x1, x2, x4]
theorem slices_medianOrdered_int64_f {x0 x1 x2 x3 x4 : V} : Prt Tryz.prog 107 [x0, x1, x2, x3, x4] (slices_medianOrdered_int64_F x0 x1 x2 x3 x4) := pfun (fn := Tryz.f107) (m := [.s, .s, .s, .s, .s]) (c := 5 ≤ 36) rfl (fun h0 Rt => by kernel_rfl) (by decide)
def cmp_isNaN_int64_F (x0 : V) (hi : Hp) (Rt : Hp → V → Prop) : Prop :=
VL (lift2 (abin .neq) x0 x0) fun a1 =>
Rt hi a1
theorem cmp_isNaN_int64_f {x0 : V} : Prt Tryz.prog 108 [x0] (cmp_isNaN_int64_F x0) := pfun (fn := Tryz.f108) (m := [.s, .s]) (c := 1 ≤ 6) rfl (fun h0 Rt => by kernel_rfl) (by decide)
def slices_order2Ordered_int64_F (x0 x1 x2 x3 : V) (hi : Hp) (Rt : Hp → V → Prop) : Prop :=
VL (vixS 1 x0 x2) fun a1 =>
pld hi none (fun b1 c1 =>
VL (vixS 1 x0 x1) fun d1 =>
pld c1 none (fun e1 f1 =>
pcal Tryz.prog 98 82 f1 (fun g1 h1 =>
pcond (
VL (vfa 0 x3) fun i1 =>
pld h1 none (fun j1 k1 =>
VL (lift2 (abin .add) j1 (.int .i64 1)) fun l1 =>
VL (vfa 0 x3) fun m1 =>
pst k1 1 (cellsV l1) (fun n1 o1 =>
Rt o1 (.tup [x2, x1])) m1) i1) (
Rt h1 (.tup [x1, x2])) g1) [b1, e1]) d1) a1
theorem slices_order2Ordered_int64_f {x0 x1 x2 x3 : V} : Prt Tryz.prog 109 [x0, x1, x2, x3] (slices_order2Ordered_int64_F x0 x1 x2 x3) := pfun (fn := Tryz.f109) (m := [.s, .s, .s, .s, .s, .s]) (c := 4 ≤ 28) rfl (fun h0 Rt => by kernel_rfl) (by decide)
end
section
def okP (p : List Int) : Prop := p.length = 16 ∧ ∀ i, i < 16 → 0 ≤ gi p i ∧ gi p i ≤ 255
theorem okP.len {p : List Int} (h : okP p) : p.length = 16 := h.1
def vD (n : Int) (b w : List Int) : V := .agg (.int .i64 n :: vi .u8 (b ++ w))
def PmAt (p : List Int) (n : Int) (j : Nat) : Prop := ((j : Int) < n → gi p j < n ∧ ∀ k, k < j → gi p k ≠ gi p j) ∧ (n ≤ j → gi p j = 0)
def isPm (p : List Int) (n : Int) : Prop := (1 ≤ n ∧ n ≤ 16) ∧ ∀ j, j < 16 → PmAt p n j
noncomputable def isPmB (p : List Int) (n : Int) : Bool := by classical exact decide (isPm p n)
theorem isPmB_iff {p : List Int} {n : Int} : isPmB p n = true ↔ isPm p n := by simp [isPmB]
theorem isPmB_no {p : List Int} {n : Int} (h : ¬ isPm p n) : isPmB p n = false := by simp [isPmB, h]
theorem isPmB_yes {p : List Int} {n : Int} (h : isPm p n) : isPmB p n = true := isPmB_iff.2 h
theorem not_isPm {p : List Int} {n : Int} {i : Nat} (hi : i < 16) (h : ¬ PmAt p n i) : ¬ isPm p n := fun hp => h (hp.2 i hi)
def Met (p : List Int) (n : Int) (m : List Bool) (i : Nat) : Prop := i ≤ 16 ∧ m.length = 16 ∧ (∀ j, j < i → PmAt p n j) ∧ ∀ x : Nat, x < 16 → (gb m x = true ↔ ∃ j, j < i ∧ (j : Int) < n ∧ gi p j = x)
theorem Met.zero (p : List Int) (n : Int) : Met p n (List.replicate 16 false) 0 := by
  refine ⟨Nat.zero_le _, by simp, fun j hj => absurd hj (Nat.not_lt_zero j), fun x hx => ?_⟩
  rw [gb_rep]; simp
theorem Met.skip {p : List Int} {n : Int} {m : List Bool} {i : Nat} (h : Met p n m i) (hi : i < 16) (hn : n ≤ i) (h0 : gi p i = 0) : Met p n m (i + 1) := by
  obtain ⟨h1, h2, h3, h4⟩ := h
  refine ⟨by omega, h2, fun j hj => ?_, fun x hx => ?_⟩
  · by_cases e : j = i
    · subst e; exact ⟨fun h => absurd h (by omega), fun _ => h0⟩
    · exact h3 j (by omega)
  · rw [h4 x hx]
    exact ⟨fun ⟨j, a, b, c⟩ => ⟨j, by omega, b, c⟩, fun ⟨j, a, b, c⟩ => ⟨j, by omega, b, c⟩⟩
theorem Met.put {p : List Int} {n : Int} {m : List Bool} {i : Nat} (h : Met p n m i) (hi : i < 16) (hn : (i : Int) < n) (hn16 : n ≤ 16) (h0 : 0 ≤ gi p i) (h1 : gi p i < n) (hm : gb m (gi p i).toNat = false) : Met p n (m.set (gi p i).toNat true) (i + 1) := by
  obtain ⟨g1, g2, g3, g4⟩ := h
  have hx16 : (gi p i).toNat < 16 := by omega
  refine ⟨by omega, by simpa using g2, fun j hj => ?_, fun x hx => ?_⟩
  · by_cases e : j = i
    · subst e
      refine ⟨fun _ => ⟨h1, fun k hk he => ?_⟩, fun h => absurd h (by omega)⟩
      have := (g4 (gi p j).toNat hx16).2 ⟨k, hk, by omega, by omega⟩
      rw [hm] at this; cases this
    · exact g3 j (by omega)
  · rw [gb_set, g2]
    by_cases e : (gi p i).toNat = x
    · rw [if_pos ⟨e, hx⟩]
      exact ⟨fun _ => ⟨i, by omega, hn, by omega⟩, fun _ => rfl⟩
    · rw [if_neg (fun h => e h.1), g4 x hx]
      refine ⟨fun ⟨j, a, b, c⟩ => ⟨j, by omega, b, c⟩, fun ⟨j, a, b, c⟩ => ⟨j, ?_, b, c⟩⟩
      have : j ≠ i := fun hj => e (by subst hj; omega)
      omega
theorem Met.twice {p : List Int} {n : Int} {m : List Bool} {i : Nat} (h : Met p n m i) (hn : (i : Int) < n) (hn16 : n ≤ 16) (h0 : 0 ≤ gi p i) (h1 : gi p i < n) (hm : gb m (gi p i).toNat = true) : ¬ PmAt p n i := by
  obtain ⟨j, a, b, c⟩ := (h.2.2.2 (gi p i).toNat (by omega)).1 hm
  exact fun hp => (hp.1 hn).2 j a (by omega)
theorem c_impl_isSize {n : Int} : PSpec Tryz.prog 83 [.int .i64 n] fun v => v = .bool (decide (1 ≤ n ∧ n ≤ 16)) := by
  refine impl_isSize_f.f ?_
  simp (disch := first | omega | (simp only [LN]; omega)) only [↓EC, EW, seval, ↓reduceIte, impl_isSize_F]
  unfold Split
  simp only [V.bool.injEq]
  grind
theorem c_spec_l01In {n a b : Int} : PSpec Tryz.prog 55 [.int .i64 n, .int .i64 a, .int .i64 b] fun v => v = .bool (decide (a ≤ n ∧ n ≤ b)) := by
  refine spec_l01In_f.f ?_
  simp (disch := first | omega | (simp only [LN]; omega)) only [↓EC, EW, seval, ↓reduceIte, spec_l01In_F]
  unfold Split
  simp only [V.bool.injEq]
  grind
theorem c_impl_IsPermutation {p : List Int} {n : Int} (hp : okP p) : PSpec Tryz.prog 59 [.agg (vi .u8 p), .int .i64 n] fun v => v = .bool (isPmB p n) := by
  have hl := hp.len
  refine impl_IsPermutation_f.f ?_
  simp (disch := first | omega | (simp only [LN]; omega)) only [↓EC, EW, seval, ↓reduceIte, impl_IsPermutation_F]
  (refine pcd_v (c_impl_isSize) ?_; (try simp (disch := first | omega | (simp only [LN]; omega)) only [↓EC, EW, seval, ↓reduceIte]))
  (refine Split.mk (fun h => ?_) (fun h => ?_) <;> (try simp only [SD] at h))
  · rw [isPmB_no fun h => absurd h.1 (by omega)]
  · refine LP_of (σ := Nat × List Bool) 100000 [(69, 58, 1)] (fun s => [.int .i64 s.1]) (fun s => [vb s.2])
      (fun s => Met p n s.2 s.1) (fun s => 16 - s.1) (0, List.replicate 16 false) (by simp [frameOk, names, lpz, sclp, scv, scvs, nrfs, nrf, FRB]) (Met.zero p n) ?_ ?_
    · simp (disch := first | omega | (simp only [LN]; omega)) only [↓EC, EW, seval, ↓reduceIte, ColV_def]
    · rintro ⟨i, m⟩ hm
      have hm0 := hm
      obtain ⟨h1, h2, -, -⟩ := hm0
      simp only at h1 h2 hm
      simp (disch := first | omega | (simp only [LN]; omega)) only [↓EC, EW, seval, ↓reduceIte, ColV_def, lheap_def]
      (refine Split.mk (fun h => ?_) (fun h => ?_) <;> (try simp only [SD] at h))
      · have hb := hp.2 i (by omega)
        (try simp (disch := first | omega | (simp only [LN]; omega)) only [↓EC, EW, seval, ↓reduceIte])
        (refine Split.mk (fun h => ?_) (fun h => ?_) <;> (try simp only [SD] at h))
        · (refine Split.mk (fun h => ?_) (fun h => ?_) <;> (try simp only [SD] at h))
          · rw [isPmB_no (not_isPm (i := i) (by omega) fun hq => h (hq.2 (by omega)))]
          · (try simp (disch := first | omega | (simp only [LN]; omega)) only [↓EC, EW, seval, ↓reduceIte])
            exact ⟨(i + 1, m), rfl, rfl, hm.skip (by omega) (by omega) h, by simp only; omega⟩
        · (refine Split.mk (fun h => ?_) (fun h => ?_) <;> (try simp only [SD] at h))
          · rw [isPmB_no (not_isPm (i := i) (by omega) fun hq => absurd (hq.1 (by omega)).1 (by omega))]
          · (try simp (disch := first | omega | (simp only [LN]; omega)) only [↓EC, EW, seval, ↓reduceIte])
            (refine Split.mk (fun h => ?_) (fun h => ?_) <;> (try simp only [SD] at h))
            · rw [isPmB_no (not_isPm (i := i) (by omega) (hm.twice (by omega) (by omega) hb.1 (by omega) h))]
            · (try simp (disch := first | omega | (simp only [LN]; omega)) only [↓EC, EW, seval, ↓reduceIte])
              exact ⟨(i + 1, m.set (gi p i).toNat true), rfl, rfl, hm.put (by omega) (by omega) (by omega) hb.1 (by omega) h, by simp only; omega⟩
      · (try simp (disch := first | omega | (simp only [LN]; omega)) only [↓EC, EW, seval, ↓reduceIte])
        rw [isPmB_yes ⟨by omega, fun j hj => hm.2.2.1 j (by omega)⟩]
theorem c_spec_l01Perm {p : List Int} {n : Int} (hp : okP p) : PSpec Tryz.prog 65 [.agg (vi .u8 p), .int .i64 n] fun v => v = .bool (isPmB p n) := by
  have hl := hp.len
  refine spec_l01Perm_f.f ?_
  simp (disch := first | omega | (simp only [LN]; omega)) only [↓EC, EW, seval, ↓reduceIte, spec_l01Perm_F]
  (refine pcd_v (c_spec_l01In) ?_; (try simp (disch := first | omega | (simp only [LN]; omega)) only [↓EC, EW, seval, ↓reduceIte]))
  (refine Split.mk (fun h => ?_) (fun h => ?_) <;> (try simp only [SD] at h))
  · rw [isPmB_no fun h => absurd h.1 (by omega)]
  · refine LP_of (σ := Nat × List Bool) 100000 [(66, 25, 1), (69, 58, 1)] (fun s => [.int .i64 s.1]) (fun s => [vi .u8 p, vb s.2])
      (fun s => Met p n s.2 s.1) (fun s => 16 - s.1) (0, List.replicate 16 false) (by simp [frameOk, names, lpz, sclp, scv, scvs, nrfs, nrf, FRB]) (Met.zero p n) ?_ ?_
    · simp (disch := first | omega | (simp only [LN]; omega)) only [↓EC, EW, seval, ↓reduceIte, ColV_def]
    · rintro ⟨i, m⟩ hm
      have hm0 := hm
      obtain ⟨h1, h2, -, -⟩ := hm0
      simp only at h1 h2 hm
      simp (disch := first | omega | (simp only [LN]; omega)) only [↓EC, EW, seval, ↓reduceIte, ColV_def, lheap_def]
      (refine Split.mk (fun h => ?_) (fun h => ?_) <;> (try simp only [SD] at h))
      · have hb := hp.2 i (by omega)
        (try simp (disch := first | omega | (simp only [LN]; omega)) only [↓EC, EW, seval, ↓reduceIte])
        (refine Split.mk (fun h => ?_) (fun h => ?_) <;> (try simp only [SD] at h))
        · (try simp (disch := first | omega | (simp only [LN]; omega)) only [↓EC, EW, seval, ↓reduceIte])
          (refine Split.mk (fun h => ?_) (fun h => ?_) <;> (try simp only [SD] at h))
          · rw [isPmB_no (not_isPm (i := i) (by omega) fun hq => h (hq.2 (by omega)))]
          · (try simp (disch := first | omega | (simp only [LN]; omega)) only [↓EC, EW, seval, ↓reduceIte])
            exact ⟨(i + 1, m), rfl, rfl, hm.skip (by omega) (by omega) h, by simp only; omega⟩
        · (try simp (disch := first | omega | (simp only [LN]; omega)) only [↓EC, EW, seval, ↓reduceIte])
          (refine Split.mk (fun h => ?_) (fun h => ?_) <;> (try simp only [SD] at h))
          · rw [isPmB_no (not_isPm (i := i) (by omega) fun hq => absurd (hq.1 (by omega)).1 (by omega))]
          · (try simp (disch := first | omega | (simp only [LN]; omega)) only [↓EC, EW, seval, ↓reduceIte])
            (refine Split.mk (fun h => ?_) (fun h => ?_) <;> (try simp only [SD] at h))
            · rw [isPmB_no (not_isPm (i := i) (by omega) (hm.twice (by omega) (by omega) hb.1 (by omega) h))]
            · (try simp (disch := first | omega | (simp only [LN]; omega)) only [↓EC, EW, seval, ↓reduceIte])
              exact ⟨(i + 1, m.set (gi p i).toNat true), rfl, rfl, hm.put (by omega) (by omega) (by omega) hb.1 (by omega) h, by simp only; omega⟩
      · (try simp (disch := first | omega | (simp only [LN]; omega)) only [↓EC, EW, seval, ↓reduceIte])
        rw [isPmB_yes ⟨by omega, fun j hj => hm.2.2.1 j (by omega)⟩]
abbrev Sr := List Int × List Bool
def visit (y : Int) (s : Sr) : Sr := if gb s.2 y.toNat = true then s else (s.1 ++ [y], s.2.set y.toNat true)
def srStep (p q : List Int) (i : Nat) (s : Sr) : Sr := visit (gi q (gi s.1 i).toNat) (visit (gi p (gi s.1 i).toNat) s)
def srRun (p q : List Int) : Nat → Nat → Sr → Sr
  | 0, _, s => s
  | k + 1, i, s => if i < s.1.length then srRun p q k (i + 1) (srStep p q i s) else s
def sr0 : Sr := ([0], (List.replicate 16 false).set 0 true)
def cntR (p q : List Int) : Nat := (srRun p q 17 0 sr0).1.length
def lo16 (p : List Int) : Prop := p.length = 16 ∧ ∀ i, i < 16 → 0 ≤ gi p i ∧ gi p i < 16
theorem isPm.lo {p : List Int} {n : Int} (hp : okP p) (h : isPm p n) : lo16 p := ⟨hp.1, fun i hi => by
  obtain ⟨h1, h2⟩ := h
  have h3 := h2 i hi
  have := (hp.2 i hi).1
  by_cases h4 : (i : Int) < n
  · have := (h3.1 h4).1; omega
  · have := h3.2 (by omega); omega⟩
structure SrOk (s : Sr) : Prop where
  len : s.2.length = 16
  cnt : s.1.length = s.2.count true
  lo : ∀ j, j < s.1.length → 0 ≤ gi s.1 j ∧ gi s.1 j < 16
theorem SrOk.le {s : Sr} (h : SrOk s) : s.1.length ≤ 16 := by
  rw [h.cnt, ← h.len]; exact List.count_le_length
theorem sr0_ok : SrOk sr0 := ⟨rfl, rfl, fun j hj => by
  have : j = 0 := by simp [sr0] at hj; exact hj
  subst this; decide⟩
theorem visit_ok {s : Sr} (h : SrOk s) {y : Int} (hy : 0 ≤ y ∧ y < 16) : SrOk (visit y s) := by
  unfold visit
  split
  · exact h
  · rename_i hv
    have hl : y.toNat < s.2.length := by rw [h.len]; omega
    refine ⟨by simp [h.len], ?_, fun j hj => ?_⟩
    · have hg : s.2[y.toNat] = false := by
        have := gb_of hl
        rw [← this]; simpa using hv
      simp only [List.length_append, List.length_cons, List.length_nil]
      rw [List.count_set hl, hg, h.cnt]
      simp
    · simp only [List.length_append, List.length_cons, List.length_nil] at hj
      simp only [gi_app]
      split
      · exact h.lo j (by assumption)
      · have : j - s.1.length = 0 := by omega
        rw [this]; exact hy
theorem visit_len {s : Sr} {y : Int} : s.1.length ≤ (visit y s).1.length := by
  unfold visit; split <;> simp
theorem srStep_ok {p q : List Int} (hp : lo16 p) (hq : lo16 q) {s : Sr} (h : SrOk s) {i : Nat} (hi : i < s.1.length) : SrOk (srStep p q i s) := by
  have h0 := h.lo i hi
  exact visit_ok (visit_ok h (hp.2 _ (by omega))) (hq.2 _ (by omega))
theorem srStep_len {p q : List Int} {s : Sr} {i : Nat} : s.1.length ≤ (srStep p q i s).1.length := Nat.le_trans visit_len visit_len
theorem visit_yes {s : Sr} {y : Int} (h : gb s.2 y.toNat = true) : visit y s = s := if_pos h
theorem visit_no {s : Sr} {y : Int} (h : gb s.2 y.toNat = false) : visit y s = (s.1 ++ [y], s.2.set y.toNat true) := if_neg (by simp [h])
theorem c_impl_reached {n : Int} {p q : List Int} (hp : lo16 p) (hq : lo16 q) : PSpec Tryz.prog 60 [.int .i64 n, .sl 2 (vi .u8 (p ++ q))] fun v => v = .int .i64 (cntR p q) := by
  have hl := hp.1
  have hk := hq.1
  refine impl_reached_f.f ?_
  simp (disch := first | omega | (simp only [LN]; omega)) only [↓EC, EW, seval, ↓reduceIte, impl_reached_F]
  refine LP_of (σ := Sr × Nat) 100000 [(69, 58, 1)] (fun s => [.own 5 1 s.1.1.length (vi .u8 s.1.1), .int .i64 s.2]) (fun s => [vb s.1.2])
    (fun s => SrOk s.1 ∧ s.2 ≤ s.1.1.length ∧ srRun p q (17 - s.2) s.2 s.1 = srRun p q 17 0 sr0) (fun s => 17 - s.2) (sr0, 0) (by simp [frameOk, names, lpz, sclp, scv, scvs, nrfs, nrf, FRB]) ⟨sr0_ok, Nat.zero_le _, rfl⟩ ?_ ?_
  · simp (disch := first | omega | (simp only [LN]; omega)) only [↓EC, EW, seval, ↓reduceIte, ColV_def]
    exact ⟨rfl, rfl⟩
  · rintro ⟨⟨l, m⟩, i⟩ ⟨h1, h2, h3⟩
    simp only at h1 h2 h3
    have hm := h1.len
    have hle := h1.le
    simp only at hm hle
    simp (disch := first | omega | (simp only [LN]; omega)) only [↓EC, EW, seval, ↓reduceIte, ColV_def, lheap_def]
    (refine Split.mk (fun h => ?_) (fun h => ?_) <;> (try simp only [SD] at h))
    · have hi : i < l.length := by omega
      have hlo := h1.lo i hi
      simp only at hlo
      have hy1 := hp.2 (gi l i).toNat (by omega)
      have hy2 := hq.2 (gi l i).toNat (by omega)
      have hg : ∀ y, gi (visit y (l, m)).1 i = gi l i := fun y => by
        unfold visit; split
        · rfl
        · simp only [gi_app, if_pos hi]
      refine LP_of (σ := Sr × Nat) 200000 [(69, 58, 1)] (fun s => [.own 5 1 s.1.1.length (vi .u8 s.1.1), .int .i64 s.2]) (fun s => [vb s.1.2])
        (fun s => s.2 ≤ 2 ∧ s.1 = if s.2 = 0 then (l, m) else if s.2 = 1 then visit (gi p (gi l i).toNat) (l, m) else srStep p q i (l, m)) (fun s => 2 - s.2) ((l, m), 0) (by simp [frameOk, names, lpz, sclp, scv, scvs, nrfs, nrf, FRB]) ⟨Nat.zero_le 2, rfl⟩ ?_ ?_
      · simp (disch := first | omega | (simp only [LN]; omega)) only [↓EC, EW, seval, ↓reduceIte, ColV_def]
      · rintro ⟨s, j⟩ ⟨g1, g2⟩
        simp only at g1 g2
        have hs : SrOk s := by
          rw [g2]; split
          · exact h1
          · split
            · exact visit_ok h1 hy1
            · exact srStep_ok hp hq h1 hi
        have hsm := hs.len
        have hsl := hs.le
        have hgs : gi s.1 i = gi l i ∧ i < s.1.length := by
          rw [g2]; split
          · exact ⟨rfl, hi⟩
          · split
            · exact ⟨hg _, Nat.lt_of_lt_of_le hi (visit_len (s := (l, m)))⟩
            · exact ⟨by unfold srStep; rw [visit]; split; exact hg _; simp only [gi_app]; rw [if_pos (Nat.lt_of_lt_of_le hi (visit_len (s := (l, m))))]; exact hg _, Nat.lt_of_lt_of_le hi (srStep_len (s := (l, m)))⟩
        obtain ⟨hgs, hil⟩ := hgs
        simp (disch := first | omega | (simp only [LN]; omega)) only [↓EC, EW, seval, ↓reduceIte, ColV_def, lheap_def]
        (refine Split.mk (fun h => ?_) (fun h => ?_) <;> (try simp only [SD] at h))
        · have hj : j = 0 ∨ j = 1 := by omega
          rcases hj with rfl | rfl
          · (try simp (disch := first | omega | (simp only [LN]; omega)) only [↓EC, EW, seval, ↓reduceIte, hgs, hl, hk])
            rw [if_pos rfl] at g2
            (refine Split.mk (fun h => ?_) (fun h => ?_) <;> (try simp only [SD] at h))
            · exact ⟨(visit (gi p (gi l i).toNat) s, 1), by rw [visit_no h]; simp, by rw [visit_no h], ⟨by simp, by rw [g2]; rfl⟩, by simp⟩
            · exact ⟨(visit (gi p (gi l i).toNat) s, 1), by rw [visit_yes h]; simp, by rw [visit_yes h], ⟨by simp, by rw [g2]; rfl⟩, by simp⟩
          · (try simp (disch := first | omega | (simp only [LN]; omega)) only [↓EC, EW, seval, ↓reduceIte, hgs, hl, hk])
            rw [if_neg (by decide), if_pos rfl] at g2
            (refine Split.mk (fun h => ?_) (fun h => ?_) <;> (try simp only [SD] at h))
            · exact ⟨(visit (gi q (gi l i).toNat) s, 2), by rw [visit_no h]; simp, by rw [visit_no h], ⟨by simp, by rw [g2]; rfl⟩, by simp⟩
            · exact ⟨(visit (gi q (gi l i).toNat) s, 2), by rw [visit_yes h]; simp, by rw [visit_yes h], ⟨by simp, by rw [g2]; rfl⟩, by simp⟩
        · (try simp (disch := first | omega | (simp only [LN]; omega)) only [↓EC, EW, seval, ↓reduceIte])
          rw [if_neg (by omega), if_neg (by omega)] at g2
          refine ⟨(s, i + 1), rfl, rfl, ⟨hs, hil, ?_⟩, by simp only; omega⟩
          rw [show 17 - i = 16 - i + 1 from by omega] at h3
          simp only [srRun, if_pos hi] at h3
          try simp only
          rw [g2, show 17 - (i + 1) = 16 - i from by omega]
          exact h3
    · (try simp (disch := first | omega | (simp only [LN]; omega)) only [↓EC, EW, seval, ↓reduceIte])
      unfold cntR
      rw [← h3, show 17 - i = 16 - i + 1 from by omega]
      simp only [srRun]
      rw [if_neg (by omega)]
theorem c_spec_l01Connected {n : Int} {p q : List Int} (hp : lo16 p) (hq : lo16 q) : PSpec Tryz.prog 66 [.int .i64 n, .agg (vi .u8 p), .agg (vi .u8 q)] fun v => v = .bool (decide ((cntR p q : Int) = n)) := by
  have hl := hp.1
  have hk := hq.1
  refine spec_l01Connected_f.f ?_
  simp (disch := first | omega | (simp only [LN]; omega)) only [↓EC, EW, seval, ↓reduceIte, spec_l01Connected_F]
  refine LP_of (σ := Sr × Nat) 100000 [(68, 25, 1), (69, 25, 1), (71, 58, 1)] (fun s => [.own 5 1 s.1.1.length (vi .u8 s.1.1), .int .i64 s.2]) (fun s => [vi .u8 p, vi .u8 q, vb s.1.2])
    (fun s => SrOk s.1 ∧ s.2 ≤ s.1.1.length ∧ srRun p q (17 - s.2) s.2 s.1 = srRun p q 17 0 sr0) (fun s => 17 - s.2) (sr0, 0) (by simp [frameOk, names, lpz, sclp, scv, scvs, nrfs, nrf, FRB]) ⟨sr0_ok, Nat.zero_le _, rfl⟩ ?_ ?_
  · simp (disch := first | omega | (simp only [LN]; omega)) only [↓EC, EW, seval, ↓reduceIte, ColV_def]
    exact ⟨rfl, rfl⟩
  · rintro ⟨⟨l, m⟩, i⟩ ⟨h1, h2, h3⟩
    simp only at h1 h2 h3
    have hm := h1.len
    have hle := h1.le
    simp only at hm hle
    simp (disch := first | omega | (simp only [LN]; omega)) only [↓EC, EW, seval, ↓reduceIte, ColV_def, lheap_def]
    (refine Split.mk (fun h => ?_) (fun h => ?_) <;> (try simp only [SD] at h))
    · have hi : i < l.length := by omega
      have hlo := h1.lo i hi
      simp only at hlo
      have hy1 := hp.2 (gi l i).toNat (by omega)
      have hy2 := hq.2 (gi l i).toNat (by omega)
      (try simp (disch := first | omega | (simp only [LN]; omega)) only [↓EC, EW, seval, ↓reduceIte])
      refine LP_of (σ := Sr × Nat) 200000 [(68, 25, 1), (69, 25, 1), (71, 58, 1), (97, 5, 1)] (fun s => [.own 5 1 s.1.1.length (vi .u8 s.1.1), .int .i64 s.2])
        (fun s => [vi .u8 p, vi .u8 q, vb s.1.2, vi .u8 [gi p (gi l i).toNat, gi q (gi l i).toNat]])
        (fun s => s.2 ≤ 2 ∧ s.1 = if s.2 = 0 then (l, m) else if s.2 = 1 then visit (gi p (gi l i).toNat) (l, m) else srStep p q i (l, m)) (fun s => 2 - s.2) ((l, m), 0) (by simp [frameOk, names, lpz, sclp, scv, scvs, nrfs, nrf, FRB]) ⟨Nat.zero_le 2, rfl⟩ ?_ ?_
      · simp (disch := first | omega | (simp only [LN]; omega)) only [↓EC, EW, seval, ↓reduceIte, ColV_def]
        rfl
      · rintro ⟨s, j⟩ ⟨g1, g2⟩
        simp only at g1 g2
        have hs : SrOk s := by
          rw [g2]; split
          · exact h1
          · split
            · exact visit_ok h1 hy1
            · exact srStep_ok hp hq h1 hi
        have hil : i < s.1.length := by
          rw [g2]; split
          · exact hi
          · split
            · exact Nat.lt_of_lt_of_le hi (visit_len (s := (l, m)))
            · exact Nat.lt_of_lt_of_le hi (srStep_len (s := (l, m)))
        have hsm := hs.len
        have hsl := hs.le
        simp (disch := first | omega | (simp only [LN]; omega)) only [↓EC, EW, seval, ↓reduceIte, ColV_def, lheap_def]
        (refine Split.mk (fun h => ?_) (fun h => ?_) <;> (try simp only [SD] at h))
        · have hj : j = 0 ∨ j = 1 := by omega
          rcases hj with rfl | rfl
          · (try simp (disch := first | omega | (simp only [LN]; omega)) only [↓EC, EW, seval, ↓reduceIte, hl, hk])
            rw [if_pos rfl] at g2
            (refine Split.mk (fun h => ?_) (fun h => ?_) <;> (try simp only [SD] at h))
            · exact ⟨(visit (gi p (gi l i).toNat) s, 1), by rw [visit_no h]; simp, by rw [visit_no h], ⟨by simp, by rw [g2]; rfl⟩, by simp⟩
            · exact ⟨(visit (gi p (gi l i).toNat) s, 1), by rw [visit_yes h]; simp, by rw [visit_yes h], ⟨by simp, by rw [g2]; rfl⟩, by simp⟩
          · (try simp (disch := first | omega | (simp only [LN]; omega)) only [↓EC, EW, seval, ↓reduceIte, hl, hk])
            rw [if_neg (by decide), if_pos rfl] at g2
            (refine Split.mk (fun h => ?_) (fun h => ?_) <;> (try simp only [SD] at h))
            · exact ⟨(visit (gi q (gi l i).toNat) s, 2), by rw [visit_no h]; simp, by rw [visit_no h], ⟨by simp, by rw [g2]; rfl⟩, by simp⟩
            · exact ⟨(visit (gi q (gi l i).toNat) s, 2), by rw [visit_yes h]; simp, by rw [visit_yes h], ⟨by simp, by rw [g2]; rfl⟩, by simp⟩
        · (try simp (disch := first | omega | (simp only [LN]; omega)) only [↓EC, EW, seval, ↓reduceIte])
          rw [if_neg (by omega), if_neg (by omega)] at g2
          refine ⟨(s, i + 1), rfl, rfl, ⟨hs, hil, ?_⟩, by simp only; omega⟩
          rw [show 17 - i = 16 - i + 1 from by omega] at h3
          simp only [srRun, if_pos hi] at h3
          try simp only
          rw [g2, show 17 - (i + 1) = 16 - i from by omega]
          exact h3
    · (try simp (disch := first | omega | (simp only [LN]; omega)) only [↓EC, EW, seval, ↓reduceIte])
      have : cntR p q = l.length := by
        unfold cntR
        rw [← h3, show 17 - i = 16 - i + 1 from by omega]
        simp only [srRun]
        rw [if_neg (by omega)]
      rw [this, V.bool.injEq]
      grind
noncomputable def isDB (n : Int) (b w : List Int) : Bool := isPmB b n && isPmB w n && decide ((cntR b w : Int) = n)
structure isD (n : Int) (b w : List Int) : Prop where
  pb : isPm b n
  pw : isPm w n
  cn : (cntR b w : Int) = n
theorem isDB_iff {n : Int} {b w : List Int} : isDB n b w = true ↔ isD n b w := by
  simp only [isDB, Bool.and_eq_true, isPmB_iff, decide_eq_true_eq]
  exact ⟨fun ⟨⟨h1, h2⟩, h3⟩ => ⟨h1, h2, h3⟩, fun ⟨h1, h2, h3⟩ => ⟨⟨h1, h2⟩, h3⟩⟩
theorem c_impl_IsDessin {n : Int} {b w : List Int} (hb : okP b) (hw : okP w) : PSpec Tryz.prog 31 [vD n b w] fun v => v = .bool (isDB n b w) := by
  have hl := hb.len
  have hk := hw.len
  refine impl_IsDessin_f.f ?_
  unfold vD isDB
  simp (disch := first | omega | (simp only [LN]; omega)) only [↓EC, EW, seval, ↓reduceIte, impl_IsDessin_F, hl, hk]
  refine pcd_v (c_impl_IsPermutation hb) ?_
  (try simp (disch := first | omega | (simp only [LN]; omega)) only [↓EC, EW, seval, ↓reduceIte, hl, hk])
  (refine Split.mk (fun h => ?_) (fun h => ?_) <;> (try simp only [SD] at h))
  · refine pcd_v (c_impl_IsPermutation hw) ?_
    (try simp (disch := first | omega | (simp only [LN]; omega)) only [↓EC, EW, seval, ↓reduceIte, hl, hk])
    (refine Split.mk (fun h => ?_) (fun h => ?_) <;> (try simp only [SD] at h))
    · refine pcd_v (c_impl_reached ((isPmB_iff.1 (by assumption)).lo hb) ((isPmB_iff.1 (by assumption)).lo hw)) ?_
      (try simp (disch := first | omega | (simp only [LN]; omega)) only [↓EC, EW, seval, ↓reduceIte])
      simp_all
      try grind
    · simp_all
  · simp_all
theorem c_spec_l01Is {n : Int} {b w : List Int} (hb : okP b) (hw : okP w) : PSpec Tryz.prog 34 [vD n b w] fun v => v = .bool (isDB n b w) := by
  have hl := hb.len
  have hk := hw.len
  refine spec_l01Is_f.f ?_
  unfold vD isDB
  simp (disch := first | omega | (simp only [LN]; omega)) only [↓EC, EW, seval, ↓reduceIte, spec_l01Is_F, hl, hk]
  refine pcd_v (c_spec_l01Perm hb) ?_
  (try simp (disch := first | omega | (simp only [LN]; omega)) only [↓EC, EW, seval, ↓reduceIte, hl, hk])
  (refine Split.mk (fun h => ?_) (fun h => ?_) <;> (try simp only [SD] at h))
  · refine pcd_v (c_spec_l01Perm hw) ?_
    (try simp (disch := first | omega | (simp only [LN]; omega)) only [↓EC, EW, seval, ↓reduceIte, hl, hk])
    (refine Split.mk (fun h => ?_) (fun h => ?_) <;> (try simp only [SD] at h))
    · refine pcd_v (c_spec_l01Connected ((isPmB_iff.1 (by assumption)).lo hb) ((isPmB_iff.1 (by assumption)).lo hw)) ?_
      (try simp (disch := first | omega | (simp only [LN]; omega)) only [↓EC, EW, seval, ↓reduceIte])
      simp_all
      try grind
    · simp_all
  · simp_all
end
section
def rngB (l : List Int) (lo hi : Int) : Bool := l.all fun a => decide (lo ≤ a ∧ a ≤ hi)
theorem c_spec_l09List {l : List Int} {n lo hi : Int} (hl : l.length ≤ 1048576) : PSpec Tryz.prog 76 [.sl l.length (vi .i64 l), .int .i64 n, .int .i64 lo, .int .i64 hi] fun v => v = .bool (rngB l lo hi && decide ((l.length : Int) = n)) := by
  refine spec_l09List_f.f ?_
  simp (disch := first | omega | (simp only [LN]; omega)) only [↓EC, EW, seval, ↓reduceIte, spec_l09List_F]
  refine LP_of (σ := Nat) 100000 [] (fun s => [.int .i64 s]) (fun s => [])
    (fun s => s ≤ l.length ∧ ∀ j, j < s → lo ≤ gi l j ∧ gi l j ≤ hi) (fun s => l.length - s) 0 (by simp [frameOk, names, lpz, sclp, scv, scvs, nrfs, nrf, FRB]) ⟨Nat.zero_le _, fun j hj => absurd hj (Nat.not_lt_zero j)⟩ ?_ ?_
  · simp (disch := first | omega | (simp only [LN]; omega)) only [↓EC, EW, seval, ↓reduceIte, ColV_def]
  · rintro i ⟨h1, h2⟩
    simp (disch := first | omega | (simp only [LN]; omega)) only [↓EC, EW, seval, ↓reduceIte, ColV_def, lheap_def]
    (refine Split.mk (fun h => ?_) (fun h => ?_) <;> (try simp only [SD] at h))
    · (try simp (disch := first | omega | (simp only [LN]; omega)) only [↓EC, EW, seval, ↓reduceIte])
      (refine pcd_v (c_spec_l01In) ?_; (try simp (disch := first | omega | (simp only [LN]; omega)) only [↓EC, EW, seval, ↓reduceIte]))
      (refine Split.mk (fun h => ?_) (fun h => ?_) <;> (try simp only [SD] at h))
      · rw [eq_comm, V.bool.injEq, Bool.and_eq_false_iff]
        left
        cases ha : rngB l lo hi with
        | false => rfl
        | true => exact absurd (by simpa [gi] using (all_getD (d := 0)).1 ha i (by omega)) h
      · (try simp (disch := first | omega | (simp only [LN]; omega)) only [↓EC, EW, seval, ↓reduceIte])
        refine ⟨i + 1, rfl, ⟨by omega, fun j hj => ?_⟩, by omega⟩
        by_cases e : j = i
        · subst e; exact h
        · exact h2 j (by omega)
    · have : rngB l lo hi = true := (all_getD (d := 0)).2 fun j hj => by simpa [gi] using h2 j (by omega)
      rw [this, Bool.true_and, V.bool.injEq]
      grind
end
section
theorem gl_mem {ls : List (List Int)} {i : Nat} (hi : i < ls.length) : gl ls i ∈ ls := by
  simp only [gl, List.getD, hi, List.getElem?_eq_getElem, Option.getD_some]; exact List.getElem_mem hi
theorem take_gl {ls : List (List Int)} {i : Nat} (hi : i < ls.length) : ls.take (i + 1) = ls.take i ++ [gl ls i] := by
  rw [List.take_add_one]; simp [gl, List.getD, hi]
end
section
def iota (k : Int) (n : Nat) : List Int := (List.range n).map fun j : Nat => k + (j : Int)
theorem iota_len {k : Int} {n : Nat} : (iota k n).length = n := by simp [iota]
theorem iota_at {k : Int} {n j : Nat} (h : j < n) : gi (iota k n) j = k + j := by
  rw [gi_of (by rw [iota_len]; exact h)]; simp [iota]
end
section

end
section
theorem count_false_lt {m : List Bool} {k : Nat} (h : gb m k = false) (hk : k < m.length) : (m.set k true).count false < m.count false := by
  rw [List.count_set hk]
  have hg : m[k] = false := by rw [← gb_of hk]; exact h
  have : 0 < m.count false := List.count_pos_iff.2 (by rw [← hg]; exact List.getElem_mem hk)
  rw [hg]; simp; omega
def cycF (p : List Int) (k : Int) (m : List Bool) (acc : List Int) : List Bool × List Int :=
  if h : gb m k.toNat = false ∧ k.toNat < m.length then cycF p (gi p k.toNat) (m.set k.toNat true) (acc ++ [k]) else (m, acc)
termination_by m.count false
decreasing_by exact count_false_lt h.1 h.2
theorem cycF_go {p : List Int} {k : Int} {m : List Bool} {acc : List Int} (h : gb m k.toNat = false) (hk : k.toNat < m.length) : cycF p k m acc = cycF p (gi p k.toNat) (m.set k.toNat true) (acc ++ [k]) := by
  rw [cycF, dif_pos ⟨h, hk⟩]
theorem cycF_end {p : List Int} {k : Int} {m : List Bool} {acc : List Int} (h : gb m k.toNat = true) : cycF p k m acc = (m, acc) := by
  rw [cycF, dif_neg (fun h' => by rw [h] at h'; cases h'.1)]
theorem cycF_len {p : List Int} : ∀ (c : Nat) {k : Int} {m : List Bool} {acc : List Int}, m.count false = c → (cycF p k m acc).1.length = m.length ∧ acc.length ≤ (cycF p k m acc).2.length ∧ (cycF p k m acc).2.length + (cycF p k m acc).1.count false = acc.length + m.count false := by
  intro c
  induction c using Nat.strongRecOn with
  | ind c ih =>
    intro k m acc hc
    by_cases h : gb m k.toNat = false ∧ k.toNat < m.length
    · rw [cycF_go h.1 h.2]
      have hlt := count_false_lt h.1 h.2
      obtain ⟨h1, h2, h3⟩ := @ih _ (by omega) (gi p k.toNat) (m.set k.toNat true) (acc ++ [k]) rfl
      have hcs : (m.set k.toNat true).count false + 1 = m.count false := by
        rw [List.count_set h.2] at hlt ⊢
        have hg : m[k.toNat] = false := by rw [← gb_of h.2]; exact h.1
        rw [hg] at hlt ⊢; simp at hlt ⊢; omega
      refine ⟨by simpa using h1, by simp at h2; omega, by simp at h3; omega⟩
    · rw [cycF, dif_neg h]; exact ⟨rfl, Nat.le_refl _, rfl⟩
def cycO (p : List Int) : Nat → List Bool × List (List Int)
  | 0 => (List.replicate 16 false, [])
  | i + 1 => if gb (cycO p i).1 i = true then cycO p i else ((cycF p i (cycO p i).1 []).1, (cycO p i).2 ++ [(cycF p i (cycO p i).1 []).2])
def cyc (p : List Int) (n : Int) : List (List Int) := (cycO p n.toNat).2
theorem cycO_len {p : List Int} : ∀ i : Nat, (cycO p i).1.length = 16 ∧ (cycO p i).2.length ≤ i
  | 0 => by simp [cycO]
  | i + 1 => by
    obtain ⟨h1, h2⟩ := cycO_len (p := p) i
    simp only [cycO]
    split
    · exact ⟨h1, by omega⟩
    · exact ⟨(cycF_len _ rfl).1.trans h1, by simp; omega⟩
theorem cycO_yes {p : List Int} {i : Nat} (h : gb (cycO p i).1 i = true) : cycO p (i + 1) = cycO p i := by simp only [cycO, if_pos h]
theorem cycO_no {p : List Int} {i : Nat} (h : gb (cycO p i).1 i = false) : cycO p (i + 1) = ((cycF p i (cycO p i).1 []).1, (cycO p i).2 ++ [(cycF p i (cycO p i).1 []).2]) := by
  simp only [cycO]; rw [if_neg (by rw [h]; decide)]
theorem c_impl_cycles {p : List Int} {n : Int} (hp : lo16 p) (hn : 1 ≤ n ∧ n ≤ 16) : PSpec Tryz.prog 37 [.agg (vi .u8 p), .int .i64 n] fun v => v = .own 32 1 (cyc p n).length (vo 2 (cyc p n)) := by
  have hl := hp.1
  refine impl_cycles_f.f ?_
  simp (disch := first | omega | (simp only [LN]; omega)) only [↓EC, EW, seval, ↓reduceIte, impl_cycles_F, hl]
  refine LP_ofE (σ := Nat) [1, 1] 100000 [(66, 25, 1), (70, 58, 1)] (fun i => [.own 32 1 (cycO p i).2.length (vo 2 (cycO p i).2), .int .i64 i]) (fun i => [vi .u8 p, vb (cycO p i).1])
    (fun i => (i : Int) ≤ n) (fun i => (n - i).toNat) 0 (by simp [frameOk, names, lpz, sclp, scv, scvs, nrfs, nrf, FRB]) (by simp only [Int.natCast_zero]; omega) ?_ ?_
  · simp (disch := first | omega | (simp only [LN]; omega)) only [↓EC, EW, seval, ↓reduceIte, ColV_def]
    exact ⟨fun _ => trivial, rfl, rfl⟩
  · rintro i hi
    obtain ⟨h1, h2⟩ := cycO_len (p := p) i
    simp (disch := first | omega | (simp only [LN]; omega)) only [↓EC, EW, seval, ↓reduceIte, ColV_def, lheap_def]
    (refine Split.mk (fun h => ?_) (fun h => ?_) <;> (try simp only [SD] at h))
    · (try simp (disch := first | omega | (simp only [LN]; omega)) only [↓EC, EW, seval, ↓reduceIte])
      (refine Split.mk (fun h => ?_) (fun h => ?_) <;> (try simp only [SD] at h))
      · (try simp (disch := first | omega | (simp only [LN]; omega)) only [↓EC, EW, seval, ↓reduceIte])
        exact ⟨i + 1, by rw [cycO_yes h]; rfl, by rw [cycO_yes h], by omega, by omega⟩
      · have hg := h
        (try simp (disch := first | omega | (simp only [LN]; omega)) only [↓EC, EW, seval, ↓reduceIte])
        refine LP_ofE (σ := List Bool × List Int × Int) [1, 1] 200000 [(66, 25, 1), (70, 58, 1), (100000, 32, 1)] (fun s => [.own 2 1 s.2.1.length (vi .i64 s.2.1), .int .i64 s.2.2])
          (fun s => [vi .u8 p, vb s.1, vo 2 (cycO p i).2])
          (fun s => s.1.length = 16 ∧ (0 ≤ s.2.2 ∧ s.2.2 < 16) ∧ s.2.1.length + s.1.count false ≤ 16 ∧ cycF p s.2.2 s.1 s.2.1 = cycF p i (cycO p i).1 []) (fun s => s.1.count false) ((cycO p i).1, [], (i : Int)) (by simp [frameOk, names, lpz, sclp, scv, scvs, nrfs, nrf, FRB])
          ⟨h1, ⟨by simp only; omega, by simp only; omega⟩, by have := List.count_le_length (a := false) (l := (cycO p i).1); simp; omega, rfl⟩ ?_ ?_
        · simp (disch := first | omega | (simp only [LN]; omega)) only [↓EC, EW, seval, ↓reduceIte, ColV_def]
          exact ⟨fun _ => trivial, trivial⟩
        · rintro ⟨m, acc, k⟩ ⟨g1, g2, g3, g4⟩
          simp only at g1 g2 g3 g4
          have hpk := hp.2 k.toNat (by omega)
          simp (disch := first | omega | (simp only [LN]; omega)) only [↓EC, EW, seval, ↓reduceIte, ColV_def, lheap_def]
          (refine Split.mk (fun h => ?_) (fun h => ?_) <;> (try simp only [SD] at h))
          · have hlt := count_false_lt h (by omega)
            (try simp (disch := first | omega | (simp only [LN]; omega)) only [↓EC, EW, seval, ↓reduceIte, hl])
            exact ⟨(m.set k.toNat true, acc ++ [k], gi p k.toNat), by simp, rfl, ⟨by simpa using g1, hpk, by simp only [List.length_append, List.length_cons, List.length_nil]; omega, by rw [← g4]; exact (cycF_go h (by omega)).symm⟩, hlt⟩
          · (try simp (disch := first | omega | (simp only [LN]; omega)) only [↓EC, EW, seval, ↓reduceIte])
            have he := cycO_no hg
            rw [← g4, cycF_end h] at he
            exact ⟨i + 1, by rw [he]; simp, by rw [he], by omega, by omega⟩
    · (try simp (disch := first | omega | (simp only [LN]; omega)) only [↓EC, EW, seval, ↓reduceIte])
      have : i = n.toNat := by omega
      subst this
      rfl
theorem c_spec_l01Cycles {p : List Int} {n : Int} (hp : lo16 p) (hn : 1 ≤ n ∧ n ≤ 16) : PSpec Tryz.prog 39 [.agg (vi .u8 p), .int .i64 n] fun v => v = .own 32 1 (cyc p n).length (vo 2 (cyc p n)) := by
  have hl := hp.1
  refine spec_l01Cycles_f.f ?_
  simp (disch := first | omega | (simp only [LN]; omega)) only [↓EC, EW, seval, ↓reduceIte, spec_l01Cycles_F, hl]
  refine LP_ofE (σ := Nat) [1, 1] 100000 [(66, 25, 1), (70, 58, 1)] (fun i => [.own 32 1 (cycO p i).2.length (vo 2 (cycO p i).2), .int .i64 i]) (fun i => [vi .u8 p, vb (cycO p i).1])
    (fun i => (i : Int) ≤ n) (fun i => (n - i).toNat) 0 (by simp [frameOk, names, lpz, sclp, scv, scvs, nrfs, nrf, FRB]) (by simp only [Int.natCast_zero]; omega) ?_ ?_
  · simp (disch := first | omega | (simp only [LN]; omega)) only [↓EC, EW, seval, ↓reduceIte, ColV_def]
    exact ⟨fun _ => trivial, rfl, rfl⟩
  · rintro i hi
    obtain ⟨h1, h2⟩ := cycO_len (p := p) i
    simp (disch := first | omega | (simp only [LN]; omega)) only [↓EC, EW, seval, ↓reduceIte, ColV_def, lheap_def]
    (refine Split.mk (fun h => ?_) (fun h => ?_) <;> (try simp only [SD] at h))
    · (try simp (disch := first | omega | (simp only [LN]; omega)) only [↓EC, EW, seval, ↓reduceIte])
      refine LP_ofE (σ := List Bool × List Int × Int) [1, 1] 200000 [(66, 25, 1), (70, 58, 1), (100000, 32, 1)] (fun s => [.own 2 1 s.2.1.length (vi .i64 s.2.1), .int .i64 s.2.2])
        (fun s => [vi .u8 p, vb s.1, vo 2 (cycO p i).2])
        (fun s => s.1.length = 16 ∧ (0 ≤ s.2.2 ∧ s.2.2 < 16) ∧ s.2.1.length + s.1.count false ≤ 16 ∧ cycF p s.2.2 s.1 s.2.1 = cycF p i (cycO p i).1 []) (fun s => s.1.count false) ((cycO p i).1, [], (i : Int)) (by simp [frameOk, names, lpz, sclp, scv, scvs, nrfs, nrf, FRB])
        ⟨h1, ⟨by simp only; omega, by simp only; omega⟩, by have := List.count_le_length (a := false) (l := (cycO p i).1); simp; omega, rfl⟩ ?_ ?_
      · simp (disch := first | omega | (simp only [LN]; omega)) only [↓EC, EW, seval, ↓reduceIte, ColV_def]
        exact ⟨fun _ => trivial, trivial⟩
      · rintro ⟨m, acc, k⟩ ⟨g1, g2, g3, g4⟩
        simp only at g1 g2 g3 g4
        have hpk := hp.2 k.toNat (by omega)
        simp (disch := first | omega | (simp only [LN]; omega)) only [↓EC, EW, seval, ↓reduceIte, ColV_def, lheap_def]
        (refine Split.mk (fun h => ?_) (fun h => ?_) <;> (try simp only [SD] at h))
        · have hlt := count_false_lt h (by omega)
          (try simp (disch := first | omega | (simp only [LN]; omega)) only [↓EC, EW, seval, ↓reduceIte, hl])
          exact ⟨(m.set k.toNat true, acc ++ [k], gi p k.toNat), by simp, rfl, ⟨by simpa using g1, hpk, by simp only [List.length_append, List.length_cons, List.length_nil]; omega, by rw [← g4]; exact (cycF_go h (by omega)).symm⟩, hlt⟩
        · rw [cycF_end h] at g4
          (try simp (disch := first | omega | (simp only [LN]; omega)) only [↓EC, EW, seval, ↓reduceIte])
          (refine Split.mk (fun h => ?_) (fun h => ?_) <;> (try simp only [SD] at h))
          · (try simp (disch := first | omega | (simp only [LN]; omega)) only [↓EC, EW, seval, ↓reduceIte])
            have hg : gb (cycO p i).1 i = false := by
              cases hgb : gb (cycO p i).1 i with
              | false => rfl
              | true =>
                rw [cycF_end (k := (i : Int)) (by simpa using hgb)] at g4
                simp only [Prod.mk.injEq] at g4
                rw [g4.2] at h
                simp at h
            have he := cycO_no hg
            rw [← g4] at he
            exact ⟨i + 1, by rw [he]; simp, by rw [he], by omega, by omega⟩
          · (try simp (disch := first | omega | (simp only [LN]; omega)) only [↓EC, EW, seval, ↓reduceIte])
            have hg : gb (cycO p i).1 i = true := by
              cases hgb : gb (cycO p i).1 i with
              | true => rfl
              | false =>
                rw [cycF_go (k := (i : Int)) (by simpa using hgb) (by simp only [Int.toNat_natCast]; omega)] at g4
                have := (cycF_len (p := p) _ (k := gi p (i : Int).toNat) (m := (cycO p i).1.set (i : Int).toNat true) (acc := [] ++ [(i : Int)]) rfl).2.1
                rw [← g4] at this
                simp at this
                omega
            have he := cycO_yes hg
            rw [cycF_end (k := (i : Int)) (by simpa using hg)] at g4
            simp only [Prod.mk.injEq] at g4
            exact ⟨i + 1, by rw [he]; rfl, by rw [he, g4.1], by omega, by omega⟩
    · (try simp (disch := first | omega | (simp only [LN]; omega)) only [↓EC, EW, seval, ↓reduceIte])
      have : i = n.toNat := by omega
      subst this
      rfl
end
section
def putL (f : Nat → Nat × Int) : Nat → List Int
  | 0 => List.replicate 16 0
  | i + 1 => (putL f i).set (f i).1 (f i).2
theorem putL_len (f : Nat → Nat × Int) : ∀ i, (putL f i).length = 16
  | 0 => by simp [putL]
  | i + 1 => by simp [putL, putL_len f i]
def sameF (i : Nat) : Nat × Int := (i, i)
def thenF (p q : List Int) (i : Nat) : Nat × Int := (i, gi q (gi p i).toNat)
def backF (p : List Int) (i : Nat) : Nat × Int := ((gi p i).toNat, i)
theorem c_spec_l01Same {n : Int}  (hn : 1 ≤ n ∧ n ≤ 16) : PSpec Tryz.prog 81 [.int .i64 n] fun v => v = .agg (vi .u8 (putL (sameF) n.toNat)) := by
  refine spec_l01Same_f.f ?_
  simp (disch := first | omega | (simp only [LN]; omega)) only [↓EC, EW, seval, ↓reduceIte, spec_l01Same_F]
  refine LP_of (σ := Nat) 100000 [(66, 25, 1), (67, 25, 1)] (fun s => [.int .i64 s]) (fun s => [vi .u8 (List.replicate 16 0), vi .u8 (putL (sameF) s)])
    (fun s => (s : Int) ≤ n) (fun s => (n - s).toNat) 0 (by simp [frameOk, names, lpz, sclp, scv, scvs, nrfs, nrf, FRB]) (by simp only [Int.natCast_zero]; omega) ?_ ?_
  · simp (disch := first | omega | (simp only [LN]; omega)) only [↓EC, EW, seval, ↓reduceIte, ColV_def]
    rfl
  · rintro i h1
    have hlf := putL_len (sameF) i
    simp (disch := first | omega | (simp only [LN]; omega)) only [↓EC, EW, seval, ↓reduceIte, ColV_def, lheap_def]
    (refine Split.mk (fun h => ?_) (fun h => ?_) <;> (try simp only [SD] at h))
    · skip
      (try simp (disch := first | omega | (simp only [LN]; omega)) only [↓EC, EW, seval, ↓reduceIte])
      exact ⟨i + 1, rfl, rfl, by omega, by omega⟩
    · (try simp (disch := first | omega | (simp only [LN]; omega)) only [↓EC, EW, seval, ↓reduceIte])
      rw [show i = n.toNat from by omega]
theorem c_impl_then {p q : List Int} {n : Int} (hp : lo16 p) (hq : lo16 q) (hn : 1 ≤ n ∧ n ≤ 16) : PSpec Tryz.prog 71 [.agg (vi .u8 p), .agg (vi .u8 q), .int .i64 n] fun v => v = .agg (vi .u8 (putL (thenF p q) n.toNat)) := by
  refine impl_then_f.f ?_
  simp (disch := first | omega | (simp only [LN]; omega)) only [↓EC, EW, seval, ↓reduceIte, impl_then_F]
  refine LP_of (σ := Nat) 100000 [(67, 25, 1), (68, 25, 1), (70, 25, 1), (71, 25, 1)] (fun s => [.int .i64 s]) (fun s => [vi .u8 p, vi .u8 q, vi .u8 (List.replicate 16 0), vi .u8 (putL (thenF p q) s)])
    (fun s => (s : Int) ≤ n) (fun s => (n - s).toNat) 0 (by simp [frameOk, names, lpz, sclp, scv, scvs, nrfs, nrf, FRB]) (by simp only [Int.natCast_zero]; omega) ?_ ?_
  · simp (disch := first | omega | (simp only [LN]; omega)) only [↓EC, EW, seval, ↓reduceIte, ColV_def]
    rfl
  · rintro i h1
    have hlf := putL_len (thenF p q) i
    simp (disch := first | omega | (simp only [LN]; omega)) only [↓EC, EW, seval, ↓reduceIte, ColV_def, lheap_def]
    (refine Split.mk (fun h => ?_) (fun h => ?_) <;> (try simp only [SD] at h))
    · have a1 := hp.2 i (by omega)
      have a2 := hp.1
      have a3 := hq.1
      have a4 := hq.2 (gi p i).toNat (by omega)
      (try simp (disch := first | omega | (simp only [LN]; omega)) only [↓EC, EW, seval, ↓reduceIte])
      exact ⟨i + 1, rfl, rfl, by omega, by omega⟩
    · (try simp (disch := first | omega | (simp only [LN]; omega)) only [↓EC, EW, seval, ↓reduceIte])
      rw [show i = n.toNat from by omega]
theorem c_spec_l01Then {p q : List Int} {n : Int} (hp : lo16 p) (hq : lo16 q) (hn : 1 ≤ n ∧ n ≤ 16) : PSpec Tryz.prog 72 [.agg (vi .u8 p), .agg (vi .u8 q), .int .i64 n] fun v => v = .agg (vi .u8 (putL (thenF p q) n.toNat)) := by
  refine spec_l01Then_f.f ?_
  simp (disch := first | omega | (simp only [LN]; omega)) only [↓EC, EW, seval, ↓reduceIte, spec_l01Then_F]
  refine LP_of (σ := Nat) 100000 [(67, 25, 1), (68, 25, 1), (70, 25, 1), (71, 25, 1)] (fun s => [.int .i64 s]) (fun s => [vi .u8 p, vi .u8 q, vi .u8 (List.replicate 16 0), vi .u8 (putL (thenF p q) s)])
    (fun s => (s : Int) ≤ n) (fun s => (n - s).toNat) 0 (by simp [frameOk, names, lpz, sclp, scv, scvs, nrfs, nrf, FRB]) (by simp only [Int.natCast_zero]; omega) ?_ ?_
  · simp (disch := first | omega | (simp only [LN]; omega)) only [↓EC, EW, seval, ↓reduceIte, ColV_def]
    rfl
  · rintro i h1
    have hlf := putL_len (thenF p q) i
    simp (disch := first | omega | (simp only [LN]; omega)) only [↓EC, EW, seval, ↓reduceIte, ColV_def, lheap_def]
    (refine Split.mk (fun h => ?_) (fun h => ?_) <;> (try simp only [SD] at h))
    · have a1 := hp.2 i (by omega)
      have a2 := hp.1
      have a3 := hq.1
      have a4 := hq.2 (gi p i).toNat (by omega)
      (try simp (disch := first | omega | (simp only [LN]; omega)) only [↓EC, EW, seval, ↓reduceIte])
      exact ⟨i + 1, rfl, rfl, by omega, by omega⟩
    · (try simp (disch := first | omega | (simp only [LN]; omega)) only [↓EC, EW, seval, ↓reduceIte])
      rw [show i = n.toNat from by omega]
theorem c_impl_back {p : List Int} {n : Int} (hp : lo16 p) (hn : 1 ≤ n ∧ n ≤ 16) : PSpec Tryz.prog 63 [.agg (vi .u8 p), .int .i64 n] fun v => v = .agg (vi .u8 (putL (backF p) n.toNat)) := by
  refine impl_back_f.f ?_
  simp (disch := first | omega | (simp only [LN]; omega)) only [↓EC, EW, seval, ↓reduceIte, impl_back_F]
  refine LP_of (σ := Nat) 100000 [(66, 25, 1), (68, 25, 1), (69, 25, 1)] (fun s => [.int .i64 s]) (fun s => [vi .u8 p, vi .u8 (List.replicate 16 0), vi .u8 (putL (backF p) s)])
    (fun s => (s : Int) ≤ n) (fun s => (n - s).toNat) 0 (by simp [frameOk, names, lpz, sclp, scv, scvs, nrfs, nrf, FRB]) (by simp only [Int.natCast_zero]; omega) ?_ ?_
  · simp (disch := first | omega | (simp only [LN]; omega)) only [↓EC, EW, seval, ↓reduceIte, ColV_def]
    rfl
  · rintro i h1
    have hlf := putL_len (backF p) i
    simp (disch := first | omega | (simp only [LN]; omega)) only [↓EC, EW, seval, ↓reduceIte, ColV_def, lheap_def]
    (refine Split.mk (fun h => ?_) (fun h => ?_) <;> (try simp only [SD] at h))
    · have a1 := hp.2 i (by omega)
      have a2 := hp.1
      (try simp (disch := first | omega | (simp only [LN]; omega)) only [↓EC, EW, seval, ↓reduceIte])
      exact ⟨i + 1, rfl, rfl, by omega, by omega⟩
    · (try simp (disch := first | omega | (simp only [LN]; omega)) only [↓EC, EW, seval, ↓reduceIte])
      rw [show i = n.toNat from by omega]
theorem c_spec_l01Back {p : List Int} {n : Int} (hp : lo16 p) (hn : 1 ≤ n ∧ n ≤ 16) : PSpec Tryz.prog 68 [.agg (vi .u8 p), .int .i64 n] fun v => v = .agg (vi .u8 (putL (backF p) n.toNat)) := by
  refine spec_l01Back_f.f ?_
  simp (disch := first | omega | (simp only [LN]; omega)) only [↓EC, EW, seval, ↓reduceIte, spec_l01Back_F]
  refine LP_of (σ := Nat) 100000 [(66, 25, 1), (68, 25, 1), (69, 25, 1)] (fun s => [.int .i64 s]) (fun s => [vi .u8 p, vi .u8 (List.replicate 16 0), vi .u8 (putL (backF p) s)])
    (fun s => (s : Int) ≤ n) (fun s => (n - s).toNat) 0 (by simp [frameOk, names, lpz, sclp, scv, scvs, nrfs, nrf, FRB]) (by simp only [Int.natCast_zero]; omega) ?_ ?_
  · simp (disch := first | omega | (simp only [LN]; omega)) only [↓EC, EW, seval, ↓reduceIte, ColV_def]
    rfl
  · rintro i h1
    have hlf := putL_len (backF p) i
    simp (disch := first | omega | (simp only [LN]; omega)) only [↓EC, EW, seval, ↓reduceIte, ColV_def, lheap_def]
    (refine Split.mk (fun h => ?_) (fun h => ?_) <;> (try simp only [SD] at h))
    · have a1 := hp.2 i (by omega)
      have a2 := hp.1
      (try simp (disch := first | omega | (simp only [LN]; omega)) only [↓EC, EW, seval, ↓reduceIte])
      exact ⟨i + 1, rfl, rfl, by omega, by omega⟩
    · (try simp (disch := first | omega | (simp only [LN]; omega)) only [↓EC, EW, seval, ↓reduceIte])
      rw [show i = n.toNat from by omega]
theorem putL_lo {f : Nat → Nat × Int} : ∀ (k : Nat), (∀ i, i < k → 0 ≤ (f i).2 ∧ (f i).2 < 16) → lo16 (putL f k)
  | 0, _ => ⟨by simp [putL], fun i hi => by simp only [putL]; rw [gi_rep]; split <;> omega⟩
  | k + 1, h => by
    have ih := putL_lo (f := f) k fun i hi => h i (by omega)
    refine ⟨by simp [putL, putL_len], fun i hi => ?_⟩
    simp only [putL]
    rw [gi_set]
    split
    · exact h k (by omega)
    · exact ih.2 i hi
def thenP (p q : List Int) (n : Int) : List Int := putL (thenF p q) n.toNat
def backP (p : List Int) (n : Int) : List Int := putL (backF p) n.toNat
def sameP (n : Int) : List Int := putL sameF n.toNat
def faceP (b w : List Int) (n : Int) : List Int := backP (thenP b w n) n
theorem thenP_lo {p q : List Int} {n : Int} (hp : lo16 p) (hq : lo16 q) (hn : 1 ≤ n ∧ n ≤ 16) : lo16 (thenP p q n) := putL_lo _ fun i hi => by
  have := hp.2 i (by omega)
  exact hq.2 _ (by omega)
theorem backP_lo {p : List Int} {n : Int} (hn : 1 ≤ n ∧ n ≤ 16) : lo16 (backP p n) := putL_lo _ fun i hi => by simp only [backF]; omega
theorem sameP_lo {n : Int} (hn : 1 ≤ n ∧ n ≤ 16) : lo16 (sameP n) := putL_lo _ fun i hi => by simp only [sameF]; omega
theorem c_impl_face {b w : List Int} {n : Int} (hb : lo16 b) (hw : lo16 w) (hn : 1 ≤ n ∧ n ≤ 16) : PSpec Tryz.prog 38 [vD n b w] fun v => v = .agg (vi .u8 (faceP b w n)) := by
  have hl := hb.1
  have hk := hw.1
  refine impl_face_f.f ?_
  unfold vD
  simp (disch := first | omega | (simp only [LN]; omega)) only [↓EC, EW, seval, ↓reduceIte, impl_face_F, hl, hk]
  have hy := putL_len (thenF b w) n.toNat
  refine pcd_v (c_impl_then hb hw hn) ?_
  (try simp (disch := first | omega | (simp only [LN]; omega)) only [↓EC, EW, seval, ↓reduceIte, hl, hk, hy])
  refine pcd_v (c_impl_back (thenP_lo hb hw hn) hn) ?_
  have hx := putL_len (backF (putL (thenF b w) n.toNat)) n.toNat
  (try simp (disch := first | omega | (simp only [LN]; omega)) only [↓EC, EW, seval, ↓reduceIte, hl, hk, hx])
  rfl
theorem c_spec_l01Face {b w : List Int} {n : Int} (hb : lo16 b) (hw : lo16 w) (hn : 1 ≤ n ∧ n ≤ 16) : PSpec Tryz.prog 40 [vD n b w] fun v => v = .agg (vi .u8 (faceP b w n)) := by
  have hl := hb.1
  have hk := hw.1
  refine spec_l01Face_f.f ?_
  unfold vD
  simp (disch := first | omega | (simp only [LN]; omega)) only [↓EC, EW, seval, ↓reduceIte, spec_l01Face_F, hl, hk]
  have hy := putL_len (thenF b w) n.toNat
  refine pcd_v (c_spec_l01Then hb hw hn) ?_
  (try simp (disch := first | omega | (simp only [LN]; omega)) only [↓EC, EW, seval, ↓reduceIte, hl, hk, hy])
  refine pcd_v (c_spec_l01Back (thenP_lo hb hw hn) hn) ?_
  have hx := putL_len (backF (putL (thenF b w) n.toNat)) n.toNat
  (try simp (disch := first | omega | (simp only [LN]; omega)) only [↓EC, EW, seval, ↓reduceIte, hl, hk, hx])
  rfl
end
section
def ltP (p : List Int) (n : Int) : Prop := ∀ x : Nat, (x : Int) < n → 0 ≤ gi p x ∧ gi p x < n
theorem isPm.ltP {p : List Int} {n : Int} (hp : okP p) (h : isPm p n) : ltP p n := fun x hx => ⟨(hp.2 x (by have := h.1; omega)).1, ((h.2 x (by have := h.1; omega)).1 hx).1⟩
theorem putL_lt {n : Int} {f : Nat → Nat × Int} : ∀ (k : Nat), (∀ i, i < k → 0 ≤ (f i).2 ∧ (f i).2 < n) → 1 ≤ n → ltP (putL f k) n
  | 0, _, hn => fun x hx => by simp only [putL]; rw [gi_rep]; split <;> omega
  | k + 1, h, hn => fun x hx => by
    simp only [putL]
    rw [gi_set]
    split
    · exact h k (by omega)
    · exact putL_lt k (fun i hi => h i (by omega)) hn x hx
theorem backP_lt {p : List Int} {n : Int} (hn : 1 ≤ n ∧ n ≤ 16) : ltP (backP p n) n := putL_lt _ (fun i hi => by simp only [backF]; omega) hn.1
theorem cycF_lt {p : List Int} {n : Int} (hp : ltP p n) : ∀ (c : Nat) {k : Int} {m : List Bool} {acc : List Int}, m.count false = c → (0 ≤ k ∧ k < n) → (∀ y ∈ acc, 0 ≤ y ∧ y < n) → ∀ y ∈ (cycF p k m acc).2, 0 ≤ y ∧ y < n := by
  intro c
  induction c using Nat.strongRecOn with
  | ind c ih =>
    intro k m acc hc hk hacc
    by_cases h : gb m k.toNat = false ∧ k.toNat < m.length
    · rw [cycF_go h.1 h.2]
      have hlt := count_false_lt h.1 h.2
      refine @ih _ (by omega) (gi p k.toNat) (m.set k.toNat true) (acc ++ [k]) rfl (hp _ (by omega)) fun y hy => ?_
      simp only [List.mem_append, List.mem_singleton] at hy
      rcases hy with hy | rfl
      · exact hacc y hy
      · exact hk
    · rw [cycF, dif_neg h]; exact hacc
theorem cycO_lt {p : List Int} {n : Int} (hp : ltP p n) : ∀ i : Nat, (i : Int) ≤ n → ∀ l ∈ (cycO p i).2, (∀ y ∈ l, 0 ≤ y ∧ y < n) ∧ l.length ≤ 16
  | 0, _ => by simp [cycO]
  | i + 1, hi => by
    have ih := cycO_lt hp i (by omega)
    simp only [cycO]
    split
    · exact ih
    · intro l hl
      simp only [List.mem_append, List.mem_singleton] at hl
      rcases hl with hl | rfl
      · exact ih l hl
      · refine ⟨cycF_lt hp _ rfl ⟨by omega, by omega⟩ (by simp), ?_⟩
        have h1 := (cycF_len (p := p) _ (k := (i : Int)) (m := (cycO p i).1) (acc := []) rfl).2.2
        have h2 := List.count_le_length (a := false) (l := (cycO p i).1)
        rw [(cycO_len i).1] at h2
        simp at h1
        omega
def chStep (b : List Int) (l : List Int) (x : Int) : List Int :=
  (l.set (gi b x.toNat).toNat (gi l (gi b x.toNat).toNat + 1)).set x.toNat (gi (l.set (gi b x.toNat).toNat (gi l (gi b x.toNat).toNat + 1)) x.toNat - 1)
def chT (b : List Int) (n : Int) (c : List Int) : Nat → List Int
  | 0 => List.replicate n.toNat 0
  | s + 1 => chStep b (chT b n c s) (gi c s)
theorem chT_len {b : List Int} {n : Int} {c : List Int} : ∀ s, (chT b n c s).length = n.toNat
  | 0 => by simp [chT]
  | s + 1 => by simp [chT, chStep, chT_len s]
theorem chT_lim {b : List Int} {n : Int} {c : List Int} : ∀ (s j : Nat), -(2 * (s : Int)) ≤ gi (chT b n c s) j ∧ gi (chT b n c s) j ≤ 2 * s
  | 0, j => by simp only [chT]; rw [gi_rep]; split <;> simp
  | s + 1, j => by
    have h1 := chT_lim (b := b) (n := n) (c := c) s
    have h2 : ∀ j, -(2 * (s : Int) + 1) ≤ gi ((chT b n c s).set (gi b (gi c s).toNat).toNat (gi (chT b n c s) (gi b (gi c s).toNat).toNat + 1)) j ∧
        gi ((chT b n c s).set (gi b (gi c s).toNat).toNat (gi (chT b n c s) (gi b (gi c s).toNat).toNat + 1)) j ≤ 2 * s + 1 := fun j => by
      rw [gi_set]
      have h3 := h1 j
      have h4 := h1 (gi b (gi c s).toNat).toNat
      split <;> omega
    simp only [chT, chStep]
    rw [gi_set]
    have h3 := h2 j
    have h4 := h2 (gi c s).toNat
    split <;> omega
def bndL (b w : List Int) (n : Int) : List (List Int) := (cyc (faceP b w n) n).map fun c => chT b n c c.length
end
section
def z16 : List Int := List.replicate 16 0
end
end Go.Proofs.YtpeglkcbhffaaaaGreat.Sep
