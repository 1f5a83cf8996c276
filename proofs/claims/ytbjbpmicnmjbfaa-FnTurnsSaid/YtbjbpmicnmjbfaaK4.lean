/- Texts put together: Form, C75, C80, C20, C26, C87, C21, C24, C25, C29, C23, C27, C22, C30. -/
import Derived.Test.YtbjbpmicnmjbfaaK3
import Derived.Test.YtbjbpmicnmjbfaaProg
import Derived.KernelRfl
namespace Go.Proofs.Ytbjbpmicnmjbfaa.Sep
open Go.RowKit
set_option linter.unusedVariables false
set_option linter.unusedSimpArgs false
set_option maxRecDepth 20000
section
set_option maxRecDepth 1000000
def laws_FnTurns_F (x0 : V) (hi : Hp) (Rt : Hp → V → Prop) : Prop :=
pcal Try.prog 4 119 hi (fun a1 b1 =>
pcond (
Rt b1 (.bool true)) (
pcal Try.prog 5 122 b1 (fun c1 d1 =>
VL (vext 0 c1) fun e1 =>
VL (vext 1 c1) fun f1 =>
palloc d1 67 27 ([(.int .i64 0)] ++ (vi .u8 (List.replicate 32 0))) fun g1 =>
pst g1 33 (cellsV e1) (fun h1 i1 =>
pld i1 (some 33) (fun j1 k1 =>
pcal Try.prog 6 128 k1 (fun l1 m1 =>
VL (vext 0 l1) fun n1 =>
VL (vext 1 l1) fun o1 =>
palloc m1 69 27 ([(.int .i64 0)] ++ (vi .u8 (List.replicate 32 0))) fun p1 =>
pst p1 33 (cellsV n1) (fun q1 r1 =>
pld r1 (some 33) (fun s1 t1 =>
pcal Try.prog 7 134 t1 (fun u1 v1 =>
VL (vext 0 u1) fun w1 =>
VL (vext 1 u1) fun y1 =>
palloc v1 71 27 ([(.int .i64 0)] ++ (vi .u8 (List.replicate 32 0))) fun z1 =>
pst z1 33 (cellsV w1) (fun a2 b2 =>
VL (lift2 (abin .neq) o1 y1) fun c2 =>
pgk false b2 (fun d2 e2 => pld b2 (some 33) (fun f2 g2 =>
e2 f2 g2) (.ptr 69 0)) (fun h2 i2 j2 =>
pgk false j2 (fun k2 l2 => pld j2 (some 33) (fun m2 n2 =>
l2 m2 n2) (.ptr 71 0)) (fun o2 p2 q2 =>
pgk false q2 (fun r2 s2 => VL (veqa true true [(.i .i64), (.i .u8), (.i .u8), (.i .u8), (.i .u8), (.i .u8), (.i .u8), (.i .u8), (.i .u8), (.i .u8), (.i .u8), (.i .u8), (.i .u8), (.i .u8), (.i .u8), (.i .u8), (.i .u8), (.i .u8), (.i .u8), (.i .u8), (.i .u8), (.i .u8), (.i .u8), (.i .u8), (.i .u8), (.i .u8), (.i .u8), (.i .u8), (.i .u8), (.i .u8), (.i .u8), (.i .u8), (.i .u8)] i2 p2) fun t2 =>
s2 t2 q2) (fun u2 v2 w2 =>
VL (vpick u2 (.bool true) v2) fun y2 =>
pcond (
Rt w2 (.bool false)) (
JN (fun z2 =>
VL (lift2 (abin .eql) o1 (.int .i64 0)) fun a3 =>
pcond (
pld w2 (some 33) (fun b3 c3 =>
pcal Try.prog 8 149 c3 (fun d3 e3 =>
VL (vext 0 d3) fun f3 =>
VL (vext 1 d3) fun g3 =>
pld e3 (some 33) (fun h3 i3 =>
pcal Try.prog 8 154 i3 (fun j3 k3 =>
VL (vext 0 j3) fun l3 =>
VL (vext 1 j3) fun m3 =>
pld k3 (some 33) (fun n3 o3 =>
pcal Try.prog 9 159 o3 (fun p3 q3 =>
VL (vext 0 p3) fun r3 =>
VL (vext 1 p3) fun s3 =>
palloc q3 77 27 ([(.int .i64 0)] ++ (vi .u8 (List.replicate 32 0))) fun t3 =>
pst t3 33 (cellsV r3) (fun u3 v3 =>
pld v3 (some 33) (fun w3 y3 =>
pcal Try.prog 9 164 y3 (fun z3 a4 =>
VL (vext 0 z3) fun b4 =>
VL (vext 1 z3) fun c4 =>
palloc a4 79 27 ([(.int .i64 0)] ++ (vi .u8 (List.replicate 32 0))) fun d4 =>
pst d4 33 (cellsV b4) (fun e4 f4 =>
pld f4 (some 33) (fun g4 h4 =>
pcal Try.prog 8 169 h4 (fun i4 j4 =>
VL (vext 0 i4) fun k4 =>
VL (vext 1 i4) fun l4 =>
VL (lift2 (abin .neq) g3 (.int .i64 0)) fun m4 =>
pgk false j4 (fun n4 o4 => o4 m3 j4) (fun p4 q4 r4 =>
pgk false r4 (fun s4 t4 => VL (lift2 (abin .neq) q4 (.int .i64 0)) fun u4 =>
t4 u4 r4) (fun v4 w4 y4 =>
VL (vpick v4 (.bool true) w4) fun z4 =>
pgk false y4 (fun a5 b5 => b5 s3 y4) (fun c5 d5 e5 =>
pgk false e5 (fun f5 g5 => VL (lift2 (abin .neq) d5 (.int .i64 0)) fun h5 =>
g5 h5 e5) (fun i5 j5 k5 =>
VL (vpick i5 (.bool true) j5) fun l5 =>
pgk false k5 (fun m5 n5 => n5 c4 k5) (fun o5 p5 q5 =>
pgk false q5 (fun r5 s5 => VL (lift2 (abin .neq) p5 (.int .i64 0)) fun t5 =>
s5 t5 q5) (fun u5 v5 w5 =>
VL (vpick u5 (.bool true) v5) fun y5 =>
pgk false w5 (fun z5 a6 => a6 l4 w5) (fun b6 c6 d6 =>
pgk false d6 (fun e6 f6 => VL (lift2 (abin .neq) c6 (.int .i64 0)) fun g6 =>
f6 g6 d6) (fun h6 i6 j6 =>
VL (vpick h6 (.bool true) i6) fun k6 =>
pgk false j6 (fun l6 m6 => m6 f3 j6) (fun n6 o6 p6 =>
pgk false p6 (fun q6 r6 => r6 l3 p6) (fun s6 t6 u6 =>
pgk false u6 (fun v6 w6 => VL (lift2 (abin .neq) o6 t6) fun y6 =>
w6 y6 u6) (fun z6 a7 b7 =>
VL (vpick z6 (.bool true) a7) fun c7 =>
pgk false b7 (fun d7 e7 => pld b7 (some 33) (fun f7 g7 =>
e7 f7 g7) (.ptr 79 0)) (fun h7 i7 j7 =>
pgk false j7 (fun k7 l7 => pld j7 (some 33) (fun m7 n7 =>
l7 m7 n7) (.ptr 67 0)) (fun o7 p7 q7 =>
pgk false q7 (fun r7 s7 => VL (veqa true true [(.i .i64), (.i .u8), (.i .u8), (.i .u8), (.i .u8), (.i .u8), (.i .u8), (.i .u8), (.i .u8), (.i .u8), (.i .u8), (.i .u8), (.i .u8), (.i .u8), (.i .u8), (.i .u8), (.i .u8), (.i .u8), (.i .u8), (.i .u8), (.i .u8), (.i .u8), (.i .u8), (.i .u8), (.i .u8), (.i .u8), (.i .u8), (.i .u8), (.i .u8), (.i .u8), (.i .u8), (.i .u8), (.i .u8)] i7 p7) fun t7 =>
s7 t7 q7) (fun u7 v7 w7 =>
VL (vpick u7 (.bool true) v7) fun y7 =>
pgk false w7 (fun z7 a8 => a8 k4 w7) (fun b8 c8 d8 =>
pgk false d8 (fun e8 f8 => f8 f3 d8) (fun g8 h8 i8 =>
pgk false i8 (fun j8 k8 => VL (lift2 (abin .neq) c8 h8) fun l8 =>
k8 l8 i8) (fun m8 n8 o8 =>
VL (vpick m8 (.bool true) n8) fun p8 =>
pcond (
Rt o8 (.bool false)) (
pld o8 (some 33) (fun q8 r8 =>
pcal Try.prog 10 207 r8 (fun s8 t8 =>
VL (vext 0 s8) fun v8 =>
VL (vext 1 s8) fun w8 =>
pld t8 (some 33) (fun y8 z8 =>
pld z8 (some 33) (fun a9 b9 =>
pcal Try.prog 11 213 b9 (fun c9 d9 =>
VL (vext 0 c9) fun e9 =>
VL (vext 1 c9) fun f9 =>
VL (lift2 (abin .neq) w8 (.int .i64 0)) fun g9 =>
pgk false d9 (fun h9 i9 => i9 f9 d9) (fun j9 k9 l9 =>
pgk false l9 (fun m9 n9 => VL (lift2 (abin .neq) k9 (.int .i64 0)) fun o9 =>
n9 o9 l9) (fun p9 q9 r9 =>
VL (vpick p9 (.bool true) q9) fun s9 =>
pgk false r9 (fun t9 u9 => u9 v8 r9) (fun v9 w9 y9 =>
pgk false y9 (fun z9 a10 => a10 e9 y9) (fun b10 c10 d10 =>
pgk false d10 (fun e10 f10 => VL (veqa false false [.b] w9 c10) fun g10 =>
f10 g10 d10) (fun h10 i10 j10 =>
VL (vpick h10 (.bool true) i10) fun k10 =>
pcond (
Rt j10 (.bool false)) (
z2 [x0] j10) k10) b10) v9) s9) j9) g9) [y8, a9]) (.ptr 77 0)) (.ptr 67 0)) [q8]) (.ptr 67 0)) p8) g8) b8) y7) o7) h7) c7) s6) n6) k6) b6) y5) o5) l5) c5) z4) p4) m4) [g4]) (.ptr 77 0)) (.ptr 79 0)) [w3]) (.ptr 77 0)) (.ptr 77 0)) [n3]) (.ptr 67 0)) [h3]) (.ptr 69 0)) [b3]) (.ptr 67 0)) (
z2 [x0] w2) a3) fun l10 m10 =>
pcal Try.prog 12 228 m10 (fun n10 o10 =>
palloc o10 87 27 ([(.int .i64 0)] ++ (vi .u8 (List.replicate 32 0))) fun p10 =>
pst p10 33 (cellsV n10) (fun q10 r10 =>
pld r10 (some 33) (fun s10 t10 =>
pcal Try.prog 13 231 t10 (fun u10 v10 =>
VL (vext 0 u10) fun w10 =>
VL (vext 1 u10) fun y10 =>
palloc v10 88 27 ([(.int .i64 0)] ++ (vi .u8 (List.replicate 32 0))) fun z10 =>
pst z10 33 (cellsV w10) (fun a11 b11 =>
pld b11 (some 33) (fun c11 d11 =>
pcal Try.prog 14 236 d11 (fun e11 f11 =>
VL (vext 0 e11) fun g11 =>
VL (vext 1 e11) fun h11 =>
palloc f11 90 27 ([(.int .i64 0)] ++ (vi .u8 (List.replicate 32 0))) fun i11 =>
pst i11 33 (cellsV g11) (fun j11 k11 =>
VL (lift2 (abin .neq) y10 h11) fun l11 =>
pgk false k11 (fun m11 n11 => pld k11 (some 33) (fun o11 p11 =>
n11 o11 p11) (.ptr 88 0)) (fun q11 r11 s11 =>
pgk false s11 (fun t11 u11 => pld s11 (some 33) (fun v11 w11 =>
u11 v11 w11) (.ptr 90 0)) (fun y11 z11 a12 =>
pgk false a12 (fun b12 c12 => VL (veqa true true [(.i .i64), (.i .u8), (.i .u8), (.i .u8), (.i .u8), (.i .u8), (.i .u8), (.i .u8), (.i .u8), (.i .u8), (.i .u8), (.i .u8), (.i .u8), (.i .u8), (.i .u8), (.i .u8), (.i .u8), (.i .u8), (.i .u8), (.i .u8), (.i .u8), (.i .u8), (.i .u8), (.i .u8), (.i .u8), (.i .u8), (.i .u8), (.i .u8), (.i .u8), (.i .u8), (.i .u8), (.i .u8), (.i .u8)] r11 z11) fun d12 =>
c12 d12 a12) (fun e12 f12 g12 =>
VL (vpick e12 (.bool true) f12) fun h12 =>
pcond (
Rt g12 (.bool false)) (
JN (fun i12 =>
VL (lift2 (abin .eql) y10 (.int .i64 0)) fun j12 =>
pcond (
pld g12 (some 33) (fun k12 l12 =>
pcal Try.prog 15 251 l12 (fun m12 n12 =>
VL (vext 0 m12) fun o12 =>
VL (vext 1 m12) fun p12 =>
pld n12 (some 33) (fun q12 r12 =>
pcal Try.prog 8 256 r12 (fun s12 t12 =>
VL (vext 0 s12) fun u12 =>
VL (vext 1 s12) fun v12 =>
pld t12 (some 33) (fun w12 y12 =>
pcal Try.prog 8 261 y12 (fun z12 a13 =>
VL (vext 0 z12) fun b13 =>
VL (vext 1 z12) fun c13 =>
VL (lift2 (abin .neq) p12 (.int .i64 0)) fun d13 =>
pgk false a13 (fun e13 f13 => f13 v12 a13) (fun g13 h13 i13 =>
pgk false i13 (fun j13 k13 => VL (lift2 (abin .neq) h13 (.int .i64 0)) fun l13 =>
k13 l13 i13) (fun m13 n13 o13 =>
VL (vpick m13 (.bool true) n13) fun p13 =>
pgk false o13 (fun q13 r13 => r13 c13 o13) (fun s13 t13 u13 =>
pgk false u13 (fun v13 w13 => VL (lift2 (abin .neq) t13 (.int .i64 0)) fun y13 =>
w13 y13 u13) (fun z13 a14 b14 =>
VL (vpick z13 (.bool true) a14) fun c14 =>
pgk false b14 (fun d14 e14 => e14 o12 b14) (fun f14 g14 h14 =>
pgk false h14 (fun i14 j14 => VL (lift1 (aun .not) g14) fun k14 =>
j14 k14 h14) (fun l14 m14 n14 =>
VL (vpick l14 (.bool true) m14) fun o14 =>
pgk false n14 (fun p14 q14 => q14 u12 n14) (fun r14 s14 t14 =>
pgk false t14 (fun u14 v14 => v14 b13 t14) (fun w14 y14 z14 =>
pgk false z14 (fun a15 b15 => VL (lift2 (abin .neq) s14 y14) fun c15 =>
b15 c15 z14) (fun d15 e15 f15 =>
VL (vpick d15 (.bool true) e15) fun g15 =>
pcond (
Rt f15 (.bool false)) (
i12 [(l10.getD 0 .und)] f15) g15) w14) r14) o14) f14) c14) s13) p13) g13) d13) [w12]) (.ptr 88 0)) [q12]) (.ptr 87 0)) [k12]) (.ptr 88 0)) (
i12 [(l10.getD 0 .und)] g12) j12) fun h15 i15 =>
pcal Try.prog 16 285 i15 (fun j15 k15 =>
VL (vext 0 j15) fun l15 =>
VL (vext 1 j15) fun m15 =>
palloc k15 98 27 ([(.int .i64 0)] ++ (vi .u8 (List.replicate 32 0))) fun n15 =>
palloc n15 99 27 ([(.int .i64 0)] ++ (vi .u8 (List.replicate 32 0))) fun o15 =>
pst o15 33 (cellsV l15) (fun p15 q15 =>
pst q15 33 (cellsV m15) (fun r15 s15 =>
pld s15 (some 33) (fun t15 u15 =>
pld u15 (some 33) (fun v15 w15 =>
pcal Try.prog 11 291 w15 (fun y15 z15 =>
VL (vext 0 y15) fun a16 =>
VL (vext 1 y15) fun b16 =>
pld z15 (some 33) (fun c16 d16 =>
pld d16 (some 33) (fun e16 f16 =>
pcal Try.prog 17 297 f16 (fun g16 h16 =>
VL (vext 0 g16) fun i16 =>
VL (vext 1 g16) fun j16 =>
VL (lift2 (abin .neq) b16 j16) fun k16 =>
pgk false h16 (fun l16 m16 => m16 a16 h16) (fun n16 o16 p16 =>
pgk false p16 (fun q16 r16 => r16 i16 p16) (fun s16 t16 u16 =>
pgk false u16 (fun v16 w16 => VL (veqa true false [.b] o16 t16) fun y16 =>
w16 y16 u16) (fun z16 a17 b17 =>
VL (vpick z16 (.bool true) a17) fun c17 =>
pcond (
Rt b17 (.bool false)) (
JN (fun d17 =>
VL (lift2 (abin .eql) b16 (.int .i64 0)) fun e17 =>
pgk true b17 (fun f17 g17 => g17 a16 b17) (fun h17 i17 j17 =>
VL (vpick h17 i17 (.bool false)) fun k17 =>
pcond (
pld j17 (some 33) (fun l17 m17 =>
pcal Try.prog 18 315 m17 (fun n17 o17 =>
VL (vext 0 n17) fun p17 =>
VL (vext 1 n17) fun q17 =>
pld o17 (some 33) (fun r17 s17 =>
pcal Try.prog 18 320 s17 (fun t17 u17 =>
VL (vext 0 t17) fun v17 =>
VL (vext 1 t17) fun w17 =>
VL (lift2 (abin .neq) q17 (.int .i64 0)) fun y17 =>
pgk false u17 (fun z17 a18 => a18 w17 u17) (fun b18 c18 d18 =>
pgk false d18 (fun e18 f18 => VL (lift2 (abin .neq) c18 (.int .i64 0)) fun g18 =>
f18 g18 d18) (fun h18 i18 j18 =>
VL (vpick h18 (.bool true) i18) fun k18 =>
pgk false j18 (fun l18 m18 => m18 p17 j18) (fun n18 o18 p18 =>
pgk false p18 (fun q18 r18 => r18 v17 p18) (fun s18 t18 u18 =>
pgk false u18 (fun v18 w18 => pcal Try.prog 19 332 u18 (fun y18 z18 =>
w18 y18 z18) [o18, t18]) (fun a19 b19 c19 =>
pgk false c19 (fun d19 e19 => VL (lift1 (aun .not) b19) fun f19 =>
e19 f19 c19) (fun g19 h19 i19 =>
VL (vpick g19 (.bool true) h19) fun j19 =>
pcond (
Rt i19 (.bool false)) (
d17 [(h15.getD 0 .und)] i19) j19) a19) s18) n18) k18) b18) y17) [r17]) (.ptr 99 0)) [l17]) (.ptr 98 0)) (
d17 [(h15.getD 0 .und)] j17) k17) e17) fun k19 l19 =>
pcal Try.prog 20 336 l19 (fun m19 n19 =>
palloc n19 108 27 ([(.int .i64 0)] ++ (vi .u8 (List.replicate 32 0))) fun o19 =>
pst o19 33 (cellsV m19) (fun p19 q19 =>
pld q19 (some 33) (fun r19 s19 =>
pcal Try.prog 10 339 s19 (fun t19 u19 =>
VL (vext 0 t19) fun v19 =>
VL (vext 1 t19) fun w19 =>
pld u19 (some 33) (fun y19 z19 =>
pcal Try.prog 21 344 z19 (fun a20 b20 =>
VL (vext 0 a20) fun c20 =>
VL (vext 1 a20) fun d20 =>
pcal Try.prog 22 348 b20 (fun e20 f20 =>
palloc f20 113 27 ([(.int .i64 0)] ++ (vi .u8 (List.replicate 32 0))) fun g20 =>
pst g20 33 (cellsV e20) (fun h20 i20 =>
pld i20 (some 33) (fun j20 k20 =>
pcal Try.prog 15 351 k20 (fun l20 m20 =>
VL (vext 0 l20) fun n20 =>
VL (vext 1 l20) fun o20 =>
pld m20 (some 33) (fun p20 q20 =>
pcal Try.prog 23 356 q20 (fun r20 s20 =>
VL (vext 0 r20) fun t20 =>
VL (vext 1 r20) fun u20 =>
VL (lift2 (abin .eql) w19 d20) fun v20 =>
pgk true s20 (fun w20 y20 => y20 v19 s20) (fun z20 a21 b21 =>
pgk true b21 (fun c21 d21 => d21 c20 b21) (fun e21 f21 g21 =>
pgk true g21 (fun h21 i21 => VL (veqa false false [.b] a21 f21) fun j21 =>
i21 j21 g21) (fun k21 l21 m21 =>
VL (vpick k21 l21 (.bool false)) fun n21 =>
pgk true m21 (fun o21 p21 => p21 o20 m21) (fun q21 r21 s21 =>
pgk true s21 (fun t21 u21 => u21 u20 s21) (fun v21 w21 y21 =>
pgk true y21 (fun z21 a22 => VL (lift2 (abin .eql) r21 w21) fun b22 =>
a22 b22 y21) (fun c22 d22 e22 =>
VL (vpick c22 d22 (.bool false)) fun f22 =>
pgk true e22 (fun g22 h22 => h22 n20 e22) (fun i22 j22 k22 =>
pgk true k22 (fun l22 m22 => m22 t20 k22) (fun n22 o22 p22 =>
pgk true p22 (fun q22 r22 => VL (veqa false false [.b] j22 o22) fun s22 =>
r22 s22 p22) (fun t22 u22 v22 =>
VL (vpick t22 u22 (.bool false)) fun w22 =>
Rt v22 w22) n22) i22) f22) v21) q21) n21) e21) z20) v20) [p20]) (.ptr 113 0)) [j20]) (.ptr 113 0)) (.ptr 113 0)) [(k19.getD 0 .und)]) [y19]) (.ptr 108 0)) [r19]) (.ptr 108 0)) (.ptr 108 0)) [(k19.getD 0 .und)]) c17) s16) n16) k16) [c16, e16]) (.ptr 99 0)) (.ptr 98 0)) [t15, v15]) (.ptr 99 0)) (.ptr 98 0)) (.ptr 99 0)) (.ptr 98 0)) [(h15.getD 0 .und)]) h12) y11) q11) l11) (.ptr 90 0)) [c11]) (.ptr 87 0)) (.ptr 88 0)) [s10]) (.ptr 87 0)) (.ptr 87 0)) [(l10.getD 0 .und)]) y2) o2) h2) c2) (.ptr 71 0)) [s1, f1]) (.ptr 67 0)) (.ptr 69 0)) [j1, f1]) (.ptr 67 0)) (.ptr 67 0)) [x0]) a1) [x0]
theorem laws_FnTurns_f {x0 : V} : Prt Try.prog 3 [x0] (laws_FnTurns_F x0) := pfun (fn := Try.f3) (m := [.s, .s, .s, .s, .s, .s, .s, .s, .s, .s, .j [0], .s, .s, .s, .s, .s, .s, .s, .s, .s, .s, .s, .s, .s, .s, .s, .s, .s, .s, .s, .j [0], .s, .s, .s, .s, .s, .s, .s, .s, .s, .s, .s, .s, .j [0], .s, .s, .s, .s, .s, .s, .s, .s, .s, .s, .s, .s]) (c := 1 ≤ 313) rfl (fun h0 Rt => by kernel_rfl) (by decide)
def laws_big_F (x0 : V) (hi : Hp) (Rt : Hp → V → Prop) : Prop :=
VL (vlenS x0) fun a1 =>
VL (lift2 (abin .gtr) a1 (.int .i64 4096)) fun b1 =>
Rt hi b1
theorem laws_big_f {x0 : V} : Prt Try.prog 4 [x0] (laws_big_F x0) := pfun (fn := Try.f4) (m := [.s, .s]) (c := 1 ≤ 6) rfl (fun h0 Rt => by kernel_rfl) (by decide)
def spec_DrawExchangeOf_F (x0 : V) (hi : Hp) (Rt : Hp → V → Prop) : Prop :=
palloc hi 66 27 ([(.int .i64 0)] ++ (vi .u8 (List.replicate 32 0))) fun a1 =>
pcal Try.prog 24 70 a1 (fun b1 c1 =>
pcal Try.prog 25 72 c1 (fun d1 e1 =>
pcal Try.prog 26 74 e1 (fun f1 g1 =>
pst g1 33 (cellsV d1) (fun h1 i1 =>
VL (pcellV i1 (some 33) (.ptr 66 0)) fun j1 =>
Rt i1 (.tup [j1, f1])) (.ptr 66 0)) [b1, (.int .i64 5)]) [b1, (.int .i64 16)]) [x0]
theorem spec_DrawExchangeOf_f {x0 : V} : Prt Try.prog 5 [x0] (spec_DrawExchangeOf_F x0) := pfun (fn := Try.f5) (m := [.s, .s, .s]) (c := 1 ≤ 11) rfl (fun h0 Rt => by kernel_rfl) (by decide)
def impl_ExchangeOf_F (x0 x1 : V) (hi : Hp) (Rt : Hp → V → Prop) : Prop :=
pbox hi 66 27 (cellsV x0) fun a1 =>
palloc a1 68 27 ([(.int .i64 0)] ++ (vi .u8 (List.replicate 32 0))) fun b1 =>
pld b1 (some 33) (fun c1 d1 =>
pcal Try.prog 27 76 d1 (fun e1 f1 =>
VL (lift1 (aun .not) e1) fun g1 =>
pcond (
VL (vbld (vfill ([(.int .i64 0)] ++ (vi .u8 (List.replicate 32 0))) [])) fun h1 =>
pst f1 33 (cellsV h1) (fun i1 j1 =>
VL (pcellV j1 (some 33) (.ptr 68 0)) fun k1 =>
Rt j1 (.tup [k1, (.int .i64 1)])) (.ptr 68 0)) (
VL (lift2 (abin .lss) x1 (.int .i64 0)) fun l1 =>
pgk false f1 (fun m1 n1 => n1 x1 f1) (fun o1 p1 q1 =>
pgk false q1 (fun r1 s1 => VL (lift2 (abin .gtr) p1 (.int .i64 5)) fun t1 =>
s1 t1 q1) (fun u1 v1 w1 =>
VL (vpick u1 (.bool true) v1) fun y1 =>
pcond (
VL (vbld (vfill ([(.int .i64 0)] ++ (vi .u8 (List.replicate 32 0))) [])) fun z1 =>
pst w1 33 (cellsV z1) (fun a2 b2 =>
VL (pcellV b2 (some 33) (.ptr 68 0)) fun c2 =>
Rt b2 (.tup [c2, (.int .i64 2)])) (.ptr 68 0)) (
pld w1 (some 16) (fun d2 e2 =>
pldb e2 (some 16) (fun f2 g2 =>
pld g2 (some 33) (fun h2 i2 =>
pcalp Try.prog 28 92 i2 (fun j2 k2 =>
palloc k2 70 25 (vi .u8 (List.replicate 16 0)) fun l2 =>
palloc l2 71 25 (vi .u8 (List.replicate 16 0)) fun m2 =>
palloc m2 72 25 (vi .u8 (List.replicate 16 0)) fun n2 =>
Rq (pavsP n2 (.ptr 70 0) [(.ptr 66 0)]) (pst n2 16 (cellsV d2) (fun o2 p2 =>
pst p2 16 (cellsV f2) (fun q2 r2 =>
pst r2 16 (cellsV j2) (fun s2 t2 =>
pld t2 (some 16) (fun u2 v2 =>
pld v2 (some 16) (fun w2 y2 =>
VL (vbld (vfill (vi .u8 (List.replicate 32 0)) [(0, 16, u2), (16, 16, w2)])) fun z2 =>
pld y2 (some 16) (fun a3 b3 =>
pld b3 (some 16) (fun c3 d3 =>
VL (vbld (vfill (vi .u8 (List.replicate 32 0)) [(0, 16, a3), (16, 16, c3)])) fun e3 =>
pld d3 (some 16) (fun f3 g3 =>
pld g3 (some 16) (fun h3 i3 =>
VL (vbld (vfill (vi .u8 (List.replicate 32 0)) [(0, 16, f3), (16, 16, h3)])) fun j3 =>
pld i3 (some 16) (fun k3 l3 =>
pld l3 (some 16) (fun m3 n3 =>
VL (vbld (vfill (vi .u8 (List.replicate 32 0)) [(0, 16, k3), (16, 16, m3)])) fun o3 =>
pld n3 (some 16) (fun p3 q3 =>
pld q3 (some 16) (fun r3 s3 =>
VL (vbld (vfill (vi .u8 (List.replicate 32 0)) [(0, 16, p3), (16, 16, r3)])) fun t3 =>
pld s3 (some 16) (fun u3 v3 =>
pld v3 (some 16) (fun w3 y3 =>
VL (vbld (vfill (vi .u8 (List.replicate 32 0)) [(0, 16, u3), (16, 16, w3)])) fun z3 =>
pmks y3 111 50 192 6 (fun a4 =>
VL (vixS 32 (.rf 111 0 6) x1) fun b4 =>
pld a4 (some 32) (fun c4 d4 =>
palloc d4 73 50 (vi .u8 (List.replicate 32 0)) fun e4 =>
pst e4 32 (cellsV c4) (fun f4 g4 =>
pld g4 none (fun h4 i4 =>
VL (vixA 2 16 (.ptr 73 0) (.int .i64 0)) fun j4 =>
pld i4 (some 16) (fun k4 l4 =>
VL (vixA 2 16 (.ptr 73 0) (.int .i64 1)) fun m4 =>
pld l4 (some 16) (fun n4 o4 =>
VL (vbld (vfill ([(.int .i64 0)] ++ (vi .u8 (List.replicate 32 0))) [(0, 1, h4), (1, 16, k4), (17, 16, n4)])) fun p4 =>
pst o4 33 (cellsV p4) (fun q4 r4 =>
VL (pcellV r4 (some 33) (.ptr 68 0)) fun s4 =>
Rt r4 (.tup [s4, (.int .i64 0)])) (.ptr 68 0)) m4) j4) (.ptr 66 0)) (.ptr 73 0)) b4) (vfill (vi .u8 (List.replicate 192 0)) [(0, 32, z2), (32, 32, e3), (64, 32, j3), (96, 32, o3), (128, 32, t3), (160, 32, z3)])) (.ptr 71 0)) (.ptr 72 0)) (.ptr 72 0)) (.ptr 70 0)) (.ptr 70 0)) (.ptr 72 0)) (.ptr 72 0)) (.ptr 71 0)) (.ptr 70 0)) (.ptr 71 0)) (.ptr 71 0)) (.ptr 70 0)) (.ptr 72 0)) (.ptr 71 0)) (.ptr 70 0))) [h2]) (.ptr 66 0)) (.ptr 66 17) (.ptr 66 0)) (.ptr 66 1)) y1) o1) l1) g1) [c1]) (.ptr 66 0)
theorem impl_ExchangeOf_f {x0 x1 : V} : Prt Try.prog 6 [x0, x1] (impl_ExchangeOf_F x0 x1) := pfun (fn := Try.f6) (m := [.s, .s, .s, .s, .s, .s, .s, .s, .s]) (c := 2 ≤ 58) rfl (fun h0 Rt => by kernel_rfl) (by decide)
def spec_ExchangeOf_F (x0 x1 : V) (hi : Hp) (Rt : Hp → V → Prop) : Prop :=
pbox hi 66 27 (cellsV x0) fun a1 =>
palloc a1 68 27 ([(.int .i64 0)] ++ (vi .u8 (List.replicate 32 0))) fun b1 =>
pld b1 (some 33) (fun c1 d1 =>
pcal Try.prog 29 75 d1 (fun e1 f1 =>
VL (lift1 (aun .not) e1) fun g1 =>
pcond (
VL (vbld (vfill ([(.int .i64 0)] ++ (vi .u8 (List.replicate 32 0))) [])) fun h1 =>
pst f1 33 (cellsV h1) (fun i1 j1 =>
VL (pcellV j1 (some 33) (.ptr 68 0)) fun k1 =>
Rt j1 (.tup [k1, (.int .i64 1)])) (.ptr 68 0)) (
pcal Try.prog 30 80 f1 (fun l1 m1 =>
VL (lift1 (aun .not) l1) fun n1 =>
pcond (
VL (vbld (vfill ([(.int .i64 0)] ++ (vi .u8 (List.replicate 32 0))) [])) fun o1 =>
pst m1 33 (cellsV o1) (fun p1 q1 =>
VL (pcellV q1 (some 33) (.ptr 68 0)) fun r1 =>
Rt q1 (.tup [r1, (.int .i64 2)])) (.ptr 68 0)) (
pld m1 (some 16) (fun s1 t1 =>
pld t1 (some 16) (fun u1 v1 =>
pld v1 (some 33) (fun w1 y1 =>
pcalp Try.prog 31 88 y1 (fun z1 a2 =>
VL (vbld (vfill (vi .u8 (List.replicate 48 0)) [(0, 16, s1), (16, 16, u1), (32, 16, z1)])) fun b2 =>
palloc a2 70 53 (vi .u8 (List.replicate 48 0)) fun c2 =>
pst c2 48 (cellsV b2) (fun d2 e2 =>
VL (vbld (vfill (vi .i64 (List.replicate 6 0)) [(0, 1, (.int .i64 0)), (1, 1, (.int .i64 1)), (2, 1, (.int .i64 1)), (3, 1, (.int .i64 2)), (4, 1, (.int .i64 0)), (5, 1, (.int .i64 2))])) fun f2 =>
VL (vbld (vfill (vi .i64 (List.replicate 6 0)) [(0, 1, (.int .i64 1)), (1, 1, (.int .i64 0)), (2, 1, (.int .i64 2)), (3, 1, (.int .i64 0)), (4, 1, (.int .i64 2)), (5, 1, (.int .i64 1))])) fun g2 =>
palloc e2 71 54 (vi .i64 (List.replicate 6 0)) fun h2 =>
palloc h2 72 54 (vi .i64 (List.replicate 6 0)) fun i2 =>
pst i2 6 (cellsV f2) (fun j2 k2 =>
pst k2 6 (cellsV g2) (fun l2 m2 =>
pld m2 none (fun n2 o2 =>
VL (vixA 6 1 (.ptr 71 0) x1) fun p2 =>
pld o2 none (fun q2 r2 =>
VL (vixA 3 16 (.ptr 70 0) q2) fun s2 =>
pld r2 (some 16) (fun t2 u2 =>
VL (vixA 6 1 (.ptr 72 0) x1) fun v2 =>
pld u2 none (fun w2 y2 =>
VL (vixA 3 16 (.ptr 70 0) w2) fun z2 =>
pld y2 (some 16) (fun a3 b3 =>
VL (vbld (vfill ([(.int .i64 0)] ++ (vi .u8 (List.replicate 32 0))) [(0, 1, n2), (1, 16, t2), (17, 16, a3)])) fun c3 =>
pst b3 33 (cellsV c3) (fun d3 e3 =>
VL (pcellV e3 (some 33) (.ptr 68 0)) fun f3 =>
Rt e3 (.tup [f3, (.int .i64 0)])) (.ptr 68 0)) z2) v2) s2) p2) (.ptr 66 0)) (.ptr 72 0)) (.ptr 71 0)) (.ptr 70 0)) [w1]) (.ptr 66 0)) (.ptr 66 17)) (.ptr 66 1)) n1) [x1, (.int .i64 0), (.int .i64 5)]) g1) [c1]) (.ptr 66 0)
theorem spec_ExchangeOf_f {x0 x1 : V} : Prt Try.prog 7 [x0, x1] (spec_ExchangeOf_F x0 x1) := pfun (fn := Try.f7) (m := [.s, .s, .s, .s, .s, .s, .s, .s, .s]) (c := 2 ≤ 41) rfl (fun h0 Rt => by kernel_rfl) (by decide)
def impl_GenusOf_F (x0 : V) (hi : Hp) (Rt : Hp → V → Prop) : Prop :=
pbox hi 65 27 (cellsV x0) fun a1 =>
pld a1 (some 33) (fun b1 c1 =>
pcal Try.prog 27 69 c1 (fun d1 e1 =>
VL (lift1 (aun .not) d1) fun f1 =>
pcond (
Rt e1 (.tup [(.int .i64 0), (.int .i64 1)])) (
pld e1 (some 33) (fun g1 h1 =>
pcal Try.prog 32 72 h1 (fun i1 j1 =>
Rt j1 (.tup [i1, (.int .i64 0)])) [g1]) (.ptr 65 0)) f1) [b1]) (.ptr 65 0)
theorem impl_GenusOf_f {x0 : V} : Prt Try.prog 8 [x0] (impl_GenusOf_F x0) := pfun (fn := Try.f8) (m := [.s, .s, .s, .s, .s]) (c := 1 ≤ 9) rfl (fun h0 Rt => by kernel_rfl) (by decide)
def impl_MirrorOf_F (x0 : V) (hi : Hp) (Rt : Hp → V → Prop) : Prop :=
pbox hi 65 27 (cellsV x0) fun a1 =>
palloc a1 66 27 ([(.int .i64 0)] ++ (vi .u8 (List.replicate 32 0))) fun b1 =>
pld b1 (some 33) (fun c1 d1 =>
pcal Try.prog 27 69 d1 (fun e1 f1 =>
VL (lift1 (aun .not) e1) fun g1 =>
pcond (
VL (vbld (vfill ([(.int .i64 0)] ++ (vi .u8 (List.replicate 32 0))) [])) fun h1 =>
pst f1 33 (cellsV h1) (fun i1 j1 =>
VL (pcellV j1 (some 33) (.ptr 66 0)) fun k1 =>
Rt j1 (.tup [k1, (.int .i64 1)])) (.ptr 66 0)) (
pld f1 (some 33) (fun l1 m1 =>
pcal Try.prog 33 73 m1 (fun n1 o1 =>
pst o1 33 (cellsV n1) (fun p1 q1 =>
VL (pcellV q1 (some 33) (.ptr 66 0)) fun r1 =>
Rt q1 (.tup [r1, (.int .i64 0)])) (.ptr 66 0)) [l1]) (.ptr 65 0)) g1) [c1]) (.ptr 65 0)
theorem impl_MirrorOf_f {x0 : V} : Prt Try.prog 9 [x0] (impl_MirrorOf_F x0) := pfun (fn := Try.f9) (m := [.s, .s, .s, .s, .s]) (c := 1 ≤ 10) rfl (fun h0 Rt => by kernel_rfl) (by decide)
def impl_IsChiral_F (x0 : V) (hi : Hp) (Rt : Hp → V → Prop) : Prop :=
pbox hi 65 27 (cellsV x0) fun a1 =>
pld a1 (some 33) (fun b1 c1 =>
pcal Try.prog 27 69 c1 (fun d1 e1 =>
VL (lift1 (aun .not) d1) fun f1 =>
pcond (
Rt e1 (.tup [(.bool false), (.int .i64 1)])) (
pld e1 (some 33) (fun g1 h1 =>
pld h1 (some 33) (fun i1 j1 =>
pcalp Try.prog 34 72 j1 (fun k1 l1 =>
pcal Try.prog 33 74 l1 (fun m1 n1 =>
pcal Try.prog 34 75 n1 (fun o1 p1 =>
VL (veqa true true [(.i .i64), (.i .u8), (.i .u8), (.i .u8), (.i .u8), (.i .u8), (.i .u8), (.i .u8), (.i .u8), (.i .u8), (.i .u8), (.i .u8), (.i .u8), (.i .u8), (.i .u8), (.i .u8), (.i .u8), (.i .u8), (.i .u8), (.i .u8), (.i .u8), (.i .u8), (.i .u8), (.i .u8), (.i .u8), (.i .u8), (.i .u8), (.i .u8), (.i .u8), (.i .u8), (.i .u8), (.i .u8), (.i .u8)] k1 o1) fun q1 =>
Rt p1 (.tup [q1, (.int .i64 0)])) [m1]) [i1]) [g1]) (.ptr 65 0)) (.ptr 65 0)) f1) [b1]) (.ptr 65 0)
theorem impl_IsChiral_f {x0 : V} : Prt Try.prog 10 [x0] (impl_IsChiral_F x0) := pfun (fn := Try.f10) (m := [.s, .s, .s, .s, .s]) (c := 1 ≤ 13) rfl (fun h0 Rt => by kernel_rfl) (by decide)
def impl_AreAlike_F (x0 x1 : V) (hi : Hp) (Rt : Hp → V → Prop) : Prop :=
pbox hi 66 27 (cellsV x0) fun a1 =>
pbox a1 67 27 (cellsV x1) fun b1 =>
pld b1 (some 33) (fun c1 d1 =>
pcal Try.prog 27 71 d1 (fun e1 f1 =>
VL (lift1 (aun .not) e1) fun g1 =>
pgk false f1 (fun h1 i1 => pld f1 (some 33) (fun j1 k1 =>
i1 j1 k1) (.ptr 67 0)) (fun l1 m1 n1 =>
pgk false n1 (fun o1 p1 => pcal Try.prog 27 75 n1 (fun q1 r1 =>
p1 q1 r1) [m1]) (fun s1 t1 u1 =>
pgk false u1 (fun v1 w1 => VL (lift1 (aun .not) t1) fun y1 =>
w1 y1 u1) (fun z1 a2 b2 =>
VL (vpick z1 (.bool true) a2) fun c2 =>
pcond (
Rt b2 (.tup [(.bool false), (.int .i64 1)])) (
pld b2 none (fun d2 e2 =>
pld e2 none (fun f2 g2 =>
VL (lift2 (abin .eql) d2 f2) fun h2 =>
pgk true g2 (fun i2 j2 => pld g2 (some 33) (fun k2 l2 =>
j2 k2 l2) (.ptr 66 0)) (fun m2 n2 o2 =>
pgk true o2 (fun p2 q2 => pld o2 (some 33) (fun r2 s2 =>
q2 r2 s2) (.ptr 67 0)) (fun t2 u2 v2 =>
pgk true v2 (fun w2 y2 => pcalp Try.prog 34 85 v2 (fun z2 a3 =>
y2 z2 a3) [n2]) (fun b3 c3 d3 =>
pgk true d3 (fun e3 f3 => pcal Try.prog 34 87 d3 (fun g3 h3 =>
f3 g3 h3) [u2]) (fun i3 j3 k3 =>
pgk true k3 (fun l3 m3 => VL (veqa false true [(.i .i64), (.i .u8), (.i .u8), (.i .u8), (.i .u8), (.i .u8), (.i .u8), (.i .u8), (.i .u8), (.i .u8), (.i .u8), (.i .u8), (.i .u8), (.i .u8), (.i .u8), (.i .u8), (.i .u8), (.i .u8), (.i .u8), (.i .u8), (.i .u8), (.i .u8), (.i .u8), (.i .u8), (.i .u8), (.i .u8), (.i .u8), (.i .u8), (.i .u8), (.i .u8), (.i .u8), (.i .u8), (.i .u8)] c3 j3) fun n3 =>
m3 n3 k3) (fun o3 p3 q3 =>
VL (vpick o3 p3 (.bool false)) fun r3 =>
Rt q3 (.tup [r3, (.int .i64 0)])) i3) b3) t2) m2) h2) (.ptr 67 0)) (.ptr 66 0)) c2) s1) l1) g1) [c1]) (.ptr 66 0)
theorem impl_AreAlike_f {x0 x1 : V} : Prt Try.prog 11 [x0, x1] (impl_AreAlike_F x0 x1) := pfun (fn := Try.f11) (m := [.s, .s, .s, .s, .s]) (c := 2 ≤ 26) rfl (fun h0 Rt => by kernel_rfl) (by decide)
def spec_DrawSubdividedOf_F (x0 : V) (hi : Hp) (Rt : Hp → V → Prop) : Prop :=
palloc hi 66 27 ([(.int .i64 0)] ++ (vi .u8 (List.replicate 32 0))) fun a1 =>
pcal Try.prog 24 68 a1 (fun b1 c1 =>
pcal Try.prog 25 69 c1 (fun d1 e1 =>
pst e1 33 (cellsV d1) (fun f1 g1 =>
VL (pcellV g1 (some 33) (.ptr 66 0)) fun h1 =>
Rt g1 h1) (.ptr 66 0)) [b1, (.int .i64 9)]) [x0]
theorem spec_DrawSubdividedOf_f {x0 : V} : Prt Try.prog 12 [x0] (spec_DrawSubdividedOf_F x0) := pfun (fn := Try.f12) (m := [.s, .s]) (c := 1 ≤ 6) rfl (fun h0 Rt => by kernel_rfl) (by decide)
def impl_SubdividedOf_F (x0 : V) (hi : Hp) (Rt : Hp → V → Prop) : Prop :=
pbox hi 65 27 (cellsV x0) fun a1 =>
palloc a1 66 27 ([(.int .i64 0)] ++ (vi .u8 (List.replicate 32 0))) fun b1 =>
pld b1 none (fun c1 d1 =>
pld d1 (some 33) (fun e1 f1 =>
pcal Try.prog 27 75 f1 (fun g1 h1 =>
VL (lift1 (aun .not) g1) fun i1 =>
pcond (
VL (vbld (vfill ([(.int .i64 0)] ++ (vi .u8 (List.replicate 32 0))) [])) fun j1 =>
pst h1 33 (cellsV j1) (fun k1 l1 =>
VL (pcellV l1 (some 33) (.ptr 66 0)) fun m1 =>
Rt l1 (.tup [m1, (.int .i64 1)])) (.ptr 66 0)) (
VL (lift2 (abin .mul) (.int .i64 2) c1) fun n1 =>
VL (lift2 (abin .gtr) n1 (.int .i64 16)) fun o1 =>
pcond (
VL (vbld (vfill ([(.int .i64 0)] ++ (vi .u8 (List.replicate 32 0))) [])) fun p1 =>
pst h1 33 (cellsV p1) (fun q1 r1 =>
VL (pcellV r1 (some 33) (.ptr 66 0)) fun s1 =>
Rt r1 (.tup [s1, (.int .i64 3)])) (.ptr 66 0)) (
VL (lift2 (abin .mul) (.int .i64 2) c1) fun t1 =>
VL (vbld (vfill ([(.int .i64 0)] ++ (vi .u8 (List.replicate 32 0))) [(0, 1, t1)])) fun u1 =>
palloc h1 69 27 ([(.int .i64 0)] ++ (vi .u8 (List.replicate 32 0))) fun v1 =>
pst v1 33 (cellsV u1) (fun w1 y1 =>
LP [23] [1, 2, 4, 5, 22] (fun z1 a2 b2 c2 =>
VL (lift2 (abin .lss) (z1.getD 0 .und) (a2.getD 4 .und)) fun d2 =>
pcond (
VL (vfa 1 (a2.getD 0 .und)) fun e2 =>
VL (vixA 16 1 e2 (z1.getD 0 .und)) fun f2 =>
pld b2 none (fun g2 h2 =>
VL (vfa 1 (a2.getD 3 .und)) fun i2 =>
VL (vixA 16 1 i2 (z1.getD 0 .und)) fun j2 =>
pst h2 1 (cellsV g2) (fun k2 l2 =>
VL (lift2 (abin .add) (a2.getD 2 .und) (z1.getD 0 .und)) fun m2 =>
VL (lift1 (acvi .u8) (a2.getD 2 .und)) fun n2 =>
VL (vfa 17 (a2.getD 0 .und)) fun o2 =>
VL (vixA 16 1 o2 (z1.getD 0 .und)) fun p2 =>
pld l2 none (fun q2 r2 =>
VL (lift2 (abin .add) n2 q2) fun s2 =>
VL (vfa 1 (a2.getD 3 .und)) fun t2 =>
VL (vixA 16 1 t2 m2) fun u2 =>
pst r2 1 (cellsV s2) (fun v2 w2 =>
VL (lift2 (abin .add) (a2.getD 2 .und) (z1.getD 0 .und)) fun y2 =>
VL (lift1 (acvi .u8) y2) fun z2 =>
VL (vfa 17 (a2.getD 3 .und)) fun a3 =>
VL (vixA 16 1 a3 (z1.getD 0 .und)) fun b3 =>
pst w2 1 (cellsV z2) (fun c3 d3 =>
VL (lift2 (abin .add) (a2.getD 2 .und) (z1.getD 0 .und)) fun e3 =>
VL (lift1 (acvi .u8) (z1.getD 0 .und)) fun f3 =>
VL (vfa 17 (a2.getD 3 .und)) fun g3 =>
VL (vixA 16 1 g3 e3) fun h3 =>
pst d3 1 (cellsV f3) (fun i3 j3 =>
VL (lift2 (abin .add) (z1.getD 0 .und) (.int .i64 1)) fun k3 =>
c2 [k3] [(a2.getD 0 .und), (a2.getD 1 .und), (a2.getD 2 .und), (a2.getD 3 .und), (a2.getD 4 .und)] j3) h3) b3) u2) p2) j2) f2) (
pld b2 (some 33) (fun l3 m3 =>
pst m3 33 (cellsV l3) (fun n3 o3 =>
VL (pcellV o3 (some 33) (a2.getD 1 .und)) fun p3 =>
Rt o3 (.tup [p3, (.int .i64 0)])) (a2.getD 1 .und)) (a2.getD 3 .und)) d2) [(.int .i64 0)] [(.ptr 65 0), (.ptr 66 0), c1, (.ptr 69 0), c1] y1) (.ptr 69 0)) o1) i1) [e1]) (.ptr 65 0)) (.ptr 65 0)
theorem impl_SubdividedOf_f {x0 : V} : Prt Try.prog 13 [x0] (impl_SubdividedOf_F x0) := pfun (fn := Try.f13) (m := [.s, .s, .s, .s, .s, .s, .s, .s, .s, .s, .l [23] [1, 2, 4, 5, 22], .s, .s, .s, .s, .s, .s, .s, .s]) (c := 1 ≤ 61) rfl (fun h0 Rt => by kernel_rfl) (by decide)
def spec_SubdividedOf_F (x0 : V) (hi : Hp) (Rt : Hp → V → Prop) : Prop :=
pbox hi 65 27 (cellsV x0) fun a1 =>
palloc a1 66 27 ([(.int .i64 0)] ++ (vi .u8 (List.replicate 32 0))) fun b1 =>
pld b1 (some 33) (fun c1 d1 =>
pcal Try.prog 29 73 d1 (fun e1 f1 =>
VL (lift1 (aun .not) e1) fun g1 =>
pcond (
VL (vbld (vfill ([(.int .i64 0)] ++ (vi .u8 (List.replicate 32 0))) [])) fun h1 =>
pst f1 33 (cellsV h1) (fun i1 j1 =>
VL (pcellV j1 (some 33) (.ptr 66 0)) fun k1 =>
Rt j1 (.tup [k1, (.int .i64 1)])) (.ptr 66 0)) (
pld f1 none (fun l1 m1 =>
VL (lift2 (abin .mul) (.int .i64 2) l1) fun n1 =>
VL (lift2 (abin .gtr) n1 (.int .i64 16)) fun o1 =>
pcond (
VL (vbld (vfill ([(.int .i64 0)] ++ (vi .u8 (List.replicate 32 0))) [])) fun p1 =>
pst m1 33 (cellsV p1) (fun q1 r1 =>
VL (pcellV r1 (some 33) (.ptr 66 0)) fun s1 =>
Rt r1 (.tup [s1, (.int .i64 3)])) (.ptr 66 0)) (
pld m1 none (fun t1 u1 =>
VL (lift2 (abin .mul) (.int .i64 2) t1) fun v1 =>
VL (vbld (vfill ([(.int .i64 0)] ++ (vi .u8 (List.replicate 32 0))) [(0, 1, v1)])) fun w1 =>
palloc u1 69 27 ([(.int .i64 0)] ++ (vi .u8 (List.replicate 32 0))) fun y1 =>
pst y1 33 (cellsV w1) (fun z1 a2 =>
LP [6] [1, 2, 4, 5] (fun b2 c2 d2 e2 =>
VL (lift2 (abin .lss) (b2.getD 0 .und) (c2.getD 2 .und)) fun f2 =>
pcond (
VL (vfa 1 (c2.getD 0 .und)) fun g2 =>
VL (vixA 16 1 g2 (b2.getD 0 .und)) fun h2 =>
pld d2 none (fun i2 j2 =>
VL (vfa 1 (c2.getD 3 .und)) fun k2 =>
VL (vixA 16 1 k2 (b2.getD 0 .und)) fun l2 =>
pst j2 1 (cellsV i2) (fun m2 n2 =>
VL (lift2 (abin .add) (c2.getD 2 .und) (b2.getD 0 .und)) fun o2 =>
VL (lift1 (acvi .u8) (c2.getD 2 .und)) fun p2 =>
VL (vfa 17 (c2.getD 0 .und)) fun q2 =>
VL (vixA 16 1 q2 (b2.getD 0 .und)) fun r2 =>
pld n2 none (fun s2 t2 =>
VL (lift2 (abin .add) p2 s2) fun u2 =>
VL (vfa 1 (c2.getD 3 .und)) fun v2 =>
VL (vixA 16 1 v2 o2) fun w2 =>
pst t2 1 (cellsV u2) (fun y2 z2 =>
VL (lift2 (abin .add) (c2.getD 2 .und) (b2.getD 0 .und)) fun a3 =>
VL (lift1 (acvi .u8) a3) fun b3 =>
VL (vfa 17 (c2.getD 3 .und)) fun c3 =>
VL (vixA 16 1 c3 (b2.getD 0 .und)) fun d3 =>
pst z2 1 (cellsV b3) (fun e3 f3 =>
VL (lift2 (abin .add) (c2.getD 2 .und) (b2.getD 0 .und)) fun g3 =>
VL (lift1 (acvi .u8) (b2.getD 0 .und)) fun h3 =>
VL (vfa 17 (c2.getD 3 .und)) fun i3 =>
VL (vixA 16 1 i3 g3) fun j3 =>
pst f3 1 (cellsV h3) (fun k3 l3 =>
VL (lift2 (abin .add) (b2.getD 0 .und) (.int .i64 1)) fun m3 =>
e2 [m3] [(c2.getD 0 .und), (c2.getD 1 .und), (c2.getD 2 .und), (c2.getD 3 .und)] l3) j3) d3) w2) r2) l2) h2) (
pld d2 (some 33) (fun n3 o3 =>
pst o3 33 (cellsV n3) (fun p3 q3 =>
VL (pcellV q3 (some 33) (c2.getD 1 .und)) fun r3 =>
Rt q3 (.tup [r3, (.int .i64 0)])) (c2.getD 1 .und)) (c2.getD 3 .und)) f2) [(.int .i64 0)] [(.ptr 65 0), (.ptr 66 0), t1, (.ptr 69 0)] a2) (.ptr 69 0)) (.ptr 65 0)) o1) (.ptr 65 0)) g1) [c1]) (.ptr 65 0)
theorem spec_SubdividedOf_f {x0 : V} : Prt Try.prog 14 [x0] (spec_SubdividedOf_F x0) := pfun (fn := Try.f14) (m := [.s, .s, .s, .s, .s, .s, .s, .s, .s, .s, .l [6] [1, 2, 4, 5], .s, .s, .s, .s, .s, .s, .s]) (c := 1 ≤ 62) rfl (fun h0 Rt => by kernel_rfl) (by decide)
def impl_IsClean_F (x0 : V) (hi : Hp) (Rt : Hp → V → Prop) : Prop :=
pbox hi 65 27 (cellsV x0) fun a1 =>
pld a1 (some 33) (fun b1 c1 =>
pcal Try.prog 27 69 c1 (fun d1 e1 =>
VL (lift1 (aun .not) d1) fun f1 =>
pcond (
Rt e1 (.tup [(.bool false), (.int .i64 1)])) (
pld e1 (some 33) (fun g1 h1 =>
pcal Try.prog 35 72 h1 (fun i1 j1 =>
Rt j1 (.tup [i1, (.int .i64 0)])) [g1]) (.ptr 65 0)) f1) [b1]) (.ptr 65 0)
theorem impl_IsClean_f {x0 : V} : Prt Try.prog 15 [x0] (impl_IsClean_F x0) := pfun (fn := Try.f15) (m := [.s, .s, .s, .s, .s]) (c := 1 ≤ 9) rfl (fun h0 Rt => by kernel_rfl) (by decide)
def spec_DrawAreAlike_F (x0 : V) (hi : Hp) (Rt : Hp → V → Prop) : Prop :=
palloc hi 66 27 ([(.int .i64 0)] ++ (vi .u8 (List.replicate 32 0))) fun a1 =>
palloc a1 67 27 ([(.int .i64 0)] ++ (vi .u8 (List.replicate 32 0))) fun b1 =>
pcal Try.prog 24 71 b1 (fun c1 d1 =>
pcal Try.prog 25 73 d1 (fun e1 f1 =>
palloc f1 69 27 ([(.int .i64 0)] ++ (vi .u8 (List.replicate 32 0))) fun g1 =>
pst g1 33 (cellsV e1) (fun h1 i1 =>
pld i1 (some 33) (fun j1 k1 =>
pcal Try.prog 29 75 k1 (fun l1 m1 =>
pgk true m1 (fun n1 o1 => o1 c1 m1) (fun p1 q1 r1 =>
pgk true r1 (fun s1 t1 => pcal Try.prog 36 78 r1 (fun u1 v1 =>
t1 u1 v1) [q1, (.int .i64 2)]) (fun w1 y1 z1 =>
pgk true z1 (fun a2 b2 => VL (lift2 (abin .eql) y1 (.int .i64 0)) fun c2 =>
b2 c2 z1) (fun d2 e2 f2 =>
VL (vpick d2 e2 (.bool false)) fun g2 =>
pcond (
pldb f2 (some 33) (fun h2 i2 =>
pldb i2 (some 33) (fun j2 k2 =>
pld k2 none (fun l2 m2 =>
pcala Try.prog 38 86 m2 (fun n2 o2 =>
pcalp Try.prog 37 87 o2 (fun p2 q2 =>
pst q2 33 (cellsV h2) (fun r2 s2 =>
pst s2 33 (cellsV p2) (fun t2 u2 =>
VL (pcellV u2 (some 33) (.ptr 66 0)) fun v2 =>
VL (pcellV u2 (some 33) (.ptr 67 0)) fun w2 =>
Rt u2 (.tup [v2, w2])) (.ptr 67 0)) (.ptr 66 0)) [j2, n2]) [(.ptr 69 0), (.ptr 69 0)] [c1, l2]) (.ptr 69 0)) (.ptr 69 0) (.ptr 69 0)) (.ptr 69 0) (.ptr 69 0)) (
pldb f2 (some 33) (fun y2 z2 =>
pmks z2 91 2 2 2 (fun a3 =>
pcala Try.prog 39 92 a3 (fun b3 c3 =>
pcala Try.prog 25 93 c3 (fun d3 e3 =>
pst e3 33 (cellsV y2) (fun f3 g3 =>
pst g3 33 (cellsV d3) (fun h3 i3 =>
VL (pcellV i3 (some 33) (.ptr 66 0)) fun j3 =>
VL (pcellV i3 (some 33) (.ptr 67 0)) fun k3 =>
Rt i3 (.tup [j3, k3])) (.ptr 67 0)) (.ptr 66 0)) [(.ptr 69 0)] [c1, b3]) [(.ptr 69 0)] [c1, (.rf 91 0 2)]) (vfill [(.int .i64 0), (.int .i64 0)] [(0, 1, (.int .i64 3)), (1, 1, (.int .i64 16))])) (.ptr 69 0) (.ptr 69 0)) g2) w1) p1) l1) [j1]) (.ptr 69 0)) (.ptr 69 0)) [c1, (.int .i64 16)]) [x0]
theorem spec_DrawAreAlike_f {x0 : V} : Prt Try.prog 16 [x0] (spec_DrawAreAlike_F x0) := pfun (fn := Try.f16) (m := [.s, .s, .s, .s, .s, .s, .s]) (c := 1 ≤ 30) rfl (fun h0 Rt => by kernel_rfl) (by decide)
def spec_AreAlike_F (x0 x1 : V) (hi : Hp) (Rt : Hp → V → Prop) : Prop :=
pbox hi 66 27 (cellsV x0) fun a1 =>
pbox a1 67 27 (cellsV x1) fun b1 =>
pld b1 (some 33) (fun c1 d1 =>
pcal Try.prog 29 71 d1 (fun e1 f1 =>
VL (lift1 (aun .not) e1) fun g1 =>
pgk false f1 (fun h1 i1 => pld f1 (some 33) (fun j1 k1 =>
i1 j1 k1) (.ptr 67 0)) (fun l1 m1 n1 =>
pgk false n1 (fun o1 p1 => pcal Try.prog 29 75 n1 (fun q1 r1 =>
p1 q1 r1) [m1]) (fun s1 t1 u1 =>
pgk false u1 (fun v1 w1 => VL (lift1 (aun .not) t1) fun y1 =>
w1 y1 u1) (fun z1 a2 b2 =>
VL (vpick z1 (.bool true) a2) fun c2 =>
pcond (
Rt b2 (.tup [(.bool false), (.int .i64 1)])) (
pld b2 (some 33) (fun d2 e2 =>
pld e2 (some 33) (fun f2 g2 =>
pcal Try.prog 40 80 g2 (fun h2 i2 =>
Rt i2 (.tup [h2, (.int .i64 0)])) [d2, f2]) (.ptr 67 0)) (.ptr 66 0)) c2) s1) l1) g1) [c1]) (.ptr 66 0)
theorem spec_AreAlike_f {x0 x1 : V} : Prt Try.prog 17 [x0, x1] (spec_AreAlike_F x0 x1) := pfun (fn := Try.f17) (m := [.s, .s, .s, .s, .s]) (c := 2 ≤ 17) rfl (fun h0 Rt => by kernel_rfl) (by decide)
def impl_PassportOf_F (x0 : V) (hi : Hp) (Rt : Hp → V → Prop) : Prop :=
pbox hi 65 27 (cellsV x0) fun a1 =>
pld a1 (some 33) (fun b1 c1 =>
pcal Try.prog 27 69 c1 (fun d1 e1 =>
VL (lift1 (aun .not) d1) fun f1 =>
pcond (
Rt e1 (.tup [.nils, (.int .i64 1)])) (
pld e1 (some 33) (fun g1 h1 =>
pcal Try.prog 41 72 h1 (fun i1 j1 =>
Rt j1 (.tup [i1, (.int .i64 0)])) [g1]) (.ptr 65 0)) f1) [b1]) (.ptr 65 0)
theorem impl_PassportOf_f {x0 : V} : Prt Try.prog 18 [x0] (impl_PassportOf_F x0) := pfun (fn := Try.f18) (m := [.s, .s, .s, .s, .s]) (c := 1 ≤ 9) rfl (fun h0 Rt => by kernel_rfl) (by decide)
def laws_rows5_F (x0 x1 : V) (hi : Hp) (Rt : Hp → V → Prop) : Prop :=
VL (vlenS x0) fun a1 =>
VL (vlenS x1) fun b1 =>
VL (lift2 (abin .neq) a1 b1) fun c1 =>
pcond (
Rt hi (.bool false)) (
LP [5] [0, 1] (fun d1 e1 f1 g1 =>
VL (vlenS (e1.getD 0 .und)) fun h1 =>
VL (lift2 (abin .lss) (d1.getD 0 .und) h1) fun i1 =>
pcond (
VL (vixS 1 (e1.getD 0 .und) (d1.getD 0 .und)) fun j1 =>
pld f1 none (fun k1 l1 =>
VL (vixS 1 (e1.getD 1 .und) (d1.getD 0 .und)) fun m1 =>
pld l1 none (fun n1 o1 =>
pcal Try.prog 42 89 o1 (fun p1 q1 =>
VL (lift1 (aun .not) p1) fun r1 =>
pcond (
Rt q1 (.bool false)) (
VL (lift2 (abin .add) (d1.getD 0 .und) (.int .i64 1)) fun s1 =>
g1 [s1] [(e1.getD 0 .und), (e1.getD 1 .und)] q1) r1) [k1, n1]) m1) j1) (
Rt f1 (.bool true)) i1) [(.int .i64 0)] [x0, x1] hi) c1
theorem laws_rows5_f {x0 x1 : V} : Prt Try.prog 19 [x0, x1] (laws_rows5_F x0 x1) := pfun (fn := Try.f19) (m := [.s, .s, .s, .s, .s, .s, .l [5] [0, 1], .s, .s, .s, .s, .s, .s]) (c := 2 ≤ 27) rfl (fun h0 Rt => by kernel_rfl) (by decide)
def spec_DrawIsChiral_F (x0 : V) (hi : Hp) (Rt : Hp → V → Prop) : Prop :=
palloc hi 66 27 ([(.int .i64 0)] ++ (vi .u8 (List.replicate 32 0))) fun a1 =>
pcal Try.prog 24 69 a1 (fun b1 c1 =>
pcal Try.prog 36 71 c1 (fun d1 e1 =>
VL (lift2 (abin .eql) d1 (.int .i64 0)) fun f1 =>
pcond (
pcal Try.prog 43 74 e1 (fun g1 h1 =>
pst h1 33 (cellsV g1) (fun i1 j1 =>
VL (pcellV j1 (some 33) (.ptr 66 0)) fun k1 =>
Rt j1 k1) (.ptr 66 0)) [b1]) (
pcal Try.prog 25 76 e1 (fun l1 m1 =>
pst m1 33 (cellsV l1) (fun n1 o1 =>
VL (pcellV o1 (some 33) (.ptr 66 0)) fun p1 =>
Rt o1 p1) (.ptr 66 0)) [b1, (.int .i64 12)]) f1) [b1, (.int .i64 2)]) [x0]
theorem spec_DrawIsChiral_f {x0 : V} : Prt Try.prog 20 [x0] (spec_DrawIsChiral_F x0) := pfun (fn := Try.f20) (m := [.s, .s, .s, .s, .s, .s]) (c := 1 ≤ 13) rfl (fun h0 Rt => by kernel_rfl) (by decide)
def spec_IsChiral_F (x0 : V) (hi : Hp) (Rt : Hp → V → Prop) : Prop :=
pbox hi 65 27 (cellsV x0) fun a1 =>
pld a1 (some 33) (fun b1 c1 =>
pcal Try.prog 29 69 c1 (fun d1 e1 =>
VL (lift1 (aun .not) d1) fun f1 =>
pcond (
Rt e1 (.tup [(.bool false), (.int .i64 1)])) (
pld e1 (some 33) (fun g1 h1 =>
pld h1 (some 33) (fun i1 j1 =>
pcalp Try.prog 44 73 j1 (fun k1 l1 =>
pcal Try.prog 40 74 l1 (fun m1 n1 =>
VL (lift1 (aun .not) m1) fun o1 =>
Rt n1 (.tup [o1, (.int .i64 0)])) [g1, k1]) [i1]) (.ptr 65 0)) (.ptr 65 0)) f1) [b1]) (.ptr 65 0)
theorem spec_IsChiral_f {x0 : V} : Prt Try.prog 21 [x0] (spec_IsChiral_F x0) := pfun (fn := Try.f21) (m := [.s, .s, .s, .s, .s]) (c := 1 ≤ 12) rfl (fun h0 Rt => by kernel_rfl) (by decide)
def spec_DrawIsClean_F (x0 : V) (hi : Hp) (Rt : Hp → V → Prop) : Prop :=
palloc hi 66 27 ([(.int .i64 0)] ++ (vi .u8 (List.replicate 32 0))) fun a1 =>
pcal Try.prog 24 68 a1 (fun b1 c1 =>
pcal Try.prog 45 69 c1 (fun d1 e1 =>
pst e1 33 (cellsV d1) (fun f1 g1 =>
VL (pcellV g1 (some 33) (.ptr 66 0)) fun h1 =>
Rt g1 h1) (.ptr 66 0)) [b1]) [x0]
theorem spec_DrawIsClean_f {x0 : V} : Prt Try.prog 22 [x0] (spec_DrawIsClean_F x0) := pfun (fn := Try.f22) (m := [.s, .s]) (c := 1 ≤ 6) rfl (fun h0 Rt => by kernel_rfl) (by decide)
def spec_IsClean_F (x0 : V) (hi : Hp) (Rt : Hp → V → Prop) : Prop :=
pbox hi 65 27 (cellsV x0) fun a1 =>
pld a1 (some 33) (fun b1 c1 =>
pcal Try.prog 29 69 c1 (fun d1 e1 =>
VL (lift1 (aun .not) d1) fun f1 =>
pcond (
Rt e1 (.tup [(.bool false), (.int .i64 1)])) (
pld e1 (some 33) (fun g1 h1 =>
pcal Try.prog 46 72 h1 (fun i1 j1 =>
Rt j1 (.tup [i1, (.int .i64 0)])) [g1]) (.ptr 65 0)) f1) [b1]) (.ptr 65 0)
theorem spec_IsClean_f {x0 : V} : Prt Try.prog 23 [x0] (spec_IsClean_F x0) := pfun (fn := Try.f23) (m := [.s, .s, .s, .s, .s]) (c := 1 ≤ 9) rfl (fun h0 Rt => by kernel_rfl) (by decide)
def spec_l01From_F (x0 : V) (hi : Hp) (Rt : Hp → V → Prop) : Prop :=
VL (vlenS x0) fun a1 =>
VL (lift1 (acvi .u64) a1) fun b1 =>
VL (lift2 (abin .add) (.int .u64 8117) b1) fun c1 =>
VL (vbld (vfill [.nils, (.int .i64 0), (.int .u64 0)] [(0, 1, x0), (2, 1, c1)])) fun d1 =>
pbox hi 75 67 (cellsV d1) fun e1 =>
LP [4] [0, 3] (fun f1 g1 h1 i1 =>
VL (vlenS (g1.getD 0 .und)) fun j1 =>
VL (lift2 (abin .lss) (f1.getD 0 .und) j1) fun k1 =>
pgk true h1 (fun l1 m1 => m1 (f1.getD 0 .und) h1) (fun n1 o1 p1 =>
pgk true p1 (fun q1 r1 => VL (lift2 (abin .lss) o1 (.int .i64 4096)) fun s1 =>
r1 s1 p1) (fun t1 u1 v1 =>
VL (vpick t1 u1 (.bool false)) fun w1 =>
pcond (
VL (vfa 0 (g1.getD 1 .und)) fun y1 =>
VL (vfa 2 y1) fun z1 =>
pld v1 none (fun a2 b2 =>
VL (lift2 (abin .mul) a2 (.int .u64 1099511628211)) fun c2 =>
VL (vixS 1 (g1.getD 0 .und) (f1.getD 0 .und)) fun d2 =>
pld b2 none (fun e2 f2 =>
VL (lift1 (acvi .u64) e2) fun g2 =>
VL (lift2 (abin .add) c2 g2) fun h2 =>
VL (lift2 (abin .add) h2 (.int .u64 23)) fun i2 =>
VL (vfa 0 (g1.getD 1 .und)) fun j2 =>
VL (vfa 2 j2) fun k2 =>
pst f2 1 (cellsV i2) (fun l2 m2 =>
VL (lift2 (abin .add) (f1.getD 0 .und) (.int .i64 1)) fun n2 =>
i1 [n2] [(g1.getD 0 .und), (g1.getD 1 .und)] m2) k2) d2) z1) (
Rt v1 (g1.getD 1 .und)) w1) n1) k1) [(.int .i64 0)] [x0, (.ptr 75 0)] e1
theorem spec_l01From_f {x0 : V} : Prt Try.prog 24 [x0] (spec_l01From_F x0) := pfun (fn := Try.f24) (m := [.s, .s, .s, .s, .l [4] [0, 3], .s, .s, .s, .s]) (c := 1 ≤ 38) rfl (fun h0 Rt => by kernel_rfl) (by decide)
def spec_l01Spoil_F (x0 x1 : V) (hi : Hp) (Rt : Hp → V → Prop) : Prop :=
palloc hi 68 27 ([(.int .i64 0)] ++ (vi .u8 (List.replicate 32 0))) fun a1 =>
pcal Try.prog 47 72 a1 (fun b1 c1 =>
palloc c1 69 27 ([(.int .i64 0)] ++ (vi .u8 (List.replicate 32 0))) fun d1 =>
pst d1 33 (cellsV b1) (fun e1 f1 =>
JN (fun g1 =>
pcal Try.prog 36 74 f1 (fun h1 i1 =>
VL (lift2 (abin .eql) h1 (.int .i64 0)) fun j1 =>
pcond (
VL (vixA 16 1 (.ptr 69 1) (.int .i64 0)) fun k1 =>
pld i1 none (fun l1 m1 =>
VL (lift2 (abin .add) l1 (.int .u8 1)) fun n1 =>
VL (vixA 16 1 (.ptr 69 1) (.int .i64 0)) fun o1 =>
pst m1 1 (cellsV n1) (fun p1 q1 =>
g1 [(.ptr 68 0), (.ptr 69 0)] q1) o1) k1) (
VL (lift2 (abin .eql) h1 (.int .i64 1)) fun r1 =>
pcond (
pld i1 none (fun s1 t1 =>
VL (lift2 (abin .add) s1 (.int .i64 1)) fun u1 =>
pld t1 none (fun v1 w1 =>
VL (lift2 (abin .sub) v1 (.int .i64 1)) fun y1 =>
pmks w1 92 2 5 5 (fun z1 =>
pcal Try.prog 39 93 z1 (fun a2 b2 =>
pst b2 1 (cellsV a2) (fun c2 d2 =>
g1 [(.ptr 68 0), (.ptr 69 0)] d2) (.ptr 69 0)) [x0, (.rf 92 0 5)]) (vfill (vi .i64 (List.replicate 5 0)) [(0, 1, (.int .i64 0)), (1, 1, (.int .i64 17)), (2, 1, (.int .i64 (-1))), (3, 1, u1), (4, 1, y1)])) (.ptr 69 0)) (.ptr 69 0)) (
VL (lift2 (abin .eql) h1 (.int .i64 2)) fun e2 =>
pcond (
pld i1 none (fun f2 g2 =>
VL (lift2 amin f2 (.int .i64 16)) fun h2 =>
pcal Try.prog 48 100 g2 (fun i2 j2 =>
pst j2 16 (cellsV i2) (fun k2 l2 =>
g1 [(.ptr 68 0), (.ptr 69 0)] l2) (.ptr 69 17)) [h2]) (.ptr 69 0)) (
VL (lift2 (abin .eql) h1 (.int .i64 3)) fun m2 =>
pcond (
pmks i1 105 2 2 2 (fun n2 =>
pcal Try.prog 39 106 n2 (fun o2 p2 =>
VL (lift1 (acvi .u8) o2) fun q2 =>
VL (vixA 16 1 (.ptr 69 17) (.int .i64 15)) fun r2 =>
pst p2 1 (cellsV q2) (fun s2 t2 =>
g1 [(.ptr 68 0), (.ptr 69 0)] t2) r2) [x0, (.rf 105 0 2)]) (vfill [(.int .i64 0), (.int .i64 0)] [(0, 1, (.int .i64 1)), (1, 1, (.int .i64 255))])) (
g1 [(.ptr 68 0), (.ptr 69 0)] i1) m2) e2) r1) j1) [x0, (.int .i64 40)]) fun u2 v2 =>
pld v2 (some 33) (fun w2 y2 =>
pst y2 33 (cellsV w2) (fun z2 a3 =>
VL (pcellV a3 (some 33) (u2.getD 0 .und)) fun b3 =>
Rt a3 b3) (u2.getD 0 .und)) (u2.getD 1 .und)) (.ptr 69 0)) [x0, x1]
theorem spec_l01Spoil_f {x0 x1 : V} : Prt Try.prog 25 [x0, x1] (spec_l01Spoil_F x0 x1) := pfun (fn := Try.f25) (m := [.s, .s, .j [4, 5], .s, .s, .s, .s, .s, .s]) (c := 2 ≤ 47) rfl (fun h0 Rt => by kernel_rfl) (by decide)
def spec_l01Near_F (x0 x1 : V) (hi : Hp) (Rt : Hp → V → Prop) : Prop :=
pcal Try.prog 36 70 hi (fun a1 b1 =>
VL (lift2 (abin .eql) a1 (.int .i64 0)) fun c1 =>
pcond (
VL (lift2 (abin .add) x1 (.int .i64 1)) fun d1 =>
pmks b1 75 2 4 4 (fun e1 =>
pcal Try.prog 39 76 e1 (fun f1 g1 =>
Rt g1 f1) [x0, (.rf 75 0 4)]) (vfill (vi .i64 (List.replicate 4 0)) [(0, 1, (.int .i64 (-1))), (1, 1, d1), (2, 1, (.int .i64 1099511627776)), (3, 1, (.int .i64 (-4611686018427387904)))])) (
VL (lift2 (abin .add) x1 (.int .i64 1)) fun h1 =>
pcal Try.prog 36 80 b1 (fun i1 j1 =>
Rt j1 i1) [x0, h1]) c1) [x0, (.int .i64 14)]
theorem spec_l01Near_f {x0 x1 : V} : Prt Try.prog 26 [x0, x1] (spec_l01Near_F x0 x1) := pfun (fn := Try.f26) (m := [.s, .s, .s, .s, .s]) (c := 2 ≤ 17) rfl (fun h0 Rt => by kernel_rfl) (by decide)
def impl_IsDessin_F (x0 : V) (hi : Hp) (Rt : Hp → V → Prop) : Prop :=
pbox hi 65 27 (cellsV x0) fun a1 =>
pld a1 none (fun b1 c1 =>
pld c1 (some 16) (fun d1 e1 =>
pcal Try.prog 49 73 e1 (fun f1 g1 =>
pgk true g1 (fun h1 i1 => i1 (.ptr 65 17) g1) (fun j1 k1 l1 =>
pgk true l1 (fun m1 n1 => pld l1 (some 16) (fun o1 p1 =>
n1 o1 p1) k1) (fun q1 r1 s1 =>
pgk true s1 (fun t1 u1 => u1 b1 s1) (fun v1 w1 y1 =>
pgk true y1 (fun z1 a2 => pcal Try.prog 49 78 y1 (fun b2 c2 =>
a2 b2 c2) [r1, w1]) (fun d2 e2 f2 =>
VL (vpick d2 e2 (.bool false)) fun g2 =>
pgk true f2 (fun h2 i2 => i2 b1 f2) (fun j2 k2 l2 =>
pgk true l2 (fun m2 n2 => n2 (.ptr 65 1) l2) (fun o2 p2 q2 =>
pgk true q2 (fun r2 s2 => pld q2 (some 16) (fun t2 u2 =>
s2 t2 u2) p2) (fun v2 w2 y2 =>
pgk true y2 (fun z2 a3 => a3 (.ptr 65 17) y2) (fun b3 c3 d3 =>
pgk true d3 (fun e3 f3 => pld d3 (some 16) (fun g3 h3 =>
f3 g3 h3) c3) (fun i3 j3 k3 =>
pgk true k3 (fun l3 m3 => pmks k3 86 25 32 2 (fun n3 =>
m3 (.rf 86 0 2) n3) (vfill (vi .u8 (List.replicate 32 0)) [(0, 16, w2), (16, 16, j3)])) (fun o3 p3 q3 =>
pgk true q3 (fun r3 s3 => pcal Try.prog 50 87 q3 (fun t3 u3 =>
s3 t3 u3) [k2, p3]) (fun v3 w3 y3 =>
pgk true y3 (fun z3 a4 => a4 b1 y3) (fun b4 c4 d4 =>
pgk true d4 (fun e4 f4 => VL (lift2 (abin .eql) w3 c4) fun g4 =>
f4 g4 d4) (fun h4 i4 j4 =>
VL (vpick h4 i4 (.bool false)) fun k4 =>
Rt j4 k4) b4) v3) o3) i3) b3) v2) o2) j2) g2) v1) q1) j1) f1) [d1, b1]) (.ptr 65 1)) (.ptr 65 0)
theorem impl_IsDessin_f {x0 : V} : Prt Try.prog 27 [x0] (impl_IsDessin_F x0) := pfun (fn := Try.f27) (m := [.s, .s, .s]) (c := 1 ≤ 27) rfl (fun h0 Rt => by kernel_rfl) (by decide)
def impl_face_F (x0 : V) (hi : Hp) (Rt : Hp → V → Prop) : Prop :=
pbox hi 65 27 (cellsV x0) fun a1 =>
palloc a1 66 25 (vi .u8 (List.replicate 16 0)) fun b1 =>
pld b1 (some 16) (fun c1 d1 =>
pld d1 (some 16) (fun e1 f1 =>
pld f1 none (fun g1 h1 =>
pld h1 none (fun i1 j1 =>
pcalp Try.prog 52 73 j1 (fun k1 l1 =>
pcal Try.prog 51 76 l1 (fun m1 n1 =>
pst n1 16 (cellsV m1) (fun o1 p1 =>
VL (pcellV p1 (some 16) (.ptr 66 0)) fun q1 =>
Rt p1 q1) (.ptr 66 0)) [k1, i1]) [c1, e1, g1]) (.ptr 65 0)) (.ptr 65 0)) (.ptr 65 17)) (.ptr 65 1)
theorem impl_face_f {x0 : V} : Prt Try.prog 28 [x0] (impl_face_F x0) := pfun (fn := Try.f28) (m := [.s, .s]) (c := 1 ≤ 13) rfl (fun h0 Rt => by kernel_rfl) (by decide)
def spec_l01Is_F (x0 : V) (hi : Hp) (Rt : Hp → V → Prop) : Prop :=
pbox hi 65 27 (cellsV x0) fun a1 =>
pld a1 (some 16) (fun b1 c1 =>
pld c1 none (fun d1 e1 =>
pcal Try.prog 53 71 e1 (fun f1 g1 =>
pgk true g1 (fun h1 i1 => i1 (.ptr 65 17) g1) (fun j1 k1 l1 =>
pgk true l1 (fun m1 n1 => pld l1 (some 16) (fun o1 p1 =>
n1 o1 p1) k1) (fun q1 r1 s1 =>
pgk true s1 (fun t1 u1 => u1 (.ptr 65 0) s1) (fun v1 w1 y1 =>
pgk true y1 (fun z1 a2 => pld y1 none (fun b2 c2 =>
a2 b2 c2) w1) (fun d2 e2 f2 =>
pgk true f2 (fun g2 h2 => pcal Try.prog 53 77 f2 (fun i2 j2 =>
h2 i2 j2) [r1, e2]) (fun k2 l2 m2 =>
VL (vpick k2 l2 (.bool false)) fun n2 =>
pgk true m2 (fun o2 p2 => p2 (.ptr 65 0) m2) (fun q2 r2 s2 =>
pgk true s2 (fun t2 u2 => pld s2 none (fun v2 w2 =>
u2 v2 w2) r2) (fun y2 z2 a3 =>
pgk true a3 (fun b3 c3 => c3 (.ptr 65 1) a3) (fun d3 e3 f3 =>
pgk true f3 (fun g3 h3 => pld f3 (some 16) (fun i3 j3 =>
h3 i3 j3) e3) (fun k3 l3 m3 =>
pgk true m3 (fun n3 o3 => o3 (.ptr 65 17) m3) (fun p3 q3 r3 =>
pgk true r3 (fun s3 t3 => pld r3 (some 16) (fun u3 v3 =>
t3 u3 v3) q3) (fun w3 y3 z3 =>
pgk true z3 (fun a4 b4 => pcal Try.prog 54 86 z3 (fun c4 d4 =>
b4 c4 d4) [z2, l3, y3]) (fun e4 f4 g4 =>
VL (vpick e4 f4 (.bool false)) fun h4 =>
Rt g4 h4) w3) p3) k3) d3) y2) q2) n2) d2) v1) q1) j1) f1) [b1, d1]) (.ptr 65 0)) (.ptr 65 1)
theorem spec_l01Is_f {x0 : V} : Prt Try.prog 29 [x0] (spec_l01Is_F x0) := pfun (fn := Try.f29) (m := [.s, .s]) (c := 1 ≤ 24) rfl (fun h0 Rt => by kernel_rfl) (by decide)
def spec_l01In_F (x0 x1 x2 : V) (hi : Hp) (Rt : Hp → V → Prop) : Prop :=
VL (lift2 (abin .geq) x0 x1) fun a1 =>
pgk true hi (fun b1 c1 => c1 x0 hi) (fun d1 e1 f1 =>
pgk true f1 (fun g1 h1 => h1 x2 f1) (fun i1 j1 k1 =>
pgk true k1 (fun l1 m1 => VL (lift2 (abin .leq) e1 j1) fun n1 =>
m1 n1 k1) (fun o1 p1 q1 =>
VL (vpick o1 p1 (.bool false)) fun r1 =>
Rt q1 r1) i1) d1) a1
theorem spec_l01In_f {x0 x1 x2 : V} : Prt Try.prog 30 [x0, x1, x2] (spec_l01In_F x0 x1 x2) := pfun (fn := Try.f30) (m := [.s, .s]) (c := 3 ≤ 15) rfl (fun h0 Rt => by kernel_rfl) (by decide)
def spec_l01Face_F (x0 : V) (hi : Hp) (Rt : Hp → V → Prop) : Prop :=
pbox hi 65 27 (cellsV x0) fun a1 =>
palloc a1 66 25 (vi .u8 (List.replicate 16 0)) fun b1 =>
pld b1 (some 16) (fun c1 d1 =>
pld d1 (some 16) (fun e1 f1 =>
pld f1 none (fun g1 h1 =>
pld h1 none (fun i1 j1 =>
pcalp Try.prog 56 73 j1 (fun k1 l1 =>
pcal Try.prog 55 76 l1 (fun m1 n1 =>
pst n1 16 (cellsV m1) (fun o1 p1 =>
VL (pcellV p1 (some 16) (.ptr 66 0)) fun q1 =>
Rt p1 q1) (.ptr 66 0)) [k1, i1]) [c1, e1, g1]) (.ptr 65 0)) (.ptr 65 0)) (.ptr 65 17)) (.ptr 65 1)
theorem spec_l01Face_f {x0 : V} : Prt Try.prog 31 [x0] (spec_l01Face_F x0) := pfun (fn := Try.f31) (m := [.s, .s]) (c := 1 ≤ 13) rfl (fun h0 Rt => by kernel_rfl) (by decide)
def impl_genus_F (x0 : V) (hi : Hp) (Rt : Hp → V → Prop) : Prop :=
pbox hi 65 27 (cellsV x0) fun a1 =>
pld a1 (some 33) (fun b1 c1 =>
pld c1 none (fun d1 e1 =>
pcalp Try.prog 41 68 e1 (fun f1 g1 =>
pcal Try.prog 57 71 g1 (fun h1 i1 =>
VL (lift2 (abin .quo) h1 (.int .i64 2)) fun j1 =>
VL (lift2 (abin .sub) (.int .i64 1) j1) fun k1 =>
Rt i1 k1) [f1, d1]) [b1]) (.ptr 65 0)) (.ptr 65 0)
theorem impl_genus_f {x0 : V} : Prt Try.prog 32 [x0] (impl_genus_F x0) := pfun (fn := Try.f32) (m := [.s, .s]) (c := 1 ≤ 10) rfl (fun h0 Rt => by kernel_rfl) (by decide)
def impl_mirror_F (x0 : V) (hi : Hp) (Rt : Hp → V → Prop) : Prop :=
pbox hi 65 27 (cellsV x0) fun a1 =>
palloc a1 66 27 ([(.int .i64 0)] ++ (vi .u8 (List.replicate 32 0))) fun b1 =>
pld b1 none (fun c1 d1 =>
pld d1 (some 16) (fun e1 f1 =>
pld f1 none (fun g1 h1 =>
pld h1 (some 16) (fun i1 j1 =>
pld j1 none (fun k1 l1 =>
pcalp Try.prog 51 73 l1 (fun m1 n1 =>
pcalp Try.prog 51 78 n1 (fun o1 p1 =>
VL (vbld (vfill ([(.int .i64 0)] ++ (vi .u8 (List.replicate 32 0))) [(0, 1, c1), (1, 16, m1), (17, 16, o1)])) fun q1 =>
pst p1 33 (cellsV q1) (fun r1 s1 =>
VL (pcellV s1 (some 33) (.ptr 66 0)) fun t1 =>
Rt s1 t1) (.ptr 66 0)) [i1, k1]) [e1, g1]) (.ptr 65 0)) (.ptr 65 17)) (.ptr 65 0)) (.ptr 65 1)) (.ptr 65 0)
theorem impl_mirror_f {x0 : V} : Prt Try.prog 33 [x0] (impl_mirror_F x0) := pfun (fn := Try.f33) (m := [.s, .s]) (c := 1 ≤ 16) rfl (fun h0 Rt => by kernel_rfl) (by decide)
def impl_canonical_F (x0 : V) (hi : Hp) (Rt : Hp → V → Prop) : Prop :=
pbox hi 65 27 (cellsV x0) fun a1 =>
palloc a1 66 27 ([(.int .i64 0)] ++ (vi .u8 (List.replicate 32 0))) fun b1 =>
pld b1 (some 33) (fun c1 d1 =>
pld d1 (some 33) (fun e1 f1 =>
pcalp Try.prog 59 72 f1 (fun g1 h1 =>
pcalp Try.prog 58 73 h1 (fun i1 j1 =>
palloc j1 67 27 ([(.int .i64 0)] ++ (vi .u8 (List.replicate 32 0))) fun k1 =>
pst k1 33 (cellsV i1) (fun l1 m1 =>
LP [4] [1, 2, 3] (fun n1 o1 p1 q1 =>
VL (vfa 0 (o1.getD 0 .und)) fun r1 =>
pld p1 none (fun s1 t1 =>
VL (lift2 (abin .lss) (n1.getD 0 .und) s1) fun u1 =>
pcond (
JN (fun v1 =>
pld t1 (some 33) (fun w1 y1 =>
pld y1 (some 33) (fun z1 a2 =>
pcalp Try.prog 59 83 a2 (fun b2 c2 =>
pcalp Try.prog 58 84 c2 (fun d2 e2 =>
palloc e2 69 27 ([(.int .i64 0)] ++ (vi .u8 (List.replicate 32 0))) fun f2 =>
pst f2 33 (cellsV d2) (fun g2 h2 =>
pld h2 (some 33) (fun i2 j2 =>
pld j2 (some 33) (fun k2 l2 =>
pcal Try.prog 60 87 l2 (fun m2 n2 =>
VL (lift2 (abin .lss) m2 (.int .i64 0)) fun o2 =>
pcond (
pld n2 (some 33) (fun p2 q2 =>
pst q2 33 (cellsV p2) (fun r2 s2 =>
v1 [(o1.getD 0 .und), (o1.getD 1 .und), (o1.getD 2 .und), (n1.getD 0 .und)] s2) (o1.getD 2 .und)) (.ptr 69 0)) (
v1 [(o1.getD 0 .und), (o1.getD 1 .und), (o1.getD 2 .und), (n1.getD 0 .und)] n2) o2) [i2, k2]) (o1.getD 2 .und)) (.ptr 69 0)) (.ptr 69 0)) [w1, b2]) [z1, (n1.getD 0 .und)]) (o1.getD 0 .und)) (o1.getD 0 .und)) fun t2 u2 =>
VL (lift2 (abin .add) (t2.getD 3 .und) (.int .i64 1)) fun v2 =>
q1 [v2] [(t2.getD 0 .und), (t2.getD 1 .und), (t2.getD 2 .und)] u2) (
pld t1 (some 33) (fun w2 y2 =>
pst y2 33 (cellsV w2) (fun z2 a3 =>
VL (pcellV a3 (some 33) (o1.getD 1 .und)) fun b3 =>
Rt a3 b3) (o1.getD 1 .und)) (o1.getD 2 .und)) u1) r1) [(.int .i64 1)] [(.ptr 65 0), (.ptr 66 0), (.ptr 67 0)] m1) (.ptr 67 0)) [c1, g1]) [e1, (.int .i64 0)]) (.ptr 65 0)) (.ptr 65 0)
theorem impl_canonical_f {x0 : V} : Prt Try.prog 34 [x0] (impl_canonical_F x0) := pfun (fn := Try.f34) (m := [.s, .s, .s, .s, .l [4] [1, 2, 3], .s, .s, .j [1, 2, 3, 4], .s, .s, .s]) (c := 1 ≤ 27) rfl (fun h0 Rt => by kernel_rfl) (by decide)
def impl_isClean_F (x0 : V) (hi : Hp) (Rt : Hp → V → Prop) : Prop :=
pbox hi 65 27 (cellsV x0) fun a1 =>
pld a1 (some 16) (fun b1 c1 =>
pld c1 none (fun d1 e1 =>
pcal Try.prog 61 73 e1 (fun f1 g1 =>
VL (vlenS f1) fun h1 =>
LP [11] [9, 10] (fun i1 j1 k1 l1 =>
VL (lift2 (abin .lss) (i1.getD 0 .und) (j1.getD 1 .und)) fun m1 =>
pcond (
VL (vixS 1 (j1.getD 0 .und) (i1.getD 0 .und)) fun n1 =>
pld k1 none (fun o1 p1 =>
VL (lift2 (abin .neq) o1 (.int .i64 2)) fun q1 =>
pcond (
Rt p1 (.bool false)) (
VL (lift2 (abin .add) (i1.getD 0 .und) (.int .i64 1)) fun r1 =>
l1 [r1] [(j1.getD 0 .und), (j1.getD 1 .und)] p1) q1) n1) (
Rt k1 (.bool true)) m1) [(.int .i64 0)] [f1, h1] g1) [b1, d1]) (.ptr 65 0)) (.ptr 65 17)
theorem impl_isClean_f {x0 : V} : Prt Try.prog 35 [x0] (impl_isClean_F x0) := pfun (fn := Try.f35) (m := [.s, .s, .s, .l [11] [9, 10], .s, .s, .s, .s, .s, .s, .s]) (c := 1 ≤ 18) rfl (fun h0 Rt => by kernel_rfl) (by decide)
def spec_l01Next_F (x0 x1 : V) (hi : Hp) (Rt : Hp → V → Prop) : Prop :=
VL (lift2 (abin .lss) x1 (.int .i64 1)) fun a1 =>
pcond (
Rt hi (.int .i64 0)) (
VL (vfa 0 x0) fun b1 =>
VL (vfa 2 b1) fun c1 =>
pld hi none (fun d1 e1 =>
VL (lift2 (abin .mul) d1 (.int .u64 6364136223846793005)) fun f1 =>
VL (lift2 (abin .add) f1 (.int .u64 1442695040888963407)) fun g1 =>
VL (vfa 0 x0) fun h1 =>
VL (vfa 2 h1) fun i1 =>
pst e1 1 (cellsV g1) (fun j1 k1 =>
VL (vfa 0 x0) fun l1 =>
VL (vfa 2 l1) fun m1 =>
pld k1 none (fun n1 o1 =>
VL (lift2 (abin .shr) n1 (.int .u64 33)) fun p1 =>
VL (lift2 (abin .and) p1 (.int .u64 16777215)) fun q1 =>
VL (lift1 (acvi .i64) q1) fun r1 =>
JN (fun s1 =>
VL (vfa 0 x0) fun t1 =>
VL (vfa 1 t1) fun u1 =>
pld o1 none (fun v1 w1 =>
VL (vfa 0 x0) fun y1 =>
VL (vfa 0 y1) fun z1 =>
pld w1 none (fun a2 b2 =>
VL (vlenS a2) fun c2 =>
VL (lift2 (abin .lss) v1 c2) fun d2 =>
pcond (
VL (vfa 0 x0) fun e2 =>
VL (vfa 0 e2) fun f2 =>
pld b2 none (fun g2 h2 =>
VL (vfa 0 x0) fun i2 =>
VL (vfa 1 i2) fun j2 =>
pld h2 none (fun k2 l2 =>
VL (vixS 1 g2 k2) fun m2 =>
pld l2 none (fun n2 o2 =>
VL (lift1 (acvi .i64) n2) fun p2 =>
VL (lift2 (abin .add) r1 p2) fun q2 =>
VL (vfa 0 x0) fun r2 =>
VL (vfa 1 r2) fun s2 =>
pld o2 none (fun t2 u2 =>
VL (lift2 (abin .add) t2 (.int .i64 1)) fun v2 =>
VL (vfa 0 x0) fun w2 =>
VL (vfa 1 w2) fun y2 =>
pst u2 1 (cellsV v2) (fun z2 a3 =>
s1 [x1, q2] a3) y2) s2) m2) j2) f2) (
s1 [x1, r1] b2) d2) z1) u1) fun b3 c3 =>
VL (lift2 (abin .rem) (b3.getD 1 .und) (b3.getD 0 .und)) fun d3 =>
Rt c3 d3) m1) i1) c1) a1
theorem spec_l01Next_f {x0 x1 : V} : Prt Try.prog 36 [x0, x1] (spec_l01Next_F x0 x1) := pfun (fn := Try.f36) (m := [.s, .s, .s, .s, .s, .s, .j [1, 5], .s, .s, .s]) (c := 2 ≤ 58) rfl (fun h0 Rt => by kernel_rfl) (by decide)
def spec_l05Moved_F (x0 x1 : V) (hi : Hp) (Rt : Hp → V → Prop) : Prop :=
pbox hi 66 27 (cellsV x0) fun a1 =>
pbox a1 67 25 (cellsV x1) fun b1 =>
palloc b1 68 27 ([(.int .i64 0)] ++ (vi .u8 (List.replicate 32 0))) fun c1 =>
pld c1 none (fun d1 e1 =>
VL (vbld (vfill ([(.int .i64 0)] ++ (vi .u8 (List.replicate 32 0))) [(0, 1, d1)])) fun f1 =>
palloc e1 69 27 ([(.int .i64 0)] ++ (vi .u8 (List.replicate 32 0))) fun g1 =>
pst g1 33 (cellsV f1) (fun h1 i1 =>
LP [6] [2, 3, 4, 5] (fun j1 k1 l1 m1 =>
VL (vfa 0 (k1.getD 0 .und)) fun n1 =>
pld l1 none (fun o1 p1 =>
VL (lift2 (abin .lss) (j1.getD 0 .und) o1) fun q1 =>
pcond (
VL (vixA 16 1 (k1.getD 1 .und) (j1.getD 0 .und)) fun r1 =>
pld p1 none (fun s1 t1 =>
VL (vfa 1 (k1.getD 0 .und)) fun u1 =>
VL (vixA 16 1 u1 (j1.getD 0 .und)) fun v1 =>
pld t1 none (fun w1 y1 =>
VL (vixA 16 1 (k1.getD 1 .und) w1) fun z1 =>
pld y1 none (fun a2 b2 =>
VL (vfa 1 (k1.getD 3 .und)) fun c2 =>
VL (vixA 16 1 c2 s1) fun d2 =>
pst b2 1 (cellsV a2) (fun e2 f2 =>
VL (vixA 16 1 (k1.getD 1 .und) (j1.getD 0 .und)) fun g2 =>
pld f2 none (fun h2 i2 =>
VL (vfa 17 (k1.getD 0 .und)) fun j2 =>
VL (vixA 16 1 j2 (j1.getD 0 .und)) fun k2 =>
pld i2 none (fun l2 m2 =>
VL (vixA 16 1 (k1.getD 1 .und) l2) fun n2 =>
pld m2 none (fun o2 p2 =>
VL (vfa 17 (k1.getD 3 .und)) fun q2 =>
VL (vixA 16 1 q2 h2) fun r2 =>
pst p2 1 (cellsV o2) (fun s2 t2 =>
VL (lift2 (abin .add) (j1.getD 0 .und) (.int .i64 1)) fun u2 =>
m1 [u2] [(k1.getD 0 .und), (k1.getD 1 .und), (k1.getD 2 .und), (k1.getD 3 .und)] t2) r2) n2) k2) g2) d2) z1) v1) r1) (
pld p1 (some 33) (fun v2 w2 =>
pst w2 33 (cellsV v2) (fun y2 z2 =>
VL (pcellV z2 (some 33) (k1.getD 2 .und)) fun a3 =>
Rt z2 a3) (k1.getD 2 .und)) (k1.getD 3 .und)) q1) n1) [(.int .i64 0)] [(.ptr 66 0), (.ptr 67 0), (.ptr 68 0), (.ptr 69 0)] i1) (.ptr 69 0)) (.ptr 66 0)
theorem spec_l05Moved_f {x0 x1 : V} : Prt Try.prog 37 [x0, x1] (spec_l05Moved_F x0 x1) := pfun (fn := Try.f37) (m := [.s, .s, .s, .s, .l [6] [2, 3, 4, 5], .s, .s, .s, .s, .s]) (c := 2 ≤ 39) rfl (fun h0 Rt => by kernel_rfl) (by decide)
def spec_l01DrawPlaces_F (x0 x1 : V) (hi : Hp) (Rt : Hp → V → Prop) : Prop :=
palloc hi 68 25 (vi .u8 (List.replicate 16 0)) fun a1 =>
pcal Try.prog 48 74 a1 (fun b1 c1 =>
palloc c1 69 25 (vi .u8 (List.replicate 16 0)) fun d1 =>
pst d1 16 (cellsV b1) (fun e1 f1 =>
pcal Try.prog 36 76 f1 (fun g1 h1 =>
VL (lift2 (abin .eql) g1 (.int .i64 0)) fun i1 =>
pcond (
pld h1 (some 16) (fun j1 k1 =>
pst k1 16 (cellsV j1) (fun l1 m1 =>
VL (pcellV m1 (some 16) (.ptr 68 0)) fun n1 =>
Rt m1 n1) (.ptr 68 0)) (.ptr 69 0)) (
VL (lift2 (abin .sub) x1 (.int .i64 1)) fun o1 =>
LP [6] [0, 4, 5] (fun p1 q1 r1 s1 =>
VL (lift2 (abin .gtr) (p1.getD 0 .und) (.int .i64 0)) fun t1 =>
pcond (
VL (lift2 (abin .add) (p1.getD 0 .und) (.int .i64 1)) fun u1 =>
pcal Try.prog 36 88 r1 (fun v1 w1 =>
VL (vixA 16 1 (q1.getD 2 .und) (p1.getD 0 .und)) fun y1 =>
pld w1 none (fun z1 a2 =>
VL (vixA 16 1 (q1.getD 2 .und) v1) fun b2 =>
pld a2 none (fun c2 d2 =>
VL (vixA 16 1 (q1.getD 2 .und) (p1.getD 0 .und)) fun e2 =>
pst d2 1 (cellsV c2) (fun f2 g2 =>
VL (vixA 16 1 (q1.getD 2 .und) v1) fun h2 =>
pst g2 1 (cellsV z1) (fun i2 j2 =>
VL (lift2 (abin .sub) (p1.getD 0 .und) (.int .i64 1)) fun k2 =>
s1 [k2] [(q1.getD 0 .und), (q1.getD 1 .und), (q1.getD 2 .und)] j2) h2) e2) b2) y1) [(q1.getD 0 .und), u1]) (
pld r1 (some 16) (fun l2 m2 =>
pst m2 16 (cellsV l2) (fun n2 o2 =>
VL (pcellV o2 (some 16) (q1.getD 1 .und)) fun p2 =>
Rt o2 p2) (q1.getD 1 .und)) (q1.getD 2 .und)) t1) [o1] [x0, (.ptr 68 0), (.ptr 69 0)] h1) i1) [x0, (.int .i64 8)]) (.ptr 69 0)) [x1]
theorem spec_l01DrawPlaces_f {x0 x1 : V} : Prt Try.prog 38 [x0, x1] (spec_l01DrawPlaces_F x0 x1) := pfun (fn := Try.f38) (m := [.s, .s, .s, .s, .s, .s, .s, .l [6] [0, 4, 5], .s, .s, .s, .s, .s, .s, .s]) (c := 2 ≤ 37) rfl (fun h0 Rt => by kernel_rfl) (by decide)
def spec_l01Pick_F (x0 x1 : V) (hi : Hp) (Rt : Hp → V → Prop) : Prop :=
VL (vlenS x1) fun a1 =>
pcal Try.prog 36 73 hi (fun b1 c1 =>
VL (vixS 1 x1 b1) fun d1 =>
pld c1 none (fun e1 f1 =>
Rt f1 e1) d1) [x0, a1]
theorem spec_l01Pick_f {x0 x1 : V} : Prt Try.prog 39 [x0, x1] (spec_l01Pick_F x0 x1) := pfun (fn := Try.f39) (m := [.s, .s]) (c := 2 ≤ 12) rfl (fun h0 Rt => by kernel_rfl) (by decide)
def spec_l07Alike_F (x0 x1 : V) (hi : Hp) (Rt : Hp → V → Prop) : Prop :=
pbox hi 66 27 (cellsV x0) fun a1 =>
pbox a1 67 27 (cellsV x1) fun b1 =>
pld b1 none (fun c1 d1 =>
pld d1 none (fun e1 f1 =>
VL (lift2 (abin .neq) c1 e1) fun g1 =>
pcond (
Rt f1 (.bool false)) (
pld f1 (some 33) (fun h1 i1 =>
pcal Try.prog 62 77 i1 (fun j1 k1 =>
palloc k1 69 27 ([(.int .i64 0)] ++ (vi .u8 (List.replicate 32 0))) fun l1 =>
pst l1 33 (cellsV j1) (fun m1 n1 =>
LP [6] [3, 5] (fun o1 p1 q1 r1 =>
VL (vfa 0 (p1.getD 0 .und)) fun s1 =>
pld q1 none (fun t1 u1 =>
VL (lift2 (abin .lss) (o1.getD 0 .und) t1) fun v1 =>
pcond (
pld u1 (some 33) (fun w1 y1 =>
pld y1 (some 33) (fun z1 a2 =>
pcalp Try.prog 62 86 a2 (fun b2 c2 =>
VL (veqa false true [(.i .i64), (.i .u8), (.i .u8), (.i .u8), (.i .u8), (.i .u8), (.i .u8), (.i .u8), (.i .u8), (.i .u8), (.i .u8), (.i .u8), (.i .u8), (.i .u8), (.i .u8), (.i .u8), (.i .u8), (.i .u8), (.i .u8), (.i .u8), (.i .u8), (.i .u8), (.i .u8), (.i .u8), (.i .u8), (.i .u8), (.i .u8), (.i .u8), (.i .u8), (.i .u8), (.i .u8), (.i .u8), (.i .u8)] b2 z1) fun d2 =>
pcond (
Rt c2 (.bool true)) (
VL (lift2 (abin .add) (o1.getD 0 .und) (.int .i64 1)) fun e2 =>
r1 [e2] [(p1.getD 0 .und), (p1.getD 1 .und)] c2) d2) [w1, (o1.getD 0 .und)]) (p1.getD 1 .und)) (p1.getD 0 .und)) (
Rt u1 (.bool false)) v1) s1) [(.int .i64 0)] [(.ptr 67 0), (.ptr 69 0)] n1) (.ptr 69 0)) [h1, (.int .i64 0)]) (.ptr 66 0)) g1) (.ptr 67 0)) (.ptr 66 0)
theorem spec_l07Alike_f {x0 x1 : V} : Prt Try.prog 40 [x0, x1] (spec_l07Alike_F x0 x1) := pfun (fn := Try.f40) (m := [.s, .s, .s, .s, .s, .s, .s, .l [6] [3, 5], .s, .s, .s, .s, .s, .s]) (c := 2 ≤ 25) rfl (fun h0 Rt => by kernel_rfl) (by decide)
def impl_passport_F (x0 : V) (hi : Hp) (Rt : Hp → V → Prop) : Prop :=
pbox hi 65 27 (cellsV x0) fun a1 =>
pld a1 (some 16) (fun b1 c1 =>
pld c1 none (fun d1 e1 =>
pld e1 (some 16) (fun f1 g1 =>
pld g1 none (fun h1 i1 =>
pld i1 (some 33) (fun j1 k1 =>
pld k1 none (fun l1 m1 =>
pcalp Try.prog 61 71 m1 (fun n1 o1 =>
pcalp Try.prog 61 76 o1 (fun p1 q1 =>
pcalp Try.prog 28 78 q1 (fun r1 s1 =>
pcal Try.prog 61 81 s1 (fun t1 u1 =>
pmks u1 82 63 3 3 (fun v1 =>
Rt v1 (.rf 82 0 3)) (vfill [.nils, .nils, .nils] [(0, 1, n1), (1, 1, p1), (2, 1, t1)])) [r1, l1]) [j1]) [f1, h1]) [b1, d1]) (.ptr 65 0)) (.ptr 65 0)) (.ptr 65 0)) (.ptr 65 17)) (.ptr 65 0)) (.ptr 65 1)
theorem impl_passport_f {x0 : V} : Prt Try.prog 41 [x0] (impl_passport_F x0) := pfun (fn := Try.f41) (m := [.s, .s]) (c := 1 ≤ 19) rfl (fun h0 Rt => by kernel_rfl) (by decide)
def laws_likeInts_F (x0 x1 : V) (hi : Hp) (Rt : Hp → V → Prop) : Prop :=
VL (vlenS x0) fun a1 =>
VL (vlenS x1) fun b1 =>
VL (lift2 (abin .neq) a1 b1) fun c1 =>
pcond (
Rt hi (.bool false)) (
LP [5] [0, 1] (fun d1 e1 f1 g1 =>
VL (vlenS (e1.getD 0 .und)) fun h1 =>
VL (lift2 (abin .lss) (d1.getD 0 .und) h1) fun i1 =>
pcond (
VL (vixS 1 (e1.getD 0 .und) (d1.getD 0 .und)) fun j1 =>
pld f1 none (fun k1 l1 =>
VL (vixS 1 (e1.getD 1 .und) (d1.getD 0 .und)) fun m1 =>
pld l1 none (fun n1 o1 =>
VL (lift2 (abin .neq) k1 n1) fun p1 =>
pcond (
Rt o1 (.bool false)) (
VL (lift2 (abin .add) (d1.getD 0 .und) (.int .i64 1)) fun q1 =>
g1 [q1] [(e1.getD 0 .und), (e1.getD 1 .und)] o1) p1) m1) j1) (
Rt f1 (.bool true)) i1) [(.int .i64 0)] [x0, x1] hi) c1
theorem laws_likeInts_f {x0 x1 : V} : Prt Try.prog 42 [x0, x1] (laws_likeInts_F x0 x1) := pfun (fn := Try.f42) (m := [.s, .s, .s, .s, .s, .s, .l [5] [0, 1], .s, .s, .s, .s, .s, .s]) (c := 2 ≤ 26) rfl (fun h0 Rt => by kernel_rfl) (by decide)
def spec_l05Spoil_F (x0 : V) (hi : Hp) (Rt : Hp → V → Prop) : Prop :=
palloc hi 66 27 ([(.int .i64 0)] ++ (vi .u8 (List.replicate 32 0))) fun a1 =>
pcal Try.prog 36 69 a1 (fun b1 c1 =>
VL (lift2 (abin .eql) b1 (.int .i64 0)) fun d1 =>
pcond (
pcal Try.prog 25 72 c1 (fun e1 f1 =>
pst f1 33 (cellsV e1) (fun g1 h1 =>
VL (pcellV h1 (some 33) (.ptr 66 0)) fun i1 =>
Rt h1 i1) (.ptr 66 0)) [x0, (.int .i64 10)]) (
pcal Try.prog 63 74 c1 (fun j1 k1 =>
palloc k1 67 27 ([(.int .i64 0)] ++ (vi .u8 (List.replicate 32 0))) fun l1 =>
pst l1 33 (cellsV j1) (fun m1 n1 =>
pld n1 (some 33) (fun o1 p1 =>
pcal Try.prog 29 76 p1 (fun q1 r1 =>
VL (lift1 (aun .not) q1) fun s1 =>
pcond (
pcal Try.prog 64 78 r1 (fun t1 u1 =>
pst u1 33 (cellsV t1) (fun v1 w1 =>
VL (pcellV w1 (some 33) (.ptr 66 0)) fun y1 =>
Rt w1 y1) (.ptr 66 0)) [(.int .i64 4)]) (
pld r1 (some 33) (fun z1 a2 =>
pst a2 33 (cellsV z1) (fun b2 c2 =>
VL (pcellV c2 (some 33) (.ptr 66 0)) fun d2 =>
Rt c2 d2) (.ptr 66 0)) (.ptr 67 0)) s1) [o1]) (.ptr 67 0)) (.ptr 67 0)) [x0]) d1) [x0, (.int .i64 12)]
theorem spec_l05Spoil_f {x0 : V} : Prt Try.prog 43 [x0] (spec_l05Spoil_F x0) := pfun (fn := Try.f43) (m := [.s, .s, .s, .s, .s, .s, .s, .s, .s]) (c := 1 ≤ 16) rfl (fun h0 Rt => by kernel_rfl) (by decide)
def spec_l07Mirror_F (x0 : V) (hi : Hp) (Rt : Hp → V → Prop) : Prop :=
pbox hi 65 27 (cellsV x0) fun a1 =>
palloc a1 66 27 ([(.int .i64 0)] ++ (vi .u8 (List.replicate 32 0))) fun b1 =>
pld b1 none (fun c1 d1 =>
pld d1 (some 16) (fun e1 f1 =>
pld f1 none (fun g1 h1 =>
pld h1 (some 16) (fun i1 j1 =>
pld j1 none (fun k1 l1 =>
pcalp Try.prog 55 73 l1 (fun m1 n1 =>
pcalp Try.prog 55 78 n1 (fun o1 p1 =>
VL (vbld (vfill ([(.int .i64 0)] ++ (vi .u8 (List.replicate 32 0))) [(0, 1, c1), (1, 16, m1), (17, 16, o1)])) fun q1 =>
pst p1 33 (cellsV q1) (fun r1 s1 =>
VL (pcellV s1 (some 33) (.ptr 66 0)) fun t1 =>
Rt s1 t1) (.ptr 66 0)) [i1, k1]) [e1, g1]) (.ptr 65 0)) (.ptr 65 17)) (.ptr 65 0)) (.ptr 65 1)) (.ptr 65 0)
theorem spec_l07Mirror_f {x0 : V} : Prt Try.prog 44 [x0] (spec_l07Mirror_F x0) := pfun (fn := Try.f44) (m := [.s, .s]) (c := 1 ≤ 16) rfl (fun h0 Rt => by kernel_rfl) (by decide)
def spec_l07Spoil_F (x0 : V) (hi : Hp) (Rt : Hp → V → Prop) : Prop :=
palloc hi 66 27 ([(.int .i64 0)] ++ (vi .u8 (List.replicate 32 0))) fun a1 =>
pcal Try.prog 36 68 a1 (fun b1 c1 =>
VL (lift2 (abin .eql) b1 (.int .i64 0)) fun d1 =>
pcond (
pcal Try.prog 25 71 c1 (fun e1 f1 =>
pst f1 33 (cellsV e1) (fun g1 h1 =>
VL (pcellV h1 (some 33) (.ptr 66 0)) fun i1 =>
Rt h1 i1) (.ptr 66 0)) [x0, (.int .i64 16)]) (
pcal Try.prog 65 73 c1 (fun j1 k1 =>
pst k1 33 (cellsV j1) (fun l1 m1 =>
VL (pcellV m1 (some 33) (.ptr 66 0)) fun n1 =>
Rt m1 n1) (.ptr 66 0)) [x0]) d1) [x0, (.int .i64 10)]
theorem spec_l07Spoil_f {x0 : V} : Prt Try.prog 45 [x0] (spec_l07Spoil_F x0) := pfun (fn := Try.f45) (m := [.s, .s, .s, .s, .s]) (c := 1 ≤ 10) rfl (fun h0 Rt => by kernel_rfl) (by decide)
def spec_l07Clean_F (x0 : V) (hi : Hp) (Rt : Hp → V → Prop) : Prop :=
pbox hi 65 27 (cellsV x0) fun a1 =>
LP [3] [1] (fun b1 c1 d1 e1 =>
VL (vfa 0 (c1.getD 0 .und)) fun f1 =>
pld d1 none (fun g1 h1 =>
VL (lift2 (abin .lss) (b1.getD 0 .und) g1) fun i1 =>
pcond (
VL (vfa 17 (c1.getD 0 .und)) fun j1 =>
VL (vixA 16 1 j1 (b1.getD 0 .und)) fun k1 =>
pld h1 none (fun l1 m1 =>
VL (lift1 (acvi .i64) l1) fun n1 =>
VL (lift2 (abin .eql) n1 (b1.getD 0 .und)) fun o1 =>
pgk false m1 (fun p1 q1 => q1 l1 m1) (fun r1 s1 t1 =>
pgk false t1 (fun u1 v1 => VL (vfa 17 (c1.getD 0 .und)) fun w1 =>
v1 w1 t1) (fun y1 z1 a2 =>
pgk false a2 (fun b2 c2 => VL (vixA 16 1 z1 s1) fun d2 =>
c2 d2 a2) (fun e2 f2 g2 =>
pgk false g2 (fun h2 i2 => pld g2 none (fun j2 k2 =>
i2 j2 k2) f2) (fun l2 m2 n2 =>
pgk false n2 (fun o2 p2 => VL (lift1 (acvi .i64) m2) fun q2 =>
p2 q2 n2) (fun r2 s2 t2 =>
pgk false t2 (fun u2 v2 => v2 (b1.getD 0 .und) t2) (fun w2 y2 z2 =>
pgk false z2 (fun a3 b3 => VL (lift2 (abin .neq) s2 y2) fun c3 =>
b3 c3 z2) (fun d3 e3 f3 =>
VL (vpick d3 (.bool true) e3) fun g3 =>
pcond (
Rt f3 (.bool false)) (
VL (lift2 (abin .add) (b1.getD 0 .und) (.int .i64 1)) fun h3 =>
e1 [h3] [(c1.getD 0 .und)] f3) g3) w2) r2) l2) e2) y1) r1) o1) k1) (
Rt h1 (.bool true)) i1) f1) [(.int .i64 0)] [(.ptr 65 0)] a1
theorem spec_l07Clean_f {x0 : V} : Prt Try.prog 46 [x0] (spec_l07Clean_F x0) := pfun (fn := Try.f46) (m := [.s, .s, .s, .l [3] [1], .s, .s, .s, .s, .s, .s, .s]) (c := 1 ≤ 28) rfl (fun h0 Rt => by kernel_rfl) (by decide)
def spec_l01Draw_F (x0 x1 : V) (hi : Hp) (Rt : Hp → V → Prop) : Prop :=
palloc hi 68 27 ([(.int .i64 0)] ++ (vi .u8 (List.replicate 32 0))) fun a1 =>
pcal Try.prog 36 75 a1 (fun b1 c1 =>
VL (lift2 (abin .add) (.int .i64 1) b1) fun d1 =>
LP [6] [0, 4, 5] (fun e1 f1 g1 h1 =>
VL (lift2 (abin .lss) (e1.getD 0 .und) (.int .i64 8)) fun i1 =>
pcond (
pmks g1 86 2 4 4 (fun j1 =>
pcal Try.prog 39 87 j1 (fun k1 l1 =>
pcal Try.prog 66 88 l1 (fun m1 n1 =>
pmks n1 93 2 4 4 (fun o1 =>
pcal Try.prog 39 94 o1 (fun p1 q1 =>
pcal Try.prog 66 95 q1 (fun r1 s1 =>
VL (vbld (vfill ([(.int .i64 0)] ++ (vi .u8 (List.replicate 32 0))) [(0, 1, (f1.getD 2 .und)), (1, 16, m1), (17, 16, r1)])) fun t1 =>
palloc s1 71 27 ([(.int .i64 0)] ++ (vi .u8 (List.replicate 32 0))) fun u1 =>
pst u1 33 (cellsV t1) (fun v1 w1 =>
pld w1 (some 33) (fun y1 z1 =>
pcal Try.prog 29 98 z1 (fun a2 b2 =>
pcond (
pld b2 (some 33) (fun c2 d2 =>
pst d2 33 (cellsV c2) (fun e2 f2 =>
VL (pcellV f2 (some 33) (f1.getD 1 .und)) fun g2 =>
Rt f2 g2) (f1.getD 1 .und)) (.ptr 71 0)) (
VL (lift2 (abin .add) (e1.getD 0 .und) (.int .i64 1)) fun h2 =>
h1 [h2] [(f1.getD 0 .und), (f1.getD 1 .und), (f1.getD 2 .und)] b2) a2) [y1]) (.ptr 71 0)) (.ptr 71 0)) [(f1.getD 0 .und), (f1.getD 2 .und), p1]) [(f1.getD 0 .und), (.rf 93 0 4)]) (vfill (vi .i64 (List.replicate 4 0)) [(0, 1, (.int .i64 2)), (1, 1, (.int .i64 2)), (2, 1, (.int .i64 3)), (3, 1, (f1.getD 2 .und))])) [(f1.getD 0 .und), (f1.getD 2 .und), k1]) [(f1.getD 0 .und), (.rf 86 0 4)]) (vfill (vi .i64 (List.replicate 4 0)) [(0, 1, (.int .i64 2)), (1, 1, (.int .i64 3)), (2, 1, (.int .i64 4)), (3, 1, (f1.getD 2 .und))])) (
pcal Try.prog 64 101 g1 (fun i2 j2 =>
palloc j2 72 27 ([(.int .i64 0)] ++ (vi .u8 (List.replicate 32 0))) fun k2 =>
pst k2 33 (cellsV i2) (fun l2 m2 =>
pcal Try.prog 38 104 m2 (fun n2 o2 =>
pst o2 16 (cellsV n2) (fun p2 q2 =>
pld q2 (some 33) (fun r2 s2 =>
pst s2 33 (cellsV r2) (fun t2 u2 =>
VL (pcellV u2 (some 33) (f1.getD 1 .und)) fun v2 =>
Rt u2 v2) (f1.getD 1 .und)) (.ptr 72 0)) (.ptr 72 17)) [(f1.getD 0 .und), (f1.getD 2 .und)]) (.ptr 72 0)) [(f1.getD 2 .und)]) i1) [(.int .i64 0)] [x0, (.ptr 68 0), d1] c1) [x0, x1]
theorem spec_l01Draw_f {x0 x1 : V} : Prt Try.prog 47 [x0, x1] (spec_l01Draw_F x0 x1) := pfun (fn := Try.f47) (m := [.s, .s, .s, .s, .l [6] [0, 4, 5], .s, .s, .s, .s, .s, .s, .s, .s, .s]) (c := 2 ≤ 43) rfl (fun h0 Rt => by kernel_rfl) (by decide)
def spec_l01Same_F (x0 : V) (hi : Hp) (Rt : Hp → V → Prop) : Prop :=
palloc hi 66 25 (vi .u8 (List.replicate 16 0)) fun a1 =>
VL (vbld (vfill (vi .u8 (List.replicate 16 0)) [])) fun b1 =>
palloc a1 67 25 (vi .u8 (List.replicate 16 0)) fun c1 =>
pst c1 16 (cellsV b1) (fun d1 e1 =>
LP [4] [0, 2, 3] (fun f1 g1 h1 i1 =>
VL (lift2 (abin .lss) (f1.getD 0 .und) (g1.getD 0 .und)) fun j1 =>
pcond (
VL (lift1 (acvi .u8) (f1.getD 0 .und)) fun k1 =>
VL (vixA 16 1 (g1.getD 2 .und) (f1.getD 0 .und)) fun l1 =>
pst h1 1 (cellsV k1) (fun m1 n1 =>
VL (lift2 (abin .add) (f1.getD 0 .und) (.int .i64 1)) fun o1 =>
i1 [o1] [(g1.getD 0 .und), (g1.getD 1 .und), (g1.getD 2 .und)] n1) l1) (
pld h1 (some 16) (fun p1 q1 =>
pst q1 16 (cellsV p1) (fun r1 s1 =>
VL (pcellV s1 (some 16) (g1.getD 1 .und)) fun t1 =>
Rt s1 t1) (g1.getD 1 .und)) (g1.getD 2 .und)) j1) [(.int .i64 0)] [x0, (.ptr 66 0), (.ptr 67 0)] e1) (.ptr 67 0)
theorem spec_l01Same_f {x0 : V} : Prt Try.prog 48 [x0] (spec_l01Same_F x0) := pfun (fn := Try.f48) (m := [.s, .s, .s, .s, .l [4] [0, 2, 3], .s, .s, .s, .s]) (c := 1 ≤ 16) rfl (fun h0 Rt => by kernel_rfl) (by decide)
def impl_IsPermutation_F (x0 x1 : V) (hi : Hp) (Rt : Hp → V → Prop) : Prop :=
pbox hi 66 25 (cellsV x0) fun a1 =>
pcal Try.prog 67 73 a1 (fun b1 c1 =>
VL (lift1 (aun .not) b1) fun d1 =>
pcond (
Rt c1 (.bool false)) (
VL (vbld (vfill (vb (List.replicate 16 false)) [])) fun e1 =>
palloc c1 69 83 (vb (List.replicate 16 false)) fun f1 =>
pst f1 16 (cellsV e1) (fun g1 h1 =>
pld h1 (some 16) (fun i1 j1 =>
LP [13] [1, 5, 12] (fun k1 l1 m1 n1 =>
VL (lift2 (abin .lss) (k1.getD 0 .und) (.int .i64 16)) fun o1 =>
pcond (
JN (fun p1 =>
VL (vixV 16 1 none (l1.getD 2 .und) (k1.getD 0 .und)) fun q1 =>
VL (lift2 (abin .geq) (k1.getD 0 .und) (l1.getD 0 .und)) fun r1 =>
pcond (
VL (lift2 (abin .neq) q1 (.int .u8 0)) fun s1 =>
pcond (
Rt m1 (.bool false)) (
p1 [(l1.getD 0 .und), (l1.getD 1 .und), (l1.getD 2 .und), (k1.getD 0 .und)] m1) s1) (
VL (lift1 (acvi .i64) q1) fun t1 =>
VL (lift2 (abin .geq) t1 (l1.getD 0 .und)) fun u1 =>
pgk false m1 (fun v1 w1 => w1 q1 m1) (fun y1 z1 a2 =>
pgk false a2 (fun b2 c2 => VL (vixA 16 1 (l1.getD 1 .und) z1) fun d2 =>
c2 d2 a2) (fun e2 f2 g2 =>
pgk false g2 (fun h2 i2 => pld g2 none (fun j2 k2 =>
i2 j2 k2) f2) (fun l2 m2 n2 =>
VL (vpick l2 (.bool true) m2) fun o2 =>
pcond (
Rt n2 (.bool false)) (
VL (vixA 16 1 (l1.getD 1 .und) q1) fun p2 =>
pst n2 1 (cellsV (.bool true)) (fun q2 r2 =>
p1 [(l1.getD 0 .und), (l1.getD 1 .und), (l1.getD 2 .und), (k1.getD 0 .und)] r2) p2) o2) e2) y1) u1) r1) fun s2 t2 =>
VL (lift2 (abin .add) (s2.getD 3 .und) (.int .i64 1)) fun u2 =>
n1 [u2] [(s2.getD 0 .und), (s2.getD 1 .und), (s2.getD 2 .und)] t2) (
Rt m1 (.bool true)) o1) [(.int .i64 0)] [x1, (.ptr 69 0), i1] j1) (.ptr 66 0)) (.ptr 69 0)) d1) [x1]
theorem impl_IsPermutation_f {x0 x1 : V} : Prt Try.prog 49 [x0, x1] (impl_IsPermutation_F x0 x1) := pfun (fn := Try.f49) (m := [.s, .s, .s, .s, .s, .s, .s, .l [13] [1, 5, 12], .s, .s, .j [1, 5, 12, 13], .s, .s, .s, .s, .s, .s, .s, .s, .s, .s]) (c := 2 ≤ 34) rfl (fun h0 Rt => by kernel_rfl) (by decide)
def impl_reached_F (x0 x1 : V) (hi : Hp) (Rt : Hp → V → Prop) : Prop :=
VL (vbld (vfill (vb (List.replicate 16 false)) [(0, 1, (.bool true))])) fun a1 =>
palloc hi 69 83 (vb (List.replicate 16 false)) fun b1 =>
pst b1 16 (cellsV a1) (fun c1 d1 =>
pmks d1 76 5 1 1 (fun e1 =>
LP [6, 7] [1, 5] (fun f1 g1 h1 i1 =>
VL (vlenS (f1.getD 0 .und)) fun j1 =>
VL (lift2 (abin .lss) (f1.getD 1 .und) j1) fun k1 =>
pcond (
VL (vlenS (g1.getD 0 .und)) fun l1 =>
LP [6, 21] [1, 5, 7, 19, 20] (fun m1 n1 o1 p1 =>
VL (lift2 (abin .lss) (m1.getD 1 .und) (n1.getD 4 .und)) fun q1 =>
pcond (
JN (fun r1 =>
VL (vixS 16 (n1.getD 3 .und) (m1.getD 1 .und)) fun s1 =>
pld o1 (some 16) (fun t1 u1 =>
palloc u1 73 25 (vi .u8 (List.replicate 16 0)) fun v1 =>
pst v1 16 (cellsV t1) (fun w1 y1 =>
VL (vixS 1 (m1.getD 0 .und) (n1.getD 2 .und)) fun z1 =>
pld y1 none (fun a2 b2 =>
VL (vixA 16 1 (.ptr 73 0) a2) fun c2 =>
pld b2 none (fun d2 e2 =>
VL (vixA 16 1 (n1.getD 1 .und) d2) fun f2 =>
pld e2 none (fun g2 h2 =>
VL (lift1 (aun .not) g2) fun i2 =>
pcond (
VL (vixA 16 1 (n1.getD 1 .und) d2) fun j2 =>
pst h2 1 (cellsV (.bool true)) (fun k2 l2 =>
pmks l2 103 5 1 1 (fun m2 =>
papp m2 (fun n2 o2 => papV 5 1 1 104 m2 (fun p2 q2 =>
r1 [(n1.getD 0 .und), (n1.getD 1 .und), p2, (n1.getD 2 .und), (n1.getD 3 .und), (n1.getD 4 .und), (m1.getD 1 .und)] q2) n2 o2 (m1.getD 0 .und)) (pavs m2 (m1.getD 0 .und) []) (preadS 1 m2 (.rf 103 0 1))) (vfill [(.int .u8 0)] [(0, 1, d2)])) j2) (
r1 [(n1.getD 0 .und), (n1.getD 1 .und), (m1.getD 0 .und), (n1.getD 2 .und), (n1.getD 3 .und), (n1.getD 4 .und), (m1.getD 1 .und)] h2) i2) f2) c2) z1) (.ptr 73 0)) s1) fun r2 s2 =>
VL (lift2 (abin .add) (r2.getD 6 .und) (.int .i64 1)) fun t2 =>
p1 [(r2.getD 2 .und), t2] [(r2.getD 0 .und), (r2.getD 1 .und), (r2.getD 3 .und), (r2.getD 4 .und), (r2.getD 5 .und)] s2) (
VL (lift2 (abin .add) (n1.getD 2 .und) (.int .i64 1)) fun u2 =>
i1 [(m1.getD 0 .und), u2] [(n1.getD 0 .und), (n1.getD 1 .und)] o1) q1) [(f1.getD 0 .und), (.int .i64 0)] [(g1.getD 0 .und), (g1.getD 1 .und), (f1.getD 1 .und), (g1.getD 0 .und), l1] h1) (
VL (vlenS (f1.getD 0 .und)) fun v2 =>
Rt h1 v2) k1) [(.rf 76 0 1), (.int .i64 0)] [x1, (.ptr 69 0)] e1) (vfill [(.int .u8 0)] [(0, 1, (.int .u8 0))])) (.ptr 69 0)
theorem impl_reached_f {x0 x1 : V} : Prt Try.prog 50 [x0, x1] (impl_reached_F x0 x1) := pfun (fn := Try.f50) (m := [.s, .s, .s, .s, .s, .l [6, 7] [1, 5], .s, .s, .s, .s, .l [6, 21] [1, 5, 7, 19, 20], .s, .s, .j [1, 5, 6, 7, 19, 20, 21], .s, .s, .s, .s, .s]) (c := 2 ≤ 44) rfl (fun h0 Rt => by kernel_rfl) (by decide)
def impl_back_F (x0 x1 : V) (hi : Hp) (Rt : Hp → V → Prop) : Prop :=
pbox hi 66 25 (cellsV x0) fun a1 =>
palloc a1 68 25 (vi .u8 (List.replicate 16 0)) fun b1 =>
VL (vbld (vfill (vi .u8 (List.replicate 16 0)) [])) fun c1 =>
palloc b1 69 25 (vi .u8 (List.replicate 16 0)) fun d1 =>
pst d1 16 (cellsV c1) (fun e1 f1 =>
LP [9] [2, 4, 5, 8] (fun g1 h1 i1 j1 =>
VL (lift2 (abin .lss) (g1.getD 0 .und) (h1.getD 3 .und)) fun k1 =>
pcond (
VL (vixA 16 1 (h1.getD 0 .und) (g1.getD 0 .und)) fun l1 =>
pld i1 none (fun m1 n1 =>
VL (lift1 (acvi .u8) (g1.getD 0 .und)) fun o1 =>
VL (vixA 16 1 (h1.getD 2 .und) m1) fun p1 =>
pst n1 1 (cellsV o1) (fun q1 r1 =>
VL (lift2 (abin .add) (g1.getD 0 .und) (.int .i64 1)) fun s1 =>
j1 [s1] [(h1.getD 0 .und), (h1.getD 1 .und), (h1.getD 2 .und), (h1.getD 3 .und)] r1) p1) l1) (
pld i1 (some 16) (fun t1 u1 =>
pst u1 16 (cellsV t1) (fun v1 w1 =>
VL (pcellV w1 (some 16) (h1.getD 1 .und)) fun y1 =>
Rt w1 y1) (h1.getD 1 .und)) (h1.getD 2 .und)) k1) [(.int .i64 0)] [(.ptr 66 0), (.ptr 68 0), (.ptr 69 0), x1] f1) (.ptr 69 0)
theorem impl_back_f {x0 x1 : V} : Prt Try.prog 51 [x0, x1] (impl_back_F x0 x1) := pfun (fn := Try.f51) (m := [.s, .s, .s, .s, .l [9] [2, 4, 5, 8], .s, .s, .s, .s, .s]) (c := 2 ≤ 20) rfl (fun h0 Rt => by kernel_rfl) (by decide)
def impl_then_F (x0 x1 x2 : V) (hi : Hp) (Rt : Hp → V → Prop) : Prop :=
pbox hi 67 25 (cellsV x0) fun a1 =>
pbox a1 68 25 (cellsV x1) fun b1 =>
palloc b1 70 25 (vi .u8 (List.replicate 16 0)) fun c1 =>
VL (vbld (vfill (vi .u8 (List.replicate 16 0)) [])) fun d1 =>
palloc c1 71 25 (vi .u8 (List.replicate 16 0)) fun e1 =>
pst e1 16 (cellsV d1) (fun f1 g1 =>
LP [11] [3, 4, 6, 7, 10] (fun h1 i1 j1 k1 =>
VL (lift2 (abin .lss) (h1.getD 0 .und) (i1.getD 4 .und)) fun l1 =>
pcond (
VL (vixA 16 1 (i1.getD 0 .und) (h1.getD 0 .und)) fun m1 =>
pld j1 none (fun n1 o1 =>
VL (vixA 16 1 (i1.getD 1 .und) n1) fun p1 =>
pld o1 none (fun q1 r1 =>
VL (vixA 16 1 (i1.getD 3 .und) (h1.getD 0 .und)) fun s1 =>
pst r1 1 (cellsV q1) (fun t1 u1 =>
VL (lift2 (abin .add) (h1.getD 0 .und) (.int .i64 1)) fun v1 =>
k1 [v1] [(i1.getD 0 .und), (i1.getD 1 .und), (i1.getD 2 .und), (i1.getD 3 .und), (i1.getD 4 .und)] u1) s1) p1) m1) (
pld j1 (some 16) (fun w1 y1 =>
pst y1 16 (cellsV w1) (fun z1 a2 =>
VL (pcellV a2 (some 16) (i1.getD 2 .und)) fun b2 =>
Rt a2 b2) (i1.getD 2 .und)) (i1.getD 3 .und)) l1) [(.int .i64 0)] [(.ptr 67 0), (.ptr 68 0), (.ptr 70 0), (.ptr 71 0), x2] g1) (.ptr 71 0)
theorem impl_then_f {x0 x1 x2 : V} : Prt Try.prog 52 [x0, x1, x2] (impl_then_F x0 x1 x2) := pfun (fn := Try.f52) (m := [.s, .s, .s, .s, .l [11] [3, 4, 6, 7, 10], .s, .s, .s, .s, .s]) (c := 3 ≤ 23) rfl (fun h0 Rt => by kernel_rfl) (by decide)
def spec_l01Perm_F (x0 x1 : V) (hi : Hp) (Rt : Hp → V → Prop) : Prop :=
pbox hi 66 25 (cellsV x0) fun a1 =>
pcal Try.prog 30 72 a1 (fun b1 c1 =>
VL (lift1 (aun .not) b1) fun d1 =>
pcond (
Rt c1 (.bool false)) (
VL (vbld (vfill (vb (List.replicate 16 false)) [])) fun e1 =>
palloc c1 69 83 (vb (List.replicate 16 false)) fun f1 =>
pst f1 16 (cellsV e1) (fun g1 h1 =>
LP [6] [1, 2, 5] (fun i1 j1 k1 l1 =>
VL (lift2 (abin .lss) (i1.getD 0 .und) (.int .i64 16)) fun m1 =>
pcond (
JN (fun n1 =>
VL (lift2 (abin .geq) (i1.getD 0 .und) (j1.getD 0 .und)) fun o1 =>
pcond (
VL (vixA 16 1 (j1.getD 1 .und) (i1.getD 0 .und)) fun p1 =>
pld k1 none (fun q1 r1 =>
VL (lift2 (abin .neq) q1 (.int .u8 0)) fun s1 =>
pcond (
Rt r1 (.bool false)) (
n1 [(j1.getD 0 .und), (j1.getD 1 .und), (j1.getD 2 .und), (i1.getD 0 .und)] r1) s1) p1) (
VL (vixA 16 1 (j1.getD 1 .und) (i1.getD 0 .und)) fun t1 =>
pld k1 none (fun u1 v1 =>
VL (lift1 (acvi .i64) u1) fun w1 =>
VL (lift2 (abin .geq) w1 (j1.getD 0 .und)) fun y1 =>
pgk false v1 (fun z1 a2 => a2 (i1.getD 0 .und) v1) (fun b2 c2 d2 =>
pgk false d2 (fun e2 f2 => VL (vixA 16 1 (j1.getD 1 .und) c2) fun g2 =>
f2 g2 d2) (fun h2 i2 j2 =>
pgk false j2 (fun k2 l2 => pld j2 none (fun m2 n2 =>
l2 m2 n2) i2) (fun o2 p2 q2 =>
pgk false q2 (fun r2 s2 => VL (vixA 16 1 (j1.getD 2 .und) p2) fun t2 =>
s2 t2 q2) (fun u2 v2 w2 =>
pgk false w2 (fun y2 z2 => pld w2 none (fun a3 b3 =>
z2 a3 b3) v2) (fun c3 d3 e3 =>
VL (vpick c3 (.bool true) d3) fun f3 =>
pcond (
Rt e3 (.bool false)) (
VL (vixA 16 1 (j1.getD 1 .und) (i1.getD 0 .und)) fun g3 =>
pld e3 none (fun h3 i3 =>
VL (vixA 16 1 (j1.getD 2 .und) h3) fun j3 =>
pst i3 1 (cellsV (.bool true)) (fun k3 l3 =>
n1 [(j1.getD 0 .und), (j1.getD 1 .und), (j1.getD 2 .und), (i1.getD 0 .und)] l3) j3) g3) f3) u2) o2) h2) b2) y1) t1) o1) fun m3 n3 =>
VL (lift2 (abin .add) (m3.getD 3 .und) (.int .i64 1)) fun o3 =>
l1 [o3] [(m3.getD 0 .und), (m3.getD 1 .und), (m3.getD 2 .und)] n3) (
Rt k1 (.bool true)) m1) [(.int .i64 0)] [x1, (.ptr 66 0), (.ptr 69 0)] h1) (.ptr 69 0)) d1) [x1, (.int .i64 1), (.int .i64 16)]
theorem spec_l01Perm_f {x0 x1 : V} : Prt Try.prog 53 [x0, x1] (spec_l01Perm_F x0 x1) := pfun (fn := Try.f53) (m := [.s, .s, .s, .s, .s, .s, .s, .l [6] [1, 2, 5], .s, .s, .j [1, 2, 5, 6], .s, .s, .s, .s, .s, .s]) (c := 2 ≤ 41) rfl (fun h0 Rt => by kernel_rfl) (by decide)
def spec_l01Connected_F (x0 x1 x2 : V) (hi : Hp) (Rt : Hp → V → Prop) : Prop :=
pbox hi 68 25 (cellsV x1) fun a1 =>
pbox a1 69 25 (cellsV x2) fun b1 =>
VL (vbld (vfill (vb (List.replicate 16 false)) [])) fun c1 =>
pmks b1 77 5 1 1 (fun d1 =>
palloc d1 71 83 (vb (List.replicate 16 false)) fun e1 =>
pst e1 16 (cellsV c1) (fun f1 g1 =>
VL (vixA 16 1 (.ptr 71 0) (.int .i64 0)) fun h1 =>
pst g1 1 (cellsV (.bool true)) (fun i1 j1 =>
LP [8, 9] [0, 4, 5, 7] (fun k1 l1 m1 n1 =>
VL (vlenS (k1.getD 0 .und)) fun o1 =>
VL (lift2 (abin .lss) (k1.getD 1 .und) o1) fun p1 =>
pcond (
VL (vixS 1 (k1.getD 0 .und) (k1.getD 1 .und)) fun q1 =>
pld m1 none (fun r1 s1 =>
VL (vixA 16 1 (l1.getD 1 .und) r1) fun t1 =>
pld s1 none (fun u1 v1 =>
VL (vixS 1 (k1.getD 0 .und) (k1.getD 1 .und)) fun w1 =>
pld v1 none (fun y1 z1 =>
VL (vixA 16 1 (l1.getD 2 .und) y1) fun a2 =>
pld z1 none (fun b2 c2 =>
pmks c2 97 5 2 2 (fun d2 =>
LP [8, 11] [0, 4, 5, 7, 9, 10] (fun e2 f2 g2 h2 =>
VL (lift2 (abin .lss) (e2.getD 1 .und) (.int .i64 2)) fun i2 =>
pcond (
JN (fun j2 =>
VL (vixS 1 (f2.getD 5 .und) (e2.getD 1 .und)) fun k2 =>
pld g2 none (fun l2 m2 =>
VL (vixA 16 1 (f2.getD 3 .und) l2) fun n2 =>
pld m2 none (fun o2 p2 =>
VL (lift1 (aun .not) o2) fun q2 =>
pcond (
VL (vixS 1 (f2.getD 5 .und) (e2.getD 1 .und)) fun r2 =>
pld p2 none (fun s2 t2 =>
VL (vixA 16 1 (f2.getD 3 .und) s2) fun u2 =>
pst t2 1 (cellsV (.bool true)) (fun v2 w2 =>
VL (vixS 1 (f2.getD 5 .und) (e2.getD 1 .und)) fun y2 =>
pld w2 none (fun z2 a3 =>
pmks a3 119 5 1 1 (fun b3 =>
papp b3 (fun c3 d3 => papV 5 1 1 120 b3 (fun e3 f3 =>
j2 [(f2.getD 0 .und), (f2.getD 1 .und), (f2.getD 2 .und), (f2.getD 3 .und), e3, (f2.getD 4 .und), (f2.getD 5 .und), (e2.getD 1 .und)] f3) c3 d3 (e2.getD 0 .und)) (pavs b3 (e2.getD 0 .und) []) (preadS 1 b3 (.rf 119 0 1))) (vfill [(.int .u8 0)] [(0, 1, z2)])) y2) u2) r2) (
j2 [(f2.getD 0 .und), (f2.getD 1 .und), (f2.getD 2 .und), (f2.getD 3 .und), (e2.getD 0 .und), (f2.getD 4 .und), (f2.getD 5 .und), (e2.getD 1 .und)] p2) q2) n2) k2) fun g3 h3 =>
VL (lift2 (abin .add) (g3.getD 7 .und) (.int .i64 1)) fun i3 =>
h2 [(g3.getD 4 .und), i3] [(g3.getD 0 .und), (g3.getD 1 .und), (g3.getD 2 .und), (g3.getD 3 .und), (g3.getD 5 .und), (g3.getD 6 .und)] h3) (
VL (lift2 (abin .add) (f2.getD 4 .und) (.int .i64 1)) fun j3 =>
n1 [(e2.getD 0 .und), j3] [(f2.getD 0 .und), (f2.getD 1 .und), (f2.getD 2 .und), (f2.getD 3 .und)] g2) i2) [(k1.getD 0 .und), (.int .i64 0)] [(l1.getD 0 .und), (l1.getD 1 .und), (l1.getD 2 .und), (l1.getD 3 .und), (k1.getD 1 .und), (.rf 97 0 2)] d2) (vfill [(.int .u8 0), (.int .u8 0)] [(0, 1, u1), (1, 1, b2)])) a2) w1) t1) q1) (
VL (vlenS (k1.getD 0 .und)) fun k3 =>
VL (lift2 (abin .eql) k3 (l1.getD 0 .und)) fun l3 =>
Rt m1 l3) p1) [(.rf 77 0 1), (.int .i64 0)] [x0, (.ptr 68 0), (.ptr 69 0), (.ptr 71 0)] j1) h1) (.ptr 71 0)) (vfill [(.int .u8 0)] [(0, 1, (.int .u8 0))])
theorem spec_l01Connected_f {x0 x1 x2 : V} : Prt Try.prog 54 [x0, x1, x2] (spec_l01Connected_F x0 x1 x2) := pfun (fn := Try.f54) (m := [.s, .s, .s, .s, .s, .l [8, 9] [0, 4, 5, 7], .s, .s, .s, .s, .s, .l [8, 11] [0, 4, 5, 7, 9, 10], .s, .s, .j [0, 4, 5, 7, 8, 9, 10, 11], .s, .s, .s]) (c := 3 ≤ 61) rfl (fun h0 Rt => by kernel_rfl) (by decide)
def spec_l01Back_F (x0 x1 : V) (hi : Hp) (Rt : Hp → V → Prop) : Prop :=
pbox hi 66 25 (cellsV x0) fun a1 =>
palloc a1 68 25 (vi .u8 (List.replicate 16 0)) fun b1 =>
VL (vbld (vfill (vi .u8 (List.replicate 16 0)) [])) fun c1 =>
palloc b1 69 25 (vi .u8 (List.replicate 16 0)) fun d1 =>
pst d1 16 (cellsV c1) (fun e1 f1 =>
LP [6] [1, 2, 4, 5] (fun g1 h1 i1 j1 =>
VL (lift2 (abin .lss) (g1.getD 0 .und) (h1.getD 0 .und)) fun k1 =>
pcond (
VL (vixA 16 1 (h1.getD 1 .und) (g1.getD 0 .und)) fun l1 =>
pld i1 none (fun m1 n1 =>
VL (lift1 (acvi .u8) (g1.getD 0 .und)) fun o1 =>
VL (vixA 16 1 (h1.getD 3 .und) m1) fun p1 =>
pst n1 1 (cellsV o1) (fun q1 r1 =>
VL (lift2 (abin .add) (g1.getD 0 .und) (.int .i64 1)) fun s1 =>
j1 [s1] [(h1.getD 0 .und), (h1.getD 1 .und), (h1.getD 2 .und), (h1.getD 3 .und)] r1) p1) l1) (
pld i1 (some 16) (fun t1 u1 =>
pst u1 16 (cellsV t1) (fun v1 w1 =>
VL (pcellV w1 (some 16) (h1.getD 2 .und)) fun y1 =>
Rt w1 y1) (h1.getD 2 .und)) (h1.getD 3 .und)) k1) [(.int .i64 0)] [x1, (.ptr 66 0), (.ptr 68 0), (.ptr 69 0)] f1) (.ptr 69 0)
theorem spec_l01Back_f {x0 x1 : V} : Prt Try.prog 55 [x0, x1] (spec_l01Back_F x0 x1) := pfun (fn := Try.f55) (m := [.s, .s, .s, .s, .l [6] [1, 2, 4, 5], .s, .s, .s, .s]) (c := 2 ≤ 20) rfl (fun h0 Rt => by kernel_rfl) (by decide)
def spec_l01Then_F (x0 x1 x2 : V) (hi : Hp) (Rt : Hp → V → Prop) : Prop :=
pbox hi 67 25 (cellsV x0) fun a1 =>
pbox a1 68 25 (cellsV x1) fun b1 =>
palloc b1 70 25 (vi .u8 (List.replicate 16 0)) fun c1 =>
VL (vbld (vfill (vi .u8 (List.replicate 16 0)) [])) fun d1 =>
palloc c1 71 25 (vi .u8 (List.replicate 16 0)) fun e1 =>
pst e1 16 (cellsV d1) (fun f1 g1 =>
LP [8] [2, 3, 4, 6, 7] (fun h1 i1 j1 k1 =>
VL (lift2 (abin .lss) (h1.getD 0 .und) (i1.getD 0 .und)) fun l1 =>
pcond (
VL (vixA 16 1 (i1.getD 1 .und) (h1.getD 0 .und)) fun m1 =>
pld j1 none (fun n1 o1 =>
VL (vixA 16 1 (i1.getD 2 .und) n1) fun p1 =>
pld o1 none (fun q1 r1 =>
VL (vixA 16 1 (i1.getD 4 .und) (h1.getD 0 .und)) fun s1 =>
pst r1 1 (cellsV q1) (fun t1 u1 =>
VL (lift2 (abin .add) (h1.getD 0 .und) (.int .i64 1)) fun v1 =>
k1 [v1] [(i1.getD 0 .und), (i1.getD 1 .und), (i1.getD 2 .und), (i1.getD 3 .und), (i1.getD 4 .und)] u1) s1) p1) m1) (
pld j1 (some 16) (fun w1 y1 =>
pst y1 16 (cellsV w1) (fun z1 a2 =>
VL (pcellV a2 (some 16) (i1.getD 3 .und)) fun b2 =>
Rt a2 b2) (i1.getD 3 .und)) (i1.getD 4 .und)) l1) [(.int .i64 0)] [x2, (.ptr 67 0), (.ptr 68 0), (.ptr 70 0), (.ptr 71 0)] g1) (.ptr 71 0)
theorem spec_l01Then_f {x0 x1 x2 : V} : Prt Try.prog 56 [x0, x1, x2] (spec_l01Then_F x0 x1 x2) := pfun (fn := Try.f56) (m := [.s, .s, .s, .s, .l [8] [2, 3, 4, 6, 7], .s, .s, .s, .s]) (c := 3 ≤ 23) rfl (fun h0 Rt => by kernel_rfl) (by decide)
def impl_eulerOf_F (x0 x1 : V) (hi : Hp) (Rt : Hp → V → Prop) : Prop :=
VL (vixS 1 x0 (.int .i64 0)) fun a1 =>
pld hi none (fun b1 c1 =>
VL (vlenS b1) fun d1 =>
VL (vixS 1 x0 (.int .i64 1)) fun e1 =>
pld c1 none (fun f1 g1 =>
VL (vlenS f1) fun h1 =>
VL (lift2 (abin .add) d1 h1) fun i1 =>
VL (vixS 1 x0 (.int .i64 2)) fun j1 =>
pld g1 none (fun k1 l1 =>
VL (vlenS k1) fun m1 =>
VL (lift2 (abin .add) i1 m1) fun n1 =>
VL (lift2 (abin .sub) n1 x1) fun o1 =>
Rt l1 o1) j1) e1) a1
theorem impl_eulerOf_f {x0 x1 : V} : Prt Try.prog 57 [x0, x1] (impl_eulerOf_F x0 x1) := pfun (fn := Try.f57) (m := [.s, .s]) (c := 2 ≤ 21) rfl (fun h0 Rt => by kernel_rfl) (by decide)
def impl_rename_F (x0 x1 : V) (hi : Hp) (Rt : Hp → V → Prop) : Prop :=
pbox hi 66 27 (cellsV x0) fun a1 =>
pbox a1 67 25 (cellsV x1) fun b1 =>
palloc b1 68 27 ([(.int .i64 0)] ++ (vi .u8 (List.replicate 32 0))) fun c1 =>
pld c1 none (fun d1 e1 =>
VL (vbld (vfill ([(.int .i64 0)] ++ (vi .u8 (List.replicate 32 0))) [(0, 1, d1)])) fun f1 =>
palloc e1 69 27 ([(.int .i64 0)] ++ (vi .u8 (List.replicate 32 0))) fun g1 =>
pst g1 33 (cellsV f1) (fun h1 i1 =>
pld i1 none (fun j1 k1 =>
LP [12] [2, 3, 4, 5, 11] (fun l1 m1 n1 o1 =>
VL (lift2 (abin .lss) (l1.getD 0 .und) (m1.getD 4 .und)) fun p1 =>
pcond (
VL (vixA 16 1 (m1.getD 1 .und) (l1.getD 0 .und)) fun q1 =>
pld n1 none (fun r1 s1 =>
VL (vfa 1 (m1.getD 0 .und)) fun t1 =>
VL (vixA 16 1 t1 (l1.getD 0 .und)) fun u1 =>
pld s1 none (fun v1 w1 =>
VL (vixA 16 1 (m1.getD 1 .und) v1) fun y1 =>
pld w1 none (fun z1 a2 =>
VL (vfa 1 (m1.getD 3 .und)) fun b2 =>
VL (vixA 16 1 b2 r1) fun c2 =>
pst a2 1 (cellsV z1) (fun d2 e2 =>
VL (vixA 16 1 (m1.getD 1 .und) (l1.getD 0 .und)) fun f2 =>
pld e2 none (fun g2 h2 =>
VL (vfa 17 (m1.getD 0 .und)) fun i2 =>
VL (vixA 16 1 i2 (l1.getD 0 .und)) fun j2 =>
pld h2 none (fun k2 l2 =>
VL (vixA 16 1 (m1.getD 1 .und) k2) fun m2 =>
pld l2 none (fun n2 o2 =>
VL (vfa 17 (m1.getD 3 .und)) fun p2 =>
VL (vixA 16 1 p2 g2) fun q2 =>
pst o2 1 (cellsV n2) (fun r2 s2 =>
VL (lift2 (abin .add) (l1.getD 0 .und) (.int .i64 1)) fun t2 =>
o1 [t2] [(m1.getD 0 .und), (m1.getD 1 .und), (m1.getD 2 .und), (m1.getD 3 .und), (m1.getD 4 .und)] s2) q2) m2) j2) f2) c2) y1) u1) q1) (
pld n1 (some 33) (fun u2 v2 =>
pst v2 33 (cellsV u2) (fun w2 y2 =>
VL (pcellV y2 (some 33) (m1.getD 2 .und)) fun z2 =>
Rt y2 z2) (m1.getD 2 .und)) (m1.getD 3 .und)) p1) [(.int .i64 0)] [(.ptr 66 0), (.ptr 67 0), (.ptr 68 0), (.ptr 69 0), j1] k1) (.ptr 66 0)) (.ptr 69 0)) (.ptr 66 0)
theorem impl_rename_f {x0 x1 : V} : Prt Try.prog 58 [x0, x1] (impl_rename_F x0 x1) := pfun (fn := Try.f58) (m := [.s, .s, .s, .s, .l [12] [2, 3, 4, 5, 11], .s, .s, .s, .s, .s, .s]) (c := 2 ≤ 39) rfl (fun h0 Rt => by kernel_rfl) (by decide)
def impl_naming_F (x0 x1 : V) (hi : Hp) (Rt : Hp → V → Prop) : Prop :=
pbox hi 66 27 (cellsV x0) fun a1 =>
palloc a1 68 25 (vi .u8 (List.replicate 16 0)) fun b1 =>
VL (vbld (vfill (vi .u8 (List.replicate 16 0)) [])) fun c1 =>
palloc b1 69 25 (vi .u8 (List.replicate 16 0)) fun d1 =>
pst d1 16 (cellsV c1) (fun e1 f1 =>
pld f1 (some 33) (fun g1 h1 =>
pcal Try.prog 68 75 h1 (fun i1 j1 =>
VL (vlenS i1) fun k1 =>
LP [13] [4, 5, 11, 12] (fun l1 m1 n1 o1 =>
VL (lift2 (abin .lss) (l1.getD 0 .und) (m1.getD 3 .und)) fun p1 =>
pcond (
VL (vixS 1 (m1.getD 2 .und) (l1.getD 0 .und)) fun q1 =>
pld n1 none (fun r1 s1 =>
VL (lift1 (acvi .u8) (l1.getD 0 .und)) fun t1 =>
VL (vixA 16 1 (m1.getD 1 .und) r1) fun u1 =>
pst s1 1 (cellsV t1) (fun v1 w1 =>
VL (lift2 (abin .add) (l1.getD 0 .und) (.int .i64 1)) fun y1 =>
o1 [y1] [(m1.getD 0 .und), (m1.getD 1 .und), (m1.getD 2 .und), (m1.getD 3 .und)] w1) u1) q1) (
pld n1 (some 16) (fun z1 a2 =>
pst a2 16 (cellsV z1) (fun b2 c2 =>
VL (pcellV c2 (some 16) (m1.getD 0 .und)) fun d2 =>
Rt c2 d2) (m1.getD 0 .und)) (m1.getD 1 .und)) p1) [(.int .i64 0)] [(.ptr 68 0), (.ptr 69 0), i1, k1] j1) [g1, x1]) (.ptr 66 0)) (.ptr 69 0)
theorem impl_naming_f {x0 x1 : V} : Prt Try.prog 59 [x0, x1] (impl_naming_F x0 x1) := pfun (fn := Try.f59) (m := [.s, .s, .s, .s, .l [13] [4, 5, 11, 12], .s, .s, .s, .s, .s]) (c := 2 ≤ 24) rfl (fun h0 Rt => by kernel_rfl) (by decide)
def impl_compareDessins_F (x0 x1 : V) (hi : Hp) (Rt : Hp → V → Prop) : Prop :=
pbox hi 66 27 (cellsV x0) fun a1 =>
pbox a1 67 27 (cellsV x1) fun b1 =>
pld b1 (some 16) (fun c1 d1 =>
pld d1 (some 16) (fun e1 f1 =>
pcal Try.prog 69 74 f1 (fun g1 h1 =>
VL (lift2 (abin .neq) g1 (.int .i64 0)) fun i1 =>
pcond (
Rt h1 g1) (
pld h1 (some 16) (fun j1 k1 =>
pld k1 (some 16) (fun l1 m1 =>
pcal Try.prog 69 82 m1 (fun n1 o1 =>
Rt o1 n1) [j1, l1]) (.ptr 67 17)) (.ptr 66 17)) i1) [c1, e1]) (.ptr 67 1)) (.ptr 66 1)
theorem impl_compareDessins_f {x0 x1 : V} : Prt Try.prog 60 [x0, x1] (impl_compareDessins_F x0 x1) := pfun (fn := Try.f60) (m := [.s, .s, .s, .s, .s, .s]) (c := 2 ≤ 19) rfl (fun h0 Rt => by kernel_rfl) (by decide)
def impl_typeOf_F (x0 x1 : V) (hi : Hp) (Rt : Hp → V → Prop) : Prop :=
pbox hi 66 25 (cellsV x0) fun a1 =>
pmks a1 72 2 0 0 (fun b1 =>
pld b1 (some 16) (fun c1 d1 =>
pcal Try.prog 70 75 d1 (fun e1 f1 =>
VL (vlenS e1) fun g1 =>
LP [5, 13] [11, 12] (fun h1 i1 j1 k1 =>
VL (lift2 (abin .lss) (h1.getD 1 .und) (i1.getD 1 .und)) fun l1 =>
pcond (
VL (vixS 1 (i1.getD 0 .und) (h1.getD 1 .und)) fun m1 =>
pld j1 none (fun n1 o1 =>
VL (vlenS n1) fun p1 =>
pmks o1 84 2 1 1 (fun q1 =>
papp q1 (fun r1 s1 => papV 2 1 8 85 q1 (fun t1 u1 =>
VL (lift2 (abin .add) (h1.getD 1 .und) (.int .i64 1)) fun v1 =>
k1 [t1, v1] [(i1.getD 0 .und), (i1.getD 1 .und)] u1) r1 s1 (h1.getD 0 .und)) (pavs q1 (h1.getD 0 .und) []) (preadS 1 q1 (.rf 84 0 1))) (vfill [(.int .i64 0)] [(0, 1, p1)])) m1) (
pcal Try.prog 71 88 j1 (fun w1 y1 =>
Rt y1 w1) [(h1.getD 0 .und)]) l1) [(.rf 72 0 0), (.int .i64 0)] [e1, g1] f1) [c1, x1]) (.ptr 66 0)) (vfill [] [])
theorem impl_typeOf_f {x0 x1 : V} : Prt Try.prog 61 [x0, x1] (impl_typeOf_F x0 x1) := pfun (fn := Try.f61) (m := [.s, .s, .s, .s, .l [5, 13] [11, 12], .s, .s, .s, .s, .s]) (c := 2 ≤ 25) rfl (fun h0 Rt => by kernel_rfl) (by decide)
def spec_l07From_F (x0 x1 : V) (hi : Hp) (Rt : Hp → V → Prop) : Prop :=
pbox hi 66 27 (cellsV x0) fun a1 =>
palloc a1 68 27 ([(.int .i64 0)] ++ (vi .u8 (List.replicate 32 0))) fun b1 =>
VL (vbld (vfill (vi .u8 (List.replicate 16 0)) [])) fun c1 =>
VL (vbld (vfill (vb (List.replicate 16 false)) [])) fun d1 =>
pmks b1 80 2 1 1 (fun e1 =>
palloc e1 69 25 (vi .u8 (List.replicate 16 0)) fun f1 =>
palloc f1 70 83 (vb (List.replicate 16 false)) fun g1 =>
pst g1 16 (cellsV c1) (fun h1 i1 =>
pst i1 16 (cellsV d1) (fun j1 k1 =>
VL (vixA 16 1 (.ptr 70 0) x1) fun l1 =>
pst k1 1 (cellsV (.bool true)) (fun m1 n1 =>
LP [7, 8] [2, 4, 5, 6] (fun o1 p1 q1 r1 =>
VL (vlenS (o1.getD 0 .und)) fun s1 =>
VL (lift2 (abin .lss) (o1.getD 1 .und) s1) fun t1 =>
pcond (
VL (vixS 1 (o1.getD 0 .und) (o1.getD 1 .und)) fun u1 =>
pld q1 none (fun v1 w1 =>
VL (lift1 (acvi .u8) (o1.getD 1 .und)) fun y1 =>
VL (vixA 16 1 (p1.getD 2 .und) v1) fun z1 =>
pst w1 1 (cellsV y1) (fun a2 b2 =>
VL (vixS 1 (o1.getD 0 .und) (o1.getD 1 .und)) fun c2 =>
pld b2 none (fun d2 e2 =>
VL (vfa 1 (p1.getD 0 .und)) fun f2 =>
VL (vixA 16 1 f2 d2) fun g2 =>
pld e2 none (fun h2 i2 =>
VL (lift1 (acvi .i64) h2) fun j2 =>
VL (vixS 1 (o1.getD 0 .und) (o1.getD 1 .und)) fun k2 =>
pld i2 none (fun l2 m2 =>
VL (vfa 17 (p1.getD 0 .und)) fun n2 =>
VL (vixA 16 1 n2 l2) fun o2 =>
pld m2 none (fun p2 q2 =>
VL (lift1 (acvi .i64) p2) fun r2 =>
pmks q2 112 2 2 2 (fun s2 =>
LP [7, 10] [2, 4, 5, 6, 8, 9] (fun t2 u2 v2 w2 =>
VL (lift2 (abin .lss) (t2.getD 1 .und) (.int .i64 2)) fun y2 =>
pcond (
JN (fun z2 =>
VL (vixS 1 (u2.getD 5 .und) (t2.getD 1 .und)) fun a3 =>
pld v2 none (fun b3 c3 =>
VL (vixA 16 1 (u2.getD 3 .und) b3) fun d3 =>
pld c3 none (fun e3 f3 =>
VL (lift1 (aun .not) e3) fun g3 =>
pcond (
VL (vixS 1 (u2.getD 5 .und) (t2.getD 1 .und)) fun h3 =>
pld f3 none (fun i3 j3 =>
VL (vixA 16 1 (u2.getD 3 .und) i3) fun k3 =>
pst j3 1 (cellsV (.bool true)) (fun l3 m3 =>
VL (vixS 1 (u2.getD 5 .und) (t2.getD 1 .und)) fun n3 =>
pld m3 none (fun o3 p3 =>
pmks p3 134 2 1 1 (fun q3 =>
papp q3 (fun r3 s3 => papV 2 1 8 135 q3 (fun t3 u3 =>
z2 [(u2.getD 0 .und), (u2.getD 1 .und), (u2.getD 2 .und), (u2.getD 3 .und), t3, (u2.getD 4 .und), (u2.getD 5 .und), (t2.getD 1 .und)] u3) r3 s3 (t2.getD 0 .und)) (pavs q3 (t2.getD 0 .und) []) (preadS 1 q3 (.rf 134 0 1))) (vfill [(.int .i64 0)] [(0, 1, o3)])) n3) k3) h3) (
z2 [(u2.getD 0 .und), (u2.getD 1 .und), (u2.getD 2 .und), (u2.getD 3 .und), (t2.getD 0 .und), (u2.getD 4 .und), (u2.getD 5 .und), (t2.getD 1 .und)] f3) g3) d3) a3) fun v3 w3 =>
VL (lift2 (abin .add) (v3.getD 7 .und) (.int .i64 1)) fun y3 =>
w2 [(v3.getD 4 .und), y3] [(v3.getD 0 .und), (v3.getD 1 .und), (v3.getD 2 .und), (v3.getD 3 .und), (v3.getD 5 .und), (v3.getD 6 .und)] w3) (
VL (lift2 (abin .add) (u2.getD 4 .und) (.int .i64 1)) fun z3 =>
r1 [(t2.getD 0 .und), z3] [(u2.getD 0 .und), (u2.getD 1 .und), (u2.getD 2 .und), (u2.getD 3 .und)] v2) y2) [(o1.getD 0 .und), (.int .i64 0)] [(p1.getD 0 .und), (p1.getD 1 .und), (p1.getD 2 .und), (p1.getD 3 .und), (o1.getD 1 .und), (.rf 112 0 2)] s2) (vfill [(.int .i64 0), (.int .i64 0)] [(0, 1, j2), (1, 1, r2)])) o2) k2) g2) c2) z1) u1) (
VL (vfa 0 (p1.getD 0 .und)) fun a4 =>
pld q1 none (fun b4 c4 =>
VL (vbld (vfill ([(.int .i64 0)] ++ (vi .u8 (List.replicate 32 0))) [(0, 1, b4)])) fun d4 =>
palloc c4 75 27 ([(.int .i64 0)] ++ (vi .u8 (List.replicate 32 0))) fun e4 =>
pst e4 33 (cellsV d4) (fun f4 g4 =>
LP [12] [2, 4, 5, 11] (fun h4 i4 j4 k4 =>
VL (vfa 0 (i4.getD 0 .und)) fun l4 =>
pld j4 none (fun m4 n4 =>
VL (lift2 (abin .lss) (h4.getD 0 .und) m4) fun o4 =>
pcond (
VL (vixA 16 1 (i4.getD 2 .und) (h4.getD 0 .und)) fun p4 =>
pld n4 none (fun q4 r4 =>
VL (vfa 1 (i4.getD 0 .und)) fun s4 =>
VL (vixA 16 1 s4 (h4.getD 0 .und)) fun t4 =>
pld r4 none (fun u4 v4 =>
VL (vixA 16 1 (i4.getD 2 .und) u4) fun w4 =>
pld v4 none (fun y4 z4 =>
VL (vfa 1 (i4.getD 3 .und)) fun a5 =>
VL (vixA 16 1 a5 q4) fun b5 =>
pst z4 1 (cellsV y4) (fun c5 d5 =>
VL (vixA 16 1 (i4.getD 2 .und) (h4.getD 0 .und)) fun e5 =>
pld d5 none (fun f5 g5 =>
VL (vfa 17 (i4.getD 0 .und)) fun h5 =>
VL (vixA 16 1 h5 (h4.getD 0 .und)) fun i5 =>
pld g5 none (fun j5 k5 =>
VL (vixA 16 1 (i4.getD 2 .und) j5) fun l5 =>
pld k5 none (fun m5 n5 =>
VL (vfa 17 (i4.getD 3 .und)) fun o5 =>
VL (vixA 16 1 o5 f5) fun p5 =>
pst n5 1 (cellsV m5) (fun q5 r5 =>
VL (lift2 (abin .add) (h4.getD 0 .und) (.int .i64 1)) fun s5 =>
k4 [s5] [(i4.getD 0 .und), (i4.getD 1 .und), (i4.getD 2 .und), (i4.getD 3 .und)] r5) p5) l5) i5) e5) b5) w4) t4) p4) (
pld n4 (some 33) (fun t5 u5 =>
pst u5 33 (cellsV t5) (fun v5 w5 =>
VL (pcellV w5 (some 33) (i4.getD 1 .und)) fun y5 =>
Rt w5 y5) (i4.getD 1 .und)) (i4.getD 3 .und)) o4) l4) [(.int .i64 0)] [(p1.getD 0 .und), (p1.getD 1 .und), (p1.getD 2 .und), (.ptr 75 0)] g4) (.ptr 75 0)) a4) t1) [(.rf 80 0 1), (.int .i64 0)] [(.ptr 66 0), (.ptr 68 0), (.ptr 69 0), (.ptr 70 0)] n1) l1) (.ptr 70 0)) (.ptr 69 0)) (vfill [(.int .i64 0)] [(0, 1, x1)])
theorem spec_l07From_f {x0 x1 : V} : Prt Try.prog 62 [x0, x1] (spec_l07From_F x0 x1) := pfun (fn := Try.f62) (m := [.s, .s, .s, .s, .s, .l [7, 8] [2, 4, 5, 6], .s, .s, .s, .s, .s, .s, .l [7, 10] [2, 4, 5, 6, 8, 9], .s, .s, .j [2, 4, 5, 6, 7, 8, 9, 10], .s, .s, .s, .s, .s, .l [12] [2, 4, 5, 11], .s, .s, .s, .s, .s]) (c := 2 ≤ 104) rfl (fun h0 Rt => by kernel_rfl) (by decide)
def spec_l05Draw_F (x0 : V) (hi : Hp) (Rt : Hp → V → Prop) : Prop :=
palloc hi 66 27 ([(.int .i64 0)] ++ (vi .u8 (List.replicate 32 0))) fun a1 =>
pmks a1 74 2 3 3 (fun b1 =>
pcal Try.prog 39 75 b1 (fun c1 d1 =>
pcal Try.prog 36 76 d1 (fun e1 f1 =>
VL (lift2 (abin .add) (.int .i64 1) e1) fun g1 =>
pcal Try.prog 73 80 f1 (fun h1 i1 =>
pcal Try.prog 72 81 i1 (fun j1 k1 =>
palloc k1 68 27 ([(.int .i64 0)] ++ (vi .u8 (List.replicate 32 0))) fun l1 =>
pst l1 33 (cellsV j1) (fun m1 n1 =>
pcal Try.prog 36 83 n1 (fun o1 p1 =>
VL (lift2 (abin .eql) o1 (.int .i64 0)) fun q1 =>
pcond (
pldb p1 (some 33) (fun r1 s1 =>
pcala Try.prog 38 89 s1 (fun t1 u1 =>
pcal Try.prog 37 90 u1 (fun v1 w1 =>
pst w1 33 (cellsV v1) (fun y1 z1 =>
VL (pcellV z1 (some 33) (.ptr 66 0)) fun a2 =>
Rt z1 a2) (.ptr 66 0)) [r1, t1]) [(.ptr 68 0)] [x0, g1]) (.ptr 68 0) (.ptr 68 0)) (
VL (lift2 (abin .eql) o1 (.int .i64 1)) fun b2 =>
pcond (
pcal Try.prog 36 94 p1 (fun c2 d2 =>
VL (lift2 (abin .add) (.int .i64 1) c2) fun e2 =>
pcal Try.prog 36 98 d2 (fun f2 g2 =>
VL (lift2 (abin .add) (.int .i64 1) f2) fun h2 =>
pcal Try.prog 73 100 g2 (fun i2 j2 =>
LP [5, 7] [2, 6] (fun k2 l2 m2 n2 =>
VL (lift2 (abin .gtr) (k2.getD 0 .und) (.int .i64 1)) fun o2 =>
pcond (
VL (lift2 (abin .add) (k2.getD 1 .und) (l2.getD 1 .und)) fun p2 =>
VL (lift2 (abin .sub) (k2.getD 0 .und) (.int .i64 1)) fun q2 =>
n2 [q2, p2] [(l2.getD 0 .und), (l2.getD 1 .und)] m2) (
pcal Try.prog 72 110 m2 (fun r2 s2 =>
pst s2 33 (cellsV r2) (fun t2 u2 =>
VL (pcellV u2 (some 33) (l2.getD 0 .und)) fun v2 =>
Rt u2 v2) (l2.getD 0 .und)) [(k2.getD 1 .und)]) o2) [e2, i2] [(.ptr 66 0), i2] j2) [x0, h2]) [x0, (.int .i64 5)]) [x0, (.int .i64 3)]) (
VL (lift2 (abin .eql) o1 (.int .i64 2)) fun w2 =>
pcond (
pcal Try.prog 36 115 p1 (fun y2 z2 =>
VL (lift2 (abin .add) (.int .i64 1) y2) fun a3 =>
pcal Try.prog 73 117 z2 (fun b3 c3 =>
VL (lift2 (abin .add) (.str [40]) b3) fun d3 =>
VL (lift2 (abin .add) d3 (.str [41])) fun e3 =>
pcal Try.prog 72 120 c3 (fun f3 g3 =>
pcal Try.prog 48 122 g3 (fun h3 i3 =>
pcal Try.prog 37 123 i3 (fun j3 k3 =>
pst k3 33 (cellsV j3) (fun l3 m3 =>
VL (pcellV m3 (some 33) (.ptr 66 0)) fun n3 =>
Rt m3 n3) (.ptr 66 0)) [f3, h3]) [g1]) [e3]) [x0, a3]) [x0, (.int .i64 6)]) (
pld p1 (some 33) (fun o3 p3 =>
pst p3 33 (cellsV o3) (fun q3 r3 =>
VL (pcellV r3 (some 33) (.ptr 66 0)) fun s3 =>
Rt r3 s3) (.ptr 66 0)) (.ptr 68 0)) w2) b2) q1) [x0, (.int .i64 4)]) (.ptr 68 0)) [h1]) [x0, g1]) [x0, c1]) [x0, (.rf 74 0 3)]) (vfill [(.int .i64 0), (.int .i64 0), (.int .i64 0)] [(0, 1, (.int .i64 5)), (1, 1, (.int .i64 9)), (2, 1, (.int .i64 16))])
theorem spec_l05Draw_f {x0 : V} : Prt Try.prog 63 [x0] (spec_l05Draw_F x0) := pfun (fn := Try.f63) (m := [.s, .s, .s, .s, .s, .s, .s, .s, .s, .s, .s, .s, .l [5, 7] [2, 6], .s, .s, .s, .s, .s, .s, .s]) (c := 1 ≤ 61) rfl (fun h0 Rt => by kernel_rfl) (by decide)
def spec_l01Star_F (x0 : V) (hi : Hp) (Rt : Hp → V → Prop) : Prop :=
palloc hi 66 27 ([(.int .i64 0)] ++ (vi .u8 (List.replicate 32 0))) fun a1 =>
pcal Try.prog 74 69 a1 (fun b1 c1 =>
pcal Try.prog 48 71 c1 (fun d1 e1 =>
VL (vbld (vfill ([(.int .i64 0)] ++ (vi .u8 (List.replicate 32 0))) [(0, 1, x0), (1, 16, b1), (17, 16, d1)])) fun f1 =>
pst e1 33 (cellsV f1) (fun g1 h1 =>
VL (pcellV h1 (some 33) (.ptr 66 0)) fun i1 =>
Rt h1 i1) (.ptr 66 0)) [x0]) [x0]
theorem spec_l01Star_f {x0 : V} : Prt Try.prog 64 [x0] (spec_l01Star_F x0) := pfun (fn := Try.f64) (m := [.s, .s]) (c := 1 ≤ 9) rfl (fun h0 Rt => by kernel_rfl) (by decide)
def spec_l07Map_F (x0 : V) (hi : Hp) (Rt : Hp → V → Prop) : Prop :=
palloc hi 66 27 ([(.int .i64 0)] ++ (vi .u8 (List.replicate 32 0))) fun a1 =>
LP [3] [0, 2] (fun b1 c1 d1 e1 =>
VL (lift2 (abin .lss) (b1.getD 0 .und) (.int .i64 6)) fun f1 =>
pcond (
pcal Try.prog 36 80 d1 (fun g1 h1 =>
VL (lift2 (abin .add) (.int .i64 1) g1) fun i1 =>
VL (lift2 (abin .mul) (.int .i64 2) i1) fun j1 =>
VL (vbld (vfill (vi .u8 (List.replicate 16 0)) [])) fun k1 =>
pcal Try.prog 38 86 h1 (fun l1 m1 =>
palloc m1 69 25 (vi .u8 (List.replicate 16 0)) fun n1 =>
palloc n1 70 25 (vi .u8 (List.replicate 16 0)) fun o1 =>
pst o1 16 (cellsV k1) (fun p1 q1 =>
pst q1 16 (cellsV l1) (fun r1 s1 =>
LP [7] [0, 2, 3, 4, 5, 6] (fun t1 u1 v1 w1 =>
VL (lift2 (abin .lss) (t1.getD 0 .und) (u1.getD 3 .und)) fun y1 =>
pcond (
VL (vixA 16 1 (u1.getD 5 .und) (t1.getD 0 .und)) fun z1 =>
pld v1 none (fun a2 b2 =>
VL (lift2 (abin .add) (t1.getD 0 .und) (.int .i64 1)) fun c2 =>
VL (vixA 16 1 (u1.getD 5 .und) c2) fun d2 =>
pld b2 none (fun e2 f2 =>
VL (vixA 16 1 (u1.getD 4 .und) a2) fun g2 =>
pst f2 1 (cellsV e2) (fun h2 i2 =>
VL (lift2 (abin .add) (t1.getD 0 .und) (.int .i64 1)) fun j2 =>
VL (vixA 16 1 (u1.getD 5 .und) j2) fun k2 =>
pld i2 none (fun l2 m2 =>
VL (vixA 16 1 (u1.getD 5 .und) (t1.getD 0 .und)) fun n2 =>
pld m2 none (fun o2 p2 =>
VL (vixA 16 1 (u1.getD 4 .und) l2) fun q2 =>
pst p2 1 (cellsV o2) (fun r2 s2 =>
VL (lift2 (abin .add) (t1.getD 0 .und) (.int .i64 2)) fun t2 =>
w1 [t2] [(u1.getD 0 .und), (u1.getD 1 .und), (u1.getD 2 .und), (u1.getD 3 .und), (u1.getD 4 .und), (u1.getD 5 .und)] s2) q2) n2) k2) g2) d2) z1) (
pldb v1 (some 16) (fun u2 v2 =>
pmks v2 113 2 3 3 (fun w2 =>
pcala Try.prog 39 114 w2 (fun y2 z2 =>
pcala Try.prog 66 115 z2 (fun a3 b3 =>
VL (vbld (vfill ([(.int .i64 0)] ++ (vi .u8 (List.replicate 32 0))) [(0, 1, (u1.getD 3 .und)), (1, 16, a3), (17, 16, u2)])) fun c3 =>
palloc b3 72 27 ([(.int .i64 0)] ++ (vi .u8 (List.replicate 32 0))) fun d3 =>
pst d3 33 (cellsV c3) (fun e3 f3 =>
pld f3 (some 33) (fun g3 h3 =>
pcal Try.prog 29 119 h3 (fun i3 j3 =>
pcond (
pld j3 (some 33) (fun k3 l3 =>
pst l3 33 (cellsV k3) (fun m3 n3 =>
VL (pcellV n3 (some 33) (u1.getD 1 .und)) fun o3 =>
Rt n3 o3) (u1.getD 1 .und)) (.ptr 72 0)) (
VL (lift2 (abin .add) (u1.getD 2 .und) (.int .i64 1)) fun p3 =>
e1 [p3] [(u1.getD 0 .und), (u1.getD 1 .und)] j3) i3) [g3]) (.ptr 72 0)) (.ptr 72 0)) [(u1.getD 4 .und)] [(u1.getD 0 .und), (u1.getD 3 .und), y2]) [(u1.getD 4 .und)] [(u1.getD 0 .und), (.rf 113 0 3)]) (vfill [(.int .i64 0), (.int .i64 0), (.int .i64 0)] [(0, 1, (.int .i64 3)), (1, 1, (.int .i64 4)), (2, 1, (u1.getD 3 .und))])) (u1.getD 4 .und) (u1.getD 4 .und)) y1) [(.int .i64 0)] [(c1.getD 0 .und), (c1.getD 1 .und), (b1.getD 0 .und), j1, (.ptr 69 0), (.ptr 70 0)] s1) (.ptr 70 0)) (.ptr 69 0)) [(c1.getD 0 .und), j1]) [(c1.getD 0 .und), (.int .i64 8)]) (
pcal Try.prog 47 123 d1 (fun q3 r3 =>
pcal Try.prog 14 124 r3 (fun s3 t3 =>
VL (vext 0 s3) fun u3 =>
VL (vext 1 s3) fun v3 =>
palloc t3 73 27 ([(.int .i64 0)] ++ (vi .u8 (List.replicate 32 0))) fun w3 =>
pst w3 33 (cellsV u3) (fun y3 z3 =>
pld z3 (some 33) (fun a4 b4 =>
pst b4 33 (cellsV a4) (fun c4 d4 =>
VL (pcellV d4 (some 33) (c1.getD 1 .und)) fun e4 =>
Rt d4 e4) (c1.getD 1 .und)) (.ptr 73 0)) (.ptr 73 0)) [q3]) [(c1.getD 0 .und), (.int .i64 8)]) f1) [(.int .i64 0)] [x0, (.ptr 66 0)] a1
theorem spec_l07Map_f {x0 : V} : Prt Try.prog 65 [x0] (spec_l07Map_F x0) := pfun (fn := Try.f65) (m := [.s, .s, .s, .l [3] [0, 2], .s, .s, .s, .s, .s, .s, .s, .l [7] [0, 2, 3, 4, 5, 6], .s, .s, .s, .s, .s, .s, .s, .s, .s]) (c := 1 ≤ 64) rfl (fun h0 Rt => by kernel_rfl) (by decide)
def spec_l01Pairs_F (x0 x1 x2 : V) (hi : Hp) (Rt : Hp → V → Prop) : Prop :=
palloc hi 70 25 (vi .u8 (List.replicate 16 0)) fun a1 =>
pcal Try.prog 38 78 a1 (fun b1 c1 =>
pcal Try.prog 48 80 c1 (fun d1 e1 =>
palloc e1 71 25 (vi .u8 (List.replicate 16 0)) fun f1 =>
palloc f1 72 25 (vi .u8 (List.replicate 16 0)) fun g1 =>
pst g1 16 (cellsV b1) (fun h1 i1 =>
pst i1 16 (cellsV d1) (fun j1 k1 =>
LP [9] [0, 1, 2, 6, 7, 8] (fun l1 m1 n1 o1 =>
VL (lift2 (abin .lss) (l1.getD 0 .und) (m1.getD 1 .und)) fun p1 =>
pcond (
pcal Try.prog 36 86 n1 (fun q1 r1 =>
VL (lift2 (abin .add) (.int .i64 1) q1) fun s1 =>
VL (lift2 (abin .sub) (m1.getD 1 .und) (l1.getD 0 .und)) fun t1 =>
VL (lift2 amin s1 t1) fun u1 =>
LP [11] [0, 1, 2, 6, 7, 8, 9, 10] (fun v1 w1 y1 z1 =>
VL (lift2 (abin .lss) (v1.getD 0 .und) (w1.getD 7 .und)) fun a2 =>
pcond (
VL (lift2 (abin .add) (w1.getD 6 .und) (v1.getD 0 .und)) fun b2 =>
VL (vixA 16 1 (w1.getD 4 .und) b2) fun c2 =>
pld y1 none (fun d2 e2 =>
VL (lift2 (abin .add) (v1.getD 0 .und) (.int .i64 1)) fun f2 =>
VL (lift2 (abin .rem) f2 (w1.getD 7 .und)) fun g2 =>
VL (lift2 (abin .add) (w1.getD 6 .und) g2) fun h2 =>
VL (vixA 16 1 (w1.getD 4 .und) h2) fun i2 =>
pld e2 none (fun j2 k2 =>
VL (vixA 16 1 (w1.getD 5 .und) d2) fun l2 =>
pst k2 1 (cellsV j2) (fun m2 n2 =>
VL (lift2 (abin .add) (v1.getD 0 .und) (.int .i64 1)) fun o2 =>
z1 [o2] [(w1.getD 0 .und), (w1.getD 1 .und), (w1.getD 2 .und), (w1.getD 3 .und), (w1.getD 4 .und), (w1.getD 5 .und), (w1.getD 6 .und), (w1.getD 7 .und)] n2) l2) i2) c2) (
VL (lift2 (abin .add) (w1.getD 6 .und) (w1.getD 7 .und)) fun p2 =>
o1 [p2] [(w1.getD 0 .und), (w1.getD 1 .und), (w1.getD 2 .und), (w1.getD 3 .und), (w1.getD 4 .und), (w1.getD 5 .und)] y1) a2) [(.int .i64 0)] [(m1.getD 0 .und), (m1.getD 1 .und), (m1.getD 2 .und), (m1.getD 3 .und), (m1.getD 4 .und), (m1.getD 5 .und), (l1.getD 0 .und), u1] r1) [(m1.getD 0 .und), (m1.getD 2 .und)]) (
pld n1 (some 16) (fun q2 r2 =>
pst r2 16 (cellsV q2) (fun s2 t2 =>
VL (pcellV t2 (some 16) (m1.getD 3 .und)) fun u2 =>
Rt t2 u2) (m1.getD 3 .und)) (m1.getD 5 .und)) p1) [(.int .i64 0)] [x0, x1, x2, (.ptr 70 0), (.ptr 71 0), (.ptr 72 0)] k1) (.ptr 72 0)) (.ptr 71 0)) [x1]) [x0, x1]
theorem spec_l01Pairs_f {x0 x1 x2 : V} : Prt Try.prog 66 [x0, x1, x2] (spec_l01Pairs_F x0 x1 x2) := pfun (fn := Try.f66) (m := [.s, .s, .s, .s, .l [9] [0, 1, 2, 6, 7, 8], .s, .s, .s, .s, .s, .l [11] [0, 1, 2, 6, 7, 8, 9, 10], .s, .s, .s, .s]) (c := 3 ≤ 51) rfl (fun h0 Rt => by kernel_rfl) (by decide)
def impl_isSize_F (x0 : V) (hi : Hp) (Rt : Hp → V → Prop) : Prop :=
VL (lift2 (abin .geq) x0 (.int .i64 1)) fun a1 =>
pgk true hi (fun b1 c1 => c1 x0 hi) (fun d1 e1 f1 =>
pgk true f1 (fun g1 h1 => VL (lift2 (abin .leq) e1 (.int .i64 16)) fun i1 =>
h1 i1 f1) (fun j1 k1 l1 =>
VL (vpick j1 k1 (.bool false)) fun m1 =>
Rt l1 m1) d1) a1
theorem impl_isSize_f {x0 : V} : Prt Try.prog 67 [x0] (impl_isSize_F x0) := pfun (fn := Try.f67) (m := [.s, .s]) (c := 1 ≤ 9) rfl (fun h0 Rt => by kernel_rfl) (by decide)
def impl_named_F (x0 x1 : V) (hi : Hp) (Rt : Hp → V → Prop) : Prop :=
pbox hi 66 27 (cellsV x0) fun a1 =>
VL (vbld (vfill (vb (List.replicate 16 false)) [])) fun b1 =>
palloc a1 69 83 (vb (List.replicate 16 false)) fun c1 =>
pst c1 16 (cellsV b1) (fun d1 e1 =>
VL (vixA 16 1 (.ptr 69 0) x1) fun f1 =>
pst e1 1 (cellsV (.bool true)) (fun g1 h1 =>
VL (lift1 (acvi .u8) x1) fun i1 =>
pmks h1 79 5 1 1 (fun j1 =>
LP [6, 7] [2, 5] (fun k1 l1 m1 n1 =>
VL (vlenS (k1.getD 0 .und)) fun o1 =>
VL (lift2 (abin .lss) (k1.getD 1 .und) o1) fun p1 =>
pcond (
VL (vixS 1 (k1.getD 0 .und) (k1.getD 1 .und)) fun q1 =>
pld m1 none (fun r1 s1 =>
VL (vfa 1 (l1.getD 0 .und)) fun t1 =>
VL (vixA 16 1 t1 r1) fun u1 =>
pld s1 none (fun v1 w1 =>
VL (vixS 1 (k1.getD 0 .und) (k1.getD 1 .und)) fun y1 =>
pld w1 none (fun z1 a2 =>
VL (vfa 17 (l1.getD 0 .und)) fun b2 =>
VL (vixA 16 1 b2 z1) fun c2 =>
pld a2 none (fun d2 e2 =>
pmks e2 100 5 2 2 (fun f2 =>
VL (vlenS (.rf 100 0 2)) fun g2 =>
LP [6, 38] [2, 5, 7, 36, 37] (fun h2 i2 j2 k2 =>
VL (lift2 (abin .lss) (h2.getD 1 .und) (i2.getD 4 .und)) fun l2 =>
pcond (
JN (fun m2 =>
VL (vixS 1 (i2.getD 3 .und) (h2.getD 1 .und)) fun n2 =>
pld j2 none (fun o2 p2 =>
VL (vixA 16 1 (i2.getD 1 .und) o2) fun q2 =>
pld p2 none (fun r2 s2 =>
VL (lift1 (aun .not) r2) fun t2 =>
pcond (
VL (vixA 16 1 (i2.getD 1 .und) o2) fun u2 =>
pst s2 1 (cellsV (.bool true)) (fun v2 w2 =>
pmks w2 114 5 1 1 (fun y2 =>
papp y2 (fun z2 a3 => papV 5 1 1 115 y2 (fun b3 c3 =>
m2 [(i2.getD 0 .und), (i2.getD 1 .und), b3, (i2.getD 2 .und), (i2.getD 3 .und), (i2.getD 4 .und), (h2.getD 1 .und)] c3) z2 a3 (h2.getD 0 .und)) (pavs y2 (h2.getD 0 .und) []) (preadS 1 y2 (.rf 114 0 1))) (vfill [(.int .u8 0)] [(0, 1, o2)])) u2) (
m2 [(i2.getD 0 .und), (i2.getD 1 .und), (h2.getD 0 .und), (i2.getD 2 .und), (i2.getD 3 .und), (i2.getD 4 .und), (h2.getD 1 .und)] s2) t2) q2) n2) fun d3 e3 =>
VL (lift2 (abin .add) (d3.getD 6 .und) (.int .i64 1)) fun f3 =>
k2 [(d3.getD 2 .und), f3] [(d3.getD 0 .und), (d3.getD 1 .und), (d3.getD 3 .und), (d3.getD 4 .und), (d3.getD 5 .und)] e3) (
VL (lift2 (abin .add) (i2.getD 2 .und) (.int .i64 1)) fun g3 =>
n1 [(h2.getD 0 .und), g3] [(i2.getD 0 .und), (i2.getD 1 .und)] j2) l2) [(k1.getD 0 .und), (.int .i64 0)] [(l1.getD 0 .und), (l1.getD 1 .und), (k1.getD 1 .und), (.rf 100 0 2), g2] f2) (vfill [(.int .u8 0), (.int .u8 0)] [(0, 1, v1), (1, 1, d2)])) c2) y1) u1) q1) (
Rt m1 (k1.getD 0 .und)) p1) [(.rf 79 0 1), (.int .i64 0)] [(.ptr 66 0), (.ptr 69 0)] j1) (vfill [(.int .u8 0)] [(0, 1, i1)])) f1) (.ptr 69 0)
theorem impl_named_f {x0 x1 : V} : Prt Try.prog 68 [x0, x1] (impl_named_F x0 x1) := pfun (fn := Try.f68) (m := [.s, .s, .s, .s, .s, .s, .l [6, 7] [2, 5], .s, .s, .s, .s, .l [6, 38] [2, 5, 7, 36, 37], .s, .s, .j [2, 5, 6, 7, 36, 37, 38], .s, .s, .s, .s]) (c := 2 ≤ 54) rfl (fun h0 Rt => by kernel_rfl) (by decide)
def impl_cycles_F (x0 x1 : V) (hi : Hp) (Rt : Hp → V → Prop) : Prop :=
pbox hi 66 25 (cellsV x0) fun a1 =>
pmks a1 74 63 0 0 (fun b1 =>
VL (vbld (vfill (vb (List.replicate 16 false)) [])) fun c1 =>
palloc b1 70 83 (vb (List.replicate 16 false)) fun d1 =>
pst d1 16 (cellsV c1) (fun e1 f1 =>
LP [5, 13] [2, 6, 12] (fun g1 h1 i1 j1 =>
VL (lift2 (abin .lss) (g1.getD 1 .und) (h1.getD 2 .und)) fun k1 =>
pcond (
JN (fun l1 =>
VL (vixA 16 1 (h1.getD 1 .und) (g1.getD 1 .und)) fun m1 =>
pld i1 none (fun n1 o1 =>
pcond (
l1 [(h1.getD 0 .und), (g1.getD 0 .und), (h1.getD 1 .und), (h1.getD 2 .und), (g1.getD 1 .und)] o1) (
pmks o1 83 2 0 0 (fun p1 =>
LP [8, 9] [2, 5, 6, 12, 13] (fun q1 r1 s1 t1 =>
VL (vixA 16 1 (r1.getD 2 .und) (q1.getD 1 .und)) fun u1 =>
pld s1 none (fun v1 w1 =>
VL (lift1 (aun .not) v1) fun y1 =>
pcond (
VL (vixA 16 1 (r1.getD 2 .und) (q1.getD 1 .und)) fun z1 =>
pst w1 1 (cellsV (.bool true)) (fun a2 b2 =>
pmks b2 97 2 1 1 (fun c2 =>
papp c2 (fun d2 e2 => papV 2 1 8 98 c2 (fun f2 g2 =>
VL (vixA 16 1 (r1.getD 0 .und) (q1.getD 1 .und)) fun h2 =>
pld g2 none (fun i2 j2 =>
VL (lift1 (acvi .i64) i2) fun k2 =>
t1 [f2, k2] [(r1.getD 0 .und), (r1.getD 1 .und), (r1.getD 2 .und), (r1.getD 3 .und), (r1.getD 4 .und)] j2) h2) d2 e2 (q1.getD 0 .und)) (pavs c2 (q1.getD 0 .und) []) (preadS 1 c2 (.rf 97 0 1))) (vfill [(.int .i64 0)] [(0, 1, (q1.getD 1 .und))])) z1) (
pmks w1 101 63 1 1 (fun l2 =>
papp l2 (fun m2 n2 => papV 63 1 24 102 l2 (fun o2 p2 =>
l1 [(r1.getD 0 .und), o2, (r1.getD 2 .und), (r1.getD 3 .und), (r1.getD 4 .und)] p2) m2 n2 (r1.getD 1 .und)) (pavs l2 (r1.getD 1 .und) []) (preadS 1 l2 (.rf 101 0 1))) (vfill [.nils] [(0, 1, (q1.getD 0 .und))])) y1) u1) [(.rf 83 0 0), (g1.getD 1 .und)] [(h1.getD 0 .und), (g1.getD 0 .und), (h1.getD 1 .und), (h1.getD 2 .und), (g1.getD 1 .und)] p1) (vfill [] [])) n1) m1) fun q2 r2 =>
VL (lift2 (abin .add) (q2.getD 4 .und) (.int .i64 1)) fun s2 =>
j1 [(q2.getD 1 .und), s2] [(q2.getD 0 .und), (q2.getD 2 .und), (q2.getD 3 .und)] r2) (
Rt i1 (g1.getD 0 .und)) k1) [(.rf 74 0 0), (.int .i64 0)] [(.ptr 66 0), (.ptr 70 0), x1] f1) (.ptr 70 0)) (vfill [] [])
theorem impl_cycles_f {x0 x1 : V} : Prt Try.prog 70 [x0, x1] (impl_cycles_F x0 x1) := pfun (fn := Try.f70) (m := [.s, .s, .s, .s, .s, .l [5, 13] [2, 6, 12], .s, .s, .j [2, 5, 6, 12, 13], .s, .s, .s, .s, .s, .s, .l [8, 9] [2, 5, 6, 12, 13], .s, .s, .s, .s, .s]) (c := 2 ≤ 41) rfl (fun h0 Rt => by kernel_rfl) (by decide)
def impl_descending_F (x0 : V) (hi : Hp) (Rt : Hp → V → Prop) : Prop :=
pcal Try.prog 76 68 hi (fun a1 b1 =>
pcal Try.prog 77 70 b1 (fun c1 d1 =>
Rt d1 x0) [x0]) [x0]
theorem impl_descending_f {x0 : V} : Prt Try.prog 71 [x0] (impl_descending_F x0) := pfun (fn := Try.f71) (m := [.s, .s, .s, .s]) (c := 1 ≤ 8) rfl (fun h0 Rt => by kernel_rfl) (by decide)
def spec_l05Made_F (x0 : V) (hi : Hp) (Rt : Hp → V → Prop) : Prop :=
palloc hi 66 27 ([(.int .i64 0)] ++ (vi .u8 (List.replicate 32 0))) fun a1 =>
pmks a1 77 2 1 1 (fun b1 =>
pmks b1 78 2 1 1 (fun c1 =>
VL (vlenT x0) fun d1 =>
VL (lift2 (abin .quo) d1 (.int .i64 2)) fun e1 =>
VL (vbld (vfill ([(.int .i64 0)] ++ (vi .u8 (List.replicate 32 0))) [(0, 1, e1)])) fun f1 =>
palloc c1 71 27 ([(.int .i64 0)] ++ (vi .u8 (List.replicate 32 0))) fun g1 =>
pst g1 33 (cellsV f1) (fun h1 i1 =>
LP [3, 4, 5, 6, 8] [0, 2, 7] (fun j1 k1 l1 m1 =>
VL (vlenT (k1.getD 0 .und)) fun n1 =>
VL (lift2 (abin .lss) (j1.getD 4 .und) n1) fun o1 =>
pcond (
JN (fun p1 =>
VL (vlenS (j1.getD 0 .und)) fun q1 =>
VL (lift2 (abin .sub) q1 (.int .i64 1)) fun r1 =>
VL (vixT (k1.getD 0 .und) (j1.getD 4 .und)) fun s1 =>
VL (lift2 (abin .eql) s1 (.int .u8 40)) fun t1 =>
pcond (
VL (lift2 (abin .add) (j1.getD 2 .und) (.int .i64 1)) fun u1 =>
VL (vixS 1 (j1.getD 1 .und) r1) fun v1 =>
pld l1 none (fun w1 y1 =>
JN (fun z1 =>
VL (lift2 (abin .lss) w1 (.int .i64 0)) fun a2 =>
pcond (
VL (vixS 1 (j1.getD 0 .und) r1) fun b2 =>
pld y1 none (fun c2 d2 =>
z1 [(k1.getD 0 .und), (k1.getD 1 .und), (j1.getD 0 .und), (j1.getD 1 .und), u1, (j1.getD 3 .und), (k1.getD 2 .und), (j1.getD 4 .und), r1, (j1.getD 2 .und), c2] d2) b2) (
z1 [(k1.getD 0 .und), (k1.getD 1 .und), (j1.getD 0 .und), (j1.getD 1 .und), u1, (j1.getD 3 .und), (k1.getD 2 .und), (j1.getD 4 .und), r1, (j1.getD 2 .und), w1] y1) a2) fun e2 f2 =>
JN (fun g2 =>
VL (lift2 (abin .lss) (e2.getD 10 .und) (.int .i64 0)) fun h2 =>
pcond (
g2 [(e2.getD 0 .und), (e2.getD 1 .und), (e2.getD 2 .und), (e2.getD 3 .und), (e2.getD 4 .und), (e2.getD 9 .und), (e2.getD 6 .und), (e2.getD 7 .und), (e2.getD 8 .und), (e2.getD 9 .und)] f2) (
VL (lift2 (abin .rem) (e2.getD 8 .und) (.int .i64 2)) fun i2 =>
VL (lift2 (abin .eql) i2 (.int .i64 0)) fun j2 =>
pcond (
VL (lift1 (acvi .u8) (e2.getD 9 .und)) fun k2 =>
VL (vfa 1 (e2.getD 6 .und)) fun l2 =>
VL (vixA 16 1 l2 (e2.getD 10 .und)) fun m2 =>
pst f2 1 (cellsV k2) (fun n2 o2 =>
g2 [(e2.getD 0 .und), (e2.getD 1 .und), (e2.getD 2 .und), (e2.getD 3 .und), (e2.getD 4 .und), (e2.getD 5 .und), (e2.getD 6 .und), (e2.getD 7 .und), (e2.getD 8 .und), (e2.getD 9 .und)] o2) m2) (
VL (lift1 (acvi .u8) (e2.getD 9 .und)) fun p2 =>
VL (vfa 17 (e2.getD 6 .und)) fun q2 =>
VL (vixA 16 1 q2 (e2.getD 10 .und)) fun r2 =>
pst f2 1 (cellsV p2) (fun s2 t2 =>
g2 [(e2.getD 0 .und), (e2.getD 1 .und), (e2.getD 2 .und), (e2.getD 3 .und), (e2.getD 4 .und), (e2.getD 5 .und), (e2.getD 6 .und), (e2.getD 7 .und), (e2.getD 8 .und), (e2.getD 9 .und)] t2) r2) j2) h2) fun u2 v2 =>
VL (vixS 1 (u2.getD 3 .und) (u2.getD 8 .und)) fun w2 =>
pst v2 1 (cellsV (u2.getD 9 .und)) (fun y2 z2 =>
pmks z2 131 2 1 1 (fun a3 =>
papp a3 (fun b3 c3 => papV 2 1 8 132 a3 (fun d3 e3 =>
pmks e3 134 2 1 1 (fun f3 =>
papp f3 (fun g3 h3 => papV 2 1 8 135 f3 (fun i3 j3 =>
p1 [(u2.getD 0 .und), (u2.getD 1 .und), d3, i3, (u2.getD 4 .und), (u2.getD 5 .und), (u2.getD 6 .und), (u2.getD 7 .und)] j3) g3 h3 (u2.getD 3 .und)) (pavs f3 (u2.getD 3 .und) []) (preadS 1 f3 (.rf 134 0 1))) (vfill [(.int .i64 0)] [(0, 1, (.int .i64 (-1)))])) b3 c3 (u2.getD 2 .und)) (pavs a3 (u2.getD 2 .und) []) (preadS 1 a3 (.rf 131 0 1))) (vfill [(.int .i64 0)] [(0, 1, (u2.getD 9 .und))])) w2) v1) (
VL (vixS 1 (j1.getD 1 .und) r1) fun k3 =>
pld l1 none (fun l3 m3 =>
JN (fun n3 =>
VL (lift2 (abin .lss) l3 (.int .i64 0)) fun o3 =>
pcond (
VL (vixS 1 (j1.getD 0 .und) r1) fun p3 =>
pld m3 none (fun q3 r3 =>
n3 [(k1.getD 0 .und), (k1.getD 1 .und), (j1.getD 0 .und), (j1.getD 1 .und), (j1.getD 2 .und), (j1.getD 3 .und), (k1.getD 2 .und), (j1.getD 4 .und), r1, q3] r3) p3) (
n3 [(k1.getD 0 .und), (k1.getD 1 .und), (j1.getD 0 .und), (j1.getD 1 .und), (j1.getD 2 .und), (j1.getD 3 .und), (k1.getD 2 .und), (j1.getD 4 .und), r1, l3] m3) o3) fun s3 t3 =>
JN (fun u3 =>
VL (lift2 (abin .rem) (s3.getD 8 .und) (.int .i64 2)) fun v3 =>
VL (lift2 (abin .eql) v3 (.int .i64 0)) fun w3 =>
pcond (
VL (vixS 1 (s3.getD 2 .und) (s3.getD 8 .und)) fun y3 =>
pld t3 none (fun z3 a4 =>
VL (lift1 (acvi .u8) z3) fun b4 =>
VL (vfa 1 (s3.getD 6 .und)) fun c4 =>
VL (vixA 16 1 c4 (s3.getD 9 .und)) fun d4 =>
pst a4 1 (cellsV b4) (fun e4 f4 =>
u3 [(s3.getD 0 .und), (s3.getD 1 .und), (s3.getD 2 .und), (s3.getD 3 .und), (s3.getD 4 .und), (s3.getD 5 .und), (s3.getD 6 .und), (s3.getD 7 .und), (s3.getD 8 .und)] f4) d4) y3) (
VL (vixS 1 (s3.getD 2 .und) (s3.getD 8 .und)) fun g4 =>
pld t3 none (fun h4 i4 =>
VL (lift1 (acvi .u8) h4) fun j4 =>
VL (vfa 17 (s3.getD 6 .und)) fun k4 =>
VL (vixA 16 1 k4 (s3.getD 9 .und)) fun l4 =>
pst i4 1 (cellsV j4) (fun m4 n4 =>
u3 [(s3.getD 0 .und), (s3.getD 1 .und), (s3.getD 2 .und), (s3.getD 3 .und), (s3.getD 4 .und), (s3.getD 5 .und), (s3.getD 6 .und), (s3.getD 7 .und), (s3.getD 8 .und)] n4) l4) g4) w3) fun o4 p4 =>
VL (vslS 1 (o4.getD 2 .und) none (some (o4.getD 8 .und))) fun q4 =>
VL (vslS 1 (o4.getD 3 .und) none (some (o4.getD 8 .und))) fun r4 =>
p1 [(o4.getD 0 .und), (o4.getD 1 .und), q4, r4, (o4.getD 4 .und), (o4.getD 5 .und), (o4.getD 6 .und), (o4.getD 7 .und)] p4) k3) t1) fun s4 t4 =>
VL (lift2 (abin .add) (s4.getD 7 .und) (.int .i64 1)) fun u4 =>
m1 [(s4.getD 2 .und), (s4.getD 3 .und), (s4.getD 4 .und), (s4.getD 5 .und), u4] [(s4.getD 0 .und), (s4.getD 1 .und), (s4.getD 6 .und)] t4) (
VL (vixS 1 (j1.getD 1 .und) (.int .i64 0)) fun v4 =>
pld l1 none (fun w4 y4 =>
VL (lift1 (acvi .u8) (j1.getD 3 .und)) fun z4 =>
VL (vfa 1 (k1.getD 2 .und)) fun a5 =>
VL (vixA 16 1 a5 w4) fun b5 =>
pst y4 1 (cellsV z4) (fun c5 d5 =>
pld d5 (some 33) (fun e5 f5 =>
pst f5 33 (cellsV e5) (fun g5 h5 =>
VL (pcellV h5 (some 33) (k1.getD 1 .und)) fun i5 =>
Rt h5 i5) (k1.getD 1 .und)) (k1.getD 2 .und)) b5) v4) o1) [(.rf 77 0 1), (.rf 78 0 1), (.int .i64 0), (.int .i64 0), (.int .i64 0)] [x0, (.ptr 66 0), (.ptr 71 0)] i1) (.ptr 71 0)) (vfill [(.int .i64 0)] [(0, 1, (.int .i64 (-1)))])) (vfill [(.int .i64 0)] [(0, 1, (.int .i64 (-1)))])
theorem spec_l05Made_f {x0 : V} : Prt Try.prog 72 [x0] (spec_l05Made_F x0) := pfun (fn := Try.f72) (m := [.s, .s, .s, .s, .s, .s, .l [3, 4, 5, 6, 8] [0, 2, 7], .s, .s, .j [0, 2, 3, 4, 5, 6, 7, 8], .s, .s, .s, .s, .s, .s, .j [0, 2, 3, 4, 5, 6, 7, 8, 9, 10, 11], .s, .j [0, 2, 3, 4, 5, 6, 7, 8, 9, 10], .s, .s, .s, .s, .s, .s, .j [0, 2, 3, 4, 5, 6, 7, 8, 9, 12], .s, .j [0, 2, 3, 4, 5, 6, 7, 8, 9], .s, .s, .s, .s]) (c := 1 ≤ 115) rfl (fun h0 Rt => by kernel_rfl) (by decide)
def spec_l05DrawWord_F (x0 x1 : V) (hi : Hp) (Rt : Hp → V → Prop) : Prop :=
LP [5, 6, 7] [0] (fun a1 b1 c1 d1 =>
VL (lift2 (abin .gtr) (a1.getD 1 .und) (.int .i64 0)) fun e1 =>
pgk false c1 (fun f1 g1 => g1 (a1.getD 2 .und) c1) (fun h1 i1 j1 =>
pgk false j1 (fun k1 l1 => VL (lift2 (abin .gtr) i1 (.int .i64 0)) fun m1 =>
l1 m1 j1) (fun n1 o1 p1 =>
VL (vpick n1 (.bool true) o1) fun q1 =>
pcond (
VL (lift2 (abin .gtr) (a1.getD 1 .und) (.int .i64 0)) fun r1 =>
pgk true p1 (fun s1 t1 => t1 (a1.getD 2 .und) p1) (fun u1 v1 w1 =>
pgk true w1 (fun y1 z1 => VL (lift2 (abin .eql) v1 (.int .i64 0)) fun a2 =>
z1 a2 w1) (fun b2 c2 d2 =>
pgk true d2 (fun e2 f2 => f2 c2 d2) (fun g2 h2 i2 =>
pgk false i2 (fun j2 k2 => k2 (b1.getD 0 .und) i2) (fun l2 m2 n2 =>
pgk false n2 (fun o2 p2 => pcal Try.prog 36 86 n2 (fun q2 r2 =>
p2 q2 r2) [m2, (.int .i64 2)]) (fun s2 t2 u2 =>
pgk false u2 (fun v2 w2 => VL (lift2 (abin .eql) t2 (.int .i64 0)) fun y2 =>
w2 y2 u2) (fun z2 a3 b3 =>
pgk true b3 (fun c3 d3 => VL (vpick z2 (.bool true) a3) fun e3 =>
d3 e3 b3) (fun f3 g3 h3 =>
VL (vpick f3 g3 (.bool false)) fun i3 =>
pcond (
VL (lift2 (abin .add) (a1.getD 0 .und) (.str [40])) fun j3 =>
VL (lift2 (abin .sub) (a1.getD 1 .und) (.int .i64 1)) fun k3 =>
VL (lift2 (abin .add) (a1.getD 2 .und) (.int .i64 1)) fun l3 =>
d1 [j3, k3, l3] [(b1.getD 0 .und)] h3) (
VL (lift2 (abin .add) (a1.getD 0 .und) (.str [41])) fun m3 =>
VL (lift2 (abin .sub) (a1.getD 2 .und) (.int .i64 1)) fun n3 =>
d1 [m3, (a1.getD 1 .und), n3] [(b1.getD 0 .und)] h3) i3) g2) s2) l2) h2) b2) u1) r1) (
Rt p1 (a1.getD 0 .und)) q1) h1) e1) [(.str []), x1, (.int .i64 0)] [x0] hi
theorem spec_l05DrawWord_f {x0 x1 : V} : Prt Try.prog 73 [x0, x1] (spec_l05DrawWord_F x0 x1) := pfun (fn := Try.f73) (m := [.s, .s, .s, .l [5, 6, 7] [0], .s, .s, .s, .s, .s, .s, .s]) (c := 2 ≤ 37) rfl (fun h0 Rt => by kernel_rfl) (by decide)
def spec_l01Turn_F (x0 : V) (hi : Hp) (Rt : Hp → V → Prop) : Prop :=
palloc hi 66 25 (vi .u8 (List.replicate 16 0)) fun a1 =>
VL (vbld (vfill (vi .u8 (List.replicate 16 0)) [])) fun b1 =>
palloc a1 67 25 (vi .u8 (List.replicate 16 0)) fun c1 =>
pst c1 16 (cellsV b1) (fun d1 e1 =>
LP [4] [0, 2, 3] (fun f1 g1 h1 i1 =>
VL (lift2 (abin .lss) (f1.getD 0 .und) (g1.getD 0 .und)) fun j1 =>
pcond (
VL (lift2 (abin .add) (f1.getD 0 .und) (.int .i64 1)) fun k1 =>
VL (lift2 (abin .rem) k1 (g1.getD 0 .und)) fun l1 =>
VL (lift1 (acvi .u8) l1) fun m1 =>
VL (vixA 16 1 (g1.getD 2 .und) (f1.getD 0 .und)) fun n1 =>
pst h1 1 (cellsV m1) (fun o1 p1 =>
VL (lift2 (abin .add) (f1.getD 0 .und) (.int .i64 1)) fun q1 =>
i1 [q1] [(g1.getD 0 .und), (g1.getD 1 .und), (g1.getD 2 .und)] p1) n1) (
pld h1 (some 16) (fun r1 s1 =>
pst s1 16 (cellsV r1) (fun t1 u1 =>
VL (pcellV u1 (some 16) (g1.getD 1 .und)) fun v1 =>
Rt u1 v1) (g1.getD 1 .und)) (g1.getD 2 .und)) j1) [(.int .i64 0)] [x0, (.ptr 66 0), (.ptr 67 0)] e1) (.ptr 67 0)
theorem spec_l01Turn_f {x0 : V} : Prt Try.prog 74 [x0] (spec_l01Turn_F x0) := pfun (fn := Try.f74) (m := [.s, .s, .s, .s, .l [4] [0, 2, 3], .s, .s, .s, .s]) (c := 1 ≤ 19) rfl (fun h0 Rt => by kernel_rfl) (by decide)
def slices_Sort_int64_int64_i_F (x0 : V) (hi : Hp) (Rt : Hp → V → Prop) : Prop :=
VL (vlenS x0) fun a1 =>
VL (lift1 (acvi .u64) a1) fun b1 =>
pcal Try.prog 80 73 hi (fun c1 d1 =>
pcal Try.prog 79 74 d1 (fun e1 f1 =>
Rt f1 (.tup [])) [x0, (.int .i64 0), a1, c1]) [b1]
theorem slices_Sort_int64_int64_i_f {x0 : V} : Prt Try.prog 76 [x0] (slices_Sort_int64_int64_i_F x0) := pfun (fn := Try.f76) (m := [.s]) (c := 1 ≤ 11) rfl (fun h0 Rt => by kernel_rfl) (by decide)
def slices_Reverse_int64_int64_i_F (x0 : V) (hi : Hp) (Rt : Hp → V → Prop) : Prop :=
VL (vlenS x0) fun a1 =>
VL (lift2 (abin .sub) a1 (.int .i64 1)) fun b1 =>
LP [2, 3] [0] (fun c1 d1 e1 f1 =>
VL (lift2 (abin .lss) (c1.getD 0 .und) (c1.getD 1 .und)) fun g1 =>
pcond (
VL (vixS 1 (d1.getD 0 .und) (c1.getD 1 .und)) fun h1 =>
pld e1 none (fun i1 j1 =>
VL (vixS 1 (d1.getD 0 .und) (c1.getD 0 .und)) fun k1 =>
pld j1 none (fun l1 m1 =>
VL (vixS 1 (d1.getD 0 .und) (c1.getD 0 .und)) fun n1 =>
pst m1 1 (cellsV i1) (fun o1 p1 =>
VL (vixS 1 (d1.getD 0 .und) (c1.getD 1 .und)) fun q1 =>
pst p1 1 (cellsV l1) (fun r1 s1 =>
VL (lift2 (abin .add) (c1.getD 0 .und) (.int .i64 1)) fun t1 =>
VL (lift2 (abin .sub) (c1.getD 1 .und) (.int .i64 1)) fun u1 =>
f1 [t1, u1] [(d1.getD 0 .und)] s1) q1) n1) k1) h1) (
Rt e1 (.tup [])) g1) [(.int .i64 0), b1] [x0] hi
theorem slices_Reverse_int64_int64_i_f {x0 : V} : Prt Try.prog 77 [x0] (slices_Reverse_int64_int64_i_F x0) := pfun (fn := Try.f77) (m := [.s, .l [2, 3] [0], .s, .s, .s]) (c := 1 ≤ 28) rfl (fun h0 Rt => by kernel_rfl) (by decide)
def slices_pdqsortOrdered_int64_F (x0 x1 x2 x3 : V) (hi : Hp) (Rt : Hp → V → Prop) : Prop :=
LP [1, 2, 3, 8, 9] [0] (fun a1 b1 c1 d1 =>
VL (lift2 (abin .sub) (a1.getD 1 .und) (a1.getD 0 .und)) fun e1 =>
VL (lift2 (abin .leq) e1 (.int .i64 12)) fun f1 =>
pcond (
pcal Try.prog 81 91 c1 (fun g1 h1 =>
Rt h1 (.tup [])) [(b1.getD 0 .und), (a1.getD 0 .und), (a1.getD 1 .und)]) (
VL (lift2 (abin .eql) (a1.getD 2 .und) (.int .i64 0)) fun i1 =>
pcond (
pcal Try.prog 82 97 c1 (fun j1 k1 =>
Rt k1 (.tup [])) [(b1.getD 0 .und), (a1.getD 0 .und), (a1.getD 1 .und)]) (
JN (fun l1 =>
VL (lift1 (aun .not) (a1.getD 3 .und)) fun m1 =>
pcond (
pcal Try.prog 83 103 c1 (fun n1 o1 =>
VL (lift2 (abin .sub) (a1.getD 2 .und) (.int .i64 1)) fun p1 =>
l1 [(b1.getD 0 .und), (a1.getD 0 .und), (a1.getD 1 .und), p1, (a1.getD 3 .und), (a1.getD 4 .und), e1] o1) [(b1.getD 0 .und), (a1.getD 0 .und), (a1.getD 1 .und)]) (
l1 [(b1.getD 0 .und), (a1.getD 0 .und), (a1.getD 1 .und), (a1.getD 2 .und), (a1.getD 3 .und), (a1.getD 4 .und), e1] c1) m1) fun q1 r1 =>
pcal Try.prog 84 110 r1 (fun s1 t1 =>
VL (vext 0 s1) fun u1 =>
VL (vext 1 s1) fun v1 =>
JN (fun w1 =>
VL (lift2 (abin .eql) v1 (.int .i64 2)) fun y1 =>
pcond (
pcal Try.prog 85 118 t1 (fun z1 a2 =>
VL (lift2 (abin .sub) (q1.getD 2 .und) (.int .i64 1)) fun b2 =>
VL (lift2 (abin .sub) u1 (q1.getD 1 .und)) fun c2 =>
VL (lift2 (abin .sub) b2 c2) fun d2 =>
w1 [(q1.getD 0 .und), (q1.getD 1 .und), (q1.getD 2 .und), (q1.getD 3 .und), (q1.getD 4 .und), (q1.getD 5 .und), (q1.getD 6 .und), d2, (.int .i64 1)] a2) [(q1.getD 0 .und), (q1.getD 1 .und), (q1.getD 2 .und)]) (
w1 [(q1.getD 0 .und), (q1.getD 1 .und), (q1.getD 2 .und), (q1.getD 3 .und), (q1.getD 4 .und), (q1.getD 5 .und), (q1.getD 6 .und), u1, v1] t1) y1) fun e2 f2 =>
JN (fun g2 =>
pgk true f2 (fun h2 i2 => i2 (e2.getD 5 .und) f2) (fun j2 k2 l2 =>
VL (vpick j2 k2 (.bool false)) fun m2 =>
pgk true l2 (fun n2 o2 => o2 (e2.getD 8 .und) l2) (fun p2 q2 r2 =>
pgk true r2 (fun s2 t2 => VL (lift2 (abin .eql) q2 (.int .i64 1)) fun u2 =>
t2 u2 r2) (fun v2 w2 y2 =>
VL (vpick v2 w2 (.bool false)) fun z2 =>
pcond (
pcal Try.prog 86 136 y2 (fun a3 b3 =>
pcond (
Rt b3 (.tup [])) (
g2 [(e2.getD 0 .und), (e2.getD 1 .und), (e2.getD 2 .und), (e2.getD 3 .und), (e2.getD 4 .und), (e2.getD 5 .und), (e2.getD 6 .und), (e2.getD 7 .und)] b3) a3) [(e2.getD 0 .und), (e2.getD 1 .und), (e2.getD 2 .und)]) (
g2 [(e2.getD 0 .und), (e2.getD 1 .und), (e2.getD 2 .und), (e2.getD 3 .und), (e2.getD 4 .und), (e2.getD 5 .und), (e2.getD 6 .und), (e2.getD 7 .und)] y2) z2) p2) m2) (e2.getD 4 .und)) fun c3 d3 =>
VL (lift2 (abin .gtr) (c3.getD 1 .und) (.int .i64 0)) fun e3 =>
pgk true d3 (fun f3 g3 => g3 (c3.getD 0 .und) d3) (fun h3 i3 j3 =>
pgk true j3 (fun k3 l3 => l3 (c3.getD 1 .und) j3) (fun m3 n3 o3 =>
pgk true o3 (fun p3 q3 => VL (lift2 (abin .sub) n3 (.int .i64 1)) fun r3 =>
q3 r3 o3) (fun s3 t3 u3 =>
pgk true u3 (fun v3 w3 => VL (vixS 1 i3 t3) fun y3 =>
w3 y3 u3) (fun z3 a4 b4 =>
pgk true b4 (fun c4 d4 => pld b4 none (fun e4 f4 =>
d4 e4 f4) a4) (fun g4 h4 i4 =>
pgk true i4 (fun j4 k4 => k4 (c3.getD 0 .und) i4) (fun l4 m4 n4 =>
pgk true n4 (fun o4 p4 => p4 (c3.getD 7 .und) n4) (fun q4 r4 s4 =>
pgk true s4 (fun t4 u4 => VL (vixS 1 m4 r4) fun v4 =>
u4 v4 s4) (fun w4 y4 z4 =>
pgk true z4 (fun a5 b5 => pld z4 none (fun c5 d5 =>
b5 c5 d5) y4) (fun e5 f5 g5 =>
pgk true g5 (fun h5 i5 => pcal Try.prog 87 149 g5 (fun j5 k5 =>
i5 j5 k5) [h4, f5]) (fun l5 m5 n5 =>
pgk true n5 (fun o5 p5 => VL (lift1 (aun .not) m5) fun q5 =>
p5 q5 n5) (fun r5 s5 t5 =>
VL (vpick r5 s5 (.bool false)) fun u5 =>
pcond (
pcal Try.prog 88 156 t5 (fun v5 w5 =>
d1 [v5, (c3.getD 2 .und), (c3.getD 3 .und), (c3.getD 4 .und), (c3.getD 5 .und)] [(c3.getD 0 .und)] w5) [(c3.getD 0 .und), (c3.getD 1 .und), (c3.getD 2 .und), (c3.getD 7 .und)]) (
pcal Try.prog 89 163 t5 (fun y5 z5 =>
VL (vext 0 y5) fun a6 =>
VL (vext 1 y5) fun b6 =>
VL (lift2 (abin .sub) a6 (c3.getD 1 .und)) fun c6 =>
VL (lift2 (abin .sub) (c3.getD 2 .und) a6) fun d6 =>
VL (lift2 (abin .quo) (c3.getD 6 .und) (.int .i64 8)) fun e6 =>
VL (lift2 (abin .lss) c6 d6) fun f6 =>
pcond (
VL (lift2 (abin .geq) c6 e6) fun g6 =>
pcal Try.prog 79 185 z5 (fun h6 i6 =>
VL (lift2 (abin .add) a6 (.int .i64 1)) fun j6 =>
d1 [j6, (c3.getD 2 .und), (c3.getD 3 .und), g6, b6] [(c3.getD 0 .und)] i6) [(c3.getD 0 .und), (c3.getD 1 .und), a6, (c3.getD 3 .und)]) (
VL (lift2 (abin .geq) d6 e6) fun k6 =>
VL (lift2 (abin .add) a6 (.int .i64 1)) fun l6 =>
pcal Try.prog 79 196 z5 (fun m6 n6 =>
d1 [(c3.getD 1 .und), a6, (c3.getD 3 .und), k6, b6] [(c3.getD 0 .und)] n6) [(c3.getD 0 .und), l6, (c3.getD 2 .und), (c3.getD 3 .und)]) f6) [(c3.getD 0 .und), (c3.getD 1 .und), (c3.getD 2 .und), (c3.getD 7 .und)]) u5) l5) e5) w4) q4) l4) g4) z3) s3) m3) h3) e3) [(q1.getD 0 .und), (q1.getD 1 .und), (q1.getD 2 .und)]) i1) f1) [x1, x2, x3, (.bool true), (.bool true)] [x0] hi
theorem slices_pdqsortOrdered_int64_f {x0 x1 x2 x3 : V} : Prt Try.prog 79 [x0, x1, x2, x3] (slices_pdqsortOrdered_int64_F x0 x1 x2 x3) := pfun (fn := Try.f79) (m := [.s, .s, .l [1, 2, 3, 8, 9] [0], .s, .s, .s, .s, .s, .s, .s, .j [0, 1, 2, 3, 8, 9, 10], .s, .s, .s, .j [0, 1, 2, 3, 8, 9, 10, 11, 12], .s, .s, .s, .j [0, 1, 2, 3, 8, 9, 10, 11], .s, .s, .s, .s, .s, .s, .s, .s, .s, .s, .s, .s, .s, .s, .s]) (c := 4 ≤ 134) rfl (fun h0 Rt => by kernel_rfl) (by decide)
def math_bits_Len_F (x0 : V) (hi : Hp) (Rt : Hp → V → Prop) : Prop :=
pcond (
VL (lift1 (acvi .u32) x0) fun a1 =>
pcal Try.prog 90 69 hi (fun b1 c1 =>
Rt c1 b1) [a1]) (
pcal Try.prog 91 71 hi (fun d1 e1 =>
Rt e1 d1) [x0]) (.bool false)
theorem math_bits_Len_f {x0 : V} : Prt Try.prog 80 [x0] (math_bits_Len_F x0) := pfun (fn := Try.f80) (m := [.s, .s, .s, .s]) (c := 1 ≤ 8) rfl (fun h0 Rt => by kernel_rfl) (by decide)
def slices_insertionSortOrdered_int64_F (x0 x1 x2 : V) (hi : Hp) (Rt : Hp → V → Prop) : Prop :=
VL (lift2 (abin .add) x1 (.int .i64 1)) fun a1 =>
LP [6] [0, 1, 2] (fun b1 c1 d1 e1 =>
VL (lift2 (abin .lss) (b1.getD 0 .und) (c1.getD 2 .und)) fun f1 =>
pcond (
LP [7] [0, 1, 2, 6] (fun g1 h1 i1 j1 =>
VL (lift2 (abin .gtr) (g1.getD 0 .und) (h1.getD 1 .und)) fun k1 =>
pgk true i1 (fun l1 m1 => m1 (h1.getD 0 .und) i1) (fun n1 o1 p1 =>
pgk true p1 (fun q1 r1 => r1 (g1.getD 0 .und) p1) (fun s1 t1 u1 =>
pgk true u1 (fun v1 w1 => VL (vixS 1 o1 t1) fun y1 =>
w1 y1 u1) (fun z1 a2 b2 =>
pgk true b2 (fun c2 d2 => pld b2 none (fun e2 f2 =>
d2 e2 f2) a2) (fun g2 h2 i2 =>
pgk true i2 (fun j2 k2 => k2 (h1.getD 0 .und) i2) (fun l2 m2 n2 =>
pgk true n2 (fun o2 p2 => p2 (g1.getD 0 .und) n2) (fun q2 r2 s2 =>
pgk true s2 (fun t2 u2 => VL (lift2 (abin .sub) r2 (.int .i64 1)) fun v2 =>
u2 v2 s2) (fun w2 y2 z2 =>
pgk true z2 (fun a3 b3 => VL (vixS 1 m2 y2) fun c3 =>
b3 c3 z2) (fun d3 e3 f3 =>
pgk true f3 (fun g3 h3 => pld f3 none (fun i3 j3 =>
h3 i3 j3) e3) (fun k3 l3 m3 =>
pgk true m3 (fun n3 o3 => pcal Try.prog 87 93 m3 (fun p3 q3 =>
o3 p3 q3) [h2, l3]) (fun r3 s3 t3 =>
VL (vpick r3 s3 (.bool false)) fun u3 =>
pcond (
VL (lift2 (abin .sub) (g1.getD 0 .und) (.int .i64 1)) fun v3 =>
VL (lift2 (abin .sub) (g1.getD 0 .und) (.int .i64 1)) fun w3 =>
VL (vixS 1 (h1.getD 0 .und) w3) fun y3 =>
pld t3 none (fun z3 a4 =>
VL (vixS 1 (h1.getD 0 .und) (g1.getD 0 .und)) fun b4 =>
pld a4 none (fun c4 d4 =>
VL (vixS 1 (h1.getD 0 .und) (g1.getD 0 .und)) fun e4 =>
pst d4 1 (cellsV z3) (fun f4 g4 =>
VL (vixS 1 (h1.getD 0 .und) v3) fun h4 =>
pst g4 1 (cellsV c4) (fun i4 j4 =>
VL (lift2 (abin .sub) (g1.getD 0 .und) (.int .i64 1)) fun k4 =>
j1 [k4] [(h1.getD 0 .und), (h1.getD 1 .und), (h1.getD 2 .und), (h1.getD 3 .und)] j4) h4) e4) b4) y3) (
VL (lift2 (abin .add) (h1.getD 3 .und) (.int .i64 1)) fun l4 =>
e1 [l4] [(h1.getD 0 .und), (h1.getD 1 .und), (h1.getD 2 .und)] t3) u3) k3) d3) w2) q2) l2) g2) z1) s1) n1) k1) [(b1.getD 0 .und)] [(c1.getD 0 .und), (c1.getD 1 .und), (c1.getD 2 .und), (b1.getD 0 .und)] d1) (
Rt d1 (.tup [])) f1) [a1] [x0, x1, x2] hi
theorem slices_insertionSortOrdered_int64_f {x0 x1 x2 : V} : Prt Try.prog 81 [x0, x1, x2] (slices_insertionSortOrdered_int64_F x0 x1 x2) := pfun (fn := Try.f81) (m := [.s, .l [6] [0, 1, 2], .s, .s, .s, .s, .l [7] [0, 1, 2, 6], .s, .s, .s]) (c := 3 ≤ 49) rfl (fun h0 Rt => by kernel_rfl) (by decide)
def slices_heapSortOrdered_int64_F (x0 x1 x2 : V) (hi : Hp) (Rt : Hp → V → Prop) : Prop :=
VL (lift2 (abin .sub) x2 x1) fun a1 =>
VL (lift2 (abin .sub) a1 (.int .i64 1)) fun b1 =>
VL (lift2 (abin .quo) b1 (.int .i64 2)) fun c1 =>
LP [9] [0, 6, 7, 8] (fun d1 e1 f1 g1 =>
VL (lift2 (abin .geq) (d1.getD 0 .und) (.int .i64 0)) fun h1 =>
pcond (
pcal Try.prog 92 90 f1 (fun i1 j1 =>
VL (lift2 (abin .sub) (d1.getD 0 .und) (.int .i64 1)) fun k1 =>
g1 [k1] [(e1.getD 0 .und), (e1.getD 1 .und), (e1.getD 2 .und), (e1.getD 3 .und)] j1) [(e1.getD 0 .und), (d1.getD 0 .und), (e1.getD 3 .und), (e1.getD 1 .und)]) (
VL (lift2 (abin .sub) (e1.getD 3 .und) (.int .i64 1)) fun l1 =>
LP [10] [0, 6, 7] (fun m1 n1 o1 p1 =>
VL (lift2 (abin .geq) (m1.getD 0 .und) (.int .i64 0)) fun q1 =>
pcond (
VL (lift2 (abin .add) (n1.getD 1 .und) (m1.getD 0 .und)) fun r1 =>
VL (lift2 (abin .add) (n1.getD 1 .und) (m1.getD 0 .und)) fun s1 =>
VL (vixS 1 (n1.getD 0 .und) s1) fun t1 =>
pld o1 none (fun u1 v1 =>
VL (vixS 1 (n1.getD 0 .und) (n1.getD 1 .und)) fun w1 =>
pld v1 none (fun y1 z1 =>
VL (vixS 1 (n1.getD 0 .und) (n1.getD 1 .und)) fun a2 =>
pst z1 1 (cellsV u1) (fun b2 c2 =>
VL (vixS 1 (n1.getD 0 .und) r1) fun d2 =>
pst c2 1 (cellsV y1) (fun e2 f2 =>
pcal Try.prog 92 119 f2 (fun g2 h2 =>
VL (lift2 (abin .sub) (m1.getD 0 .und) (.int .i64 1)) fun i2 =>
p1 [i2] [(n1.getD 0 .und), (n1.getD 1 .und), (n1.getD 2 .und)] h2) [(n1.getD 0 .und), (n1.getD 2 .und), (m1.getD 0 .und), (n1.getD 1 .und)]) d2) a2) w1) t1) (
Rt o1 (.tup [])) q1) [l1] [(e1.getD 0 .und), (e1.getD 1 .und), (e1.getD 2 .und)] f1) h1) [c1] [x0, x1, (.int .i64 0), a1] hi
theorem slices_heapSortOrdered_int64_f {x0 x1 x2 : V} : Prt Try.prog 82 [x0, x1, x2] (slices_heapSortOrdered_int64_F x0 x1 x2) := pfun (fn := Try.f82) (m := [.s, .s, .s, .s, .s, .l [9] [0, 6, 7, 8], .s, .s, .s, .s, .l [10] [0, 6, 7], .s, .s, .s, .s]) (c := 3 ≤ 56) rfl (fun h0 Rt => by kernel_rfl) (by decide)
def slices_breakPatternsOrdered_int64_F (x0 x1 x2 : V) (hi : Hp) (Rt : Hp → V → Prop) : Prop :=
VL (lift2 (abin .sub) x2 x1) fun a1 =>
VL (lift2 (abin .geq) a1 (.int .i64 8)) fun b1 =>
pcond (
VL (lift1 (acvi .u64) a1) fun c1 =>
palloc hi 71 107 [(.int .u64 0)] fun d1 =>
pst d1 1 (cellsV c1) (fun e1 f1 =>
pcal Try.prog 93 83 f1 (fun g1 h1 =>
VL (lift2 (abin .quo) a1 (.int .i64 4)) fun i1 =>
VL (lift2 (abin .mul) i1 (.int .i64 2)) fun j1 =>
VL (lift2 (abin .add) x1 j1) fun k1 =>
VL (lift2 (abin .sub) k1 (.int .i64 1)) fun l1 =>
LP [9] [0, 1, 6, 7, 8] (fun m1 n1 o1 p1 =>
VL (lift2 (abin .quo) (n1.getD 2 .und) (.int .i64 4)) fun q1 =>
VL (lift2 (abin .mul) q1 (.int .i64 2)) fun r1 =>
VL (lift2 (abin .add) (n1.getD 1 .und) r1) fun s1 =>
VL (lift2 (abin .add) s1 (.int .i64 1)) fun t1 =>
VL (lift2 (abin .leq) (m1.getD 0 .und) t1) fun u1 =>
pcond (
pcal Try.prog 94 100 o1 (fun v1 w1 =>
VL (lift2 (abin .sub) (n1.getD 4 .und) (.int .u64 1)) fun y1 =>
VL (lift2 (abin .and) v1 y1) fun z1 =>
VL (lift1 (acvi .i64) z1) fun a2 =>
JN (fun b2 =>
VL (lift2 (abin .geq) a2 (n1.getD 2 .und)) fun c2 =>
pcond (
VL (lift2 (abin .sub) a2 (n1.getD 2 .und)) fun d2 =>
b2 [(n1.getD 0 .und), (n1.getD 1 .und), (n1.getD 2 .und), (n1.getD 3 .und), (n1.getD 4 .und), (m1.getD 0 .und), d2] w1) (
b2 [(n1.getD 0 .und), (n1.getD 1 .und), (n1.getD 2 .und), (n1.getD 3 .und), (n1.getD 4 .und), (m1.getD 0 .und), a2] w1) c2) fun e2 f2 =>
VL (lift2 (abin .add) (e2.getD 1 .und) (e2.getD 6 .und)) fun g2 =>
VL (lift2 (abin .add) (e2.getD 1 .und) (e2.getD 6 .und)) fun h2 =>
VL (vixS 1 (e2.getD 0 .und) h2) fun i2 =>
pld f2 none (fun j2 k2 =>
VL (vixS 1 (e2.getD 0 .und) (e2.getD 5 .und)) fun l2 =>
pld k2 none (fun m2 n2 =>
VL (vixS 1 (e2.getD 0 .und) (e2.getD 5 .und)) fun o2 =>
pst n2 1 (cellsV j2) (fun p2 q2 =>
VL (vixS 1 (e2.getD 0 .und) g2) fun r2 =>
pst q2 1 (cellsV m2) (fun s2 t2 =>
VL (lift2 (abin .add) (e2.getD 5 .und) (.int .i64 1)) fun u2 =>
p1 [u2] [(e2.getD 0 .und), (e2.getD 1 .und), (e2.getD 2 .und), (e2.getD 3 .und), (e2.getD 4 .und)] t2) r2) o2) l2) i2) [(n1.getD 3 .und)]) (
Rt o1 (.tup [])) u1) [l1] [x0, x1, a1, (.ptr 71 0), g1] h1) [a1]) (.ptr 71 0)) (
Rt hi (.tup [])) b1
theorem slices_breakPatternsOrdered_int64_f {x0 x1 x2 : V} : Prt Try.prog 83 [x0, x1, x2] (slices_breakPatternsOrdered_int64_F x0 x1 x2) := pfun (fn := Try.f83) (m := [.s, .s, .s, .s, .s, .l [9] [0, 1, 6, 7, 8], .s, .s, .s, .s, .j [0, 1, 6, 7, 8, 9, 10], .s]) (c := 3 ≤ 65) rfl (fun h0 Rt => by kernel_rfl) (by decide)
def slices_choosePivotOrdered_int64_F (x0 x1 x2 : V) (hi : Hp) (Rt : Hp → V → Prop) : Prop :=
VL (lift2 (abin .sub) x2 x1) fun a1 =>
palloc hi 73 3 [(.int .i64 0)] fun b1 =>
VL (lift2 (abin .quo) a1 (.int .i64 4)) fun c1 =>
VL (lift2 (abin .mul) c1 (.int .i64 1)) fun d1 =>
VL (lift2 (abin .add) x1 d1) fun e1 =>
VL (lift2 (abin .quo) a1 (.int .i64 4)) fun f1 =>
VL (lift2 (abin .mul) f1 (.int .i64 2)) fun g1 =>
VL (lift2 (abin .add) x1 g1) fun h1 =>
VL (lift2 (abin .quo) a1 (.int .i64 4)) fun i1 =>
VL (lift2 (abin .mul) i1 (.int .i64 3)) fun j1 =>
VL (lift2 (abin .add) x1 j1) fun k1 =>
JN (fun l1 =>
VL (lift2 (abin .geq) a1 (.int .i64 8)) fun m1 =>
pcond (
JN (fun n1 =>
VL (lift2 (abin .geq) a1 (.int .i64 50)) fun o1 =>
pcond (
pcal Try.prog 95 101 b1 (fun p1 q1 =>
pcal Try.prog 95 104 q1 (fun r1 s1 =>
pcal Try.prog 95 107 s1 (fun t1 u1 =>
n1 [x0, (.ptr 73 0), p1, r1, t1] u1) [x0, k1, (.ptr 73 0)]) [x0, h1, (.ptr 73 0)]) [x0, e1, (.ptr 73 0)]) (
n1 [x0, (.ptr 73 0), e1, h1, k1] b1) o1) fun v1 w1 =>
pcal Try.prog 96 112 w1 (fun y1 z1 =>
l1 [(v1.getD 1 .und), y1] z1) [(v1.getD 0 .und), (v1.getD 2 .und), (v1.getD 3 .und), (v1.getD 4 .und), (v1.getD 1 .und)]) (
l1 [(.ptr 73 0), h1] b1) m1) fun a2 b2 =>
pld b2 none (fun c2 d2 =>
VL (lift2 (abin .eql) c2 (.int .i64 0)) fun e2 =>
pcond (
Rt d2 (.tup [(a2.getD 1 .und), (.int .i64 1)])) (
VL (lift2 (abin .eql) c2 (.int .i64 12)) fun f2 =>
pcond (
Rt d2 (.tup [(a2.getD 1 .und), (.int .i64 2)])) (
Rt d2 (.tup [(a2.getD 1 .und), (.int .i64 0)])) f2) e2) (a2.getD 0 .und)
theorem slices_choosePivotOrdered_int64_f {x0 x1 x2 : V} : Prt Try.prog 84 [x0, x1, x2] (slices_choosePivotOrdered_int64_F x0 x1 x2) := pfun (fn := Try.f84) (m := [.s, .s, .s, .s, .s, .s, .j [9, 11], .s, .j [0, 9, 10, 11, 12], .s, .s, .s, .s, .s, .s, .s, .s, .s]) (c := 3 ≤ 57) rfl (fun h0 Rt => by kernel_rfl) (by decide)
def slices_reverseRangeOrdered_int64_F (x0 x1 x2 : V) (hi : Hp) (Rt : Hp → V → Prop) : Prop :=
VL (lift2 (abin .sub) x2 (.int .i64 1)) fun a1 =>
LP [6, 7] [0] (fun b1 c1 d1 e1 =>
VL (lift2 (abin .lss) (b1.getD 0 .und) (b1.getD 1 .und)) fun f1 =>
pcond (
VL (vixS 1 (c1.getD 0 .und) (b1.getD 1 .und)) fun g1 =>
pld d1 none (fun h1 i1 =>
VL (vixS 1 (c1.getD 0 .und) (b1.getD 0 .und)) fun j1 =>
pld i1 none (fun k1 l1 =>
VL (vixS 1 (c1.getD 0 .und) (b1.getD 0 .und)) fun m1 =>
pst l1 1 (cellsV h1) (fun n1 o1 =>
VL (vixS 1 (c1.getD 0 .und) (b1.getD 1 .und)) fun p1 =>
pst o1 1 (cellsV k1) (fun q1 r1 =>
VL (lift2 (abin .add) (b1.getD 0 .und) (.int .i64 1)) fun s1 =>
VL (lift2 (abin .sub) (b1.getD 1 .und) (.int .i64 1)) fun t1 =>
e1 [s1, t1] [(c1.getD 0 .und)] r1) p1) m1) j1) g1) (
Rt d1 (.tup [])) f1) [x1, a1] [x0] hi
theorem slices_reverseRangeOrdered_int64_f {x0 x1 x2 : V} : Prt Try.prog 85 [x0, x1, x2] (slices_reverseRangeOrdered_int64_F x0 x1 x2) := pfun (fn := Try.f85) (m := [.s, .s, .l [6, 7] [0], .s, .s, .s, .s]) (c := 3 ≤ 32) rfl (fun h0 Rt => by kernel_rfl) (by decide)
def slices_partialInsertionSortOrdered_int64_F (x0 x1 x2 : V) (hi : Hp) (Rt : Hp → V → Prop) : Prop :=
VL (lift2 (abin .add) x1 (.int .i64 1)) fun a1 =>
LP [7, 8] [0, 1, 2] (fun b1 c1 d1 e1 =>
VL (lift2 (abin .lss) (b1.getD 1 .und) (.int .i64 5)) fun f1 =>
pcond (
JN (fun g1 =>
LP [7] [0, 1, 2, 8] (fun h1 i1 j1 k1 =>
VL (lift2 (abin .lss) (h1.getD 0 .und) (i1.getD 2 .und)) fun l1 =>
pgk true j1 (fun m1 n1 => n1 (i1.getD 0 .und) j1) (fun o1 p1 q1 =>
pgk true q1 (fun r1 s1 => s1 (h1.getD 0 .und) q1) (fun t1 u1 v1 =>
pgk true v1 (fun w1 y1 => VL (vixS 1 p1 u1) fun z1 =>
y1 z1 v1) (fun a2 b2 c2 =>
pgk true c2 (fun d2 e2 => pld c2 none (fun f2 g2 =>
e2 f2 g2) b2) (fun h2 i2 j2 =>
pgk true j2 (fun k2 l2 => l2 (i1.getD 0 .und) j2) (fun m2 n2 o2 =>
pgk true o2 (fun p2 q2 => q2 (h1.getD 0 .und) o2) (fun r2 s2 t2 =>
pgk true t2 (fun u2 v2 => VL (lift2 (abin .sub) s2 (.int .i64 1)) fun w2 =>
v2 w2 t2) (fun y2 z2 a3 =>
pgk true a3 (fun b3 c3 => VL (vixS 1 n2 z2) fun d3 =>
c3 d3 a3) (fun e3 f3 g3 =>
pgk true g3 (fun h3 i3 => pld g3 none (fun j3 k3 =>
i3 j3 k3) f3) (fun l3 m3 n3 =>
pgk true n3 (fun o3 p3 => pcal Try.prog 87 94 n3 (fun q3 r3 =>
p3 q3 r3) [i2, m3]) (fun s3 t3 u3 =>
pgk true u3 (fun v3 w3 => VL (lift1 (aun .not) t3) fun y3 =>
w3 y3 u3) (fun z3 a4 b4 =>
VL (vpick z3 a4 (.bool false)) fun c4 =>
pcond (
VL (lift2 (abin .add) (h1.getD 0 .und) (.int .i64 1)) fun d4 =>
k1 [d4] [(i1.getD 0 .und), (i1.getD 1 .und), (i1.getD 2 .und), (i1.getD 3 .und)] b4) (
VL (lift2 (abin .eql) (h1.getD 0 .und) (i1.getD 2 .und)) fun e4 =>
pcond (
Rt b4 (.bool true)) (
VL (lift2 (abin .sub) (i1.getD 2 .und) (i1.getD 1 .und)) fun f4 =>
VL (lift2 (abin .lss) f4 (.int .i64 50)) fun g4 =>
pcond (
Rt b4 (.bool false)) (
VL (lift2 (abin .sub) (h1.getD 0 .und) (.int .i64 1)) fun h4 =>
VL (lift2 (abin .sub) (h1.getD 0 .und) (.int .i64 1)) fun i4 =>
VL (vixS 1 (i1.getD 0 .und) i4) fun j4 =>
pld b4 none (fun k4 l4 =>
VL (vixS 1 (i1.getD 0 .und) (h1.getD 0 .und)) fun m4 =>
pld l4 none (fun n4 o4 =>
VL (vixS 1 (i1.getD 0 .und) (h1.getD 0 .und)) fun p4 =>
pst o4 1 (cellsV k4) (fun q4 r4 =>
VL (vixS 1 (i1.getD 0 .und) h4) fun s4 =>
pst r4 1 (cellsV n4) (fun t4 u4 =>
JN (fun v4 =>
VL (lift2 (abin .sub) (h1.getD 0 .und) (i1.getD 1 .und)) fun w4 =>
VL (lift2 (abin .geq) w4 (.int .i64 2)) fun y4 =>
pcond (
VL (lift2 (abin .sub) (h1.getD 0 .und) (.int .i64 1)) fun z4 =>
LP [9] [0, 1, 2, 7, 8] (fun a5 b5 c5 d5 =>
VL (lift2 (abin .geq) (a5.getD 0 .und) (.int .i64 1)) fun e5 =>
pcond (
VL (vixS 1 (b5.getD 0 .und) (a5.getD 0 .und)) fun f5 =>
pld c5 none (fun g5 h5 =>
VL (lift2 (abin .sub) (a5.getD 0 .und) (.int .i64 1)) fun i5 =>
VL (vixS 1 (b5.getD 0 .und) i5) fun j5 =>
pld h5 none (fun k5 l5 =>
pcal Try.prog 87 141 l5 (fun m5 n5 =>
VL (lift1 (aun .not) m5) fun o5 =>
pcond (
v4 [(b5.getD 0 .und), (b5.getD 1 .und), (b5.getD 2 .und), (b5.getD 3 .und), (b5.getD 4 .und)] n5) (
VL (lift2 (abin .sub) (a5.getD 0 .und) (.int .i64 1)) fun p5 =>
VL (lift2 (abin .sub) (a5.getD 0 .und) (.int .i64 1)) fun q5 =>
VL (vixS 1 (b5.getD 0 .und) q5) fun r5 =>
pld n5 none (fun s5 t5 =>
VL (vixS 1 (b5.getD 0 .und) (a5.getD 0 .und)) fun u5 =>
pld t5 none (fun v5 w5 =>
VL (vixS 1 (b5.getD 0 .und) (a5.getD 0 .und)) fun y5 =>
pst w5 1 (cellsV s5) (fun z5 a6 =>
VL (vixS 1 (b5.getD 0 .und) p5) fun b6 =>
pst a6 1 (cellsV v5) (fun c6 d6 =>
VL (lift2 (abin .sub) (a5.getD 0 .und) (.int .i64 1)) fun e6 =>
d5 [e6] [(b5.getD 0 .und), (b5.getD 1 .und), (b5.getD 2 .und), (b5.getD 3 .und), (b5.getD 4 .und)] d6) b6) y5) u5) r5) o5) [g5, k5]) j5) f5) (
v4 [(b5.getD 0 .und), (b5.getD 1 .und), (b5.getD 2 .und), (b5.getD 3 .und), (b5.getD 4 .und)] c5) e5) [z4] [(i1.getD 0 .und), (i1.getD 1 .und), (i1.getD 2 .und), (h1.getD 0 .und), (i1.getD 3 .und)] u4) (
v4 [(i1.getD 0 .und), (i1.getD 1 .und), (i1.getD 2 .und), (h1.getD 0 .und), (i1.getD 3 .und)] u4) y4) fun f6 g6 =>
VL (lift2 (abin .sub) (f6.getD 2 .und) (f6.getD 3 .und)) fun h6 =>
VL (lift2 (abin .geq) h6 (.int .i64 2)) fun i6 =>
pcond (
VL (lift2 (abin .add) (f6.getD 3 .und) (.int .i64 1)) fun j6 =>
LP [10] [0, 1, 2, 7, 8] (fun k6 l6 m6 n6 =>
VL (lift2 (abin .lss) (k6.getD 0 .und) (l6.getD 2 .und)) fun o6 =>
pcond (
VL (vixS 1 (l6.getD 0 .und) (k6.getD 0 .und)) fun p6 =>
pld m6 none (fun q6 r6 =>
VL (lift2 (abin .sub) (k6.getD 0 .und) (.int .i64 1)) fun s6 =>
VL (vixS 1 (l6.getD 0 .und) s6) fun t6 =>
pld r6 none (fun u6 v6 =>
pcal Try.prog 87 179 v6 (fun w6 y6 =>
VL (lift1 (aun .not) w6) fun z6 =>
pcond (
g1 [(l6.getD 0 .und), (l6.getD 1 .und), (l6.getD 2 .und), (l6.getD 3 .und), (l6.getD 4 .und)] y6) (
VL (lift2 (abin .sub) (k6.getD 0 .und) (.int .i64 1)) fun a7 =>
VL (lift2 (abin .sub) (k6.getD 0 .und) (.int .i64 1)) fun b7 =>
VL (vixS 1 (l6.getD 0 .und) b7) fun c7 =>
pld y6 none (fun d7 e7 =>
VL (vixS 1 (l6.getD 0 .und) (k6.getD 0 .und)) fun f7 =>
pld e7 none (fun g7 h7 =>
VL (vixS 1 (l6.getD 0 .und) (k6.getD 0 .und)) fun i7 =>
pst h7 1 (cellsV d7) (fun j7 k7 =>
VL (vixS 1 (l6.getD 0 .und) a7) fun l7 =>
pst k7 1 (cellsV g7) (fun m7 n7 =>
VL (lift2 (abin .add) (k6.getD 0 .und) (.int .i64 1)) fun o7 =>
n6 [o7] [(l6.getD 0 .und), (l6.getD 1 .und), (l6.getD 2 .und), (l6.getD 3 .und), (l6.getD 4 .und)] n7) l7) i7) f7) c7) z6) [q6, u6]) t6) p6) (
g1 [(l6.getD 0 .und), (l6.getD 1 .und), (l6.getD 2 .und), (l6.getD 3 .und), (l6.getD 4 .und)] m6) o6) [j6] [(f6.getD 0 .und), (f6.getD 1 .und), (f6.getD 2 .und), (f6.getD 3 .und), (f6.getD 4 .und)] g6) (
g1 [(f6.getD 0 .und), (f6.getD 1 .und), (f6.getD 2 .und), (f6.getD 3 .und), (f6.getD 4 .und)] g6) i6) s4) p4) m4) j4) g4) e4) c4) s3) l3) e3) y2) r2) m2) h2) a2) t1) o1) l1) [(b1.getD 0 .und)] [(c1.getD 0 .und), (c1.getD 1 .und), (c1.getD 2 .und), (b1.getD 1 .und)] d1) fun p7 q7 =>
VL (lift2 (abin .add) (p7.getD 4 .und) (.int .i64 1)) fun r7 =>
e1 [(p7.getD 3 .und), r7] [(p7.getD 0 .und), (p7.getD 1 .und), (p7.getD 2 .und)] q7) (
Rt d1 (.bool false)) f1) [a1, (.int .i64 0)] [x0, x1, x2] hi
theorem slices_partialInsertionSortOrdered_int64_f {x0 x1 x2 : V} : Prt Try.prog 86 [x0, x1, x2] (slices_partialInsertionSortOrdered_int64_F x0 x1 x2) := pfun (fn := Try.f86) (m := [.s, .s, .s, .s, .l [7, 8] [0, 1, 2], .s, .s, .j [0, 1, 2, 7, 8], .s, .l [7] [0, 1, 2, 8], .s, .s, .s, .s, .s, .s, .s, .s, .s, .j [0, 1, 2, 7, 8], .s, .s, .l [9] [0, 1, 2, 7, 8], .s, .s, .s, .s, .s, .s, .s, .l [10] [0, 1, 2, 7, 8], .s, .s, .s, .s, .s, .s]) (c := 3 ≤ 133) rfl (fun h0 Rt => by kernel_rfl) (by decide)
def cmp_Less_int64_F (x0 x1 : V) (hi : Hp) (Rt : Hp → V → Prop) : Prop :=
pcal Try.prog 97 70 hi (fun a1 b1 =>
pgk true b1 (fun c1 d1 => d1 x1 b1) (fun e1 f1 g1 =>
pgk true g1 (fun h1 i1 => pcal Try.prog 97 73 g1 (fun j1 k1 =>
i1 j1 k1) [f1]) (fun l1 m1 n1 =>
pgk true n1 (fun o1 p1 => VL (lift1 (aun .not) m1) fun q1 =>
p1 q1 n1) (fun r1 s1 t1 =>
VL (vpick r1 s1 (.bool false)) fun u1 =>
pgk false t1 (fun v1 w1 => w1 x0 t1) (fun y1 z1 a2 =>
pgk false a2 (fun b2 c2 => c2 x1 a2) (fun d2 e2 f2 =>
pgk false f2 (fun g2 h2 => VL (lift2 (abin .lss) z1 e2) fun i2 =>
h2 i2 f2) (fun j2 k2 l2 =>
VL (vpick j2 (.bool true) k2) fun m2 =>
Rt l2 m2) d2) y1) u1) l1) e1) a1) [x0]
theorem cmp_Less_int64_f {x0 x1 : V} : Prt Try.prog 87 [x0, x1] (cmp_Less_int64_F x0 x1) := pfun (fn := Try.f87) (m := [.s, .s]) (c := 2 ≤ 17) rfl (fun h0 Rt => by kernel_rfl) (by decide)
def slices_partitionEqualOrdered_int64_F (x0 x1 x2 x3 : V) (hi : Hp) (Rt : Hp → V → Prop) : Prop :=
VL (vixS 1 x0 x3) fun a1 =>
pld hi none (fun b1 c1 =>
VL (vixS 1 x0 x1) fun d1 =>
pld c1 none (fun e1 f1 =>
VL (vixS 1 x0 x1) fun g1 =>
pst f1 1 (cellsV b1) (fun h1 i1 =>
VL (vixS 1 x0 x3) fun j1 =>
pst i1 1 (cellsV e1) (fun k1 l1 =>
VL (lift2 (abin .add) x1 (.int .i64 1)) fun m1 =>
VL (lift2 (abin .sub) x2 (.int .i64 1)) fun n1 =>
LP [9, 10] [0, 1] (fun o1 p1 q1 r1 =>
LP [9] [0, 1, 10] (fun s1 t1 u1 v1 =>
VL (lift2 (abin .leq) (s1.getD 0 .und) (t1.getD 2 .und)) fun w1 =>
pgk true u1 (fun y1 z1 => z1 (t1.getD 0 .und) u1) (fun a2 b2 c2 =>
pgk true c2 (fun d2 e2 => e2 (t1.getD 1 .und) c2) (fun f2 g2 h2 =>
pgk true h2 (fun i2 j2 => VL (vixS 1 b2 g2) fun k2 =>
j2 k2 h2) (fun l2 m2 n2 =>
pgk true n2 (fun o2 p2 => pld n2 none (fun q2 r2 =>
p2 q2 r2) m2) (fun s2 t2 u2 =>
pgk true u2 (fun v2 w2 => w2 (t1.getD 0 .und) u2) (fun y2 z2 a3 =>
pgk true a3 (fun b3 c3 => c3 (s1.getD 0 .und) a3) (fun d3 e3 f3 =>
pgk true f3 (fun g3 h3 => VL (vixS 1 z2 e3) fun i3 =>
h3 i3 f3) (fun j3 k3 l3 =>
pgk true l3 (fun m3 n3 => pld l3 none (fun o3 p3 =>
n3 o3 p3) k3) (fun q3 r3 s3 =>
pgk true s3 (fun t3 u3 => pcal Try.prog 87 105 s3 (fun v3 w3 =>
u3 v3 w3) [t2, r3]) (fun y3 z3 a4 =>
pgk true a4 (fun b4 c4 => VL (lift1 (aun .not) z3) fun d4 =>
c4 d4 a4) (fun e4 f4 g4 =>
VL (vpick e4 f4 (.bool false)) fun h4 =>
pcond (
VL (lift2 (abin .add) (s1.getD 0 .und) (.int .i64 1)) fun i4 =>
v1 [i4] [(t1.getD 0 .und), (t1.getD 1 .und), (t1.getD 2 .und)] g4) (
LP [10] [0, 1, 9] (fun j4 k4 l4 m4 =>
VL (lift2 (abin .leq) (k4.getD 2 .und) (j4.getD 0 .und)) fun n4 =>
pgk true l4 (fun o4 p4 => p4 (k4.getD 0 .und) l4) (fun q4 r4 s4 =>
pgk true s4 (fun t4 u4 => u4 (k4.getD 1 .und) s4) (fun v4 w4 y4 =>
pgk true y4 (fun z4 a5 => VL (vixS 1 r4 w4) fun b5 =>
a5 b5 y4) (fun c5 d5 e5 =>
pgk true e5 (fun f5 g5 => pld e5 none (fun h5 i5 =>
g5 h5 i5) d5) (fun j5 k5 l5 =>
pgk true l5 (fun m5 n5 => n5 (k4.getD 0 .und) l5) (fun o5 p5 q5 =>
pgk true q5 (fun r5 s5 => s5 (j4.getD 0 .und) q5) (fun t5 u5 v5 =>
pgk true v5 (fun w5 y5 => VL (vixS 1 p5 u5) fun z5 =>
y5 z5 v5) (fun a6 b6 c6 =>
pgk true c6 (fun d6 e6 => pld c6 none (fun f6 g6 =>
e6 f6 g6) b6) (fun h6 i6 j6 =>
pgk true j6 (fun k6 l6 => pcal Try.prog 87 122 j6 (fun m6 n6 =>
l6 m6 n6) [k5, i6]) (fun o6 p6 q6 =>
VL (vpick o6 p6 (.bool false)) fun r6 =>
pcond (
VL (lift2 (abin .sub) (j4.getD 0 .und) (.int .i64 1)) fun s6 =>
m4 [s6] [(k4.getD 0 .und), (k4.getD 1 .und), (k4.getD 2 .und)] q6) (
VL (lift2 (abin .gtr) (k4.getD 2 .und) (j4.getD 0 .und)) fun t6 =>
pcond (
Rt q6 (k4.getD 2 .und)) (
VL (vixS 1 (k4.getD 0 .und) (j4.getD 0 .und)) fun u6 =>
pld q6 none (fun v6 w6 =>
VL (vixS 1 (k4.getD 0 .und) (k4.getD 2 .und)) fun y6 =>
pld w6 none (fun z6 a7 =>
VL (vixS 1 (k4.getD 0 .und) (k4.getD 2 .und)) fun b7 =>
pst a7 1 (cellsV v6) (fun c7 d7 =>
VL (vixS 1 (k4.getD 0 .und) (j4.getD 0 .und)) fun e7 =>
pst d7 1 (cellsV z6) (fun f7 g7 =>
VL (lift2 (abin .add) (k4.getD 2 .und) (.int .i64 1)) fun h7 =>
VL (lift2 (abin .sub) (j4.getD 0 .und) (.int .i64 1)) fun i7 =>
r1 [h7, i7] [(k4.getD 0 .und), (k4.getD 1 .und)] g7) e7) b7) y6) u6) t6) r6) h6) a6) t5) o5) j5) c5) v4) q4) n4) [(t1.getD 2 .und)] [(t1.getD 0 .und), (t1.getD 1 .und), (s1.getD 0 .und)] g4) h4) y3) q3) j3) d3) y2) s2) l2) f2) a2) w1) [(o1.getD 0 .und)] [(p1.getD 0 .und), (p1.getD 1 .und), (o1.getD 1 .und)] q1) [m1, n1] [x0, x1] l1) j1) g1) d1) a1
theorem slices_partitionEqualOrdered_int64_f {x0 x1 x2 x3 : V} : Prt Try.prog 88 [x0, x1, x2, x3] (slices_partitionEqualOrdered_int64_F x0 x1 x2 x3) := pfun (fn := Try.f88) (m := [.s, .s, .s, .s, .l [9, 10] [0, 1], .s, .l [9] [0, 1, 10], .s, .s, .s, .l [10] [0, 1, 9], .s, .s, .s, .s, .s, .s, .s]) (c := 4 ≤ 84) rfl (fun h0 Rt => by kernel_rfl) (by decide)
def slices_partitionOrdered_int64_F (x0 x1 x2 x3 : V) (hi : Hp) (Rt : Hp → V → Prop) : Prop :=
VL (vixS 1 x0 x3) fun a1 =>
pld hi none (fun b1 c1 =>
VL (vixS 1 x0 x1) fun d1 =>
pld c1 none (fun e1 f1 =>
VL (vixS 1 x0 x1) fun g1 =>
pst f1 1 (cellsV b1) (fun h1 i1 =>
VL (vixS 1 x0 x3) fun j1 =>
pst i1 1 (cellsV e1) (fun k1 l1 =>
VL (lift2 (abin .add) x1 (.int .i64 1)) fun m1 =>
VL (lift2 (abin .sub) x2 (.int .i64 1)) fun n1 =>
LP [10] [0, 1, 11] (fun o1 p1 q1 r1 =>
VL (lift2 (abin .leq) (o1.getD 0 .und) (p1.getD 2 .und)) fun s1 =>
pgk true q1 (fun t1 u1 => u1 (p1.getD 0 .und) q1) (fun v1 w1 y1 =>
pgk true y1 (fun z1 a2 => a2 (o1.getD 0 .und) y1) (fun b2 c2 d2 =>
pgk true d2 (fun e2 f2 => VL (vixS 1 w1 c2) fun g2 =>
f2 g2 d2) (fun h2 i2 j2 =>
pgk true j2 (fun k2 l2 => pld j2 none (fun m2 n2 =>
l2 m2 n2) i2) (fun o2 p2 q2 =>
pgk true q2 (fun r2 s2 => s2 (p1.getD 0 .und) q2) (fun t2 u2 v2 =>
pgk true v2 (fun w2 y2 => y2 (p1.getD 1 .und) v2) (fun z2 a3 b3 =>
pgk true b3 (fun c3 d3 => VL (vixS 1 u2 a3) fun e3 =>
d3 e3 b3) (fun f3 g3 h3 =>
pgk true h3 (fun i3 j3 => pld h3 none (fun k3 l3 =>
j3 k3 l3) g3) (fun m3 n3 o3 =>
pgk true o3 (fun p3 q3 => pcal Try.prog 87 106 o3 (fun r3 s3 =>
q3 r3 s3) [p2, n3]) (fun t3 u3 v3 =>
VL (vpick t3 u3 (.bool false)) fun w3 =>
pcond (
VL (lift2 (abin .add) (o1.getD 0 .und) (.int .i64 1)) fun y3 =>
r1 [y3] [(p1.getD 0 .und), (p1.getD 1 .und), (p1.getD 2 .und)] v3) (
LP [11] [0, 1, 10] (fun z3 a4 b4 c4 =>
VL (lift2 (abin .leq) (a4.getD 2 .und) (z3.getD 0 .und)) fun d4 =>
pgk true b4 (fun e4 f4 => f4 (a4.getD 0 .und) b4) (fun g4 h4 i4 =>
pgk true i4 (fun j4 k4 => k4 (z3.getD 0 .und) i4) (fun l4 m4 n4 =>
pgk true n4 (fun o4 p4 => VL (vixS 1 h4 m4) fun q4 =>
p4 q4 n4) (fun r4 s4 t4 =>
pgk true t4 (fun u4 v4 => pld t4 none (fun w4 y4 =>
v4 w4 y4) s4) (fun z4 a5 b5 =>
pgk true b5 (fun c5 d5 => d5 (a4.getD 0 .und) b5) (fun e5 f5 g5 =>
pgk true g5 (fun h5 i5 => i5 (a4.getD 1 .und) g5) (fun j5 k5 l5 =>
pgk true l5 (fun m5 n5 => VL (vixS 1 f5 k5) fun o5 =>
n5 o5 l5) (fun p5 q5 r5 =>
pgk true r5 (fun s5 t5 => pld r5 none (fun u5 v5 =>
t5 u5 v5) q5) (fun w5 y5 z5 =>
pgk true z5 (fun a6 b6 => pcal Try.prog 87 122 z5 (fun c6 d6 =>
b6 c6 d6) [a5, y5]) (fun e6 f6 g6 =>
pgk true g6 (fun h6 i6 => VL (lift1 (aun .not) f6) fun j6 =>
i6 j6 g6) (fun k6 l6 m6 =>
VL (vpick k6 l6 (.bool false)) fun n6 =>
pcond (
VL (lift2 (abin .sub) (z3.getD 0 .und) (.int .i64 1)) fun o6 =>
c4 [o6] [(a4.getD 0 .und), (a4.getD 1 .und), (a4.getD 2 .und)] m6) (
VL (lift2 (abin .gtr) (a4.getD 2 .und) (z3.getD 0 .und)) fun p6 =>
pcond (
VL (vixS 1 (a4.getD 0 .und) (a4.getD 1 .und)) fun q6 =>
pld m6 none (fun r6 s6 =>
VL (vixS 1 (a4.getD 0 .und) (z3.getD 0 .und)) fun t6 =>
pld s6 none (fun u6 v6 =>
VL (vixS 1 (a4.getD 0 .und) (z3.getD 0 .und)) fun w6 =>
pst v6 1 (cellsV r6) (fun y6 z6 =>
VL (vixS 1 (a4.getD 0 .und) (a4.getD 1 .und)) fun a7 =>
pst z6 1 (cellsV u6) (fun b7 c7 =>
Rt c7 (.tup [(z3.getD 0 .und), (.bool true)])) a7) w6) t6) q6) (
VL (vixS 1 (a4.getD 0 .und) (z3.getD 0 .und)) fun d7 =>
pld m6 none (fun e7 f7 =>
VL (vixS 1 (a4.getD 0 .und) (a4.getD 2 .und)) fun g7 =>
pld f7 none (fun h7 i7 =>
VL (vixS 1 (a4.getD 0 .und) (a4.getD 2 .und)) fun j7 =>
pst i7 1 (cellsV e7) (fun k7 l7 =>
VL (vixS 1 (a4.getD 0 .und) (z3.getD 0 .und)) fun m7 =>
pst l7 1 (cellsV h7) (fun n7 o7 =>
VL (lift2 (abin .add) (a4.getD 2 .und) (.int .i64 1)) fun p7 =>
VL (lift2 (abin .sub) (z3.getD 0 .und) (.int .i64 1)) fun q7 =>
LP [10, 11] [0, 1] (fun r7 s7 t7 u7 =>
LP [10] [0, 1, 11] (fun v7 w7 y7 z7 =>
VL (lift2 (abin .leq) (v7.getD 0 .und) (w7.getD 2 .und)) fun a8 =>
pgk true y7 (fun b8 c8 => c8 (w7.getD 0 .und) y7) (fun d8 e8 f8 =>
pgk true f8 (fun g8 h8 => h8 (v7.getD 0 .und) f8) (fun i8 j8 k8 =>
pgk true k8 (fun l8 m8 => VL (vixS 1 e8 j8) fun n8 =>
m8 n8 k8) (fun o8 p8 q8 =>
pgk true q8 (fun r8 s8 => pld q8 none (fun t8 u8 =>
s8 t8 u8) p8) (fun v8 w8 y8 =>
pgk true y8 (fun z8 a9 => a9 (w7.getD 0 .und) y8) (fun b9 c9 d9 =>
pgk true d9 (fun e9 f9 => f9 (w7.getD 1 .und) d9) (fun g9 h9 i9 =>
pgk true i9 (fun j9 k9 => VL (vixS 1 c9 h9) fun l9 =>
k9 l9 i9) (fun m9 n9 o9 =>
pgk true o9 (fun p9 q9 => pld o9 none (fun r9 s9 =>
q9 r9 s9) n9) (fun t9 u9 v9 =>
pgk true v9 (fun w9 y9 => pcal Try.prog 87 175 v9 (fun z9 a10 =>
y9 z9 a10) [w8, u9]) (fun b10 c10 d10 =>
VL (vpick b10 c10 (.bool false)) fun e10 =>
pcond (
VL (lift2 (abin .add) (v7.getD 0 .und) (.int .i64 1)) fun f10 =>
z7 [f10] [(w7.getD 0 .und), (w7.getD 1 .und), (w7.getD 2 .und)] d10) (
LP [11] [0, 1, 10] (fun g10 h10 i10 j10 =>
VL (lift2 (abin .leq) (h10.getD 2 .und) (g10.getD 0 .und)) fun k10 =>
pgk true i10 (fun l10 m10 => m10 (h10.getD 0 .und) i10) (fun n10 o10 p10 =>
pgk true p10 (fun q10 r10 => r10 (g10.getD 0 .und) p10) (fun s10 t10 u10 =>
pgk true u10 (fun v10 w10 => VL (vixS 1 o10 t10) fun y10 =>
w10 y10 u10) (fun z10 a11 b11 =>
pgk true b11 (fun c11 d11 => pld b11 none (fun e11 f11 =>
d11 e11 f11) a11) (fun g11 h11 i11 =>
pgk true i11 (fun j11 k11 => k11 (h10.getD 0 .und) i11) (fun l11 m11 n11 =>
pgk true n11 (fun o11 p11 => p11 (h10.getD 1 .und) n11) (fun q11 r11 s11 =>
pgk true s11 (fun t11 u11 => VL (vixS 1 m11 r11) fun v11 =>
u11 v11 s11) (fun w11 y11 z11 =>
pgk true z11 (fun a12 b12 => pld z11 none (fun c12 d12 =>
b12 c12 d12) y11) (fun e12 f12 g12 =>
pgk true g12 (fun h12 i12 => pcal Try.prog 87 191 g12 (fun j12 k12 =>
i12 j12 k12) [h11, f12]) (fun l12 m12 n12 =>
pgk true n12 (fun o12 p12 => VL (lift1 (aun .not) m12) fun q12 =>
p12 q12 n12) (fun r12 s12 t12 =>
VL (vpick r12 s12 (.bool false)) fun u12 =>
pcond (
VL (lift2 (abin .sub) (g10.getD 0 .und) (.int .i64 1)) fun v12 =>
j10 [v12] [(h10.getD 0 .und), (h10.getD 1 .und), (h10.getD 2 .und)] t12) (
VL (lift2 (abin .gtr) (h10.getD 2 .und) (g10.getD 0 .und)) fun w12 =>
pcond (
VL (vixS 1 (h10.getD 0 .und) (h10.getD 1 .und)) fun y12 =>
pld t12 none (fun z12 a13 =>
VL (vixS 1 (h10.getD 0 .und) (g10.getD 0 .und)) fun b13 =>
pld a13 none (fun c13 d13 =>
VL (vixS 1 (h10.getD 0 .und) (g10.getD 0 .und)) fun e13 =>
pst d13 1 (cellsV z12) (fun f13 g13 =>
VL (vixS 1 (h10.getD 0 .und) (h10.getD 1 .und)) fun h13 =>
pst g13 1 (cellsV c13) (fun i13 j13 =>
Rt j13 (.tup [(g10.getD 0 .und), (.bool false)])) h13) e13) b13) y12) (
VL (vixS 1 (h10.getD 0 .und) (g10.getD 0 .und)) fun k13 =>
pld t12 none (fun l13 m13 =>
VL (vixS 1 (h10.getD 0 .und) (h10.getD 2 .und)) fun n13 =>
pld m13 none (fun o13 p13 =>
VL (vixS 1 (h10.getD 0 .und) (h10.getD 2 .und)) fun q13 =>
pst p13 1 (cellsV l13) (fun r13 s13 =>
VL (vixS 1 (h10.getD 0 .und) (g10.getD 0 .und)) fun t13 =>
pst s13 1 (cellsV o13) (fun u13 v13 =>
VL (lift2 (abin .add) (h10.getD 2 .und) (.int .i64 1)) fun w13 =>
VL (lift2 (abin .sub) (g10.getD 0 .und) (.int .i64 1)) fun y13 =>
u7 [w13, y13] [(h10.getD 0 .und), (h10.getD 1 .und)] v13) t13) q13) n13) k13) w12) u12) l12) e12) w11) q11) l11) g11) z10) s10) n10) k10) [(w7.getD 2 .und)] [(w7.getD 0 .und), (w7.getD 1 .und), (v7.getD 0 .und)] d10) e10) t9) m9) g9) b9) v8) o8) i8) d8) a8) [(r7.getD 0 .und)] [(s7.getD 0 .und), (s7.getD 1 .und), (r7.getD 1 .und)] t7) [p7, q7] [(a4.getD 0 .und), (a4.getD 1 .und)] o7) m7) j7) g7) d7) p6) n6) e6) w5) p5) j5) e5) z4) r4) l4) g4) d4) [(p1.getD 2 .und)] [(p1.getD 0 .und), (p1.getD 1 .und), (o1.getD 0 .und)] v3) w3) m3) f3) z2) t2) o2) h2) b2) v1) s1) [m1] [x0, x1, n1] l1) j1) g1) d1) a1
theorem slices_partitionOrdered_int64_f {x0 x1 x2 x3 : V} : Prt Try.prog 89 [x0, x1, x2, x3] (slices_partitionOrdered_int64_F x0 x1 x2 x3) := pfun (fn := Try.f89) (m := [.s, .s, .s, .s, .l [10] [0, 1, 11], .s, .s, .s, .l [11] [0, 1, 10], .s, .s, .s, .s, .s, .s, .s, .s, .s, .s, .l [10, 11] [0, 1], .s, .l [10] [0, 1, 11], .s, .s, .s, .l [11] [0, 1, 10], .s, .s, .s, .s, .s, .s, .s, .s]) (c := 4 ≤ 168) rfl (fun h0 Rt => by kernel_rfl) (by decide)
def math_bits_Len64_F (x0 : V) (hi : Hp) (Rt : Hp → V → Prop) : Prop :=
JN (fun a1 =>
VL (lift2 (abin .geq) x0 (.int .u64 4294967296)) fun b1 =>
pcond (
VL (lift2 (abin .shr) x0 (.int .u64 32)) fun c1 =>
a1 [c1, (.int .i64 32)] hi) (
a1 [x0, (.int .i64 0)] hi) b1) fun d1 e1 =>
JN (fun f1 =>
VL (lift2 (abin .geq) (d1.getD 0 .und) (.int .u64 65536)) fun g1 =>
pcond (
VL (lift2 (abin .shr) (d1.getD 0 .und) (.int .u64 16)) fun h1 =>
VL (lift2 (abin .add) (d1.getD 1 .und) (.int .i64 16)) fun i1 =>
f1 [h1, i1] e1) (
f1 [(d1.getD 0 .und), (d1.getD 1 .und)] e1) g1) fun j1 k1 =>
JN (fun l1 =>
VL (lift2 (abin .geq) (j1.getD 0 .und) (.int .u64 256)) fun m1 =>
pcond (
VL (lift2 (abin .shr) (j1.getD 0 .und) (.int .u64 8)) fun n1 =>
VL (lift2 (abin .add) (j1.getD 1 .und) (.int .i64 8)) fun o1 =>
l1 [n1, o1] k1) (
l1 [(j1.getD 0 .und), (j1.getD 1 .und)] k1) m1) fun p1 q1 =>
VL (lift1 (acvi .u8) (p1.getD 0 .und)) fun r1 =>
VL (vixT (.str [0, 1, 2, 2, 3, 3, 3, 3, 4, 4, 4, 4, 4, 4, 4, 4, 5, 5, 5, 5, 5, 5, 5, 5, 5, 5, 5, 5, 5, 5, 5, 5, 6, 6, 6, 6, 6, 6, 6, 6, 6, 6, 6, 6, 6, 6, 6, 6, 6, 6, 6, 6, 6, 6, 6, 6, 6, 6, 6, 6, 6, 6, 6, 6, 7, 7, 7, 7, 7, 7, 7, 7, 7, 7, 7, 7, 7, 7, 7, 7, 7, 7, 7, 7, 7, 7, 7, 7, 7, 7, 7, 7, 7, 7, 7, 7, 7, 7, 7, 7, 7, 7, 7, 7, 7, 7, 7, 7, 7, 7, 7, 7, 7, 7, 7, 7, 7, 7, 7, 7, 7, 7, 7, 7, 7, 7, 7, 7, 8, 8, 8, 8, 8, 8, 8, 8, 8, 8, 8, 8, 8, 8, 8, 8, 8, 8, 8, 8, 8, 8, 8, 8, 8, 8, 8, 8, 8, 8, 8, 8, 8, 8, 8, 8, 8, 8, 8, 8, 8, 8, 8, 8, 8, 8, 8, 8, 8, 8, 8, 8, 8, 8, 8, 8, 8, 8, 8, 8, 8, 8, 8, 8, 8, 8, 8, 8, 8, 8, 8, 8, 8, 8, 8, 8, 8, 8, 8, 8, 8, 8, 8, 8, 8, 8, 8, 8, 8, 8, 8, 8, 8, 8, 8, 8, 8, 8, 8, 8, 8, 8, 8, 8, 8, 8, 8, 8, 8, 8, 8, 8, 8, 8, 8, 8, 8, 8, 8, 8, 8, 8, 8, 8, 8, 8, 8, 8]) r1) fun s1 =>
VL (lift1 (acvi .i64) s1) fun t1 =>
VL (lift2 (abin .add) (p1.getD 1 .und) t1) fun u1 =>
Rt q1 u1
theorem math_bits_Len64_f {x0 : V} : Prt Try.prog 91 [x0] (math_bits_Len64_F x0) := pfun (fn := Try.f91) (m := [.s, .j [0, 2], .s, .s, .j [0, 2], .s, .s, .j [0, 2], .s, .s, .s]) (c := 1 ≤ 25) rfl (fun h0 Rt => by kernel_rfl) (by decide)
def slices_siftDownOrdered_int64_F (x0 x1 x2 x3 : V) (hi : Hp) (Rt : Hp → V → Prop) : Prop :=
LP [8] [0, 2, 3] (fun a1 b1 c1 d1 =>
VL (lift2 (abin .mul) (.int .i64 2) (a1.getD 0 .und)) fun e1 =>
VL (lift2 (abin .add) e1 (.int .i64 1)) fun f1 =>
VL (lift2 (abin .geq) f1 (b1.getD 1 .und)) fun g1 =>
pcond (
Rt c1 (.tup [])) (
JN (fun h1 =>
VL (lift2 (abin .add) f1 (.int .i64 1)) fun i1 =>
VL (lift2 (abin .lss) i1 (b1.getD 1 .und)) fun j1 =>
pgk true c1 (fun k1 l1 => l1 (b1.getD 0 .und) c1) (fun m1 n1 o1 =>
pgk true o1 (fun p1 q1 => q1 (b1.getD 2 .und) o1) (fun r1 s1 t1 =>
pgk true t1 (fun u1 v1 => v1 f1 t1) (fun w1 y1 z1 =>
pgk true z1 (fun a2 b2 => VL (lift2 (abin .add) s1 y1) fun c2 =>
b2 c2 z1) (fun d2 e2 f2 =>
pgk true f2 (fun g2 h2 => VL (vixS 1 n1 e2) fun i2 =>
h2 i2 f2) (fun j2 k2 l2 =>
pgk true l2 (fun m2 n2 => pld l2 none (fun o2 p2 =>
n2 o2 p2) k2) (fun q2 r2 s2 =>
pgk true s2 (fun t2 u2 => u2 (b1.getD 0 .und) s2) (fun v2 w2 y2 =>
pgk true y2 (fun z2 a3 => a3 (b1.getD 2 .und) y2) (fun b3 c3 d3 =>
pgk true d3 (fun e3 f3 => f3 f1 d3) (fun g3 h3 i3 =>
pgk true i3 (fun j3 k3 => VL (lift2 (abin .add) c3 h3) fun l3 =>
k3 l3 i3) (fun m3 n3 o3 =>
pgk true o3 (fun p3 q3 => VL (lift2 (abin .add) n3 (.int .i64 1)) fun r3 =>
q3 r3 o3) (fun s3 t3 u3 =>
pgk true u3 (fun v3 w3 => VL (vixS 1 w2 t3) fun y3 =>
w3 y3 u3) (fun z3 a4 b4 =>
pgk true b4 (fun c4 d4 => pld b4 none (fun e4 f4 =>
d4 e4 f4) a4) (fun g4 h4 i4 =>
pgk true i4 (fun j4 k4 => pcal Try.prog 87 99 i4 (fun l4 m4 =>
k4 l4 m4) [r2, h4]) (fun n4 o4 p4 =>
VL (vpick n4 o4 (.bool false)) fun q4 =>
pcond (
VL (lift2 (abin .add) f1 (.int .i64 1)) fun r4 =>
h1 [(b1.getD 0 .und), (b1.getD 1 .und), (b1.getD 2 .und), (a1.getD 0 .und), r4] p4) (
h1 [(b1.getD 0 .und), (b1.getD 1 .und), (b1.getD 2 .und), (a1.getD 0 .und), f1] p4) q4) g4) z3) s3) m3) g3) b3) v2) q2) j2) d2) w1) r1) m1) j1) fun s4 t4 =>
VL (lift2 (abin .add) (s4.getD 2 .und) (s4.getD 3 .und)) fun u4 =>
VL (vixS 1 (s4.getD 0 .und) u4) fun v4 =>
pld t4 none (fun w4 y4 =>
VL (lift2 (abin .add) (s4.getD 2 .und) (s4.getD 4 .und)) fun z4 =>
VL (vixS 1 (s4.getD 0 .und) z4) fun a5 =>
pld y4 none (fun b5 c5 =>
pcal Try.prog 87 115 c5 (fun d5 e5 =>
VL (lift1 (aun .not) d5) fun f5 =>
pcond (
Rt e5 (.tup [])) (
VL (lift2 (abin .add) (s4.getD 2 .und) (s4.getD 3 .und)) fun g5 =>
VL (lift2 (abin .add) (s4.getD 2 .und) (s4.getD 4 .und)) fun h5 =>
VL (lift2 (abin .add) (s4.getD 2 .und) (s4.getD 4 .und)) fun i5 =>
VL (vixS 1 (s4.getD 0 .und) i5) fun j5 =>
pld e5 none (fun k5 l5 =>
VL (lift2 (abin .add) (s4.getD 2 .und) (s4.getD 3 .und)) fun m5 =>
VL (vixS 1 (s4.getD 0 .und) m5) fun n5 =>
pld l5 none (fun o5 p5 =>
VL (vixS 1 (s4.getD 0 .und) g5) fun q5 =>
pst p5 1 (cellsV k5) (fun r5 s5 =>
VL (vixS 1 (s4.getD 0 .und) h5) fun t5 =>
pst s5 1 (cellsV o5) (fun u5 v5 =>
d1 [(s4.getD 4 .und)] [(s4.getD 0 .und), (s4.getD 1 .und), (s4.getD 2 .und)] v5) t5) q5) n5) j5) f5) [w4, b5]) a5) v4) g1) [x1] [x0, x2, x3] hi
theorem slices_siftDownOrdered_int64_f {x0 x1 x2 x3 : V} : Prt Try.prog 92 [x0, x1, x2, x3] (slices_siftDownOrdered_int64_F x0 x1 x2 x3) := pfun (fn := Try.f92) (m := [.s, .l [8] [0, 2, 3], .s, .s, .s, .j [0, 2, 3, 8, 9], .s, .s, .s, .s]) (c := 4 ≤ 76) rfl (fun h0 Rt => by kernel_rfl) (by decide)
def slices_nextPowerOfTwo_F (x0 : V) (hi : Hp) (Rt : Hp → V → Prop) : Prop :=
VL (lift1 (acvi .u64) x0) fun a1 =>
pcal Try.prog 80 69 hi (fun b1 c1 =>
VL (lift2 (abin .shl) (.int .u64 1) b1) fun d1 =>
Rt c1 d1) [a1]
theorem slices_nextPowerOfTwo_f {x0 : V} : Prt Try.prog 93 [x0] (slices_nextPowerOfTwo_F x0) := pfun (fn := Try.f93) (m := [.s, .s]) (c := 1 ≤ 7) rfl (fun h0 Rt => by kernel_rfl) (by decide)
def slices_xorshift_Next_F (x0 : V) (hi : Hp) (Rt : Hp → V → Prop) : Prop :=
VL (vfa 0 x0) fun a1 =>
pld hi none (fun b1 c1 =>
VL (vfa 0 x0) fun d1 =>
pld c1 none (fun e1 f1 =>
VL (lift2 (abin .shl) e1 (.int .u64 13)) fun g1 =>
VL (lift2 (abin .xor) b1 g1) fun h1 =>
VL (vfa 0 x0) fun i1 =>
pst f1 1 (cellsV h1) (fun j1 k1 =>
VL (vfa 0 x0) fun l1 =>
pld k1 none (fun m1 n1 =>
VL (vfa 0 x0) fun o1 =>
pld n1 none (fun p1 q1 =>
VL (lift2 (abin .shr) p1 (.int .u64 7)) fun r1 =>
VL (lift2 (abin .xor) m1 r1) fun s1 =>
VL (vfa 0 x0) fun t1 =>
pst q1 1 (cellsV s1) (fun u1 v1 =>
VL (vfa 0 x0) fun w1 =>
pld v1 none (fun y1 z1 =>
VL (vfa 0 x0) fun a2 =>
pld z1 none (fun b2 c2 =>
VL (lift2 (abin .shl) b2 (.int .u64 17)) fun d2 =>
VL (lift2 (abin .xor) y1 d2) fun e2 =>
VL (vfa 0 x0) fun f2 =>
pst c2 1 (cellsV e2) (fun g2 h2 =>
VL (vfa 0 x0) fun i2 =>
pld h2 none (fun j2 k2 =>
Rt k2 j2) i2) f2) a2) w1) t1) o1) l1) i1) d1) a1
theorem slices_xorshift_Next_f {x0 : V} : Prt Try.prog 94 [x0] (slices_xorshift_Next_F x0) := pfun (fn := Try.f94) (m := [.s, .s, .s, .s, .s]) (c := 1 ≤ 33) rfl (fun h0 Rt => by kernel_rfl) (by decide)
def slices_medianOrdered_int64_F (x0 x1 x2 x3 x4 : V) (hi : Hp) (Rt : Hp → V → Prop) : Prop :=
pcal Try.prog 98 80 hi (fun a1 b1 =>
VL (vext 0 a1) fun c1 =>
VL (vext 1 a1) fun d1 =>
pcal Try.prog 98 88 b1 (fun e1 f1 =>
VL (vext 0 e1) fun g1 =>
VL (vext 1 e1) fun h1 =>
pcal Try.prog 98 96 f1 (fun i1 j1 =>
VL (vext 0 i1) fun k1 =>
VL (vext 1 i1) fun l1 =>
Rt j1 l1) [x0, c1, g1, x4]) [x0, d1, x3, x4]) [x0, x1, x2, x4]
theorem slices_medianOrdered_int64_f {x0 x1 x2 x3 x4 : V} : Prt Try.prog 96 [x0, x1, x2, x3, x4] (slices_medianOrdered_int64_F x0 x1 x2 x3 x4) := pfun (fn := Try.f96) (m := [.s, .s, .s, .s, .s]) (c := 5 ≤ 36) rfl (fun h0 Rt => by kernel_rfl) (by decide)
def cmp_isNaN_int64_F (x0 : V) (hi : Hp) (Rt : Hp → V → Prop) : Prop :=
VL (lift2 (abin .neq) x0 x0) fun a1 =>
Rt hi a1
theorem cmp_isNaN_int64_f {x0 : V} : Prt Try.prog 97 [x0] (cmp_isNaN_int64_F x0) := pfun (fn := Try.f97) (m := [.s, .s]) (c := 1 ≤ 6) rfl (fun h0 Rt => by kernel_rfl) (by decide)
def slices_order2Ordered_int64_F (x0 x1 x2 x3 : V) (hi : Hp) (Rt : Hp → V → Prop) : Prop :=
VL (vixS 1 x0 x2) fun a1 =>
pld hi none (fun b1 c1 =>
VL (vixS 1 x0 x1) fun d1 =>
pld c1 none (fun e1 f1 =>
pcal Try.prog 87 82 f1 (fun g1 h1 =>
pcond (
VL (vfa 0 x3) fun i1 =>
pld h1 none (fun j1 k1 =>
VL (lift2 (abin .add) j1 (.int .i64 1)) fun l1 =>
VL (vfa 0 x3) fun m1 =>
pst k1 1 (cellsV l1) (fun n1 o1 =>
Rt o1 (.tup [x2, x1])) m1) i1) (
Rt h1 (.tup [x1, x2])) g1) [b1, e1]) d1) a1
theorem slices_order2Ordered_int64_f {x0 x1 x2 x3 : V} : Prt Try.prog 98 [x0, x1, x2, x3] (slices_order2Ordered_int64_F x0 x1 x2 x3) := pfun (fn := Try.f98) (m := [.s, .s, .s, .s, .s, .s]) (c := 4 ≤ 28) rfl (fun h0 Rt => by kernel_rfl) (by decide)
end
section
set_option maxHeartbeats 1000000
theorem callM_d {P : Program} {f : FuncId} {d : Nat} {h : Hp} {K : V → Hp → Prop} {bs : List Nat} {bx : List (Nat × TypeId × Nat)} {cells : List (List V)} {ws : List V} {Φ : V → List (List V) → Prop}
    (hs : PSpecM P f ws bx cells Φ) (hK : ∀ v cs, Φ v cs → K (vw v) (hputs2 h bs bx cs)) : CallM P f d h K bs bx cells ws := ⟨Φ, hs, .inl hK⟩
theorem pcn_q {P : Program} {f : FuncId} {d : Nat} {h : Hp} {K : V → Hp → Prop} {ws vs : List V} {Φ : TypeId → List V → Prop} (hs : PSpecB P f vs Φ) (hn : nrfs vs = true) (hK : ∀ e c, Φ e c → Rq (h d = .free) (K (.ptr d 0) (hput h d (.row e 1 c)))) : pcd P f d h K ws true vs :=
  .inr ⟨rfl, .inr (.inl ⟨hn, _, hs, hK⟩)⟩
def okB (l : List Int) : Prop := l.length ≤ 5000 ∧ ∀ a ∈ l, 0 ≤ a ∧ a ≤ 255
def srcC (x : Value) (l : List Int) (a h : Int) : List V := [.fz x l, .int .i64 a, .int .u64 h]
def okS (l : List Int) (a : Int) : Prop := okB l ∧ 0 ≤ a ∧ a ≤ 5000
theorem okS_0 {l : List Int} (h : okB l) : okS l 0 := ⟨h, by omega, by omega⟩
theorem and24 (A : BitVec IntKind.u64.bits) : ∃ q : Nat, q ≤ 16777215 ∧ IntKind.i64.wrap (IntKind.u64.wrap ((A &&& BitVec.ofInt IntKind.u64.bits 16777215).toNat : Int)) = (q : Int) := by
  refine ⟨(A &&& BitVec.ofInt IntKind.u64.bits 16777215).toNat, ?_, ?_⟩
  · rw [BitVec.toNat_and]
    exact Nat.le_trans Nat.and_le_right (by decide)
  · have h : (A &&& BitVec.ofInt IntKind.u64.bits 16777215).toNat ≤ 16777215 := by
      rw [BitVec.toNat_and]
      exact Nat.le_trans Nat.and_le_right (by decide)
    generalize (A &&& BitVec.ofInt IntKind.u64.bits 16777215).toNat = q at *
    simp [IntKind.wrap, IntKind.signed, IntKind.bits]
    omega
theorem map_u8 {l : List Int} {i : Nat} (h : i < l.length) : (l.map (V.int .u8)).getD i .und = .int .u8 (gi l i) := by simp [List.getD, gi, h]
theorem okB_gi {l : List Int} (h : okB l) {i : Nat} (hi : i < l.length) : 0 ≤ gi l i ∧ gi l i ≤ 255 := by
  apply h.2
  rw [gi, List.getD, List.getElem?_eq_getElem hi]; exact List.getElem_mem hi
theorem c_spec_l01Next {x : Value} {l : List Int} {a z n : Int} (hs : okS l a) (hn : n ≤ 2000000000) : PSpecM Try.prog 36 [.ptr 0 0, .int .i64 n] [(0, 67, 1)] [srcC x l a z] fun v c =>
    ∃ r a' h', v = .int .i64 r ∧ c = [srcC x l a' h'] ∧ okS l a' ∧ (0 ≤ r ∧ (r < n ∨ r = 0)) := by
  refine spec_l01Next_f.m rfl rfl ?_
  unfold srcC
  obtain ⟨hB, ha1, ha2⟩ := hs
  simp (disch := first | omega | (simp only [LN]; omega)) only [↓EC, EW, seval, ↓reduceIte, spec_l01Next_F]
  (refine Split.mk (fun h => ?_) (fun h => ?_) <;> (try simp only [SD] at h))
  · exact ⟨0, a, z, rfl, rfl, ⟨hB, ha1, ha2⟩, by omega, .inr rfl⟩
  · generalize IntKind.u64.wrap (IntKind.u64.wrap (z * 6364136223846793005) + 1442695040888963407) = hh
    obtain ⟨q, hq, e⟩ := and24 (BitVec.ofInt IntKind.u64.bits (hh.fdiv (2 ^ Nat.min 33 IntKind.u64.bits)))
    rw [e]
    have m0 : ∀ y : Int, 0 ≤ y → 0 ≤ y.tmod n ∧ (y.tmod n < n ∨ y.tmod n = 0) := fun y hy => ⟨Int.tmod_nonneg _ hy, .inl (Int.tmod_lt_of_pos _ (by omega))⟩
    (try simp (disch := first | omega | (simp only [LN]; omega)) only [↓EC, EW, seval, ↓reduceIte])
    (refine Split.mk (fun h => ?_) (fun h => ?_) <;> (try simp only [SD] at h))
    · have hB1 := hB.1
      have hlt : a.toNat < l.length := by omega
      have hg := okB_gi hB hlt
      (try simp (disch := first | omega | (simp only [LN]; omega)) only [↓EC, EW, seval, ↓reduceIte, map_u8 hlt])
      have := m0 (q + gi l a.toNat) (by omega)
      exact ⟨by simpa using hlt, _, a + 1, hh, rfl, rfl, ⟨hB, by omega, by omega⟩, this⟩
    · have := m0 q (by omega)
      exact ⟨_, a, hh, rfl, rfl, ⟨hB, ha1, ha2⟩, this⟩
theorem c_spec_l01Pick {x : Value} {l m : List Int} {a z : Int} (hs : okS l a) (h0 : 0 < m.length) (hn : m.length ≤ 1000) : PSpecM Try.prog 39 [.ptr 0 0, .sl m.length (vi .i64 m)] [(0, 67, 1)] [srcC x l a z] fun v c =>
    ∃ y a' z', y ∈ m ∧ v = .int .i64 y ∧ c = [srcC x l a' z'] ∧ okS l a' := by
  refine spec_l01Pick_f.m rfl rfl ?_
  have hnx := c_spec_l01Next (x := x) (z := z) hs (n := m.length) (by omega)
  unfold srcC at hnx ⊢
  simp (disch := first | omega | (simp only [LN]; omega)) only [↓EC, EW, seval, ↓reduceIte, spec_l01Pick_F]
  refine pcm [0] rfl ?_
  (try simp (disch := first | omega | (simp only [LN]; omega)) only [↓EC, EW, seval, ↓reduceIte])
  refine callM_d hnx ?_
  rintro v c ⟨r, a', z', rfl, rfl, hs', hr⟩
  (try simp (disch := first | omega | (simp only [LN]; omega)) only [↓EC, EW, seval, ↓reduceIte])
  refine ⟨gi m r.toNat, a', z', ?_, rfl, rfl, hs'⟩
  rw [gi, List.getD, List.getElem?_eq_getElem (by omega)]; exact List.getElem_mem _
theorem finB_src {x : Value} {l : List Int} {z : Int} : FINB [.fz x l] (hput hnil 75 (Slot.row 67 1 [.fz x l, .int .i64 0, .int .u64 z])) (fun e c => e = 67 ∧ ∃ z, c = [.fz x l, .int .i64 0, .int .u64 z]) (.ptr 75 0) := by
  simp only [FINB, hput, ↓reduceIte]
  refine ⟨?_, trivial, z, rfl⟩
  intro v hv
  simp only [List.mem_cons, List.not_mem_nil, or_false] at hv
  rcases hv with rfl | rfl | rfl
  · exact .inr ⟨x, l, rfl, by simp⟩
  · exact .inl ⟨by simp [clo], rfl⟩
  · exact .inl ⟨by simp [clo], rfl⟩
theorem c_spec_l01From {x : Value} {l : List Int} (hB : okB l) : PSpecB Try.prog 24 [.fz x l] fun e c => e = 67 ∧ ∃ z, c = srcC x l 0 z := by
  refine spec_l01From_f.b ?_
  unfold srcC
  simp (disch := first | omega | (simp only [LN]; omega)) only [↓EC, EW, seval, ↓reduceIte, spec_l01From_F]
  refine LP_of (σ := Nat × Int) 100000 [(75, 67, 1)] (fun s => [.int .i64 s.1]) (fun s => [[.fz x l, .int .i64 0, .int .u64 s.2]]) (fun s => s.1 ≤ l.length) (fun s => l.length - s.1) (0, IntKind.u64.wrap (8117 + IntKind.u64.wrap l.length)) (by simp [frameOk, names, lpz, sclp, scv, scvs, nrfs, nrf, FRB]) (Nat.zero_le _) ?_ ?_
  · simp (disch := first | omega | (simp only [LN]; omega)) only [↓EC, EW, seval, ↓reduceIte, ColV_def]
  · rintro ⟨i, z⟩ h1
    simp only at h1
    have hB1 := hB.1
    simp (disch := first | omega | (simp only [LN]; omega)) only [↓EC, EW, seval, ↓reduceIte, ColV_def, lheap_def]
    (refine Split.mk (fun h => ?_) (fun h => ?_) <;> (try simp only [SD] at h))
    · have hlt : i < l.length := by omega
      (try simp (disch := first | omega | (simp only [LN]; omega)) only [↓EC, EW, seval, ↓reduceIte, map_u8 hlt])
      (refine Split.mk (fun h => ?_) (fun h => ?_) <;> (try simp only [SD] at h))
      · (try simp (disch := first | omega | (simp only [LN]; omega)) only [↓EC, EW, seval, ↓reduceIte])
        exact ⟨by simpa using hlt, (i + 1, _), rfl, rfl, by simp only; omega, by simp only; omega⟩
      · exact finB_src
    · exact finB_src
end
section
structure Hide {α : Type} (a : α) : Type where mk ::
def blk {α : Type} (a : α) (u : Hide a) : α := a
structure blkP (a : Prop) (u : Hide a) : Prop where
  out : a
theorem blkP_iff {a : Prop} {u : Hide a} : blkP a u = a := propext ⟨fun h => h.out, fun h => ⟨h⟩⟩
theorem blk_eq {K : V → Hp → Prop} {u : Hide K} {v : V} {h : Hp} : blk K u v h = K v h := by simp only [blk]
theorem SplitB_t {A B : Prop} {u : Hide A} : Split true (blkP A u) B = A := by rw [Split_true, blkP_iff]
theorem SplitB_f {A B : Prop} {u : Hide B} : Split false A (blkP B u) = B := by rw [Split_false, blkP_iff]
theorem Split.mkB {b : Bool} {A B : Prop} {u : Hide A} {v : Hide B} (h1 : b = true → A) (h2 : b = false → B) : Split b (blkP A u) (blkP B v) := ⟨fun h => ⟨h1 h⟩, fun h => ⟨h2 h⟩⟩
section
variable {P : Program} {h : Hp} {f : FuncId} {d : Nat} {vs : List V} {K : V → Hp → Prop}
def pcalB (P : Program) (f : FuncId) (d : Nat) (h : Hp) (K : V → Hp → Prop) (vs : List V) : Prop := pcal P f d h K vs
def pcalpB (P : Program) (f : FuncId) (d : Nat) (h : Hp) (K : V → Hp → Prop) (vs : List V) : Prop := pcalp P f d h K vs
def pcalaB (P : Program) (f : FuncId) (d : Nat) (h : Hp) (K : V → Hp → Prop) (avs vs : List V) : Prop := pcala P f d h K avs vs
def pcondB (A B : Prop) (v : V) : Prop := pcond A B v
def pgkB (w : Bool) (h : Hp) (op : V → (V → Hp → Prop) → Prop) (k : V → V → Hp → Prop) (v : V) : Prop := pgk w h op k v
def JNx (F : (List V → Hp → Prop) → Prop) (G : List V → Hp → Prop) (u : Hide F) (v : Hide G) : Prop := F G
theorem pcal_B : pcal P f d h K vs = pcalB P f d h K vs := rfl
theorem pcalp_B : pcalp P f d h K vs = pcalpB P f d h K vs := rfl
theorem pcala_B {avs : List V} : pcala P f d h K avs vs = pcalaB P f d h K avs vs := rfl
theorem pcond_B {A B : Prop} {v : V} : pcond A B v = pcondB A B v := rfl
theorem pgk_B {w : Bool} {op : V → (V → Hp → Prop) → Prop} {k : V → V → Hp → Prop} {v : V} : pgk w h op k v = pgkB w h op k v := rfl
theorem JN_B {F : (List V → Hp → Prop) → Prop} {G : List V → Hp → Prop} : JN F G = JNx F G ⟨⟩ ⟨⟩ := rfl
theorem pcalB_eq : pcalB P f d h K vs = pcd P f d h (blk K ⟨⟩) (dvs h vs) true vs := pcal_def
theorem pcalpB_eq : pcalpB P f d h K vs = pcd P f d h (blk K ⟨⟩) (dvs h vs) false vs := pcalp_def
theorem pcalaB_eq {avs : List V} : pcalaB P f d h K avs vs = pcda P f d h (blk K ⟨⟩) (dvs h vs) vs avs := pcala_def
theorem pcondB_eq {A B : Prop} {b : Bool} : pcondB A B (.bool b) = Split b (blkP A ⟨⟩) (blkP B ⟨⟩) := by simp only [pcondB, pcond_sym, blkP_iff]
theorem pgkB_eq {w : Bool} {op : V → (V → Hp → Prop) → Prop} {k : V → V → Hp → Prop} {b : Bool} : pgkB w h op k (.bool b) =
    Split b (blkP (cond w (op (.bool true) (k (.bool true))) (k (.bool true) (.tup []) h)) ⟨⟩) (blkP (cond w (k (.bool false) (.tup []) h) (op (.bool false) (k (.bool false)))) ⟨⟩) := by simp only [pgkB, pgk_sym, blkP_iff]
theorem pgkB_skip {w : Bool} {op : V → (V → Hp → Prop) → Prop} {k : V → V → Hp → Prop} : pgkB w h op k (.tup []) = k (.tup []) (.tup []) h := by simp only [pgkB, pgk_skip]
theorem JNx_un {F : (List V → Hp → Prop) → Prop} {G : List V → Hp → Prop} {u : Hide F} {v : Hide G} (h : F G) : JNx F G u v := h
def LPx (vs ls : List Nat) (B : List V → List V → Hp → (List V → List V → Hp → Prop) → Prop) (u : Hide B) (wv lv : List V) (h : Hp) : Prop := LP vs ls B wv lv h
theorem LP_B {vs ls : List Nat} {B : List V → List V → Hp → (List V → List V → Hp → Prop) → Prop} {wv lv : List V} : LP vs ls B wv lv h = LPx vs ls B ⟨⟩ wv lv h := rfl
theorem LPx_ofE {σ : Type} (ss : List Nat) (c0 : Nat) (bx : List (Nat × TypeId × Nat)) (vals : σ → List V) (cells : σ → List (List V)) (J : σ → Prop) (μ : σ → Nat) (s0 : σ) {vs ls : List Nat}
    {B : List V → List V → Hp → (List V → List V → Hp → Prop) → Prop} {u : Hide B} {wv lv : List V} (hf : frameOk c0 (lpz ls lv) bx = true) (h0 : J s0)
    (he : ColV bx wv lv lv h fun v c => rts ss v = vals s0 ∧ c = cells s0)
    (hr : ∀ s, J s → B (mats (vals s) c0).1 lv (lheap c0 bx (vals s) (cells s)) fun wv' lv' h' => ColV bx wv' lv' lv h' fun v c => ∃ s', v = vals s' ∧ c = cells s' ∧ J s' ∧ μ s' < μ s) :
    LPx vs ls B u wv lv h := LP_ofE ss c0 bx vals cells J μ s0 hf h0 he hr
theorem LPx_of {σ : Type} (c0 : Nat) (bx : List (Nat × TypeId × Nat)) (vals : σ → List V) (cells : σ → List (List V)) (J : σ → Prop) (μ : σ → Nat) (s0 : σ) {vs ls : List Nat}
    {B : List V → List V → Hp → (List V → List V → Hp → Prop) → Prop} {u : Hide B} {wv lv : List V} (hf : frameOk c0 (lpz ls lv) bx = true) (h0 : J s0)
    (he : ColV bx wv lv lv h fun v c => v = vals s0 ∧ c = cells s0)
    (hr : ∀ s, J s → B (mats (vals s) c0).1 lv (lheap c0 bx (vals s) (cells s)) fun wv' lv' h' => ColV bx wv' lv' lv h' fun v c => ∃ s', v = vals s' ∧ c = cells s' ∧ J s' ∧ μ s' < μ s) :
    LPx vs ls B u wv lv h := LP_of c0 bx vals cells J μ s0 hf h0 he hr
end
set_option linter.defProp false in
def EBD := And.intro @pcalB_eq <| And.intro @pcalpB_eq <| And.intro @pcalaB_eq <| And.intro @pcondB_eq <| And.intro @pgkB_eq <| And.intro @pgkB_skip <| And.intro @blk_eq <| And.intro @SplitB_t @SplitB_f
set_option linter.defProp false in
def EBE := And.intro @bne_self_eq_false.{0} <| And.intro @beq_self_eq_true.{0} <| And.intro Bool.and_self <| And.intro Bool.not_true Bool.not_false
theorem bni {a : Prop} (h : blkP a ⟨⟩) : a := h.out
theorem bnk {a : Prop} {u : Hide a} (h : a) : blkP a u := ⟨h⟩
end
section
def okP (p : List Int) : Prop := p.length = 16 ∧ ∀ i, i < 16 → 0 ≤ gi p i ∧ gi p i ≤ 255
theorem okP.len {p : List Int} (h : okP p) : p.length = 16 := h.1
def vD (n : Int) (b w : List Int) : V := .agg (.int .i64 n :: vi .u8 (b ++ w))
def PmAt (p : List Int) (n : Int) (j : Nat) : Prop := ((j : Int) < n → gi p j < n ∧ ∀ k, k < j → gi p k ≠ gi p j) ∧ (n ≤ j → gi p j = 0)
def isPm (p : List Int) (n : Int) : Prop := (1 ≤ n ∧ n ≤ 16) ∧ ∀ j, j < 16 → PmAt p n j
noncomputable def isPmB (p : List Int) (n : Int) : Bool := by classical exact decide (isPm p n)
theorem isPmB_iff {p : List Int} {n : Int} : isPmB p n = true ↔ isPm p n := by simp [isPmB]
theorem isPmB_no {p : List Int} {n : Int} (h : ¬ isPm p n) : isPmB p n = false := by simp [isPmB, h]
theorem isPmB_yes {p : List Int} {n : Int} (h : isPm p n) : isPmB p n = true := isPmB_iff.2 h
theorem not_isPm {p : List Int} {n : Int} {i : Nat} (hi : i < 16) (h : ¬ PmAt p n i) : ¬ isPm p n := fun hp => h (hp.2 i hi)
def Met (p : List Int) (n : Int) (m : List Bool) (i : Nat) : Prop := i ≤ 16 ∧ m.length = 16 ∧ (∀ j, j < i → PmAt p n j) ∧ ∀ x : Nat, x < 16 → (gb m x = true ↔ ∃ j, j < i ∧ (j : Int) < n ∧ gi p j = x)
theorem Met.zero (p : List Int) (n : Int) : Met p n (List.replicate 16 false) 0 := by
  refine ⟨Nat.zero_le _, by simp, fun j hj => absurd hj (Nat.not_lt_zero j), fun x hx => ?_⟩
  rw [gb_rep]; simp
theorem Met.skip {p : List Int} {n : Int} {m : List Bool} {i : Nat} (h : Met p n m i) (hi : i < 16) (hn : n ≤ i) (h0 : gi p i = 0) : Met p n m (i + 1) := by
  obtain ⟨h1, h2, h3, h4⟩ := h
  refine ⟨by omega, h2, fun j hj => ?_, fun x hx => ?_⟩
  · by_cases e : j = i
    · subst e; exact ⟨fun h => absurd h (by omega), fun _ => h0⟩
    · exact h3 j (by omega)
  · rw [h4 x hx]
    exact ⟨fun ⟨j, a, b, c⟩ => ⟨j, by omega, b, c⟩, fun ⟨j, a, b, c⟩ => ⟨j, by omega, b, c⟩⟩
theorem Met.put {p : List Int} {n : Int} {m : List Bool} {i : Nat} (h : Met p n m i) (hi : i < 16) (hn : (i : Int) < n) (hn16 : n ≤ 16) (h0 : 0 ≤ gi p i) (h1 : gi p i < n) (hm : gb m (gi p i).toNat = false) : Met p n (m.set (gi p i).toNat true) (i + 1) := by
  obtain ⟨g1, g2, g3, g4⟩ := h
  have hx16 : (gi p i).toNat < 16 := by omega
  refine ⟨by omega, by simpa using g2, fun j hj => ?_, fun x hx => ?_⟩
  · by_cases e : j = i
    · subst e
      refine ⟨fun _ => ⟨h1, fun k hk he => ?_⟩, fun h => absurd h (by omega)⟩
      have := (g4 (gi p j).toNat hx16).2 ⟨k, hk, by omega, by omega⟩
      rw [hm] at this; cases this
    · exact g3 j (by omega)
  · rw [gb_set, g2]
    by_cases e : (gi p i).toNat = x
    · rw [if_pos ⟨e, hx⟩]
      exact ⟨fun _ => ⟨i, by omega, hn, by omega⟩, fun _ => rfl⟩
    · rw [if_neg (fun h => e h.1), g4 x hx]
      refine ⟨fun ⟨j, a, b, c⟩ => ⟨j, by omega, b, c⟩, fun ⟨j, a, b, c⟩ => ⟨j, ?_, b, c⟩⟩
      have : j ≠ i := fun hj => e (by subst hj; omega)
      omega
theorem Met.twice {p : List Int} {n : Int} {m : List Bool} {i : Nat} (h : Met p n m i) (hn : (i : Int) < n) (hn16 : n ≤ 16) (h0 : 0 ≤ gi p i) (h1 : gi p i < n) (hm : gb m (gi p i).toNat = true) : ¬ PmAt p n i := by
  obtain ⟨j, a, b, c⟩ := (h.2.2.2 (gi p i).toNat (by omega)).1 hm
  exact fun hp => (hp.1 hn).2 j a (by omega)
theorem c_impl_isSize {n : Int} : PSpec Try.prog 67 [.int .i64 n] fun v => v = .bool (decide (1 ≤ n ∧ n ≤ 16)) := by
  refine impl_isSize_f.f ?_
  simp (disch := first | omega | (simp only [LN]; omega)) only [↓EC, EW, seval, ↓reduceIte, impl_isSize_F]
  unfold Split
  simp only [V.bool.injEq]
  grind
theorem c_spec_l01In {n a b : Int} : PSpec Try.prog 30 [.int .i64 n, .int .i64 a, .int .i64 b] fun v => v = .bool (decide (a ≤ n ∧ n ≤ b)) := by
  refine spec_l01In_f.f ?_
  simp (disch := first | omega | (simp only [LN]; omega)) only [↓EC, EW, seval, ↓reduceIte, spec_l01In_F]
  unfold Split
  simp only [V.bool.injEq]
  grind
theorem c_impl_IsPermutation {p : List Int} {n : Int} (hp : okP p) : PSpec Try.prog 49 [.agg (vi .u8 p), .int .i64 n] fun v => v = .bool (isPmB p n) := by
  have hl := hp.len
  refine impl_IsPermutation_f.f ?_
  simp (disch := first | omega | (simp only [LN]; omega)) only [↓EC, EW, seval, ↓reduceIte, impl_IsPermutation_F]
  (refine pcd_v (c_impl_isSize) ?_; (try simp (disch := first | omega | (simp only [LN]; omega)) only [↓EC, EW, seval, ↓reduceIte]))
  (refine Split.mk (fun h => ?_) (fun h => ?_) <;> (try simp only [SD] at h))
  · rw [isPmB_no fun h => absurd h.1 (by omega)]
  · refine LP_of (σ := Nat × List Bool) 100000 [(69, 83, 1)] (fun s => [.int .i64 s.1]) (fun s => [vb s.2])
      (fun s => Met p n s.2 s.1) (fun s => 16 - s.1) (0, List.replicate 16 false) (by simp [frameOk, names, lpz, sclp, scv, scvs, nrfs, nrf, FRB]) (Met.zero p n) ?_ ?_
    · simp (disch := first | omega | (simp only [LN]; omega)) only [↓EC, EW, seval, ↓reduceIte, ColV_def]
    · rintro ⟨i, m⟩ hm
      have hm0 := hm
      obtain ⟨h1, h2, -, -⟩ := hm0
      simp only at h1 h2 hm
      simp (disch := first | omega | (simp only [LN]; omega)) only [↓EC, EW, seval, ↓reduceIte, ColV_def, lheap_def]
      (refine Split.mk (fun h => ?_) (fun h => ?_) <;> (try simp only [SD] at h))
      · have hb := hp.2 i (by omega)
        (try simp (disch := first | omega | (simp only [LN]; omega)) only [↓EC, EW, seval, ↓reduceIte])
        (refine Split.mk (fun h => ?_) (fun h => ?_) <;> (try simp only [SD] at h))
        · (refine Split.mk (fun h => ?_) (fun h => ?_) <;> (try simp only [SD] at h))
          · rw [isPmB_no (not_isPm (i := i) (by omega) fun hq => h (hq.2 (by omega)))]
          · (try simp (disch := first | omega | (simp only [LN]; omega)) only [↓EC, EW, seval, ↓reduceIte])
            exact ⟨(i + 1, m), rfl, rfl, hm.skip (by omega) (by omega) h, by simp only; omega⟩
        · (refine Split.mk (fun h => ?_) (fun h => ?_) <;> (try simp only [SD] at h))
          · rw [isPmB_no (not_isPm (i := i) (by omega) fun hq => absurd (hq.1 (by omega)).1 (by omega))]
          · (try simp (disch := first | omega | (simp only [LN]; omega)) only [↓EC, EW, seval, ↓reduceIte])
            (refine Split.mk (fun h => ?_) (fun h => ?_) <;> (try simp only [SD] at h))
            · rw [isPmB_no (not_isPm (i := i) (by omega) (hm.twice (by omega) (by omega) hb.1 (by omega) h))]
            · (try simp (disch := first | omega | (simp only [LN]; omega)) only [↓EC, EW, seval, ↓reduceIte])
              exact ⟨(i + 1, m.set (gi p i).toNat true), rfl, rfl, hm.put (by omega) (by omega) (by omega) hb.1 (by omega) h, by simp only; omega⟩
      · (try simp (disch := first | omega | (simp only [LN]; omega)) only [↓EC, EW, seval, ↓reduceIte])
        rw [isPmB_yes ⟨by omega, fun j hj => hm.2.2.1 j (by omega)⟩]
theorem c_spec_l01Perm {p : List Int} {n : Int} (hp : okP p) : PSpec Try.prog 53 [.agg (vi .u8 p), .int .i64 n] fun v => v = .bool (isPmB p n) := by
  have hl := hp.len
  refine spec_l01Perm_f.f ?_
  simp (disch := first | omega | (simp only [LN]; omega)) only [↓EC, EW, seval, ↓reduceIte, spec_l01Perm_F]
  (refine pcd_v (c_spec_l01In) ?_; (try simp (disch := first | omega | (simp only [LN]; omega)) only [↓EC, EW, seval, ↓reduceIte]))
  (refine Split.mk (fun h => ?_) (fun h => ?_) <;> (try simp only [SD] at h))
  · rw [isPmB_no fun h => absurd h.1 (by omega)]
  · refine LP_of (σ := Nat × List Bool) 100000 [(66, 25, 1), (69, 83, 1)] (fun s => [.int .i64 s.1]) (fun s => [vi .u8 p, vb s.2])
      (fun s => Met p n s.2 s.1) (fun s => 16 - s.1) (0, List.replicate 16 false) (by simp [frameOk, names, lpz, sclp, scv, scvs, nrfs, nrf, FRB]) (Met.zero p n) ?_ ?_
    · simp (disch := first | omega | (simp only [LN]; omega)) only [↓EC, EW, seval, ↓reduceIte, ColV_def]
    · rintro ⟨i, m⟩ hm
      have hm0 := hm
      obtain ⟨h1, h2, -, -⟩ := hm0
      simp only at h1 h2 hm
      simp (disch := first | omega | (simp only [LN]; omega)) only [↓EC, EW, seval, ↓reduceIte, ColV_def, lheap_def]
      (refine Split.mk (fun h => ?_) (fun h => ?_) <;> (try simp only [SD] at h))
      · have hb := hp.2 i (by omega)
        (try simp (disch := first | omega | (simp only [LN]; omega)) only [↓EC, EW, seval, ↓reduceIte])
        (refine Split.mk (fun h => ?_) (fun h => ?_) <;> (try simp only [SD] at h))
        · (try simp (disch := first | omega | (simp only [LN]; omega)) only [↓EC, EW, seval, ↓reduceIte])
          (refine Split.mk (fun h => ?_) (fun h => ?_) <;> (try simp only [SD] at h))
          · rw [isPmB_no (not_isPm (i := i) (by omega) fun hq => h (hq.2 (by omega)))]
          · (try simp (disch := first | omega | (simp only [LN]; omega)) only [↓EC, EW, seval, ↓reduceIte])
            exact ⟨(i + 1, m), rfl, rfl, hm.skip (by omega) (by omega) h, by simp only; omega⟩
        · (try simp (disch := first | omega | (simp only [LN]; omega)) only [↓EC, EW, seval, ↓reduceIte])
          (refine Split.mk (fun h => ?_) (fun h => ?_) <;> (try simp only [SD] at h))
          · rw [isPmB_no (not_isPm (i := i) (by omega) fun hq => absurd (hq.1 (by omega)).1 (by omega))]
          · (try simp (disch := first | omega | (simp only [LN]; omega)) only [↓EC, EW, seval, ↓reduceIte])
            (refine Split.mk (fun h => ?_) (fun h => ?_) <;> (try simp only [SD] at h))
            · rw [isPmB_no (not_isPm (i := i) (by omega) (hm.twice (by omega) (by omega) hb.1 (by omega) h))]
            · (try simp (disch := first | omega | (simp only [LN]; omega)) only [↓EC, EW, seval, ↓reduceIte])
              exact ⟨(i + 1, m.set (gi p i).toNat true), rfl, rfl, hm.put (by omega) (by omega) (by omega) hb.1 (by omega) h, by simp only; omega⟩
      · (try simp (disch := first | omega | (simp only [LN]; omega)) only [↓EC, EW, seval, ↓reduceIte])
        rw [isPmB_yes ⟨by omega, fun j hj => hm.2.2.1 j (by omega)⟩]
abbrev Sr := List Int × List Bool
def visit (y : Int) (s : Sr) : Sr := if gb s.2 y.toNat = true then s else (s.1 ++ [y], s.2.set y.toNat true)
def srStep (p q : List Int) (i : Nat) (s : Sr) : Sr := visit (gi q (gi s.1 i).toNat) (visit (gi p (gi s.1 i).toNat) s)
def srRun (p q : List Int) : Nat → Nat → Sr → Sr
  | 0, _, s => s
  | k + 1, i, s => if i < s.1.length then srRun p q k (i + 1) (srStep p q i s) else s
def sr0 : Sr := ([0], (List.replicate 16 false).set 0 true)
def cntR (p q : List Int) : Nat := (srRun p q 17 0 sr0).1.length
def lo16 (p : List Int) : Prop := p.length = 16 ∧ ∀ i, i < 16 → 0 ≤ gi p i ∧ gi p i < 16
theorem isPm.lo {p : List Int} {n : Int} (hp : okP p) (h : isPm p n) : lo16 p := ⟨hp.1, fun i hi => by
  obtain ⟨h1, h2⟩ := h
  have h3 := h2 i hi
  have := (hp.2 i hi).1
  by_cases h4 : (i : Int) < n
  · have := (h3.1 h4).1; omega
  · have := h3.2 (by omega); omega⟩
structure SrOk (s : Sr) : Prop where
  len : s.2.length = 16
  cnt : s.1.length = s.2.count true
  lo : ∀ j, j < s.1.length → 0 ≤ gi s.1 j ∧ gi s.1 j < 16
theorem SrOk.le {s : Sr} (h : SrOk s) : s.1.length ≤ 16 := by
  rw [h.cnt, ← h.len]; exact List.count_le_length
theorem sr0_ok : SrOk sr0 := ⟨rfl, rfl, fun j hj => by
  have : j = 0 := by simp [sr0] at hj; exact hj
  subst this; decide⟩
theorem visit_ok {s : Sr} (h : SrOk s) {y : Int} (hy : 0 ≤ y ∧ y < 16) : SrOk (visit y s) := by
  unfold visit
  split
  · exact h
  · rename_i hv
    have hl : y.toNat < s.2.length := by rw [h.len]; omega
    refine ⟨by simp [h.len], ?_, fun j hj => ?_⟩
    · have hg : s.2[y.toNat] = false := by
        have := gb_of hl
        rw [← this]; simpa using hv
      simp only [List.length_append, List.length_cons, List.length_nil]
      rw [List.count_set hl, hg, h.cnt]
      simp
    · simp only [List.length_append, List.length_cons, List.length_nil] at hj
      simp only [gi_app]
      split
      · exact h.lo j (by assumption)
      · have : j - s.1.length = 0 := by omega
        rw [this]; exact hy
theorem visit_len {s : Sr} {y : Int} : s.1.length ≤ (visit y s).1.length := by
  unfold visit; split <;> simp
theorem srStep_ok {p q : List Int} (hp : lo16 p) (hq : lo16 q) {s : Sr} (h : SrOk s) {i : Nat} (hi : i < s.1.length) : SrOk (srStep p q i s) := by
  have h0 := h.lo i hi
  exact visit_ok (visit_ok h (hp.2 _ (by omega))) (hq.2 _ (by omega))
theorem srStep_len {p q : List Int} {s : Sr} {i : Nat} : s.1.length ≤ (srStep p q i s).1.length := Nat.le_trans visit_len visit_len
theorem visit_yes {s : Sr} {y : Int} (h : gb s.2 y.toNat = true) : visit y s = s := if_pos h
theorem visit_no {s : Sr} {y : Int} (h : gb s.2 y.toNat = false) : visit y s = (s.1 ++ [y], s.2.set y.toNat true) := if_neg (by simp [h])
theorem c_impl_reached {n : Int} {p q : List Int} (hp : lo16 p) (hq : lo16 q) : PSpec Try.prog 50 [.int .i64 n, .sl 2 (vi .u8 (p ++ q))] fun v => v = .int .i64 (cntR p q) := by
  have hl := hp.1
  have hk := hq.1
  refine impl_reached_f.f ?_
  simp (disch := first | omega | (simp only [LN]; omega)) only [↓EC, EW, seval, ↓reduceIte, impl_reached_F]
  refine LP_of (σ := Sr × Nat) 100000 [(69, 83, 1)] (fun s => [.own 5 1 s.1.1.length (vi .u8 s.1.1), .int .i64 s.2]) (fun s => [vb s.1.2])
    (fun s => SrOk s.1 ∧ s.2 ≤ s.1.1.length ∧ srRun p q (17 - s.2) s.2 s.1 = srRun p q 17 0 sr0) (fun s => 17 - s.2) (sr0, 0) (by simp [frameOk, names, lpz, sclp, scv, scvs, nrfs, nrf, FRB]) ⟨sr0_ok, Nat.zero_le _, rfl⟩ ?_ ?_
  · simp (disch := first | omega | (simp only [LN]; omega)) only [↓EC, EW, seval, ↓reduceIte, ColV_def]
    exact ⟨rfl, rfl⟩
  · rintro ⟨⟨l, m⟩, i⟩ ⟨h1, h2, h3⟩
    simp only at h1 h2 h3
    have hm := h1.len
    have hle := h1.le
    simp only at hm hle
    simp (disch := first | omega | (simp only [LN]; omega)) only [↓EC, EW, seval, ↓reduceIte, ColV_def, lheap_def]
    (refine Split.mk (fun h => ?_) (fun h => ?_) <;> (try simp only [SD] at h))
    · have hi : i < l.length := by omega
      have hlo := h1.lo i hi
      simp only at hlo
      have hy1 := hp.2 (gi l i).toNat (by omega)
      have hy2 := hq.2 (gi l i).toNat (by omega)
      have hg : ∀ y, gi (visit y (l, m)).1 i = gi l i := fun y => by
        unfold visit; split
        · rfl
        · simp only [gi_app, if_pos hi]
      refine LP_of (σ := Sr × Nat) 200000 [(69, 83, 1)] (fun s => [.own 5 1 s.1.1.length (vi .u8 s.1.1), .int .i64 s.2]) (fun s => [vb s.1.2])
        (fun s => s.2 ≤ 2 ∧ s.1 = if s.2 = 0 then (l, m) else if s.2 = 1 then visit (gi p (gi l i).toNat) (l, m) else srStep p q i (l, m)) (fun s => 2 - s.2) ((l, m), 0) (by simp [frameOk, names, lpz, sclp, scv, scvs, nrfs, nrf, FRB]) ⟨Nat.zero_le 2, rfl⟩ ?_ ?_
      · simp (disch := first | omega | (simp only [LN]; omega)) only [↓EC, EW, seval, ↓reduceIte, ColV_def]
      · rintro ⟨s, j⟩ ⟨g1, g2⟩
        simp only at g1 g2
        have hs : SrOk s := by
          rw [g2]; split
          · exact h1
          · split
            · exact visit_ok h1 hy1
            · exact srStep_ok hp hq h1 hi
        have hsm := hs.len
        have hsl := hs.le
        have hgs : gi s.1 i = gi l i ∧ i < s.1.length := by
          rw [g2]; split
          · exact ⟨rfl, hi⟩
          · split
            · exact ⟨hg _, Nat.lt_of_lt_of_le hi (visit_len (s := (l, m)))⟩
            · exact ⟨by unfold srStep; rw [visit]; split; exact hg _; simp only [gi_app]; rw [if_pos (Nat.lt_of_lt_of_le hi (visit_len (s := (l, m))))]; exact hg _, Nat.lt_of_lt_of_le hi (srStep_len (s := (l, m)))⟩
        obtain ⟨hgs, hil⟩ := hgs
        simp (disch := first | omega | (simp only [LN]; omega)) only [↓EC, EW, seval, ↓reduceIte, ColV_def, lheap_def]
        (refine Split.mk (fun h => ?_) (fun h => ?_) <;> (try simp only [SD] at h))
        · have hj : j = 0 ∨ j = 1 := by omega
          rcases hj with rfl | rfl
          · (try simp (disch := first | omega | (simp only [LN]; omega)) only [↓EC, EW, seval, ↓reduceIte, hgs, hl, hk])
            rw [if_pos rfl] at g2
            (refine Split.mk (fun h => ?_) (fun h => ?_) <;> (try simp only [SD] at h))
            · exact ⟨(visit (gi p (gi l i).toNat) s, 1), by rw [visit_no h]; simp, by rw [visit_no h], ⟨by simp, by rw [g2]; rfl⟩, by simp⟩
            · exact ⟨(visit (gi p (gi l i).toNat) s, 1), by rw [visit_yes h]; simp, by rw [visit_yes h], ⟨by simp, by rw [g2]; rfl⟩, by simp⟩
          · (try simp (disch := first | omega | (simp only [LN]; omega)) only [↓EC, EW, seval, ↓reduceIte, hgs, hl, hk])
            rw [if_neg (by decide), if_pos rfl] at g2
            (refine Split.mk (fun h => ?_) (fun h => ?_) <;> (try simp only [SD] at h))
            · exact ⟨(visit (gi q (gi l i).toNat) s, 2), by rw [visit_no h]; simp, by rw [visit_no h], ⟨by simp, by rw [g2]; rfl⟩, by simp⟩
            · exact ⟨(visit (gi q (gi l i).toNat) s, 2), by rw [visit_yes h]; simp, by rw [visit_yes h], ⟨by simp, by rw [g2]; rfl⟩, by simp⟩
        · (try simp (disch := first | omega | (simp only [LN]; omega)) only [↓EC, EW, seval, ↓reduceIte])
          rw [if_neg (by omega), if_neg (by omega)] at g2
          refine ⟨(s, i + 1), rfl, rfl, ⟨hs, hil, ?_⟩, by simp only; omega⟩
          rw [show 17 - i = 16 - i + 1 from by omega] at h3
          simp only [srRun, if_pos hi] at h3
          try simp only
          rw [g2, show 17 - (i + 1) = 16 - i from by omega]
          exact h3
    · (try simp (disch := first | omega | (simp only [LN]; omega)) only [↓EC, EW, seval, ↓reduceIte])
      unfold cntR
      rw [← h3, show 17 - i = 16 - i + 1 from by omega]
      simp only [srRun]
      rw [if_neg (by omega)]
theorem c_spec_l01Connected {n : Int} {p q : List Int} (hp : lo16 p) (hq : lo16 q) : PSpec Try.prog 54 [.int .i64 n, .agg (vi .u8 p), .agg (vi .u8 q)] fun v => v = .bool (decide ((cntR p q : Int) = n)) := by
  have hl := hp.1
  have hk := hq.1
  refine spec_l01Connected_f.f ?_
  simp (disch := first | omega | (simp only [LN]; omega)) only [↓EC, EW, seval, ↓reduceIte, spec_l01Connected_F]
  refine LP_of (σ := Sr × Nat) 100000 [(68, 25, 1), (69, 25, 1), (71, 83, 1)] (fun s => [.own 5 1 s.1.1.length (vi .u8 s.1.1), .int .i64 s.2]) (fun s => [vi .u8 p, vi .u8 q, vb s.1.2])
    (fun s => SrOk s.1 ∧ s.2 ≤ s.1.1.length ∧ srRun p q (17 - s.2) s.2 s.1 = srRun p q 17 0 sr0) (fun s => 17 - s.2) (sr0, 0) (by simp [frameOk, names, lpz, sclp, scv, scvs, nrfs, nrf, FRB]) ⟨sr0_ok, Nat.zero_le _, rfl⟩ ?_ ?_
  · simp (disch := first | omega | (simp only [LN]; omega)) only [↓EC, EW, seval, ↓reduceIte, ColV_def]
    exact ⟨rfl, rfl⟩
  · rintro ⟨⟨l, m⟩, i⟩ ⟨h1, h2, h3⟩
    simp only at h1 h2 h3
    have hm := h1.len
    have hle := h1.le
    simp only at hm hle
    simp (disch := first | omega | (simp only [LN]; omega)) only [↓EC, EW, seval, ↓reduceIte, ColV_def, lheap_def]
    (refine Split.mk (fun h => ?_) (fun h => ?_) <;> (try simp only [SD] at h))
    · have hi : i < l.length := by omega
      have hlo := h1.lo i hi
      simp only at hlo
      have hy1 := hp.2 (gi l i).toNat (by omega)
      have hy2 := hq.2 (gi l i).toNat (by omega)
      (try simp (disch := first | omega | (simp only [LN]; omega)) only [↓EC, EW, seval, ↓reduceIte])
      refine LP_of (σ := Sr × Nat) 200000 [(68, 25, 1), (69, 25, 1), (71, 83, 1), (97, 5, 1)] (fun s => [.own 5 1 s.1.1.length (vi .u8 s.1.1), .int .i64 s.2])
        (fun s => [vi .u8 p, vi .u8 q, vb s.1.2, vi .u8 [gi p (gi l i).toNat, gi q (gi l i).toNat]])
        (fun s => s.2 ≤ 2 ∧ s.1 = if s.2 = 0 then (l, m) else if s.2 = 1 then visit (gi p (gi l i).toNat) (l, m) else srStep p q i (l, m)) (fun s => 2 - s.2) ((l, m), 0) (by simp [frameOk, names, lpz, sclp, scv, scvs, nrfs, nrf, FRB]) ⟨Nat.zero_le 2, rfl⟩ ?_ ?_
      · simp (disch := first | omega | (simp only [LN]; omega)) only [↓EC, EW, seval, ↓reduceIte, ColV_def]
        rfl
      · rintro ⟨s, j⟩ ⟨g1, g2⟩
        simp only at g1 g2
        have hs : SrOk s := by
          rw [g2]; split
          · exact h1
          · split
            · exact visit_ok h1 hy1
            · exact srStep_ok hp hq h1 hi
        have hil : i < s.1.length := by
          rw [g2]; split
          · exact hi
          · split
            · exact Nat.lt_of_lt_of_le hi (visit_len (s := (l, m)))
            · exact Nat.lt_of_lt_of_le hi (srStep_len (s := (l, m)))
        have hsm := hs.len
        have hsl := hs.le
        simp (disch := first | omega | (simp only [LN]; omega)) only [↓EC, EW, seval, ↓reduceIte, ColV_def, lheap_def]
        (refine Split.mk (fun h => ?_) (fun h => ?_) <;> (try simp only [SD] at h))
        · have hj : j = 0 ∨ j = 1 := by omega
          rcases hj with rfl | rfl
          · (try simp (disch := first | omega | (simp only [LN]; omega)) only [↓EC, EW, seval, ↓reduceIte, hl, hk])
            rw [if_pos rfl] at g2
            (refine Split.mk (fun h => ?_) (fun h => ?_) <;> (try simp only [SD] at h))
            · exact ⟨(visit (gi p (gi l i).toNat) s, 1), by rw [visit_no h]; simp, by rw [visit_no h], ⟨by simp, by rw [g2]; rfl⟩, by simp⟩
            · exact ⟨(visit (gi p (gi l i).toNat) s, 1), by rw [visit_yes h]; simp, by rw [visit_yes h], ⟨by simp, by rw [g2]; rfl⟩, by simp⟩
          · (try simp (disch := first | omega | (simp only [LN]; omega)) only [↓EC, EW, seval, ↓reduceIte, hl, hk])
            rw [if_neg (by decide), if_pos rfl] at g2
            (refine Split.mk (fun h => ?_) (fun h => ?_) <;> (try simp only [SD] at h))
            · exact ⟨(visit (gi q (gi l i).toNat) s, 2), by rw [visit_no h]; simp, by rw [visit_no h], ⟨by simp, by rw [g2]; rfl⟩, by simp⟩
            · exact ⟨(visit (gi q (gi l i).toNat) s, 2), by rw [visit_yes h]; simp, by rw [visit_yes h], ⟨by simp, by rw [g2]; rfl⟩, by simp⟩
        · (try simp (disch := first | omega | (simp only [LN]; omega)) only [↓EC, EW, seval, ↓reduceIte])
          rw [if_neg (by omega), if_neg (by omega)] at g2
          refine ⟨(s, i + 1), rfl, rfl, ⟨hs, hil, ?_⟩, by simp only; omega⟩
          rw [show 17 - i = 16 - i + 1 from by omega] at h3
          simp only [srRun, if_pos hi] at h3
          try simp only
          rw [g2, show 17 - (i + 1) = 16 - i from by omega]
          exact h3
    · (try simp (disch := first | omega | (simp only [LN]; omega)) only [↓EC, EW, seval, ↓reduceIte])
      have : cntR p q = l.length := by
        unfold cntR
        rw [← h3, show 17 - i = 16 - i + 1 from by omega]
        simp only [srRun]
        rw [if_neg (by omega)]
      rw [this, V.bool.injEq]
      grind
noncomputable def isDB (n : Int) (b w : List Int) : Bool := isPmB b n && isPmB w n && decide ((cntR b w : Int) = n)
structure isD (n : Int) (b w : List Int) : Prop where
  pb : isPm b n
  pw : isPm w n
  cn : (cntR b w : Int) = n
theorem isDB_iff {n : Int} {b w : List Int} : isDB n b w = true ↔ isD n b w := by
  simp only [isDB, Bool.and_eq_true, isPmB_iff, decide_eq_true_eq]
  exact ⟨fun ⟨⟨h1, h2⟩, h3⟩ => ⟨h1, h2, h3⟩, fun ⟨h1, h2, h3⟩ => ⟨⟨h1, h2⟩, h3⟩⟩
theorem c_impl_IsDessin {n : Int} {b w : List Int} (hb : okP b) (hw : okP w) : PSpec Try.prog 27 [vD n b w] fun v => v = .bool (isDB n b w) := by
  have hl := hb.len
  have hk := hw.len
  refine impl_IsDessin_f.f ?_
  unfold vD isDB
  simp (disch := first | omega | (simp only [LN]; omega)) only [↓EC, EW, seval, ↓reduceIte, impl_IsDessin_F, hl, hk]
  refine pcd_v (c_impl_IsPermutation hb) ?_
  (try simp (disch := first | omega | (simp only [LN]; omega)) only [↓EC, EW, seval, ↓reduceIte, hl, hk])
  (refine Split.mk (fun h => ?_) (fun h => ?_) <;> (try simp only [SD] at h))
  · refine pcd_v (c_impl_IsPermutation hw) ?_
    (try simp (disch := first | omega | (simp only [LN]; omega)) only [↓EC, EW, seval, ↓reduceIte, hl, hk])
    (refine Split.mk (fun h => ?_) (fun h => ?_) <;> (try simp only [SD] at h))
    · refine pcd_v (c_impl_reached ((isPmB_iff.1 (by assumption)).lo hb) ((isPmB_iff.1 (by assumption)).lo hw)) ?_
      (try simp (disch := first | omega | (simp only [LN]; omega)) only [↓EC, EW, seval, ↓reduceIte])
      simp_all
      try grind
    · simp_all
  · simp_all
theorem c_spec_l01Is {n : Int} {b w : List Int} (hb : okP b) (hw : okP w) : PSpec Try.prog 29 [vD n b w] fun v => v = .bool (isDB n b w) := by
  have hl := hb.len
  have hk := hw.len
  refine spec_l01Is_f.f ?_
  unfold vD isDB
  simp (disch := first | omega | (simp only [LN]; omega)) only [↓EC, EW, seval, ↓reduceIte, spec_l01Is_F, hl, hk]
  refine pcd_v (c_spec_l01Perm hb) ?_
  (try simp (disch := first | omega | (simp only [LN]; omega)) only [↓EC, EW, seval, ↓reduceIte, hl, hk])
  (refine Split.mk (fun h => ?_) (fun h => ?_) <;> (try simp only [SD] at h))
  · refine pcd_v (c_spec_l01Perm hw) ?_
    (try simp (disch := first | omega | (simp only [LN]; omega)) only [↓EC, EW, seval, ↓reduceIte, hl, hk])
    (refine Split.mk (fun h => ?_) (fun h => ?_) <;> (try simp only [SD] at h))
    · refine pcd_v (c_spec_l01Connected ((isPmB_iff.1 (by assumption)).lo hb) ((isPmB_iff.1 (by assumption)).lo hw)) ?_
      (try simp (disch := first | omega | (simp only [LN]; omega)) only [↓EC, EW, seval, ↓reduceIte])
      simp_all
      try grind
    · simp_all
  · simp_all
end
section
def putL (f : Nat → Nat × Int) : Nat → List Int
  | 0 => List.replicate 16 0
  | i + 1 => (putL f i).set (f i).1 (f i).2
theorem putL_len (f : Nat → Nat × Int) : ∀ i, (putL f i).length = 16
  | 0 => by simp [putL]
  | i + 1 => by simp [putL, putL_len f i]
def sameF (i : Nat) : Nat × Int := (i, i)
def thenF (p q : List Int) (i : Nat) : Nat × Int := (i, gi q (gi p i).toNat)
def backF (p : List Int) (i : Nat) : Nat × Int := ((gi p i).toNat, i)
theorem c_spec_l01Same {n : Int}  (hn : 1 ≤ n ∧ n ≤ 16) : PSpec Try.prog 48 [.int .i64 n] fun v => v = .agg (vi .u8 (putL (sameF) n.toNat)) := by
  refine spec_l01Same_f.f ?_
  simp (disch := first | omega | (simp only [LN]; omega)) only [↓EC, EW, seval, ↓reduceIte, spec_l01Same_F]
  refine LP_of (σ := Nat) 100000 [(66, 25, 1), (67, 25, 1)] (fun s => [.int .i64 s]) (fun s => [vi .u8 (List.replicate 16 0), vi .u8 (putL (sameF) s)])
    (fun s => (s : Int) ≤ n) (fun s => (n - s).toNat) 0 (by simp [frameOk, names, lpz, sclp, scv, scvs, nrfs, nrf, FRB]) (by simp only [Int.natCast_zero]; omega) ?_ ?_
  · simp (disch := first | omega | (simp only [LN]; omega)) only [↓EC, EW, seval, ↓reduceIte, ColV_def]
    rfl
  · rintro i h1
    have hlf := putL_len (sameF) i
    simp (disch := first | omega | (simp only [LN]; omega)) only [↓EC, EW, seval, ↓reduceIte, ColV_def, lheap_def]
    (refine Split.mk (fun h => ?_) (fun h => ?_) <;> (try simp only [SD] at h))
    · skip
      (try simp (disch := first | omega | (simp only [LN]; omega)) only [↓EC, EW, seval, ↓reduceIte])
      exact ⟨i + 1, rfl, rfl, by omega, by omega⟩
    · (try simp (disch := first | omega | (simp only [LN]; omega)) only [↓EC, EW, seval, ↓reduceIte])
      rw [show i = n.toNat from by omega]
theorem c_impl_then {p q : List Int} {n : Int} (hp : lo16 p) (hq : lo16 q) (hn : 1 ≤ n ∧ n ≤ 16) : PSpec Try.prog 52 [.agg (vi .u8 p), .agg (vi .u8 q), .int .i64 n] fun v => v = .agg (vi .u8 (putL (thenF p q) n.toNat)) := by
  refine impl_then_f.f ?_
  simp (disch := first | omega | (simp only [LN]; omega)) only [↓EC, EW, seval, ↓reduceIte, impl_then_F]
  refine LP_of (σ := Nat) 100000 [(67, 25, 1), (68, 25, 1), (70, 25, 1), (71, 25, 1)] (fun s => [.int .i64 s]) (fun s => [vi .u8 p, vi .u8 q, vi .u8 (List.replicate 16 0), vi .u8 (putL (thenF p q) s)])
    (fun s => (s : Int) ≤ n) (fun s => (n - s).toNat) 0 (by simp [frameOk, names, lpz, sclp, scv, scvs, nrfs, nrf, FRB]) (by simp only [Int.natCast_zero]; omega) ?_ ?_
  · simp (disch := first | omega | (simp only [LN]; omega)) only [↓EC, EW, seval, ↓reduceIte, ColV_def]
    rfl
  · rintro i h1
    have hlf := putL_len (thenF p q) i
    simp (disch := first | omega | (simp only [LN]; omega)) only [↓EC, EW, seval, ↓reduceIte, ColV_def, lheap_def]
    (refine Split.mk (fun h => ?_) (fun h => ?_) <;> (try simp only [SD] at h))
    · have a1 := hp.2 i (by omega)
      have a2 := hp.1
      have a3 := hq.1
      have a4 := hq.2 (gi p i).toNat (by omega)
      (try simp (disch := first | omega | (simp only [LN]; omega)) only [↓EC, EW, seval, ↓reduceIte])
      exact ⟨i + 1, rfl, rfl, by omega, by omega⟩
    · (try simp (disch := first | omega | (simp only [LN]; omega)) only [↓EC, EW, seval, ↓reduceIte])
      rw [show i = n.toNat from by omega]
theorem c_spec_l01Then {p q : List Int} {n : Int} (hp : lo16 p) (hq : lo16 q) (hn : 1 ≤ n ∧ n ≤ 16) : PSpec Try.prog 56 [.agg (vi .u8 p), .agg (vi .u8 q), .int .i64 n] fun v => v = .agg (vi .u8 (putL (thenF p q) n.toNat)) := by
  refine spec_l01Then_f.f ?_
  simp (disch := first | omega | (simp only [LN]; omega)) only [↓EC, EW, seval, ↓reduceIte, spec_l01Then_F]
  refine LP_of (σ := Nat) 100000 [(67, 25, 1), (68, 25, 1), (70, 25, 1), (71, 25, 1)] (fun s => [.int .i64 s]) (fun s => [vi .u8 p, vi .u8 q, vi .u8 (List.replicate 16 0), vi .u8 (putL (thenF p q) s)])
    (fun s => (s : Int) ≤ n) (fun s => (n - s).toNat) 0 (by simp [frameOk, names, lpz, sclp, scv, scvs, nrfs, nrf, FRB]) (by simp only [Int.natCast_zero]; omega) ?_ ?_
  · simp (disch := first | omega | (simp only [LN]; omega)) only [↓EC, EW, seval, ↓reduceIte, ColV_def]
    rfl
  · rintro i h1
    have hlf := putL_len (thenF p q) i
    simp (disch := first | omega | (simp only [LN]; omega)) only [↓EC, EW, seval, ↓reduceIte, ColV_def, lheap_def]
    (refine Split.mk (fun h => ?_) (fun h => ?_) <;> (try simp only [SD] at h))
    · have a1 := hp.2 i (by omega)
      have a2 := hp.1
      have a3 := hq.1
      have a4 := hq.2 (gi p i).toNat (by omega)
      (try simp (disch := first | omega | (simp only [LN]; omega)) only [↓EC, EW, seval, ↓reduceIte])
      exact ⟨i + 1, rfl, rfl, by omega, by omega⟩
    · (try simp (disch := first | omega | (simp only [LN]; omega)) only [↓EC, EW, seval, ↓reduceIte])
      rw [show i = n.toNat from by omega]
theorem c_impl_back {p : List Int} {n : Int} (hp : lo16 p) (hn : 1 ≤ n ∧ n ≤ 16) : PSpec Try.prog 51 [.agg (vi .u8 p), .int .i64 n] fun v => v = .agg (vi .u8 (putL (backF p) n.toNat)) := by
  refine impl_back_f.f ?_
  simp (disch := first | omega | (simp only [LN]; omega)) only [↓EC, EW, seval, ↓reduceIte, impl_back_F]
  refine LP_of (σ := Nat) 100000 [(66, 25, 1), (68, 25, 1), (69, 25, 1)] (fun s => [.int .i64 s]) (fun s => [vi .u8 p, vi .u8 (List.replicate 16 0), vi .u8 (putL (backF p) s)])
    (fun s => (s : Int) ≤ n) (fun s => (n - s).toNat) 0 (by simp [frameOk, names, lpz, sclp, scv, scvs, nrfs, nrf, FRB]) (by simp only [Int.natCast_zero]; omega) ?_ ?_
  · simp (disch := first | omega | (simp only [LN]; omega)) only [↓EC, EW, seval, ↓reduceIte, ColV_def]
    rfl
  · rintro i h1
    have hlf := putL_len (backF p) i
    simp (disch := first | omega | (simp only [LN]; omega)) only [↓EC, EW, seval, ↓reduceIte, ColV_def, lheap_def]
    (refine Split.mk (fun h => ?_) (fun h => ?_) <;> (try simp only [SD] at h))
    · have a1 := hp.2 i (by omega)
      have a2 := hp.1
      (try simp (disch := first | omega | (simp only [LN]; omega)) only [↓EC, EW, seval, ↓reduceIte])
      exact ⟨i + 1, rfl, rfl, by omega, by omega⟩
    · (try simp (disch := first | omega | (simp only [LN]; omega)) only [↓EC, EW, seval, ↓reduceIte])
      rw [show i = n.toNat from by omega]
theorem c_spec_l01Back {p : List Int} {n : Int} (hp : lo16 p) (hn : 1 ≤ n ∧ n ≤ 16) : PSpec Try.prog 55 [.agg (vi .u8 p), .int .i64 n] fun v => v = .agg (vi .u8 (putL (backF p) n.toNat)) := by
  refine spec_l01Back_f.f ?_
  simp (disch := first | omega | (simp only [LN]; omega)) only [↓EC, EW, seval, ↓reduceIte, spec_l01Back_F]
  refine LP_of (σ := Nat) 100000 [(66, 25, 1), (68, 25, 1), (69, 25, 1)] (fun s => [.int .i64 s]) (fun s => [vi .u8 p, vi .u8 (List.replicate 16 0), vi .u8 (putL (backF p) s)])
    (fun s => (s : Int) ≤ n) (fun s => (n - s).toNat) 0 (by simp [frameOk, names, lpz, sclp, scv, scvs, nrfs, nrf, FRB]) (by simp only [Int.natCast_zero]; omega) ?_ ?_
  · simp (disch := first | omega | (simp only [LN]; omega)) only [↓EC, EW, seval, ↓reduceIte, ColV_def]
    rfl
  · rintro i h1
    have hlf := putL_len (backF p) i
    simp (disch := first | omega | (simp only [LN]; omega)) only [↓EC, EW, seval, ↓reduceIte, ColV_def, lheap_def]
    (refine Split.mk (fun h => ?_) (fun h => ?_) <;> (try simp only [SD] at h))
    · have a1 := hp.2 i (by omega)
      have a2 := hp.1
      (try simp (disch := first | omega | (simp only [LN]; omega)) only [↓EC, EW, seval, ↓reduceIte])
      exact ⟨i + 1, rfl, rfl, by omega, by omega⟩
    · (try simp (disch := first | omega | (simp only [LN]; omega)) only [↓EC, EW, seval, ↓reduceIte])
      rw [show i = n.toNat from by omega]
theorem putL_lo {f : Nat → Nat × Int} : ∀ (k : Nat), (∀ i, i < k → 0 ≤ (f i).2 ∧ (f i).2 < 16) → lo16 (putL f k)
  | 0, _ => ⟨by simp [putL], fun i hi => by simp only [putL]; rw [gi_rep]; split <;> omega⟩
  | k + 1, h => by
    have ih := putL_lo (f := f) k fun i hi => h i (by omega)
    refine ⟨by simp [putL, putL_len], fun i hi => ?_⟩
    simp only [putL]
    rw [gi_set]
    split
    · exact h k (by omega)
    · exact ih.2 i hi
def thenP (p q : List Int) (n : Int) : List Int := putL (thenF p q) n.toNat
def backP (p : List Int) (n : Int) : List Int := putL (backF p) n.toNat
def sameP (n : Int) : List Int := putL sameF n.toNat
def faceP (b w : List Int) (n : Int) : List Int := backP (thenP b w n) n
theorem thenP_lo {p q : List Int} {n : Int} (hp : lo16 p) (hq : lo16 q) (hn : 1 ≤ n ∧ n ≤ 16) : lo16 (thenP p q n) := putL_lo _ fun i hi => by
  have := hp.2 i (by omega)
  exact hq.2 _ (by omega)
theorem backP_lo {p : List Int} {n : Int} (hn : 1 ≤ n ∧ n ≤ 16) : lo16 (backP p n) := putL_lo _ fun i hi => by simp only [backF]; omega
theorem sameP_lo {n : Int} (hn : 1 ≤ n ∧ n ≤ 16) : lo16 (sameP n) := putL_lo _ fun i hi => by simp only [sameF]; omega
theorem c_impl_face {b w : List Int} {n : Int} (hb : lo16 b) (hw : lo16 w) (hn : 1 ≤ n ∧ n ≤ 16) : PSpec Try.prog 28 [vD n b w] fun v => v = .agg (vi .u8 (faceP b w n)) := by
  have hl := hb.1
  have hk := hw.1
  refine impl_face_f.f ?_
  unfold vD
  simp (disch := first | omega | (simp only [LN]; omega)) only [↓EC, EW, seval, ↓reduceIte, impl_face_F, hl, hk]
  have hy := putL_len (thenF b w) n.toNat
  refine pcd_v (c_impl_then hb hw hn) ?_
  (try simp (disch := first | omega | (simp only [LN]; omega)) only [↓EC, EW, seval, ↓reduceIte, hl, hk, hy])
  refine pcd_v (c_impl_back (thenP_lo hb hw hn) hn) ?_
  have hx := putL_len (backF (putL (thenF b w) n.toNat)) n.toNat
  (try simp (disch := first | omega | (simp only [LN]; omega)) only [↓EC, EW, seval, ↓reduceIte, hl, hk, hx])
  rfl
theorem c_spec_l01Face {b w : List Int} {n : Int} (hb : lo16 b) (hw : lo16 w) (hn : 1 ≤ n ∧ n ≤ 16) : PSpec Try.prog 31 [vD n b w] fun v => v = .agg (vi .u8 (faceP b w n)) := by
  have hl := hb.1
  have hk := hw.1
  refine spec_l01Face_f.f ?_
  unfold vD
  simp (disch := first | omega | (simp only [LN]; omega)) only [↓EC, EW, seval, ↓reduceIte, spec_l01Face_F, hl, hk]
  have hy := putL_len (thenF b w) n.toNat
  refine pcd_v (c_spec_l01Then hb hw hn) ?_
  (try simp (disch := first | omega | (simp only [LN]; omega)) only [↓EC, EW, seval, ↓reduceIte, hl, hk, hy])
  refine pcd_v (c_spec_l01Back (thenP_lo hb hw hn) hn) ?_
  have hx := putL_len (backF (putL (thenF b w) n.toNat)) n.toNat
  (try simp (disch := first | omega | (simp only [LN]; omega)) only [↓EC, EW, seval, ↓reduceIte, hl, hk, hx])
  rfl
end
section
set_option maxHeartbeats 4000000
theorem lo16_set {p : List Int} (h : lo16 p) {i : Nat} {y : Int} (hy : 0 ≤ y ∧ y < 16) : lo16 (p.set i y) := ⟨by simp [h.1], fun j hj => by
  rw [gi_set]; split
  · exact hy
  · exact h.2 j hj⟩
theorem lo16_okP {p : List Int} (h : lo16 p) : okP p := ⟨h.1, fun i hi => by have := h.2 i hi; omega⟩
theorem lo16_zero : lo16 (List.replicate 16 0) := ⟨by simp, fun i hi => by rw [gi_rep]; split <;> omega⟩
theorem c_spec_l01DrawPlaces {x : Value} {l : List Int} {a z n : Int} (hn : 1 ≤ n ∧ n ≤ 16) (hs : okS l a) : PSpecM Try.prog 38 [.ptr 0 0, .int .i64 n] [(0, 67, 1)] [srcC x l a z] fun v c =>
    ∃ p a' z', v = .agg (vi .u8 p) ∧ c = [srcC x l a' z'] ∧ okS l a' ∧ lo16 p := by
  refine spec_l01DrawPlaces_f.m rfl rfl ?_
  unfold srcC
  dsimp only [spec_l01DrawPlaces_F, pcal_B, pcalp_B, pcala_B, pcond_B, pgk_B, JN_B, LP_B]
  (refine bni ?_; repeat (refine bnk ?_; (try simp (disch := first | omega | (simp only [LN]; omega)) only [↓EC, EW, seval, ↓reduceIte, ↓EBD, EBE])))
  refine pcd_v (c_spec_l01Same hn) ?_
  have hl0 := sameP_lo hn
  have hlf := putL_len sameF n.toNat
  (refine bni ?_; repeat (refine bnk ?_; (try simp (disch := first | omega | (simp only [LN]; omega)) only [↓EC, EW, seval, ↓reduceIte, ↓EBD, EBE])))
  (refine pcm [0] rfl ?_; (refine bni ?_; repeat (refine bnk ?_; (try simp (disch := first | omega | (simp only [LN]; omega)) only [↓EC, EW, seval, ↓reduceIte, ↓EBD, EBE]))); refine callM_d (c_spec_l01Next (by assumption) (by omega)) ?_; rintro _ _ ⟨r1, _, _, rfl, rfl, hs_, hr_⟩; (refine bni ?_; repeat (refine bnk ?_; (try simp (disch := first | omega | (simp only [LN]; omega)) only [↓EC, EW, seval, ↓reduceIte, ↓EBD, EBE, srcC]))))
  rename_i a1 z1
  (refine Split.mkB (fun h => ?_) (fun h => ?_) <;> (try simp only [SD] at h))
  · (refine bni ?_; repeat (refine bnk ?_; (try simp (disch := first | omega | (simp only [LN]; omega)) only [↓EC, EW, seval, ↓reduceIte, ↓EBD, EBE])))
    exact ⟨_, _, _, rfl, rfl, by assumption, hl0⟩
  · (refine bni ?_; repeat (refine bnk ?_; (try simp (disch := first | omega | (simp only [LN]; omega)) only [↓EC, EW, seval, ↓reduceIte, ↓EBD, EBE])))
    refine LPx_of (σ := List Int × Int × Int × Int) 100000 [(0, 67, 1), (68, 25, 1), (69, 25, 1)] (fun s => [.int .i64 s.2.1]) (fun s => [srcC x l s.2.2.1 s.2.2.2, vi .u8 (List.replicate 16 0), vi .u8 s.1])
      (fun s => okS l s.2.2.1 ∧ lo16 s.1 ∧ s.2.1 < 16) (fun s => s.2.1.toNat) (putL sameF n.toNat, n - 1, a1, z1) (by simp [frameOk, names, lpz, sclp, scv, scvs, nrfs, nrf, FRB]) ⟨by assumption, hl0, by simp only; omega⟩ ?_ ?_
    · (refine bni ?_; repeat (refine bnk ?_; simp (disch := first | omega | (simp only [LN]; omega)) only [↓EC, EW, seval, ↓reduceIte, ↓EBD, EBE, ColV_def, srcC]))
    · rintro ⟨p, i, a, z⟩ ⟨h1, h2, h3⟩
      simp only at h1 h2 h3
      have hpl := h2.1
      (refine bni ?_; repeat (refine bnk ?_; simp (disch := first | omega | (simp only [LN]; omega)) only [↓EC, EW, seval, ↓reduceIte, ↓EBD, EBE, ColV_def, lheap_def, srcC]))
      (refine Split.mkB (fun h => ?_) (fun h => ?_) <;> (try simp only [SD] at h))
      · (refine bni ?_; repeat (refine bnk ?_; (try simp (disch := first | omega | (simp only [LN]; omega)) only [↓EC, EW, seval, ↓reduceIte, ↓EBD, EBE])))
        (refine pcm [0] rfl ?_; (refine bni ?_; repeat (refine bnk ?_; (try simp (disch := first | omega | (simp only [LN]; omega)) only [↓EC, EW, seval, ↓reduceIte, ↓EBD, EBE]))); refine callM_d (c_spec_l01Next (by assumption) (by omega)) ?_; rintro _ _ ⟨r2, _, _, rfl, rfl, hs_, hr_⟩; (refine bni ?_; repeat (refine bnk ?_; (try simp (disch := first | omega | (simp only [LN]; omega)) only [↓EC, EW, seval, ↓reduceIte, ↓EBD, EBE, srcC]))))
        rename_i a2 z2
        have b1 := h2.2 i.toNat (by omega)
        have b2 := h2.2 r2.toNat (by omega)
        (refine bni ?_; repeat (refine bnk ?_; (try simp (disch := first | omega | (simp only [LN]; omega)) only [↓EC, EW, seval, ↓reduceIte, ↓EBD, EBE])))
        exact ⟨(_, i - 1, a2, z2), rfl, rfl, ⟨by assumption, lo16_set (lo16_set h2 b2) b1, by simp only; omega⟩, by simp only; omega⟩
      · (refine bni ?_; repeat (refine bnk ?_; (try simp (disch := first | omega | (simp only [LN]; omega)) only [↓EC, EW, seval, ↓reduceIte, ↓EBD, EBE])))
        exact ⟨p, a, z, rfl, rfl, h1, h2⟩
theorem c_spec_l01Pairs {x : Value} {l : List Int} {a z n m : Int} (hn : 1 ≤ n ∧ n ≤ 16) (hm : m ≤ 1000) (hs : okS l a) : PSpecM Try.prog 66 [.ptr 0 0, .int .i64 n, .int .i64 m] [(0, 67, 1)] [srcC x l a z] fun v c =>
    ∃ p a' z', v = .agg (vi .u8 p) ∧ c = [srcC x l a' z'] ∧ okS l a' ∧ lo16 p := by
  refine spec_l01Pairs_f.m rfl rfl ?_
  unfold srcC
  dsimp only [spec_l01Pairs_F, pcal_B, pcalp_B, pcala_B, pcond_B, pgk_B, JN_B, LP_B]
  (refine bni ?_; repeat (refine bnk ?_; (try simp (disch := first | omega | (simp only [LN]; omega)) only [↓EC, EW, seval, ↓reduceIte, ↓EBD, EBE])))
  (refine pcm [0] rfl ?_; (refine bni ?_; repeat (refine bnk ?_; (try simp (disch := first | omega | (simp only [LN]; omega)) only [↓EC, EW, seval, ↓reduceIte, ↓EBD, EBE]))); refine callM_d (c_spec_l01DrawPlaces hn (by assumption)) ?_; rintro _ _ ⟨o, a1, z1, rfl, rfl, hs_, ho⟩; (refine bni ?_; repeat (refine bnk ?_; (try simp (disch := first | omega | (simp only [LN]; omega)) only [↓EC, EW, seval, ↓reduceIte, ↓EBD, EBE, srcC]))))
  refine pcd_v (c_spec_l01Same hn) ?_
  have hl0 := sameP_lo hn
  have hlf := putL_len sameF n.toNat
  have hol := ho.1
  (refine bni ?_; repeat (refine bnk ?_; (try simp (disch := first | omega | (simp only [LN]; omega)) only [↓EC, EW, seval, ↓reduceIte, ↓EBD, EBE])))
  refine LPx_of (σ := List Int × Int × Int × Int) 100000 [(0, 67, 1), (70, 25, 1), (71, 25, 1), (72, 25, 1)] (fun s => [.int .i64 s.2.1]) (fun s => [srcC x l s.2.2.1 s.2.2.2, vi .u8 (List.replicate 16 0), vi .u8 o, vi .u8 s.1])
    (fun s => okS l s.2.2.1 ∧ lo16 s.1 ∧ 0 ≤ s.2.1 ∧ s.2.1 ≤ n) (fun s => (n - s.2.1).toNat) (putL sameF n.toNat, 0, a1, z1) (by simp [frameOk, names, lpz, sclp, scv, scvs, nrfs, nrf, FRB]) ⟨by assumption, hl0, by simp only; omega⟩ ?_ ?_
  · (refine bni ?_; repeat (refine bnk ?_; simp (disch := first | omega | (simp only [LN]; omega)) only [↓EC, EW, seval, ↓reduceIte, ↓EBD, EBE, ColV_def, srcC]))
  · rintro ⟨p, t, a, z⟩ ⟨h1, h2, h3, h4⟩
    simp only at h1 h2 h3 h4
    have hpl := h2.1
    (refine bni ?_; repeat (refine bnk ?_; simp (disch := first | omega | (simp only [LN]; omega)) only [↓EC, EW, seval, ↓reduceIte, ↓EBD, EBE, ColV_def, lheap_def, srcC]))
    (refine Split.mkB (fun h => ?_) (fun h => ?_) <;> (try simp only [SD] at h))
    · (refine bni ?_; repeat (refine bnk ?_; (try simp (disch := first | omega | (simp only [LN]; omega)) only [↓EC, EW, seval, ↓reduceIte, ↓EBD, EBE])))
      (refine pcm [0] rfl ?_; (refine bni ?_; repeat (refine bnk ?_; (try simp (disch := first | omega | (simp only [LN]; omega)) only [↓EC, EW, seval, ↓reduceIte, ↓EBD, EBE]))); refine callM_d (c_spec_l01Next (by assumption) (by omega)) ?_; rintro _ _ ⟨r2, _, _, rfl, rfl, hs_, hr_⟩; (refine bni ?_; repeat (refine bnk ?_; (try simp (disch := first | omega | (simp only [LN]; omega)) only [↓EC, EW, seval, ↓reduceIte, ↓EBD, EBE, srcC]))))
      rename_i a2 z2
      (refine bni ?_; repeat (refine bnk ?_; (try simp (disch := first | omega | (simp only [LN]; omega)) only [↓EC, EW, seval, ↓reduceIte, ↓EBD, EBE])))
      generalize hmn : (if n - t < 1 + r2 then n - t else 1 + r2) = k at *
      have hk : 1 ≤ k ∧ k ≤ n - t := by rw [← hmn]; split <;> omega
      refine LPx_of (σ := List Int × Int) 200000 [(0, 67, 1), (70, 25, 1), (71, 25, 1), (72, 25, 1)] (fun s => [.int .i64 s.2]) (fun s => [srcC x l a2 z2, vi .u8 (List.replicate 16 0), vi .u8 o, vi .u8 s.1])
        (fun s => lo16 s.1 ∧ 0 ≤ s.2 ∧ s.2 ≤ k) (fun s => (k - s.2).toNat) (p, 0) (by simp [frameOk, names, lpz, sclp, scv, scvs, nrfs, nrf, FRB]) ⟨h2, by simp only; omega⟩ ?_ ?_
      · (refine bni ?_; repeat (refine bnk ?_; simp (disch := first | omega | (simp only [LN]; omega)) only [↓EC, EW, seval, ↓reduceIte, ↓EBD, EBE, ColV_def, srcC]))
      · rintro ⟨p, i⟩ ⟨h5, h6, h7⟩
        simp only at h5 h6 h7
        have hpl := h5.1
        (refine bni ?_; repeat (refine bnk ?_; simp (disch := first | omega | (simp only [LN]; omega)) only [↓EC, EW, seval, ↓reduceIte, ↓EBD, EBE, ColV_def, lheap_def, srcC]))
        (refine Split.mkB (fun h => ?_) (fun h => ?_) <;> (try simp only [SD] at h))
        · have hr : 0 ≤ (i + 1).tmod k ∧ (i + 1).tmod k < k := ⟨Int.tmod_nonneg _ (by omega), Int.tmod_lt_of_pos _ (by omega)⟩
          generalize hq : (i + 1).tmod k = q at *
          have b1 := ho.2 (t + i).toNat (by omega)
          have b2 := ho.2 (t + q).toNat (by omega)
          (refine bni ?_; repeat (refine bnk ?_; (try simp (disch := first | omega | (simp only [LN]; omega)) only [↓EC, EW, seval, ↓reduceIte, ↓EBD, EBE, hq])))
          exact ⟨(_, i + 1), rfl, rfl, ⟨lo16_set h5 b2, by simp only; omega⟩, by simp only; omega⟩
        · (refine bni ?_; repeat (refine bnk ?_; (try simp (disch := first | omega | (simp only [LN]; omega)) only [↓EC, EW, seval, ↓reduceIte, ↓EBD, EBE])))
          exact ⟨(p, t + k, a2, z2), rfl, rfl, ⟨by assumption, h5, by simp only; omega⟩, by simp only; omega⟩
    · (refine bni ?_; repeat (refine bnk ?_; (try simp (disch := first | omega | (simp only [LN]; omega)) only [↓EC, EW, seval, ↓reduceIte, ↓EBD, EBE])))
      exact ⟨p, a, z, rfl, rfl, h1, h2⟩
theorem c_spec_l01Turn {n : Int} (hn : 1 ≤ n ∧ n ≤ 16) : PSpec Try.prog 74 [.int .i64 n] fun v => ∃ p, v = .agg (vi .u8 p) ∧ lo16 p := by
  refine spec_l01Turn_f.f ?_
  simp (disch := first | omega | (simp only [LN]; omega)) only [↓EC, EW, seval, ↓reduceIte, spec_l01Turn_F]
  refine LP_of (σ := List Int × Nat) 100000 [(66, 25, 1), (67, 25, 1)] (fun s => [.int .i64 s.2]) (fun s => [vi .u8 (List.replicate 16 0), vi .u8 s.1])
    (fun s => lo16 s.1 ∧ (s.2 : Int) ≤ n) (fun s => (n - s.2).toNat) (List.replicate 16 0, 0) (by simp [frameOk, names, lpz, sclp, scv, scvs, nrfs, nrf, FRB]) ⟨lo16_zero, by simp only [Int.natCast_zero]; omega⟩ ?_ ?_
  · simp (disch := first | omega | (simp only [LN]; omega)) only [↓EC, EW, seval, ↓reduceIte, ColV_def]
    trace_state
  · rintro ⟨p, i⟩ ⟨h1, h2⟩
    simp only at h1 h2
    have hpl := h1.1
    simp (disch := first | omega | (simp only [LN]; omega)) only [↓EC, EW, seval, ↓reduceIte, ColV_def, lheap_def]
    (refine Split.mk (fun h => ?_) (fun h => ?_) <;> (try simp only [SD] at h))
    · have hr : 0 ≤ ((i : Int) + 1).tmod n ∧ ((i : Int) + 1).tmod n < n := ⟨Int.tmod_nonneg _ (by omega), Int.tmod_lt_of_pos _ (by omega)⟩
      generalize hq : ((i : Int) + 1).tmod n = q at *
      (try simp (disch := first | omega | (simp only [LN]; omega)) only [↓EC, EW, seval, ↓reduceIte, hq])
      exact ⟨(_, i + 1), rfl, rfl, ⟨lo16_set h1 (by omega), by simp only; omega⟩, by simp only; omega⟩
    · (try simp (disch := first | omega | (simp only [LN]; omega)) only [↓EC, EW, seval, ↓reduceIte])
      exact ⟨p, rfl, h1⟩
theorem c_spec_l01Star {n : Int} (hn : 1 ≤ n ∧ n ≤ 16) : PSpec Try.prog 64 [.int .i64 n] fun v => ∃ p q, v = vD n p q ∧ lo16 p ∧ lo16 q := by
  refine spec_l01Star_f.f ?_
  simp (disch := first | omega | (simp only [LN]; omega)) only [↓EC, EW, seval, ↓reduceIte, spec_l01Star_F]
  refine pcd_r (c_spec_l01Turn hn) ?_
  rintro v ⟨p, rfl, hp⟩
  have hpl := hp.1
  (try simp (disch := first | omega | (simp only [LN]; omega)) only [↓EC, EW, seval, ↓reduceIte])
  (refine pcd_v (c_spec_l01Same hn) ?_; (try simp (disch := first | omega | (simp only [LN]; omega)) only [↓EC, EW, seval, ↓reduceIte]))
  have hq := sameP_lo hn
  have hlf := putL_len sameF n.toNat
  (try simp (disch := first | omega | (simp only [LN]; omega)) only [↓EC, EW, seval, ↓reduceIte])
  exact ⟨p, putL sameF n.toNat, rfl, hp, hq⟩
def okL (L : List Int) : Prop := L.length = 32 ∧ ∀ i, i < 32 → 0 ≤ gi L i ∧ gi L i ≤ 255
theorem okL_of {p q : List Int} (hp : okP p) (hq : okP q) : okL (p ++ q) := ⟨by simp [hp.1, hq.1], fun i hi => by
  have := hp.1
  rw [gi_app]; split
  · exact hp.2 i (by omega)
  · exact hq.2 _ (by omega)⟩
theorem okL_set {L : List Int} (h : okL L) {i : Nat} {y : Int} (hy : 0 ≤ y ∧ y ≤ 255) : okL (L.set i y) := ⟨by simp [h.1], fun j hj => by
  rw [gi_set]; split
  · exact hy
  · exact h.2 j hj⟩
theorem okL_vD {n : Int} {L : List Int} (h : okL L) : ∃ b w, V.agg (.int .i64 n :: vi .u8 L) = vD n b w ∧ okP b ∧ okP w := by
  have h1 := h.1
  refine ⟨L.take 16, L.drop 16, by unfold vD; rw [List.take_append_drop], ⟨by simp [h1], fun i hi => ?_⟩, ⟨by simp [h1], fun i hi => ?_⟩⟩
  · have e : gi (L.take 16) i = gi L i := by simp only [gi, List.getD, List.getElem?_take, if_pos hi]
    rw [e]; exact h.2 i (by omega)
  · have e : gi (L.drop 16) i = gi L (16 + i) := by simp only [gi, List.getD, List.getElem?_drop]
    rw [e]; exact h.2 _ (by omega)
theorem okL_tk {L : List Int} (h : okL L) : okP (L.take 16) := ⟨by simp [h.1], fun i hi => by
  have e : gi (L.take 16) i = gi L i := by simp only [gi, List.getD, List.getElem?_take, if_pos hi]
  rw [e]; exact h.2 i (by omega)⟩
theorem c_spec_l01Draw {x : Value} {l : List Int} {a z m : Int} (hm : 1 ≤ m ∧ m ≤ 16) (hs : okS l a) : PSpecM Try.prog 47 [.ptr 0 0, .int .i64 m] [(0, 67, 1)] [srcC x l a z] fun v c =>
    ∃ n p q a' z', v = vD n p q ∧ c = [srcC x l a' z'] ∧ okS l a' ∧ lo16 p ∧ lo16 q ∧ 1 ≤ n ∧ n ≤ m := by
  refine spec_l01Draw_f.m rfl rfl ?_
  unfold srcC
  dsimp only [spec_l01Draw_F, pcal_B, pcalp_B, pcala_B, pcond_B, pgk_B, JN_B, LP_B]
  (refine bni ?_; repeat (refine bnk ?_; (try simp (disch := first | omega | (simp only [LN]; omega)) only [↓EC, EW, seval, ↓reduceIte, ↓EBD, EBE])))
  (refine pcm [0] rfl ?_; (refine bni ?_; repeat (refine bnk ?_; (try simp (disch := first | omega | (simp only [LN]; omega)) only [↓EC, EW, seval, ↓reduceIte, ↓EBD, EBE]))); refine callM_d (c_spec_l01Next (by assumption) (by omega)) ?_; rintro _ _ ⟨r1, _, _, rfl, rfl, hs_, hr_⟩; (refine bni ?_; repeat (refine bnk ?_; (try simp (disch := first | omega | (simp only [LN]; omega)) only [↓EC, EW, seval, ↓reduceIte, ↓EBD, EBE, srcC]))))
  rename_i a1 z1
  have hn : 1 ≤ 1 + r1 ∧ 1 + r1 ≤ 16 := by omega
  have hnm : 1 + r1 ≤ m := by omega
  generalize 1 + r1 = n at *
  refine LPx_of (σ := Int × Int × Int) 100000 [(0, 67, 1), (68, 27, 1)] (fun s => [.int .i64 s.1]) (fun s => [srcC x l s.2.1 s.2.2, .int .i64 0 :: vi .u8 (List.replicate 32 0)])
    (fun s => okS l s.2.1 ∧ 0 ≤ s.1 ∧ s.1 ≤ 8) (fun s => (8 - s.1).toNat) (0, a1, z1) (by simp [frameOk, names, lpz, sclp, scv, scvs, nrfs, nrf, FRB]) ⟨by assumption, by simp only; omega⟩ ?_ ?_
  · (refine bni ?_; repeat (refine bnk ?_; simp (disch := first | omega | (simp only [LN]; omega)) only [↓EC, EW, seval, ↓reduceIte, ↓EBD, EBE, ColV_def, srcC]))
  · rintro ⟨k, a, z⟩ ⟨h1, h2, h3⟩
    simp only at h1 h2 h3
    (refine bni ?_; repeat (refine bnk ?_; simp (disch := first | omega | (simp only [LN]; omega)) only [↓EC, EW, seval, ↓reduceIte, ↓EBD, EBE, ColV_def, lheap_def, srcC]))
    (refine Split.mkB (fun h => ?_) (fun h => ?_) <;> (try simp only [SD] at h))
    · (refine bni ?_; repeat (refine bnk ?_; (try simp (disch := first | omega | (simp only [LN]; omega)) only [↓EC, EW, seval, ↓reduceIte, ↓EBD, EBE])))
      (refine pcm [0] rfl ?_; (refine bni ?_; repeat (refine bnk ?_; (try simp (disch := first | omega | (simp only [LN]; omega)) only [↓EC, EW, seval, ↓reduceIte, ↓EBD, EBE]))); refine callM_d (c_spec_l01Pick (m := [2, 3, 4, n]) (by assumption) (by simp) (by simp)) ?_; rintro _ _ ⟨y1, _, _, hy_, rfl, rfl, hs_⟩; simp only [List.mem_cons, List.not_mem_nil, or_false] at hy_; (refine bni ?_; repeat (refine bnk ?_; (try simp (disch := first | omega | (simp only [LN]; omega)) only [↓EC, EW, seval, ↓reduceIte, ↓EBD, EBE, srcC]))))
      (refine pcm [0] rfl ?_; (refine bni ?_; repeat (refine bnk ?_; (try simp (disch := first | omega | (simp only [LN]; omega)) only [↓EC, EW, seval, ↓reduceIte, ↓EBD, EBE]))); refine callM_d (c_spec_l01Pairs (n := n) (m := y1) (by omega) (by omega) (by assumption)) ?_; rintro _ _ ⟨p, a2, z2, rfl, rfl, hs_, hp⟩; (refine bni ?_; repeat (refine bnk ?_; (try simp (disch := first | omega | (simp only [LN]; omega)) only [↓EC, EW, seval, ↓reduceIte, ↓EBD, EBE, srcC]))))
      (refine pcm [0] rfl ?_; (refine bni ?_; repeat (refine bnk ?_; (try simp (disch := first | omega | (simp only [LN]; omega)) only [↓EC, EW, seval, ↓reduceIte, ↓EBD, EBE]))); refine callM_d (c_spec_l01Pick (m := [2, 2, 3, n]) (by assumption) (by simp) (by simp)) ?_; rintro _ _ ⟨y2, _, _, hy_, rfl, rfl, hs_⟩; simp only [List.mem_cons, List.not_mem_nil, or_false] at hy_; (refine bni ?_; repeat (refine bnk ?_; (try simp (disch := first | omega | (simp only [LN]; omega)) only [↓EC, EW, seval, ↓reduceIte, ↓EBD, EBE, srcC]))))
      (refine pcm [0] rfl ?_; (refine bni ?_; repeat (refine bnk ?_; (try simp (disch := first | omega | (simp only [LN]; omega)) only [↓EC, EW, seval, ↓reduceIte, ↓EBD, EBE]))); refine callM_d (c_spec_l01Pairs (n := n) (m := y2) (by omega) (by omega) (by assumption)) ?_; rintro _ _ ⟨q, a3, z3, rfl, rfl, hs_, hq⟩; (refine bni ?_; repeat (refine bnk ?_; (try simp (disch := first | omega | (simp only [LN]; omega)) only [↓EC, EW, seval, ↓reduceIte, ↓EBD, EBE, srcC]))))
      have hpl := hp.1
      have hql := hq.1
      (refine bni ?_; repeat (refine bnk ?_; (try simp (disch := first | omega | (simp only [LN]; omega)) only [↓EC, EW, seval, ↓reduceIte, ↓EBD, EBE])))
      refine pcd_v (c_spec_l01Is (n := n) (b := p) (w := q) (lo16_okP hp) (lo16_okP hq)) ?_
      (refine bni ?_; repeat (refine bnk ?_; (try simp (disch := first | omega | (simp only [LN]; omega)) only [↓EC, EW, seval, ↓reduceIte, ↓EBD, EBE])))
      (refine Split.mkB (fun h => ?_) (fun h => ?_) <;> (try simp only [SD] at h))
      · (refine bni ?_; repeat (refine bnk ?_; (try simp (disch := first | omega | (simp only [LN]; omega)) only [↓EC, EW, seval, ↓reduceIte, ↓EBD, EBE])))
        exact ⟨n, p, q, _, _, rfl, rfl, by assumption, hp, hq, by omega, by omega⟩
      · (refine bni ?_; repeat (refine bnk ?_; (try simp (disch := first | omega | (simp only [LN]; omega)) only [↓EC, EW, seval, ↓reduceIte, ↓EBD, EBE])))
        exact ⟨(k + 1, a3, z3), rfl, rfl, ⟨by assumption, by simp only; omega⟩, by simp only; omega⟩
    · (refine bni ?_; repeat (refine bnk ?_; (try simp (disch := first | omega | (simp only [LN]; omega)) only [↓EC, EW, seval, ↓reduceIte, ↓EBD, EBE])))
      refine pcd_r (c_spec_l01Star (n := n) (by omega)) ?_
      rintro v ⟨p, q, rfl, hp, hq⟩
      have hpl := hp.1
      have hql := hq.1
      (refine bni ?_; repeat (refine bnk ?_; (try simp (disch := first | omega | (simp only [LN]; omega)) only [↓EC, EW, seval, ↓reduceIte, ↓EBD, EBE, vD])))
      (refine pcm [0] rfl ?_; (refine bni ?_; repeat (refine bnk ?_; (try simp (disch := first | omega | (simp only [LN]; omega)) only [↓EC, EW, seval, ↓reduceIte, ↓EBD, EBE]))); refine callM_d (c_spec_l01DrawPlaces (n := n) (by omega) (by assumption)) ?_; rintro _ _ ⟨q', a3, z3, rfl, rfl, hs_, hq'⟩; (refine bni ?_; repeat (refine bnk ?_; (try simp (disch := first | omega | (simp only [LN]; omega)) only [↓EC, EW, seval, ↓reduceIte, ↓EBD, EBE, srcC]))))
      have hql' := hq'.1
      (refine bni ?_; repeat (refine bnk ?_; (try simp (disch := first | omega | (simp only [LN]; omega)) only [↓EC, EW, seval, ↓reduceIte, ↓EBD, EBE])))
      exact ⟨n, p, q', _, _, rfl, rfl, by assumption, hp, hq', by omega, by omega⟩
theorem c_spec_l01Spoil {x : Value} {l : List Int} {a z m : Int} (hm : 1 ≤ m ∧ m ≤ 16) (hs : okS l a) : PSpecM Try.prog 25 [.ptr 0 0, .int .i64 m] [(0, 67, 1)] [srcC x l a z] fun v c =>
    ∃ n p q a' z', v = vD n p q ∧ c = [srcC x l a' z'] ∧ okS l a' ∧ okP p ∧ okP q ∧ -1 ≤ n ∧ n ≤ 17 := by
  refine spec_l01Spoil_f.m rfl rfl ?_
  unfold srcC
  dsimp only [spec_l01Spoil_F, pcal_B, pcalp_B, pcala_B, pcond_B, pgk_B, JN_B, LP_B]
  (refine bni ?_; repeat (refine bnk ?_; (try simp (disch := first | omega | (simp only [LN]; omega)) only [↓EC, EW, seval, ↓reduceIte, ↓EBD, EBE])))
  (refine pcm [0] rfl ?_; (refine bni ?_; repeat (refine bnk ?_; (try simp (disch := first | omega | (simp only [LN]; omega)) only [↓EC, EW, seval, ↓reduceIte, ↓EBD, EBE]))); refine callM_d (c_spec_l01Draw hm (by assumption)) ?_; rintro _ _ ⟨n, p, q, a1, z1, rfl, rfl, hs_, hp, hq, hn, hnm⟩; (refine bni ?_; repeat (refine bnk ?_; (try simp (disch := first | omega | (simp only [LN]; omega)) only [↓EC, EW, seval, ↓reduceIte, ↓EBD, EBE, srcC]))))
  have hpl := hp.1
  have hql := hq.1
  have hL := okL_of (lo16_okP hp) (lo16_okP hq)
  have hb0 := hp.2 0 (by omega)
  (refine bni ?_; repeat (refine bnk ?_; (try simp (disch := first | omega | (simp only [LN]; omega)) only [↓EC, EW, seval, ↓reduceIte, ↓EBD, EBE, vD])))
  generalize p ++ q = L at *
  refine JNx_un ?_
  (refine bni ?_; repeat (refine bnk ?_; (try simp (disch := first | omega | (simp only [LN]; omega)) only [↓EC, EW, seval, ↓reduceIte, ↓EBD, EBE])))
  (refine pcm [0] rfl ?_; (refine bni ?_; repeat (refine bnk ?_; (try simp (disch := first | omega | (simp only [LN]; omega)) only [↓EC, EW, seval, ↓reduceIte, ↓EBD, EBE]))); refine callM_d (c_spec_l01Next (by assumption) (by omega)) ?_; rintro _ _ ⟨r1, _, _, rfl, rfl, hs_, hr_⟩; (refine bni ?_; repeat (refine bnk ?_; (try simp (disch := first | omega | (simp only [LN]; omega)) only [↓EC, EW, seval, ↓reduceIte, ↓EBD, EBE, srcC]))))
  have hLl := hL.1
  have fin : ∀ {n' : Int} {L' : List Int} {a' z' : Int}, okS l a' → okL L' → -1 ≤ n' ∧ n' ≤ 17 → ∃ n p q a'' z'', V.agg (V.int IntKind.i64 n' :: vi IntKind.u8 L') = V.agg (V.int IntKind.i64 n :: vi IntKind.u8 (p ++ q)) ∧
      [[V.fz x l, V.int IntKind.i64 a', V.int IntKind.u64 z']] = [[V.fz x l, V.int IntKind.i64 a'', V.int IntKind.u64 z'']] ∧ okS l a'' ∧ okP p ∧ okP q ∧ -1 ≤ n ∧ n ≤ 17 := by
    intro n' L' a' z' h1 h2 h3
    obtain ⟨b, w, e, ob, ow⟩ := okL_vD (n := n') h2
    exact ⟨n', b, w, a', z', e, rfl, h1, ob, ow, h3⟩
  (refine Split.mkB (fun h => ?_) (fun h => ?_) <;> (try simp only [SD] at h))
  · (refine bni ?_; repeat (refine bnk ?_; (try simp (disch := first | omega | (simp only [LN]; omega)) only [↓EC, EW, seval, ↓reduceIte, ↓EBD, EBE])))
    exact fin (by assumption) (okL_set hL (by simp [IntKind.wrap, IntKind.signed, IntKind.bits]; omega)) (by omega)
  · (refine bni ?_; repeat (refine bnk ?_; (try simp (disch := first | omega | (simp only [LN]; omega)) only [↓EC, EW, seval, ↓reduceIte, ↓EBD, EBE])))
    (refine Split.mkB (fun h => ?_) (fun h => ?_) <;> (try simp only [SD] at h))
    · (refine bni ?_; repeat (refine bnk ?_; (try simp (disch := first | omega | (simp only [LN]; omega)) only [↓EC, EW, seval, ↓reduceIte, ↓EBD, EBE])))
      (refine pcm [0] rfl ?_; (refine bni ?_; repeat (refine bnk ?_; (try simp (disch := first | omega | (simp only [LN]; omega)) only [↓EC, EW, seval, ↓reduceIte, ↓EBD, EBE]))); refine callM_d (c_spec_l01Pick (m := [0, 17, -1, n + 1, n - 1]) (by assumption) (by simp) (by simp)) ?_; rintro _ _ ⟨y1, _, _, hy_, rfl, rfl, hs_⟩; simp only [List.mem_cons, List.not_mem_nil, or_false] at hy_; (refine bni ?_; repeat (refine bnk ?_; (try simp (disch := first | omega | (simp only [LN]; omega)) only [↓EC, EW, seval, ↓reduceIte, ↓EBD, EBE, srcC]))))
      (refine bni ?_; repeat (refine bnk ?_; (try simp (disch := first | omega | (simp only [LN]; omega)) only [↓EC, EW, seval, ↓reduceIte, ↓EBD, EBE])))
      exact fin (by assumption) hL (by omega)
    · (refine bni ?_; repeat (refine bnk ?_; (try simp (disch := first | omega | (simp only [LN]; omega)) only [↓EC, EW, seval, ↓reduceIte, ↓EBD, EBE])))
      (refine Split.mkB (fun h => ?_) (fun h => ?_) <;> (try simp only [SD] at h))
      · (refine bni ?_; repeat (refine bnk ?_; (try simp (disch := first | omega | (simp only [LN]; omega)) only [↓EC, EW, seval, ↓reduceIte, ↓EBD, EBE])))
        rw [if_neg (show ¬ 16 < n by omega)]
        refine pcd_v (c_spec_l01Same (n := n) (by omega)) ?_
        have hq := sameP_lo (n := n) (by omega)
        have hlf := putL_len sameF n.toNat
        (refine bni ?_; repeat (refine bnk ?_; (try simp (disch := first | omega | (simp only [LN]; omega)) only [↓EC, EW, seval, ↓reduceIte, ↓EBD, EBE])))
        exact fin (by assumption) (okL_of (okL_tk hL) (lo16_okP hq)) (by omega)
      · (refine bni ?_; repeat (refine bnk ?_; (try simp (disch := first | omega | (simp only [LN]; omega)) only [↓EC, EW, seval, ↓reduceIte, ↓EBD, EBE])))
        (refine Split.mkB (fun h => ?_) (fun h => ?_) <;> (try simp only [SD] at h))
        · (refine bni ?_; repeat (refine bnk ?_; (try simp (disch := first | omega | (simp only [LN]; omega)) only [↓EC, EW, seval, ↓reduceIte, ↓EBD, EBE])))
          (refine pcm [0] rfl ?_; (refine bni ?_; repeat (refine bnk ?_; (try simp (disch := first | omega | (simp only [LN]; omega)) only [↓EC, EW, seval, ↓reduceIte, ↓EBD, EBE]))); refine callM_d (c_spec_l01Pick (m := [1, 255]) (by assumption) (by simp) (by simp)) ?_; rintro _ _ ⟨y1, _, _, hy_, rfl, rfl, hs_⟩; simp only [List.mem_cons, List.not_mem_nil, or_false] at hy_; (refine bni ?_; repeat (refine bnk ?_; (try simp (disch := first | omega | (simp only [LN]; omega)) only [↓EC, EW, seval, ↓reduceIte, ↓EBD, EBE, srcC]))))
          (refine bni ?_; repeat (refine bnk ?_; (try simp (disch := first | omega | (simp only [LN]; omega)) only [↓EC, EW, seval, ↓reduceIte, ↓EBD, EBE])))
          exact fin (by assumption) (okL_set hL (by omega)) (by omega)
        · (refine bni ?_; repeat (refine bnk ?_; (try simp (disch := first | omega | (simp only [LN]; omega)) only [↓EC, EW, seval, ↓reduceIte, ↓EBD, EBE])))
          exact fin (by assumption) hL (by omega)
end
section

end
section
theorem gl_mem {ls : List (List Int)} {i : Nat} (hi : i < ls.length) : gl ls i ∈ ls := by
  simp only [gl, List.getD, hi, List.getElem?_eq_getElem, Option.getD_some]; exact List.getElem_mem hi
end
section

end
section

end
section
theorem count_false_lt {m : List Bool} {k : Nat} (h : gb m k = false) (hk : k < m.length) : (m.set k true).count false < m.count false := by
  rw [List.count_set hk]
  have hg : m[k] = false := by rw [← gb_of hk]; exact h
  have : 0 < m.count false := List.count_pos_iff.2 (by rw [← hg]; exact List.getElem_mem hk)
  rw [hg]; simp; omega
def cycF (p : List Int) (k : Int) (m : List Bool) (acc : List Int) : List Bool × List Int :=
  if h : gb m k.toNat = false ∧ k.toNat < m.length then cycF p (gi p k.toNat) (m.set k.toNat true) (acc ++ [k]) else (m, acc)
termination_by m.count false
decreasing_by exact count_false_lt h.1 h.2
theorem cycF_go {p : List Int} {k : Int} {m : List Bool} {acc : List Int} (h : gb m k.toNat = false) (hk : k.toNat < m.length) : cycF p k m acc = cycF p (gi p k.toNat) (m.set k.toNat true) (acc ++ [k]) := by
  rw [cycF, dif_pos ⟨h, hk⟩]
theorem cycF_end {p : List Int} {k : Int} {m : List Bool} {acc : List Int} (h : gb m k.toNat = true) : cycF p k m acc = (m, acc) := by
  rw [cycF, dif_neg (fun h' => by rw [h] at h'; cases h'.1)]
theorem cycF_len {p : List Int} : ∀ (c : Nat) {k : Int} {m : List Bool} {acc : List Int}, m.count false = c → (cycF p k m acc).1.length = m.length ∧ acc.length ≤ (cycF p k m acc).2.length ∧ (cycF p k m acc).2.length + (cycF p k m acc).1.count false = acc.length + m.count false := by
  intro c
  induction c using Nat.strongRecOn with
  | ind c ih =>
    intro k m acc hc
    by_cases h : gb m k.toNat = false ∧ k.toNat < m.length
    · rw [cycF_go h.1 h.2]
      have hlt := count_false_lt h.1 h.2
      obtain ⟨h1, h2, h3⟩ := @ih _ (by omega) (gi p k.toNat) (m.set k.toNat true) (acc ++ [k]) rfl
      have hcs : (m.set k.toNat true).count false + 1 = m.count false := by
        rw [List.count_set h.2] at hlt ⊢
        have hg : m[k.toNat] = false := by rw [← gb_of h.2]; exact h.1
        rw [hg] at hlt ⊢; simp at hlt ⊢; omega
      refine ⟨by simpa using h1, by simp at h2; omega, by simp at h3; omega⟩
    · rw [cycF, dif_neg h]; exact ⟨rfl, Nat.le_refl _, rfl⟩
def cycO (p : List Int) : Nat → List Bool × List (List Int)
  | 0 => (List.replicate 16 false, [])
  | i + 1 => if gb (cycO p i).1 i = true then cycO p i else ((cycF p i (cycO p i).1 []).1, (cycO p i).2 ++ [(cycF p i (cycO p i).1 []).2])
def cyc (p : List Int) (n : Int) : List (List Int) := (cycO p n.toNat).2
theorem cycO_len {p : List Int} : ∀ i : Nat, (cycO p i).1.length = 16 ∧ (cycO p i).2.length ≤ i
  | 0 => by simp [cycO]
  | i + 1 => by
    obtain ⟨h1, h2⟩ := cycO_len (p := p) i
    simp only [cycO]
    split
    · exact ⟨h1, by omega⟩
    · exact ⟨(cycF_len _ rfl).1.trans h1, by simp; omega⟩
theorem cycO_yes {p : List Int} {i : Nat} (h : gb (cycO p i).1 i = true) : cycO p (i + 1) = cycO p i := by simp only [cycO, if_pos h]
theorem cycO_no {p : List Int} {i : Nat} (h : gb (cycO p i).1 i = false) : cycO p (i + 1) = ((cycF p i (cycO p i).1 []).1, (cycO p i).2 ++ [(cycF p i (cycO p i).1 []).2]) := by
  simp only [cycO]; rw [if_neg (by rw [h]; decide)]
theorem c_impl_cycles {p : List Int} {n : Int} (hp : lo16 p) (hn : 1 ≤ n ∧ n ≤ 16) : PSpec Try.prog 70 [.agg (vi .u8 p), .int .i64 n] fun v => v = .own 63 1 (cyc p n).length (vo 2 (cyc p n)) := by
  have hl := hp.1
  refine impl_cycles_f.f ?_
  simp (disch := first | omega | (simp only [LN]; omega)) only [↓EC, EW, seval, ↓reduceIte, impl_cycles_F, hl]
  refine LP_ofE (σ := Nat) [1, 1] 100000 [(66, 25, 1), (70, 83, 1)] (fun i => [.own 63 1 (cycO p i).2.length (vo 2 (cycO p i).2), .int .i64 i]) (fun i => [vi .u8 p, vb (cycO p i).1])
    (fun i => (i : Int) ≤ n) (fun i => (n - i).toNat) 0 (by simp [frameOk, names, lpz, sclp, scv, scvs, nrfs, nrf, FRB]) (by simp only [Int.natCast_zero]; omega) ?_ ?_
  · simp (disch := first | omega | (simp only [LN]; omega)) only [↓EC, EW, seval, ↓reduceIte, ColV_def]
    exact ⟨fun _ => trivial, rfl, rfl⟩
  · rintro i hi
    obtain ⟨h1, h2⟩ := cycO_len (p := p) i
    simp (disch := first | omega | (simp only [LN]; omega)) only [↓EC, EW, seval, ↓reduceIte, ColV_def, lheap_def]
    (refine Split.mk (fun h => ?_) (fun h => ?_) <;> (try simp only [SD] at h))
    · (try simp (disch := first | omega | (simp only [LN]; omega)) only [↓EC, EW, seval, ↓reduceIte])
      (refine Split.mk (fun h => ?_) (fun h => ?_) <;> (try simp only [SD] at h))
      · (try simp (disch := first | omega | (simp only [LN]; omega)) only [↓EC, EW, seval, ↓reduceIte])
        exact ⟨i + 1, by rw [cycO_yes h]; rfl, by rw [cycO_yes h], by omega, by omega⟩
      · have hg := h
        (try simp (disch := first | omega | (simp only [LN]; omega)) only [↓EC, EW, seval, ↓reduceIte])
        refine LP_ofE (σ := List Bool × List Int × Int) [1, 1] 200000 [(66, 25, 1), (70, 83, 1), (100000, 63, 1)] (fun s => [.own 2 1 s.2.1.length (vi .i64 s.2.1), .int .i64 s.2.2])
          (fun s => [vi .u8 p, vb s.1, vo 2 (cycO p i).2])
          (fun s => s.1.length = 16 ∧ (0 ≤ s.2.2 ∧ s.2.2 < 16) ∧ s.2.1.length + s.1.count false ≤ 16 ∧ cycF p s.2.2 s.1 s.2.1 = cycF p i (cycO p i).1 []) (fun s => s.1.count false) ((cycO p i).1, [], (i : Int)) (by simp [frameOk, names, lpz, sclp, scv, scvs, nrfs, nrf, FRB])
          ⟨h1, ⟨by simp only; omega, by simp only; omega⟩, by have := List.count_le_length (a := false) (l := (cycO p i).1); simp; omega, rfl⟩ ?_ ?_
        · simp (disch := first | omega | (simp only [LN]; omega)) only [↓EC, EW, seval, ↓reduceIte, ColV_def]
          exact ⟨fun _ => trivial, trivial⟩
        · rintro ⟨m, acc, k⟩ ⟨g1, g2, g3, g4⟩
          simp only at g1 g2 g3 g4
          have hpk := hp.2 k.toNat (by omega)
          simp (disch := first | omega | (simp only [LN]; omega)) only [↓EC, EW, seval, ↓reduceIte, ColV_def, lheap_def]
          (refine Split.mk (fun h => ?_) (fun h => ?_) <;> (try simp only [SD] at h))
          · have hlt := count_false_lt h (by omega)
            (try simp (disch := first | omega | (simp only [LN]; omega)) only [↓EC, EW, seval, ↓reduceIte, hl])
            exact ⟨(m.set k.toNat true, acc ++ [k], gi p k.toNat), by simp, rfl, ⟨by simpa using g1, hpk, by simp only [List.length_append, List.length_cons, List.length_nil]; omega, by rw [← g4]; exact (cycF_go h (by omega)).symm⟩, hlt⟩
          · (try simp (disch := first | omega | (simp only [LN]; omega)) only [↓EC, EW, seval, ↓reduceIte])
            have he := cycO_no hg
            rw [← g4, cycF_end h] at he
            exact ⟨i + 1, by rw [he]; simp, by rw [he], by omega, by omega⟩
    · (try simp (disch := first | omega | (simp only [LN]; omega)) only [↓EC, EW, seval, ↓reduceIte])
      have : i = n.toNat := by omega
      subst this
      rfl
end
section
def ltP (p : List Int) (n : Int) : Prop := ∀ x : Nat, (x : Int) < n → 0 ≤ gi p x ∧ gi p x < n
theorem isPm.ltP {p : List Int} {n : Int} (hp : okP p) (h : isPm p n) : ltP p n := fun x hx => ⟨(hp.2 x (by have := h.1; omega)).1, ((h.2 x (by have := h.1; omega)).1 hx).1⟩
theorem putL_lt {n : Int} {f : Nat → Nat × Int} : ∀ (k : Nat), (∀ i, i < k → 0 ≤ (f i).2 ∧ (f i).2 < n) → 1 ≤ n → ltP (putL f k) n
  | 0, _, hn => fun x hx => by simp only [putL]; rw [gi_rep]; split <;> omega
  | k + 1, h, hn => fun x hx => by
    simp only [putL]
    rw [gi_set]
    split
    · exact h k (by omega)
    · exact putL_lt k (fun i hi => h i (by omega)) hn x hx
theorem backP_lt {p : List Int} {n : Int} (hn : 1 ≤ n ∧ n ≤ 16) : ltP (backP p n) n := putL_lt _ (fun i hi => by simp only [backF]; omega) hn.1
theorem cycF_lt {p : List Int} {n : Int} (hp : ltP p n) : ∀ (c : Nat) {k : Int} {m : List Bool} {acc : List Int}, m.count false = c → (0 ≤ k ∧ k < n) → (∀ y ∈ acc, 0 ≤ y ∧ y < n) → ∀ y ∈ (cycF p k m acc).2, 0 ≤ y ∧ y < n := by
  intro c
  induction c using Nat.strongRecOn with
  | ind c ih =>
    intro k m acc hc hk hacc
    by_cases h : gb m k.toNat = false ∧ k.toNat < m.length
    · rw [cycF_go h.1 h.2]
      have hlt := count_false_lt h.1 h.2
      refine @ih _ (by omega) (gi p k.toNat) (m.set k.toNat true) (acc ++ [k]) rfl (hp _ (by omega)) fun y hy => ?_
      simp only [List.mem_append, List.mem_singleton] at hy
      rcases hy with hy | rfl
      · exact hacc y hy
      · exact hk
    · rw [cycF, dif_neg h]; exact hacc
theorem cycO_lt {p : List Int} {n : Int} (hp : ltP p n) : ∀ i : Nat, (i : Int) ≤ n → ∀ l ∈ (cycO p i).2, (∀ y ∈ l, 0 ≤ y ∧ y < n) ∧ l.length ≤ 16
  | 0, _ => by simp [cycO]
  | i + 1, hi => by
    have ih := cycO_lt hp i (by omega)
    simp only [cycO]
    split
    · exact ih
    · intro l hl
      simp only [List.mem_append, List.mem_singleton] at hl
      rcases hl with hl | rfl
      · exact ih l hl
      · refine ⟨cycF_lt hp _ rfl ⟨by omega, by omega⟩ (by simp), ?_⟩
        have h1 := (cycF_len (p := p) _ (k := (i : Int)) (m := (cycO p i).1) (acc := []) rfl).2.2
        have h2 := List.count_le_length (a := false) (l := (cycO p i).1)
        rw [(cycO_len i).1] at h2
        simp at h1
        omega
end
section
abbrev DCode := (Int × List Int × List Int) × Int
def z16 : List Int := List.replicate 16 0
def vDC (r : DCode) : V := .tup [vD r.1.1 r.1.2.1 r.1.2.2, .int .i64 r.2]
end
section
def allV (b w : List Int) (n : Int) : List (List Int) := cyc b n ++ cyc w n
theorem cyc_pos {p : List Int} {n : Int} (hn : 1 ≤ n ∧ n ≤ 16) : 0 < (cyc p n).length := by
  have h1 : ∀ i, 1 ≤ i → 0 < (cycO p i).2.length := by
    intro i hi
    induction i with
    | zero => omega
    | succ i ih =>
      simp only [cycO]
      split
      · by_cases h0 : i = 0
        · subst h0; rename_i h; exact absurd h (by show ¬ gb (List.replicate 16 false) 0 = true; decide)
        · exact ih (by omega)
      · simp
  exact h1 n.toNat (by omega)
theorem cyc_at {p : List Int} {n : Int} (hp : ltP p n) (hn : 1 ≤ n ∧ n ≤ 16) : ∀ l ∈ cyc p n, (∀ y ∈ l, 0 ≤ y ∧ y < n) ∧ l.length ≤ 16 := cycO_lt hp n.toNat (by omega)
def sumT (a c : List Int) : Nat → Int
  | 0 => 0
  | s + 1 => sumT a c s + gi a (gi c s).toNat
def cycB (a : List Int) (A : List (List Int)) : Bool := A.all fun c => sumT a c c.length == 0
theorem cycB_no {a : List Int} {A : List (List Int)} {v : Nat} (hv : v < A.length) (h : ¬ sumT a (gl A v) (gl A v).length = 0) : cycB a A = false := by
  cases hc : cycB a A with
  | false => rfl
  | true =>
    have := (all_getD (d := [])).1 hc v hv
    exact absurd (by simpa [gl] using this) h
def mtI (a b c : List Int) (y : Int) : Nat → Int → Int
  | 0, s => s
  | i + 1, s => mtI a b c y i s + (gi a (gi c i).toNat * gi b y.toNat - gi a y.toNat * gi b (gi c i).toNat)
def mtJ (a b c : List Int) : Nat → Int → Int
  | 0, s => s
  | j + 1, s => mtI a b c (gi c j) j (mtJ a b c j s)
def mtV (a b : List Int) (A : List (List Int)) : Nat → Int
  | 0 => 0
  | v + 1 => mtJ a b (gl A v) (gl A v).length (mtV a b A v)
end
end Go.Proofs.Ytbjbpmicnmjbfaa.Sep
