/- Texts put together: Form, C20, C23, C21, C24, C25. -/
import Derived.Test.YtjklebickfcddaaGreatDoorK3
import Derived.Test.YtjklebickfcddaaGreatDoorProg
import Derived.KernelRfl
section
/- The printed forms of functions, by program out of the compiled code; each is held against it by the kernel. -/
namespace Go.Proofs.YtjklebickfcddaaGreatDoor.Sep
set_option maxRecDepth 1000000
set_option linter.unusedVariables false

def laws_FnCovers_F (x0 : V) (hi : Hp) (Rt : Hp → V → Prop) : Prop :=
pcal Tryz.prog 4 112 hi (fun a1 b1 =>
pcond (
Rt b1 (.bool true)) (
pcal Tryz.prog 5 115 b1 (fun c1 d1 =>
VL (vext 0 c1) fun e1 =>
VL (vext 1 c1) fun f1 =>
VL (vext 2 c1) fun g1 =>
VL (vext 3 c1) fun h1 =>
palloc d1 67 27 ([(.int .i64 0)] ++ (vi .u8 (List.replicate 32 0))) fun i1 =>
pst i1 33 (cellsV e1) (fun j1 k1 =>
pld k1 (some 33) (fun l1 m1 =>
pcal Tryz.prog 6 125 m1 (fun n1 o1 =>
VL (vext 0 n1) fun p1 =>
VL (vext 1 n1) fun q1 =>
palloc o1 71 27 ([(.int .i64 0)] ++ (vi .u8 (List.replicate 32 0))) fun r1 =>
pst r1 33 (cellsV p1) (fun s1 t1 =>
pld t1 (some 33) (fun u1 v1 =>
pcal Tryz.prog 7 133 v1 (fun w1 y1 =>
VL (vext 0 w1) fun z1 =>
VL (vext 1 w1) fun a2 =>
palloc y1 73 27 ([(.int .i64 0)] ++ (vi .u8 (List.replicate 32 0))) fun b2 =>
pst b2 33 (cellsV z1) (fun c2 d2 =>
pld d2 (some 33) (fun e2 f2 =>
pcal Tryz.prog 8 141 f2 (fun g2 h2 =>
VL (vext 0 g2) fun i2 =>
VL (vext 1 g2) fun j2 =>
pld h2 (some 33) (fun k2 l2 =>
pcal Tryz.prog 9 149 l2 (fun m2 n2 =>
VL (vext 0 m2) fun o2 =>
VL (vext 1 m2) fun p2 =>
pld n2 (some 33) (fun q2 r2 =>
pcal Tryz.prog 10 157 r2 (fun s2 t2 =>
VL (vext 0 s2) fun u2 =>
VL (vext 1 s2) fun v2 =>
pld t2 (some 33) (fun w2 y2 =>
pcal Tryz.prog 11 165 y2 (fun z2 a3 =>
VL (vext 0 z2) fun b3 =>
VL (vext 1 z2) fun c3 =>
VL (lift2 (abin .neq) q1 a2) fun d3 =>
pgk false a3 (fun e3 f3 => pld a3 (some 33) (fun g3 h3 =>
f3 g3 h3) (.ptr 71 0)) (fun i3 j3 k3 =>
pgk false k3 (fun l3 m3 => pld k3 (some 33) (fun n3 o3 =>
m3 n3 o3) (.ptr 73 0)) (fun p3 q3 r3 =>
pgk false r3 (fun s3 t3 => VL (veqa true true [(.i .i64), (.i .u8), (.i .u8), (.i .u8), (.i .u8), (.i .u8), (.i .u8), (.i .u8), (.i .u8), (.i .u8), (.i .u8), (.i .u8), (.i .u8), (.i .u8), (.i .u8), (.i .u8), (.i .u8), (.i .u8), (.i .u8), (.i .u8), (.i .u8), (.i .u8), (.i .u8), (.i .u8), (.i .u8), (.i .u8), (.i .u8), (.i .u8), (.i .u8), (.i .u8), (.i .u8), (.i .u8), (.i .u8)] j3 q3) fun u3 =>
t3 u3 r3) (fun v3 w3 y3 =>
VL (vpick v3 (.bool true) w3) fun z3 =>
pgk false y3 (fun a4 b4 => b4 j2 y3) (fun c4 d4 e4 =>
pgk false e4 (fun f4 g4 => g4 p2 e4) (fun h4 i4 j4 =>
pgk false j4 (fun k4 l4 => VL (lift2 (abin .neq) d4 i4) fun m4 =>
l4 m4 j4) (fun n4 o4 p4 =>
VL (vpick n4 (.bool true) o4) fun q4 =>
pgk false p4 (fun r4 s4 => s4 i2 p4) (fun t4 u4 v4 =>
pgk false v4 (fun w4 y4 => y4 o2 v4) (fun z4 a5 b5 =>
pgk false b5 (fun c5 d5 => VL (veqa true false [.b] u4 a5) fun e5 =>
d5 e5 b5) (fun f5 g5 h5 =>
VL (vpick f5 (.bool true) g5) fun i5 =>
pgk false h5 (fun j5 k5 => k5 v2 h5) (fun l5 m5 n5 =>
pgk false n5 (fun o5 p5 => p5 c3 n5) (fun q5 r5 s5 =>
pgk false s5 (fun t5 u5 => VL (lift2 (abin .neq) m5 r5) fun v5 =>
u5 v5 s5) (fun w5 y5 z5 =>
VL (vpick w5 (.bool true) y5) fun a6 =>
pgk false z5 (fun b6 c6 => c6 u2 z5) (fun d6 e6 f6 =>
pgk false f6 (fun g6 h6 => h6 b3 f6) (fun i6 j6 k6 =>
pgk false k6 (fun l6 m6 => pcal Tryz.prog 12 194 k6 (fun n6 o6 =>
m6 n6 o6) [e6, j6]) (fun p6 q6 r6 =>
pgk false r6 (fun s6 t6 => VL (lift1 (aun .not) q6) fun u6 =>
t6 u6 r6) (fun v6 w6 y6 =>
VL (vpick v6 (.bool true) w6) fun z6 =>
pcond (
Rt y6 (.bool false)) (
JN (fun a7 =>
VL (lift2 (abin .eql) q1 (.int .i64 0)) fun b7 =>
pcond (
pld y6 (some 33) (fun c7 d7 =>
pcal Tryz.prog 13 201 d7 (fun e7 f7 =>
VL (vext 0 e7) fun g7 =>
VL (vext 1 e7) fun h7 =>
pld f7 (some 33) (fun i7 j7 =>
pcal Tryz.prog 13 206 j7 (fun k7 l7 =>
VL (vext 0 k7) fun m7 =>
VL (vext 1 k7) fun n7 =>
VL (lift2 (abin .neq) h7 (.int .i64 0)) fun o7 =>
pgk false l7 (fun p7 q7 => q7 n7 l7) (fun r7 s7 t7 =>
pgk false t7 (fun u7 v7 => VL (lift2 (abin .neq) s7 (.int .i64 0)) fun w7 =>
v7 w7 t7) (fun y7 z7 a8 =>
VL (vpick y7 (.bool true) z7) fun b8 =>
pgk false a8 (fun c8 d8 => d8 i2 a8) (fun e8 f8 g8 =>
pgk false g8 (fun h8 i8 => i8 f8 g8) (fun j8 k8 l8 =>
pgk true l8 (fun m8 n8 => n8 m7 l8) (fun o8 p8 q8 =>
pgk true q8 (fun r8 s8 => s8 f1 q8) (fun t8 v8 w8 =>
pgk true w8 (fun y8 z8 => z8 g7 w8) (fun a9 b9 c9 =>
pgk true c9 (fun d9 e9 => VL (lift2 (abin .mul) v8 b9) fun f9 =>
e9 f9 c9) (fun g9 h9 i9 =>
pgk true i9 (fun j9 k9 => VL (lift2 (abin .neq) p8 h9) fun l9 =>
k9 l9 i9) (fun m9 n9 o9 =>
pgk false o9 (fun p9 q9 => VL (vpick m9 n9 (.bool false)) fun r9 =>
q9 r9 o9) (fun s9 t9 u9 =>
VL (vpick s9 (.bool true) t9) fun v9 =>
pgk false u9 (fun w9 y9 => y9 i2 u9) (fun z9 a10 b10 =>
pgk false b10 (fun c10 d10 => VL (lift1 (aun .not) a10) fun e10 =>
d10 e10 b10) (fun f10 g10 h10 =>
pgk false h10 (fun i10 j10 => j10 g10 h10) (fun k10 l10 m10 =>
pgk true m10 (fun n10 o10 => o10 m7 m10) (fun p10 q10 r10 =>
pgk true r10 (fun s10 t10 => t10 f1 r10) (fun u10 v10 w10 =>
pgk true w10 (fun y10 z10 => z10 g7 w10) (fun a11 b11 c11 =>
pgk true c11 (fun d11 e11 => VL (lift2 (abin .mul) v10 b11) fun f11 =>
e11 f11 c11) (fun g11 h11 i11 =>
pgk true i11 (fun j11 k11 => VL (lift2 (abin .geq) q10 h11) fun l11 =>
k11 l11 i11) (fun m11 n11 o11 =>
pgk false o11 (fun p11 q11 => VL (vpick m11 n11 (.bool false)) fun r11 =>
q11 r11 o11) (fun s11 t11 u11 =>
VL (vpick s11 (.bool true) t11) fun v11 =>
pcond (
Rt u11 (.bool false)) (
pmks u11 236 2 0 0 (fun w11 =>
LP [23, 24] [0, 3, 4, 5, 6, 7] (fun y11 z11 a12 b12 =>
VL (lift2 (abin .lss) (y11.getD 1 .und) (z11.getD 2 .und)) fun c12 =>
pcond (
pmks a12 244 2 1 1 (fun d12 =>
papp d12 (fun e12 f12 => papV 2 1 8 245 d12 (fun g12 h12 =>
VL (lift2 (abin .add) (y11.getD 1 .und) (.int .i64 1)) fun i12 =>
b12 [g12, i12] [(z11.getD 0 .und), (z11.getD 1 .und), (z11.getD 2 .und), (z11.getD 3 .und), (z11.getD 4 .und), (z11.getD 5 .und)] h12) e12 f12 (y11.getD 0 .und)) (pavs d12 (y11.getD 0 .und) []) (preadS 1 d12 (.rf 244 0 1))) (vfill [(.int .i64 0)] [(0, 1, (y11.getD 1 .und))])) (
pld a12 (some 33) (fun j12 k12 =>
pcal Tryz.prog 14 249 k12 (fun l12 m12 =>
VL (vext 0 l12) fun n12 =>
VL (vext 1 l12) fun o12 =>
palloc m12 89 27 ([(.int .i64 0)] ++ (vi .u8 (List.replicate 32 0))) fun p12 =>
pst p12 33 (cellsV n12) (fun q12 r12 =>
VL (lift2 (abin .neq) o12 (.int .i64 0)) fun s12 =>
pgk false r12 (fun t12 u12 => pld r12 (some 33) (fun v12 w12 =>
u12 v12 w12) (.ptr 89 0)) (fun y12 z12 a13 =>
pgk false a13 (fun b13 c13 => pld a13 (some 33) (fun d13 e13 =>
c13 d13 e13) (z11.getD 1 .und)) (fun f13 g13 h13 =>
pgk false h13 (fun i13 j13 => VL (veqa true true [(.i .i64), (.i .u8), (.i .u8), (.i .u8), (.i .u8), (.i .u8), (.i .u8), (.i .u8), (.i .u8), (.i .u8), (.i .u8), (.i .u8), (.i .u8), (.i .u8), (.i .u8), (.i .u8), (.i .u8), (.i .u8), (.i .u8), (.i .u8), (.i .u8), (.i .u8), (.i .u8), (.i .u8), (.i .u8), (.i .u8), (.i .u8), (.i .u8), (.i .u8), (.i .u8), (.i .u8), (.i .u8), (.i .u8)] z12 g13) fun k13 =>
j13 k13 h13) (fun l13 m13 n13 =>
VL (vpick l13 (.bool true) m13) fun o13 =>
pcond (
Rt n13 (.bool false)) (
pcal Tryz.prog 15 260 n13 (fun p13 q13 =>
VL (vfa 0 (z11.getD 1 .und)) fun r13 =>
pld q13 none (fun s13 t13 =>
pcal Tryz.prog 16 264 t13 (fun u13 v13 =>
pcal Tryz.prog 16 267 v13 (fun w13 y13 =>
pcal Tryz.prog 16 269 y13 (fun z13 a14 =>
LP [30, 31] [0, 3, 4, 5, 6, 7, 27, 28, 29] (fun b14 c14 d14 e14 =>
VL (lift2 (abin .gtr) (b14.getD 1 .und) (.int .i64 0)) fun f14 =>
pcond (
pmks d14 275 9 6 6 (fun g14 =>
pcal Tryz.prog 16 277 g14 (fun h14 i14 =>
VL (vixS 1 (.rf 275 0 6) h14) fun j14 =>
pld i14 none (fun k14 l14 =>
VL (lift2 (abin .add) (b14.getD 0 .und) k14) fun m14 =>
VL (lift2 (abin .sub) (b14.getD 1 .und) (.int .i64 1)) fun n14 =>
e14 [m14, n14] [(c14.getD 0 .und), (c14.getD 1 .und), (c14.getD 2 .und), (c14.getD 3 .und), (c14.getD 4 .und), (c14.getD 5 .und), (c14.getD 6 .und), (c14.getD 7 .und), (c14.getD 8 .und)] l14) j14) [(c14.getD 6 .und), (.int .i64 6)]) (vfill (vt (List.replicate 6 [])) [(0, 1, (.str [98])), (1, 1, (.str [119])), (2, 1, (.str [102])), (3, 1, (.str [66])), (4, 1, (.str [87])), (5, 1, (.str [70]))])) (
pld d14 (some 33) (fun o14 p14 =>
pcal Tryz.prog 17 289 p14 (fun q14 r14 =>
VL (vext 0 q14) fun s14 =>
VL (vext 1 q14) fun t14 =>
pld r14 (some 33) (fun u14 v14 =>
pcal Tryz.prog 18 295 v14 (fun w14 y14 =>
VL (vext 0 w14) fun z14 =>
VL (vext 1 w14) fun a15 =>
palloc y14 98 25 (vi .u8 (List.replicate 16 0)) fun b15 =>
pst b15 16 (cellsV z14) (fun c15 d15 =>
VL (lift2 (abin .neq) t14 (.int .i64 0)) fun e15 =>
pgk false d15 (fun f15 g15 => g15 a15 d15) (fun h15 i15 j15 =>
pgk false j15 (fun k15 l15 => VL (lift2 (abin .neq) i15 (.int .i64 0)) fun m15 =>
l15 m15 j15) (fun n15 o15 p15 =>
VL (vpick n15 (.bool true) o15) fun q15 =>
pgk false p15 (fun r15 s15 => s15 s14 p15) (fun t15 u15 v15 =>
pgk false v15 (fun w15 y15 => VL (vlenS u15) fun z15 =>
y15 z15 v15) (fun a16 b16 c16 =>
pgk false c16 (fun d16 e16 => VL (lift2 (abin .neq) b16 (.int .i64 2)) fun f16 =>
e16 f16 c16) (fun g16 h16 i16 =>
VL (vpick g16 (.bool true) h16) fun j16 =>
pgk false i16 (fun k16 l16 => l16 (c14.getD 2 .und) i16) (fun m16 n16 o16 =>
pgk false o16 (fun p16 q16 => q16 (c14.getD 7 .und) o16) (fun r16 s16 t16 =>
pgk false t16 (fun u16 v16 => VL (lift2 (abin .mul) n16 s16) fun w16 =>
v16 w16 t16) (fun y16 z16 a17 =>
pgk false a17 (fun b17 c17 => c17 (c14.getD 8 .und) a17) (fun d17 e17 f17 =>
pgk false f17 (fun g17 h17 => VL (lift2 (abin .add) z16 e17) fun i17 =>
h17 i17 f17) (fun j17 k17 l17 =>
pgk false l17 (fun m17 n17 => VL (vixA 16 1 (.ptr 98 0) k17) fun o17 =>
n17 o17 l17) (fun p17 q17 r17 =>
pgk false r17 (fun s17 t17 => pld r17 none (fun u17 v17 =>
t17 u17 v17) q17) (fun w17 y17 z17 =>
pgk false z17 (fun a18 b18 => VL (lift1 (acvi .i64) y17) fun c18 =>
b18 c18 z17) (fun d18 e18 f18 =>
pgk false f18 (fun g18 h18 => h18 (c14.getD 2 .und) f18) (fun i18 j18 k18 =>
pgk false k18 (fun l18 m18 => m18 s14 k18) (fun n18 o18 p18 =>
pgk false p18 (fun q18 r18 => VL (vixS 1 o18 (.int .i64 0)) fun s18 =>
r18 s18 p18) (fun t18 u18 v18 =>
pgk false v18 (fun w18 y18 => pld v18 none (fun z18 a19 =>
y18 z18 a19) u18) (fun b19 c19 d19 =>
pgk false d19 (fun e19 f19 => VL (lift2 (abin .mul) j18 c19) fun g19 =>
f19 g19 d19) (fun h19 i19 j19 =>
pgk false j19 (fun k19 l19 => l19 s14 j19) (fun m19 n19 o19 =>
pgk false o19 (fun p19 q19 => VL (vixS 1 n19 (.int .i64 1)) fun r19 =>
q19 r19 o19) (fun s19 t19 u19 =>
pgk false u19 (fun v19 w19 => pld u19 none (fun y19 z19 =>
w19 y19 z19) t19) (fun a20 b20 c20 =>
pgk false c20 (fun d20 e20 => VL (lift2 (abin .add) i19 b20) fun f20 =>
e20 f20 c20) (fun g20 h20 i20 =>
pgk false i20 (fun j20 k20 => VL (lift2 (abin .neq) e18 h20) fun l20 =>
k20 l20 i20) (fun m20 n20 o20 =>
VL (vpick m20 (.bool true) n20) fun p20 =>
pcond (
Rt o20 (.bool false)) (
a7 [(c14.getD 0 .und)] o20) p20) g20) a20) s19) m19) h19) b19) t18) n18) i18) d18) w17) p17) j17) d17) y16) r16) m16) j16) a16) t15) q15) h15) e15) (.ptr 98 0)) [u14, (b14.getD 0 .und)]) (c14.getD 5 .und)) [o14, (c14.getD 2 .und), (c14.getD 3 .und), (c14.getD 4 .und), (c14.getD 7 .und), (c14.getD 8 .und), (b14.getD 0 .und)]) (c14.getD 1 .und)) f14) [(.str []), z13] [(z11.getD 0 .und), (z11.getD 1 .und), (z11.getD 2 .und), (z11.getD 3 .und), (z11.getD 4 .und), (z11.getD 5 .und), p13, u13, w13] a14) [p13, (.int .i64 8)]) [p13, (z11.getD 2 .und)]) [p13, s13]) r13) [(z11.getD 0 .und), (.int .u64 952)]) o13) f13) y12) s12) (.ptr 89 0)) [j12, (y11.getD 0 .und)]) (z11.getD 5 .und)) c12) [(.rf 236 0 0), (.int .i64 0)] [x0, (.ptr 67 0), f1, g1, h1, (.ptr 71 0)] w11) (vfill [] [])) v11) k10) g11) a11) u10) p10) l10) f10) z9) v9) j8) g9) a9) t8) o8) k8) e8) b8) r7) o7) [i7]) (.ptr 71 0)) [c7]) (.ptr 67 0)) (
a7 [x0] y6) b7) fun q20 r20 =>
pcal Tryz.prog 19 331 r20 (fun s20 t20 =>
VL (vext 0 s20) fun u20 =>
VL (vext 1 s20) fun v20 =>
VL (vext 2 s20) fun w20 =>
VL (vext 3 s20) fun y20 =>
VL (vext 4 s20) fun z20 =>
VL (vext 5 s20) fun a21 =>
VL (vext 6 s20) fun b21 =>
palloc t20 100 27 ([(.int .i64 0)] ++ (vi .u8 (List.replicate 32 0))) fun c21 =>
pst c21 33 (cellsV u20) (fun d21 e21 =>
pld e21 (some 33) (fun f21 g21 =>
pcal Tryz.prog 17 347 g21 (fun h21 i21 =>
VL (vext 0 h21) fun j21 =>
VL (vext 1 h21) fun k21 =>
pld i21 (some 33) (fun l21 m21 =>
pcal Tryz.prog 20 358 m21 (fun n21 o21 =>
VL (vext 0 n21) fun p21 =>
VL (vext 1 n21) fun q21 =>
VL (lift2 (abin .eql) k21 q21) fun r21 =>
pgk true o21 (fun s21 t21 => t21 j21 o21) (fun u21 v21 w21 =>
pgk true w21 (fun y21 z21 => z21 p21 w21) (fun a22 b22 c22 =>
pgk true c22 (fun d22 e22 => pcal Tryz.prog 21 367 c22 (fun f22 g22 =>
e22 f22 g22) [v21, b22]) (fun h22 i22 j22 =>
VL (vpick h22 i22 (.bool false)) fun k22 =>
Rt j22 k22) a22) u21) r21) [l21, v20, w20, y20, z20, a21, b21]) (.ptr 100 0)) [f21, v20, w20, y20, z20, a21, b21]) (.ptr 100 0)) (.ptr 100 0)) [(q20.getD 0 .und)]) z6) p6) i6) d6) a6) q5) l5) i5) z4) t4) q4) h4) c4) z3) p3) i3) d3) [w2, f1, g1, h1]) (.ptr 67 0)) [q2, f1, g1, h1]) (.ptr 67 0)) [k2, f1, g1, h1]) (.ptr 67 0)) [e2, f1, g1, h1]) (.ptr 67 0)) (.ptr 73 0)) [u1, f1, g1, h1]) (.ptr 67 0)) (.ptr 71 0)) [l1, f1, g1, h1]) (.ptr 67 0)) (.ptr 67 0)) [x0]) a1) [x0]
theorem laws_FnCovers_f {x0 : V} : Prt Tryz.prog 3 [x0] (laws_FnCovers_F x0) := pfun (fn := Tryz.f3) (m := [.s, .s, .s, .s, .s, .s, .s, .s, .s, .s, .s, .s, .s, .s, .j [0], .s, .s, .s, .s, .s, .s, .s, .s, .s, .l [23, 24] [0, 3, 4, 5, 6, 7], .s, .s, .s, .s, .s, .s, .s, .s, .s, .s, .s, .l [30, 31] [0, 3, 4, 5, 6, 7, 27, 28, 29], .s, .s, .s, .s, .s, .s, .s, .s, .s, .s, .s]) (c := 1 ≤ 305) rfl (fun h0 Rt => by kernel_rfl) (by decide)

def laws_big_F (x0 : V) (hi : Hp) (Rt : Hp → V → Prop) : Prop :=
VL (vlenS x0) fun a1 =>
VL (lift2 (abin .gtr) a1 (.int .i64 4096)) fun b1 =>
Rt hi b1
theorem laws_big_f {x0 : V} : Prt Tryz.prog 4 [x0] (laws_big_F x0) := pfun (fn := Tryz.f4) (m := [.s, .s]) (c := 1 ≤ 6) rfl (fun h0 Rt => by kernel_rfl) (by decide)

def spec_DrawCoverOf_F (x0 : V) (hi : Hp) (Rt : Hp → V → Prop) : Prop :=
palloc hi 66 27 ([(.int .i64 0)] ++ (vi .u8 (List.replicate 32 0))) fun a1 =>
pcal Tryz.prog 22 76 a1 (fun b1 c1 =>
VL (vext 0 b1) fun d1 =>
VL (vext 1 b1) fun e1 =>
VL (vext 2 b1) fun f1 =>
VL (vext 3 b1) fun g1 =>
palloc c1 70 27 ([(.int .i64 0)] ++ (vi .u8 (List.replicate 32 0))) fun h1 =>
pst h1 33 (cellsV d1) (fun i1 j1 =>
pld j1 (some 33) (fun k1 l1 =>
pst l1 33 (cellsV k1) (fun m1 n1 =>
VL (pcellV n1 (some 33) (.ptr 66 0)) fun o1 =>
Rt n1 (.tup [o1, e1, f1, g1])) (.ptr 66 0)) (.ptr 70 0)) (.ptr 70 0)) [x0]
theorem spec_DrawCoverOf_f {x0 : V} : Prt Tryz.prog 5 [x0] (spec_DrawCoverOf_F x0) := pfun (fn := Tryz.f5) (m := [.s, .s, .s]) (c := 1 ≤ 21) rfl (fun h0 Rt => by kernel_rfl) (by decide)

def impl_CoverOf_F (x0 x1 x2 x3 : V) (hi : Hp) (Rt : Hp → V → Prop) : Prop :=
pbox hi 68 27 (cellsV x0) fun a1 =>
palloc a1 72 27 ([(.int .i64 0)] ++ (vi .u8 (List.replicate 32 0))) fun b1 =>
pld b1 (some 33) (fun c1 d1 =>
pcal Tryz.prog 23 82 d1 (fun e1 f1 =>
VL (lift2 (abin .neq) e1 (.int .i64 0)) fun g1 =>
pcond (
VL (vbld (vfill ([(.int .i64 0)] ++ (vi .u8 (List.replicate 32 0))) [])) fun h1 =>
pst f1 33 (cellsV h1) (fun i1 j1 =>
VL (pcellV j1 (some 33) (.ptr 72 0)) fun k1 =>
Rt j1 (.tup [k1, e1])) (.ptr 72 0)) (
pld f1 none (fun l1 m1 =>
VL (lift2 (abin .mul) l1 x1) fun n1 =>
VL (lift2 (abin .gtr) n1 (.int .i64 16)) fun o1 =>
pcond (
VL (vbld (vfill ([(.int .i64 0)] ++ (vi .u8 (List.replicate 32 0))) [])) fun p1 =>
pst m1 33 (cellsV p1) (fun q1 r1 =>
VL (pcellV r1 (some 33) (.ptr 72 0)) fun s1 =>
Rt r1 (.tup [s1, (.int .i64 3)])) (.ptr 72 0)) (
pld m1 none (fun t1 u1 =>
VL (lift2 (abin .mul) t1 x1) fun v1 =>
VL (vbld (vfill ([(.int .i64 0)] ++ (vi .u8 (List.replicate 32 0))) [(0, 1, v1)])) fun w1 =>
palloc u1 75 27 ([(.int .i64 0)] ++ (vi .u8 (List.replicate 32 0))) fun y1 =>
pst y1 33 (cellsV w1) (fun z1 a2 =>
pld a2 none (fun b2 c2 =>
LP [36] [1, 2, 3, 4, 8, 11, 35] (fun d2 e2 f2 g2 =>
VL (lift2 (abin .lss) (d2.getD 0 .und) (e2.getD 6 .und)) fun h2 =>
pcond (
LP [40] [1, 2, 3, 4, 8, 11, 12, 35, 36, 39] (fun i2 j2 k2 l2 =>
VL (lift2 (abin .lss) (i2.getD 0 .und) (j2.getD 9 .und)) fun m2 =>
pcond (
VL (lift2 (abin .mul) (j2.getD 0 .und) (j2.getD 6 .und)) fun n2 =>
VL (lift2 (abin .add) n2 (i2.getD 0 .und)) fun o2 =>
VL (vfa 1 (j2.getD 3 .und)) fun p2 =>
VL (vixA 16 1 p2 (j2.getD 6 .und)) fun q2 =>
pld k2 none (fun r2 s2 =>
VL (lift1 (acvi .i64) r2) fun t2 =>
VL (lift2 (abin .mul) (j2.getD 0 .und) t2) fun u2 =>
VL (vixS 1 (j2.getD 1 .und) (j2.getD 6 .und)) fun v2 =>
pld s2 none (fun w2 y2 =>
VL (lift2 (abin .add) (i2.getD 0 .und) w2) fun z2 =>
VL (lift2 (abin .rem) z2 (j2.getD 0 .und)) fun a3 =>
VL (lift2 (abin .add) u2 a3) fun b3 =>
VL (lift1 (acvi .u8) b3) fun c3 =>
VL (vfa 1 (j2.getD 5 .und)) fun d3 =>
VL (vixA 16 1 d3 o2) fun e3 =>
pst y2 1 (cellsV c3) (fun f3 g3 =>
VL (lift2 (abin .mul) (j2.getD 0 .und) (j2.getD 6 .und)) fun h3 =>
VL (lift2 (abin .add) h3 (i2.getD 0 .und)) fun i3 =>
VL (vfa 17 (j2.getD 3 .und)) fun j3 =>
VL (vixA 16 1 j3 (j2.getD 6 .und)) fun k3 =>
pld g3 none (fun l3 m3 =>
VL (lift1 (acvi .i64) l3) fun n3 =>
VL (lift2 (abin .mul) (j2.getD 0 .und) n3) fun o3 =>
VL (vixS 1 (j2.getD 2 .und) (j2.getD 6 .und)) fun p3 =>
pld m3 none (fun q3 r3 =>
VL (lift2 (abin .add) (i2.getD 0 .und) q3) fun s3 =>
VL (lift2 (abin .rem) s3 (j2.getD 0 .und)) fun t3 =>
VL (lift2 (abin .add) o3 t3) fun u3 =>
VL (lift1 (acvi .u8) u3) fun v3 =>
VL (vfa 17 (j2.getD 5 .und)) fun w3 =>
VL (vixA 16 1 w3 i3) fun y3 =>
pst r3 1 (cellsV v3) (fun z3 a4 =>
VL (lift2 (abin .add) (i2.getD 0 .und) (.int .i64 1)) fun b4 =>
l2 [b4] [(j2.getD 0 .und), (j2.getD 1 .und), (j2.getD 2 .und), (j2.getD 3 .und), (j2.getD 4 .und), (j2.getD 5 .und), (j2.getD 6 .und), (j2.getD 7 .und), (j2.getD 8 .und), (j2.getD 9 .und)] a4) y3) p3) k3) e3) v2) q2) (
VL (lift2 (abin .add) (j2.getD 8 .und) (.int .i64 1)) fun c4 =>
g2 [c4] [(j2.getD 0 .und), (j2.getD 1 .und), (j2.getD 2 .und), (j2.getD 3 .und), (j2.getD 4 .und), (j2.getD 5 .und), (j2.getD 7 .und)] k2) m2) [(.int .i64 0)] [(e2.getD 0 .und), (e2.getD 1 .und), (e2.getD 2 .und), (e2.getD 3 .und), (e2.getD 4 .und), (e2.getD 5 .und), (d2.getD 0 .und), (e2.getD 6 .und), (d2.getD 0 .und), (e2.getD 0 .und)] f2) (
pld f2 (some 33) (fun d4 e4 =>
pcal Tryz.prog 24 158 e4 (fun f4 g4 =>
VL (lift1 (aun .not) f4) fun h4 =>
pcond (
VL (vbld (vfill ([(.int .i64 0)] ++ (vi .u8 (List.replicate 32 0))) [])) fun i4 =>
pst g4 33 (cellsV i4) (fun j4 k4 =>
VL (pcellV k4 (some 33) (e2.getD 4 .und)) fun l4 =>
Rt k4 (.tup [l4, (.int .i64 5)])) (e2.getD 4 .und)) (
pld g4 (some 33) (fun m4 n4 =>
pst n4 33 (cellsV m4) (fun o4 p4 =>
VL (pcellV p4 (some 33) (e2.getD 4 .und)) fun q4 =>
Rt p4 (.tup [q4, (.int .i64 0)])) (e2.getD 4 .und)) (e2.getD 5 .und)) h4) [d4]) (e2.getD 5 .und)) h2) [(.int .i64 0)] [x1, x2, x3, (.ptr 68 0), (.ptr 72 0), (.ptr 75 0), b2] c2) (.ptr 68 0)) (.ptr 75 0)) (.ptr 68 0)) o1) (.ptr 68 0)) g1) [c1, x1, x2, x3]) (.ptr 68 0)
theorem impl_CoverOf_f {x0 x1 x2 x3 : V} : Prt Tryz.prog 6 [x0, x1, x2, x3] (impl_CoverOf_F x0 x1 x2 x3) := pfun (fn := Tryz.f6) (m := [.s, .s, .s, .s, .s, .s, .s, .s, .s, .s, .s, .l [36] [1, 2, 3, 4, 8, 11, 35], .s, .s, .s, .s, .s, .l [40] [1, 2, 3, 4, 8, 11, 12, 35, 36, 39], .s, .s, .s, .s, .s, .s, .s, .s, .s]) (c := 4 ≤ 98) rfl (fun h0 Rt => by kernel_rfl) (by decide)

def spec_CoverOf_F (x0 x1 x2 x3 : V) (hi : Hp) (Rt : Hp → V → Prop) : Prop :=
pbox hi 68 27 (cellsV x0) fun a1 =>
palloc a1 72 27 ([(.int .i64 0)] ++ (vi .u8 (List.replicate 32 0))) fun b1 =>
pld b1 (some 33) (fun c1 d1 =>
pcal Tryz.prog 25 82 d1 (fun e1 f1 =>
VL (lift2 (abin .neq) e1 (.int .i64 0)) fun g1 =>
pcond (
VL (vbld (vfill ([(.int .i64 0)] ++ (vi .u8 (List.replicate 32 0))) [])) fun h1 =>
pst f1 33 (cellsV h1) (fun i1 j1 =>
VL (pcellV j1 (some 33) (.ptr 72 0)) fun k1 =>
Rt j1 (.tup [k1, e1])) (.ptr 72 0)) (
pld f1 none (fun l1 m1 =>
VL (lift2 (abin .mul) l1 x1) fun n1 =>
VL (lift2 (abin .gtr) n1 (.int .i64 16)) fun o1 =>
pcond (
VL (vbld (vfill ([(.int .i64 0)] ++ (vi .u8 (List.replicate 32 0))) [])) fun p1 =>
pst m1 33 (cellsV p1) (fun q1 r1 =>
VL (pcellV r1 (some 33) (.ptr 72 0)) fun s1 =>
Rt r1 (.tup [s1, (.int .i64 3)])) (.ptr 72 0)) (
pld m1 none (fun t1 u1 =>
VL (lift2 (abin .mul) t1 x1) fun v1 =>
VL (vbld (vfill ([(.int .i64 0)] ++ (vi .u8 (List.replicate 32 0))) [(0, 1, v1)])) fun w1 =>
palloc u1 75 27 ([(.int .i64 0)] ++ (vi .u8 (List.replicate 32 0))) fun y1 =>
pst y1 33 (cellsV w1) (fun z1 a2 =>
LP [12] [1, 2, 3, 4, 8, 11] (fun b2 c2 d2 e2 =>
VL (vfa 0 (c2.getD 3 .und)) fun f2 =>
pld d2 none (fun g2 h2 =>
VL (lift2 (abin .lss) (b2.getD 0 .und) g2) fun i2 =>
pcond (
LP [13] [1, 2, 3, 4, 8, 11, 12] (fun j2 k2 l2 m2 =>
VL (lift2 (abin .lss) (j2.getD 0 .und) (k2.getD 0 .und)) fun n2 =>
pcond (
VL (lift2 (abin .mul) (k2.getD 0 .und) (k2.getD 6 .und)) fun o2 =>
VL (lift2 (abin .add) o2 (j2.getD 0 .und)) fun p2 =>
VL (vfa 1 (k2.getD 3 .und)) fun q2 =>
VL (vixA 16 1 q2 (k2.getD 6 .und)) fun r2 =>
pld l2 none (fun s2 t2 =>
VL (lift1 (acvi .i64) s2) fun u2 =>
VL (lift2 (abin .mul) (k2.getD 0 .und) u2) fun v2 =>
VL (vixS 1 (k2.getD 1 .und) (k2.getD 6 .und)) fun w2 =>
pld t2 none (fun y2 z2 =>
VL (lift2 (abin .add) (j2.getD 0 .und) y2) fun a3 =>
VL (lift2 (abin .rem) a3 (k2.getD 0 .und)) fun b3 =>
VL (lift2 (abin .add) v2 b3) fun c3 =>
VL (lift1 (acvi .u8) c3) fun d3 =>
VL (vfa 1 (k2.getD 5 .und)) fun e3 =>
VL (vixA 16 1 e3 p2) fun f3 =>
pst z2 1 (cellsV d3) (fun g3 h3 =>
VL (lift2 (abin .mul) (k2.getD 0 .und) (k2.getD 6 .und)) fun i3 =>
VL (lift2 (abin .add) i3 (j2.getD 0 .und)) fun j3 =>
VL (vfa 17 (k2.getD 3 .und)) fun k3 =>
VL (vixA 16 1 k3 (k2.getD 6 .und)) fun l3 =>
pld h3 none (fun m3 n3 =>
VL (lift1 (acvi .i64) m3) fun o3 =>
VL (lift2 (abin .mul) (k2.getD 0 .und) o3) fun p3 =>
VL (vixS 1 (k2.getD 2 .und) (k2.getD 6 .und)) fun q3 =>
pld n3 none (fun r3 s3 =>
VL (lift2 (abin .add) (j2.getD 0 .und) r3) fun t3 =>
VL (lift2 (abin .rem) t3 (k2.getD 0 .und)) fun u3 =>
VL (lift2 (abin .add) p3 u3) fun v3 =>
VL (lift1 (acvi .u8) v3) fun w3 =>
VL (vfa 17 (k2.getD 5 .und)) fun y3 =>
VL (vixA 16 1 y3 j3) fun z3 =>
pst s3 1 (cellsV w3) (fun a4 b4 =>
VL (lift2 (abin .add) (j2.getD 0 .und) (.int .i64 1)) fun c4 =>
m2 [c4] [(k2.getD 0 .und), (k2.getD 1 .und), (k2.getD 2 .und), (k2.getD 3 .und), (k2.getD 4 .und), (k2.getD 5 .und), (k2.getD 6 .und)] b4) z3) q3) l3) f3) w2) r2) (
VL (lift2 (abin .add) (k2.getD 6 .und) (.int .i64 1)) fun d4 =>
e2 [d4] [(k2.getD 0 .und), (k2.getD 1 .und), (k2.getD 2 .und), (k2.getD 3 .und), (k2.getD 4 .und), (k2.getD 5 .und)] l2) n2) [(.int .i64 0)] [(c2.getD 0 .und), (c2.getD 1 .und), (c2.getD 2 .und), (c2.getD 3 .und), (c2.getD 4 .und), (c2.getD 5 .und), (b2.getD 0 .und)] h2) (
pld h2 (some 33) (fun e4 f4 =>
pcal Tryz.prog 26 158 f4 (fun g4 h4 =>
VL (lift1 (aun .not) g4) fun i4 =>
pcond (
VL (vbld (vfill ([(.int .i64 0)] ++ (vi .u8 (List.replicate 32 0))) [])) fun j4 =>
pst h4 33 (cellsV j4) (fun k4 l4 =>
VL (pcellV l4 (some 33) (c2.getD 4 .und)) fun m4 =>
Rt l4 (.tup [m4, (.int .i64 5)])) (c2.getD 4 .und)) (
pld h4 (some 33) (fun n4 o4 =>
pst o4 33 (cellsV n4) (fun p4 q4 =>
VL (pcellV q4 (some 33) (c2.getD 4 .und)) fun r4 =>
Rt q4 (.tup [r4, (.int .i64 0)])) (c2.getD 4 .und)) (c2.getD 5 .und)) i4) [e4]) (c2.getD 5 .und)) i2) f2) [(.int .i64 0)] [x1, x2, x3, (.ptr 68 0), (.ptr 72 0), (.ptr 75 0)] a2) (.ptr 75 0)) (.ptr 68 0)) o1) (.ptr 68 0)) g1) [c1, x1, x2, x3]) (.ptr 68 0)
theorem spec_CoverOf_f {x0 x1 x2 x3 : V} : Prt Tryz.prog 7 [x0, x1, x2, x3] (spec_CoverOf_F x0 x1 x2 x3) := pfun (fn := Tryz.f7) (m := [.s, .s, .s, .s, .s, .s, .s, .s, .s, .s, .s, .l [12] [1, 2, 3, 4, 8, 11], .s, .s, .s, .s, .l [13] [1, 2, 3, 4, 8, 11, 12], .s, .s, .s, .s, .s, .s, .s, .s]) (c := 4 ≤ 98) rfl (fun h0 Rt => by kernel_rfl) (by decide)

def impl_IsUnbranched_F (x0 x1 x2 x3 : V) (hi : Hp) (Rt : Hp → V → Prop) : Prop :=
pbox hi 68 27 (cellsV x0) fun a1 =>
pld a1 (some 33) (fun b1 c1 =>
pcal Tryz.prog 23 83 c1 (fun d1 e1 =>
VL (lift2 (abin .neq) d1 (.int .i64 0)) fun f1 =>
pcond (
Rt e1 (.tup [(.bool false), d1])) (
pld e1 (some 33) (fun g1 h1 =>
pcal Tryz.prog 27 91 h1 (fun i1 j1 =>
VL (vlenS i1) fun k1 =>
LP [29] [27, 28] (fun l1 m1 n1 o1 =>
VL (lift2 (abin .lss) (l1.getD 0 .und) (m1.getD 1 .und)) fun p1 =>
pcond (
VL (vixS 1 (m1.getD 0 .und) (l1.getD 0 .und)) fun q1 =>
pld n1 none (fun r1 s1 =>
VL (vlenS r1) fun t1 =>
LP [35] [27, 28, 29, 33, 34] (fun u1 v1 w1 y1 =>
VL (lift2 (abin .lss) (u1.getD 0 .und) (v1.getD 4 .und)) fun z1 =>
pcond (
VL (vixS 1 (v1.getD 3 .und) (u1.getD 0 .und)) fun a2 =>
pld w1 none (fun b2 c2 =>
VL (lift2 (abin .neq) b2 (.int .i64 0)) fun d2 =>
pcond (
Rt c2 (.tup [(.bool false), (.int .i64 0)])) (
VL (lift2 (abin .add) (u1.getD 0 .und) (.int .i64 1)) fun e2 =>
y1 [e2] [(v1.getD 0 .und), (v1.getD 1 .und), (v1.getD 2 .und), (v1.getD 3 .und), (v1.getD 4 .und)] c2) d2) a2) (
VL (lift2 (abin .add) (v1.getD 2 .und) (.int .i64 1)) fun f2 =>
o1 [f2] [(v1.getD 0 .und), (v1.getD 1 .und)] w1) z1) [(.int .i64 0)] [(m1.getD 0 .und), (m1.getD 1 .und), (l1.getD 0 .und), r1, t1] s1) q1) (
Rt n1 (.tup [(.bool true), (.int .i64 0)])) p1) [(.int .i64 0)] [i1, k1] j1) [g1, x1, x2, x3]) (.ptr 68 0)) f1) [b1, x1, x2, x3]) (.ptr 68 0)
theorem impl_IsUnbranched_f {x0 x1 x2 x3 : V} : Prt Tryz.prog 8 [x0, x1, x2, x3] (impl_IsUnbranched_F x0 x1 x2 x3) := pfun (fn := Tryz.f8) (m := [.s, .s, .s, .s, .s, .s, .s, .l [29] [27, 28], .s, .s, .s, .s, .s, .l [35] [27, 28, 29, 33, 34], .s, .s, .s, .s, .s, .s, .s]) (c := 4 ≤ 43) rfl (fun h0 Rt => by kernel_rfl) (by decide)

def spec_IsUnbranched_F (x0 x1 x2 x3 : V) (hi : Hp) (Rt : Hp → V → Prop) : Prop :=
pbox hi 68 27 (cellsV x0) fun a1 =>
pld a1 (some 33) (fun b1 c1 =>
pcal Tryz.prog 25 82 c1 (fun d1 e1 =>
VL (lift2 (abin .neq) d1 (.int .i64 0)) fun f1 =>
pcond (
Rt e1 (.tup [(.bool false), d1])) (
pld e1 (some 33) (fun g1 h1 =>
pcal Tryz.prog 28 90 h1 (fun i1 j1 =>
LP [12] [11] (fun k1 l1 m1 n1 =>
VL (lift2 (abin .lss) (k1.getD 0 .und) (.int .i64 3)) fun o1 =>
pcond (
LP [13] [11, 12] (fun p1 q1 r1 s1 =>
VL (vixS 1 (q1.getD 0 .und) (q1.getD 1 .und)) fun t1 =>
pld r1 none (fun u1 v1 =>
VL (vlenS u1) fun w1 =>
VL (lift2 (abin .lss) (p1.getD 0 .und) w1) fun y1 =>
pcond (
VL (vixS 1 (q1.getD 0 .und) (q1.getD 1 .und)) fun z1 =>
pld v1 none (fun a2 b2 =>
VL (vixS 1 a2 (p1.getD 0 .und)) fun c2 =>
pld b2 none (fun d2 e2 =>
VL (lift2 (abin .neq) d2 (.int .i64 0)) fun f2 =>
pcond (
Rt e2 (.tup [(.bool false), (.int .i64 0)])) (
VL (lift2 (abin .add) (p1.getD 0 .und) (.int .i64 1)) fun g2 =>
s1 [g2] [(q1.getD 0 .und), (q1.getD 1 .und)] e2) f2) c2) z1) (
VL (lift2 (abin .add) (q1.getD 1 .und) (.int .i64 1)) fun h2 =>
n1 [h2] [(q1.getD 0 .und)] v1) y1) t1) [(.int .i64 0)] [(l1.getD 0 .und), (k1.getD 0 .und)] m1) (
Rt m1 (.tup [(.bool true), (.int .i64 0)])) o1) [(.int .i64 0)] [i1] j1) [g1, x1, x2, x3]) (.ptr 68 0)) f1) [b1, x1, x2, x3]) (.ptr 68 0)
theorem spec_IsUnbranched_f {x0 x1 x2 x3 : V} : Prt Tryz.prog 9 [x0, x1, x2, x3] (spec_IsUnbranched_F x0 x1 x2 x3) := pfun (fn := Tryz.f9) (m := [.s, .s, .s, .s, .s, .s, .s, .s, .l [12] [11], .s, .s, .s, .s, .l [13] [11, 12], .s, .s, .s, .s, .s, .s]) (c := 4 ≤ 48) rfl (fun h0 Rt => by kernel_rfl) (by decide)

def impl_SumsOfVoltages_F (x0 x1 x2 x3 : V) (hi : Hp) (Rt : Hp → V → Prop) : Prop :=
pbox hi 68 27 (cellsV x0) fun a1 =>
pld a1 (some 33) (fun b1 c1 =>
pcal Tryz.prog 23 79 c1 (fun d1 e1 =>
VL (lift2 (abin .neq) d1 (.int .i64 0)) fun f1 =>
pcond (
Rt e1 (.tup [.nils, d1])) (
pld e1 (some 33) (fun g1 h1 =>
pcal Tryz.prog 27 87 h1 (fun i1 j1 =>
Rt j1 (.tup [i1, (.int .i64 0)])) [g1, x1, x2, x3]) (.ptr 68 0)) f1) [b1, x1, x2, x3]) (.ptr 68 0)
theorem impl_SumsOfVoltages_f {x0 x1 x2 x3 : V} : Prt Tryz.prog 10 [x0, x1, x2, x3] (impl_SumsOfVoltages_F x0 x1 x2 x3) := pfun (fn := Tryz.f10) (m := [.s, .s, .s, .s, .s, .s]) (c := 4 ≤ 24) rfl (fun h0 Rt => by kernel_rfl) (by decide)

def spec_SumsOfVoltages_F (x0 x1 x2 x3 : V) (hi : Hp) (Rt : Hp → V → Prop) : Prop :=
pbox hi 68 27 (cellsV x0) fun a1 =>
pld a1 (some 33) (fun b1 c1 =>
pcal Tryz.prog 25 79 c1 (fun d1 e1 =>
VL (lift2 (abin .neq) d1 (.int .i64 0)) fun f1 =>
pcond (
Rt e1 (.tup [.nils, d1])) (
pld e1 (some 33) (fun g1 h1 =>
pcal Tryz.prog 28 87 h1 (fun i1 j1 =>
Rt j1 (.tup [i1, (.int .i64 0)])) [g1, x1, x2, x3]) (.ptr 68 0)) f1) [b1, x1, x2, x3]) (.ptr 68 0)
theorem spec_SumsOfVoltages_f {x0 x1 x2 x3 : V} : Prt Tryz.prog 11 [x0, x1, x2, x3] (spec_SumsOfVoltages_F x0 x1 x2 x3) := pfun (fn := Tryz.f11) (m := [.s, .s, .s, .s, .s, .s]) (c := 4 ≤ 24) rfl (fun h0 Rt => by kernel_rfl) (by decide)

def laws_rows5_F (x0 x1 : V) (hi : Hp) (Rt : Hp → V → Prop) : Prop :=
VL (vlenS x0) fun a1 =>
VL (vlenS x1) fun b1 =>
VL (lift2 (abin .neq) a1 b1) fun c1 =>
pcond (
Rt hi (.bool false)) (
LP [5] [0, 1] (fun d1 e1 f1 g1 =>
VL (vlenS (e1.getD 0 .und)) fun h1 =>
VL (lift2 (abin .lss) (d1.getD 0 .und) h1) fun i1 =>
pcond (
VL (vixS 1 (e1.getD 0 .und) (d1.getD 0 .und)) fun j1 =>
pld f1 none (fun k1 l1 =>
VL (vixS 1 (e1.getD 1 .und) (d1.getD 0 .und)) fun m1 =>
pld l1 none (fun n1 o1 =>
pcal Tryz.prog 21 89 o1 (fun p1 q1 =>
VL (lift1 (aun .not) p1) fun r1 =>
pcond (
Rt q1 (.bool false)) (
VL (lift2 (abin .add) (d1.getD 0 .und) (.int .i64 1)) fun s1 =>
g1 [s1] [(e1.getD 0 .und), (e1.getD 1 .und)] q1) r1) [k1, n1]) m1) j1) (
Rt f1 (.bool true)) i1) [(.int .i64 0)] [x0, x1] hi) c1
theorem laws_rows5_f {x0 x1 : V} : Prt Tryz.prog 12 [x0, x1] (laws_rows5_F x0 x1) := pfun (fn := Tryz.f12) (m := [.s, .s, .s, .s, .s, .s, .l [5] [0, 1], .s, .s, .s, .s, .s, .s]) (c := 2 ≤ 27) rfl (fun h0 Rt => by kernel_rfl) (by decide)

def impl_EulerOf_F (x0 : V) (hi : Hp) (Rt : Hp → V → Prop) : Prop :=
pbox hi 65 27 (cellsV x0) fun a1 =>
pld a1 (some 33) (fun b1 c1 =>
pcal Tryz.prog 24 69 c1 (fun d1 e1 =>
VL (lift1 (aun .not) d1) fun f1 =>
pcond (
Rt e1 (.tup [(.int .i64 0), (.int .i64 1)])) (
pld e1 (some 33) (fun g1 h1 =>
pld h1 none (fun i1 j1 =>
pcalp Tryz.prog 30 72 j1 (fun k1 l1 =>
pcal Tryz.prog 29 75 l1 (fun m1 n1 =>
Rt n1 (.tup [m1, (.int .i64 0)])) [k1, i1]) [g1]) (.ptr 65 0)) (.ptr 65 0)) f1) [b1]) (.ptr 65 0)
theorem impl_EulerOf_f {x0 : V} : Prt Tryz.prog 13 [x0] (impl_EulerOf_F x0) := pfun (fn := Tryz.f13) (m := [.s, .s, .s, .s, .s]) (c := 1 ≤ 12) rfl (fun h0 Rt => by kernel_rfl) (by decide)

def impl_QuotientByBlock_F (x0 x1 : V) (hi : Hp) (Rt : Hp → V → Prop) : Prop :=
pbox hi 66 27 (cellsV x0) fun a1 =>
palloc a1 68 27 ([(.int .i64 0)] ++ (vi .u8 (List.replicate 32 0))) fun b1 =>
pld b1 (some 33) (fun c1 d1 =>
pcal Tryz.prog 24 88 d1 (fun e1 f1 =>
VL (lift1 (aun .not) e1) fun g1 =>
pcond (
VL (vbld (vfill ([(.int .i64 0)] ++ (vi .u8 (List.replicate 32 0))) [])) fun h1 =>
pst f1 33 (cellsV h1) (fun i1 j1 =>
VL (pcellV j1 (some 33) (.ptr 68 0)) fun k1 =>
Rt j1 (.tup [k1, (.int .i64 1)])) (.ptr 68 0)) (
VL (vlenS x1) fun l1 =>
VL (lift2 (abin .eql) l1 (.int .i64 0)) fun m1 =>
pgk false f1 (fun n1 o1 => pld f1 (some 33) (fun p1 q1 =>
o1 p1 q1) (.ptr 66 0)) (fun r1 s1 t1 =>
pgk false t1 (fun u1 v1 => v1 x1 t1) (fun w1 y1 z1 =>
pgk false z1 (fun a2 b2 => pcal Tryz.prog 31 97 z1 (fun c2 d2 =>
b2 c2 d2) [s1, y1]) (fun e2 f2 g2 =>
pgk false g2 (fun h2 i2 => VL (lift1 (aun .not) f2) fun j2 =>
i2 j2 g2) (fun k2 l2 m2 =>
VL (vpick k2 (.bool true) l2) fun n2 =>
pcond (
VL (vbld (vfill ([(.int .i64 0)] ++ (vi .u8 (List.replicate 32 0))) [])) fun o2 =>
pst m2 33 (cellsV o2) (fun p2 q2 =>
VL (pcellV q2 (some 33) (.ptr 68 0)) fun r2 =>
Rt q2 (.tup [r2, (.int .i64 2)])) (.ptr 68 0)) (
VL (vlenS x1) fun s2 =>
LP [6, 39] [1, 2, 4, 37, 38] (fun t2 u2 v2 w2 =>
VL (lift2 (abin .lss) (t2.getD 1 .und) (u2.getD 4 .und)) fun y2 =>
pcond (
VL (vixS 1 (u2.getD 3 .und) (t2.getD 1 .und)) fun z2 =>
pld v2 none (fun a3 b3 =>
VL (lift2 (abin .gtr) (t2.getD 1 .und) (.int .i64 0)) fun c3 =>
pgk true b3 (fun d3 e3 => e3 a3 b3) (fun f3 g3 h3 =>
pgk true h3 (fun i3 j3 => j3 (u2.getD 0 .und) h3) (fun k3 l3 m3 =>
pgk true m3 (fun n3 o3 => o3 (t2.getD 1 .und) m3) (fun p3 q3 r3 =>
pgk true r3 (fun s3 t3 => VL (lift2 (abin .sub) q3 (.int .i64 1)) fun u3 =>
t3 u3 r3) (fun v3 w3 y3 =>
pgk true y3 (fun z3 a4 => VL (vixS 1 l3 w3) fun b4 =>
a4 b4 y3) (fun c4 d4 e4 =>
pgk true e4 (fun f4 g4 => pld e4 none (fun h4 i4 =>
g4 h4 i4) d4) (fun j4 k4 l4 =>
pgk true l4 (fun m4 n4 => VL (lift2 (abin .leq) g3 k4) fun o4 =>
n4 o4 l4) (fun p4 q4 r4 =>
VL (vpick p4 q4 (.bool false)) fun s4 =>
pcond (
VL (vbld (vfill ([(.int .i64 0)] ++ (vi .u8 (List.replicate 32 0))) [])) fun t4 =>
pst r4 33 (cellsV t4) (fun u4 v4 =>
VL (pcellV v4 (some 33) (u2.getD 2 .und)) fun w4 =>
Rt v4 (.tup [w4, (.int .i64 2)])) (u2.getD 2 .und)) (
VL (lift2 (abin .shl) (.int .u32 1) a3) fun y4 =>
VL (lift2 (abin .or) (t2.getD 0 .und) y4) fun z4 =>
VL (lift2 (abin .add) (t2.getD 1 .und) (.int .i64 1)) fun a5 =>
w2 [z4, a5] [(u2.getD 0 .und), (u2.getD 1 .und), (u2.getD 2 .und), (u2.getD 3 .und), (u2.getD 4 .und)] r4) s4) j4) c4) v3) p3) k3) f3) c3) z2) (
pmks v2 126 60 1 1 (fun b5 =>
LP [9, 10] [2, 4] (fun c5 d5 e5 f5 =>
VL (vlenS (c5.getD 0 .und)) fun g5 =>
VL (lift2 (abin .lss) (c5.getD 1 .und) g5) fun h5 =>
pcond (
VL (vfa 1 (d5.getD 0 .und)) fun i5 =>
pld e5 (some 16) (fun j5 k5 =>
VL (vfa 17 (d5.getD 0 .und)) fun l5 =>
pld k5 (some 16) (fun m5 n5 =>
pmks n5 137 25 32 2 (fun o5 =>
VL (vlenS (.rf 137 0 2)) fun p5 =>
LP [9, 75] [2, 4, 10, 73, 74] (fun q5 r5 s5 t5 =>
VL (lift2 (abin .lss) (q5.getD 1 .und) (r5.getD 4 .und)) fun u5 =>
pcond (
JN (fun v5 =>
VL (vixS 16 (r5.getD 3 .und) (q5.getD 1 .und)) fun w5 =>
pld s5 (some 16) (fun y5 z5 =>
palloc z5 76 25 (vi .u8 (List.replicate 16 0)) fun a6 =>
pst a6 16 (cellsV y5) (fun b6 c6 =>
VL (vfa 0 (r5.getD 0 .und)) fun d6 =>
pld c6 none (fun e6 f6 =>
LP [13, 81] [2, 4, 9, 10, 12, 73, 74, 75, 80] (fun g6 h6 i6 j6 =>
VL (lift2 (abin .lss) (g6.getD 1 .und) (h6.getD 8 .und)) fun k6 =>
pcond (
JN (fun l6 =>
VL (vixS 1 (h6.getD 2 .und) (h6.getD 3 .und)) fun m6 =>
pld i6 none (fun n6 o6 =>
VL (lift2 (abin .shr) n6 (g6.getD 1 .und)) fun p6 =>
VL (lift2 (abin .and) p6 (.int .u32 1)) fun q6 =>
VL (lift2 (abin .eql) q6 (.int .u32 1)) fun r6 =>
pcond (
VL (vixA 16 1 (h6.getD 4 .und) (g6.getD 1 .und)) fun s6 =>
pld o6 none (fun t6 u6 =>
VL (lift2 (abin .shl) (.int .u32 1) t6) fun v6 =>
VL (lift2 (abin .or) (g6.getD 0 .und) v6) fun w6 =>
l6 [(h6.getD 0 .und), (h6.getD 1 .und), (h6.getD 2 .und), (h6.getD 3 .und), (h6.getD 4 .und), w6, (h6.getD 5 .und), (h6.getD 6 .und), (h6.getD 7 .und), (h6.getD 8 .und), (g6.getD 1 .und)] u6) s6) (
l6 [(h6.getD 0 .und), (h6.getD 1 .und), (h6.getD 2 .und), (h6.getD 3 .und), (h6.getD 4 .und), (g6.getD 0 .und), (h6.getD 5 .und), (h6.getD 6 .und), (h6.getD 7 .und), (h6.getD 8 .und), (g6.getD 1 .und)] o6) r6) m6) fun y6 z6 =>
VL (lift2 (abin .add) (y6.getD 10 .und) (.int .i64 1)) fun a7 =>
j6 [(y6.getD 5 .und), a7] [(y6.getD 0 .und), (y6.getD 1 .und), (y6.getD 2 .und), (y6.getD 3 .und), (y6.getD 4 .und), (y6.getD 6 .und), (y6.getD 7 .und), (y6.getD 8 .und), (y6.getD 9 .und)] z6) (
pcal Tryz.prog 32 165 i6 (fun b7 c7 =>
pcond (
v5 [(h6.getD 0 .und), (h6.getD 1 .und), (h6.getD 2 .und), (h6.getD 3 .und), (h6.getD 5 .und), (h6.getD 6 .und), (h6.getD 7 .und)] c7) (
VL (vlenS (h6.getD 2 .und)) fun d7 =>
LP [104] [2, 4, 9, 10, 13, 73, 74, 75, 102, 103] (fun e7 f7 g7 h7 =>
VL (lift2 (abin .lss) (e7.getD 0 .und) (f7.getD 9 .und)) fun i7 =>
pcond (
VL (vixS 1 (f7.getD 8 .und) (e7.getD 0 .und)) fun j7 =>
pld g7 none (fun k7 l7 =>
VL (lift2 (abin .and) k7 (f7.getD 4 .und)) fun m7 =>
VL (lift2 (abin .neq) m7 (.int .u32 0)) fun n7 =>
pcond (
VL (vbld (vfill ([(.int .i64 0)] ++ (vi .u8 (List.replicate 32 0))) [])) fun o7 =>
pst l7 33 (cellsV o7) (fun p7 q7 =>
VL (pcellV q7 (some 33) (f7.getD 1 .und)) fun r7 =>
Rt q7 (.tup [r7, (.int .i64 5)])) (f7.getD 1 .und)) (
VL (lift2 (abin .add) (e7.getD 0 .und) (.int .i64 1)) fun s7 =>
h7 [s7] [(f7.getD 0 .und), (f7.getD 1 .und), (f7.getD 2 .und), (f7.getD 3 .und), (f7.getD 4 .und), (f7.getD 5 .und), (f7.getD 6 .und), (f7.getD 7 .und), (f7.getD 8 .und), (f7.getD 9 .und)] l7) n7) j7) (
pmks g7 180 60 1 1 (fun t7 =>
papp t7 (fun u7 v7 => papV 60 1 4 181 t7 (fun w7 y7 =>
v5 [(f7.getD 0 .und), (f7.getD 1 .und), w7, (f7.getD 3 .und), (f7.getD 5 .und), (f7.getD 6 .und), (f7.getD 7 .und)] y7) u7 v7 (f7.getD 2 .und)) (pavs t7 (f7.getD 2 .und) []) (preadS 1 t7 (.rf 180 0 1))) (vfill [(.int .u32 0)] [(0, 1, (f7.getD 4 .und))])) i7) [(.int .i64 0)] [(h6.getD 0 .und), (h6.getD 1 .und), (h6.getD 2 .und), (h6.getD 3 .und), (g6.getD 0 .und), (h6.getD 5 .und), (h6.getD 6 .und), (h6.getD 7 .und), (h6.getD 2 .und), d7] c7) b7) [(h6.getD 2 .und), (g6.getD 0 .und)]) k6) [(.int .u32 0), (.int .i64 0)] [(r5.getD 0 .und), (r5.getD 1 .und), (q5.getD 0 .und), (r5.getD 2 .und), (.ptr 76 0), (r5.getD 3 .und), (r5.getD 4 .und), (q5.getD 1 .und), e6] f6) d6) (.ptr 76 0)) w5) fun z7 a8 =>
VL (lift2 (abin .add) (z7.getD 6 .und) (.int .i64 1)) fun b8 =>
t5 [(z7.getD 2 .und), b8] [(z7.getD 0 .und), (z7.getD 1 .und), (z7.getD 3 .und), (z7.getD 4 .und), (z7.getD 5 .und)] a8) (
VL (lift2 (abin .add) (r5.getD 2 .und) (.int .i64 1)) fun c8 =>
f5 [(q5.getD 0 .und), c8] [(r5.getD 0 .und), (r5.getD 1 .und)] s5) u5) [(c5.getD 0 .und), (.int .i64 0)] [(d5.getD 0 .und), (d5.getD 1 .und), (c5.getD 1 .und), (.rf 137 0 2), p5] o5) (vfill (vi .u8 (List.replicate 32 0)) [(0, 16, j5), (16, 16, m5)])) l5) i5) (
pmks e5 183 2 1 1 (fun d8 =>
VL (vfa 0 (d5.getD 0 .und)) fun e8 =>
pld d8 none (fun f8 g8 =>
pcal Tryz.prog 33 186 g8 (fun h8 i8 =>
VL (vfa 0 (d5.getD 0 .und)) fun j8 =>
pld i8 none (fun k8 l8 =>
LP [18, 125] [2, 4, 9, 17, 124] (fun m8 n8 o8 p8 =>
VL (lift2 (abin .lss) (m8.getD 1 .und) (n8.getD 4 .und)) fun q8 =>
pcond (
JN (fun r8 =>
VL (vixS 1 (n8.getD 3 .und) (m8.getD 1 .und)) fun s8 =>
pld o8 none (fun t8 u8 =>
VL (lift2 (abin .geq) t8 (.int .i64 0)) fun v8 =>
pcond (
r8 [(n8.getD 0 .und), (n8.getD 1 .und), (n8.getD 2 .und), (n8.getD 3 .und), (m8.getD 0 .und), (n8.getD 4 .und), (m8.getD 1 .und)] u8) (
VL (vlenS (n8.getD 2 .und)) fun w8 =>
LP [135] [2, 4, 9, 17, 18, 19, 124, 125, 133, 134] (fun y8 z8 a9 b9 =>
VL (lift2 (abin .lss) (y8.getD 0 .und) (z8.getD 9 .und)) fun c9 =>
pcond (
VL (vixS 1 (z8.getD 8 .und) (y8.getD 0 .und)) fun d9 =>
pld a9 none (fun e9 f9 =>
VL (vfa 0 (z8.getD 0 .und)) fun g9 =>
pld f9 none (fun h9 i9 =>
LP [141] [2, 4, 9, 17, 18, 19, 21, 124, 125, 133, 134, 135, 140] (fun j9 k9 l9 m9 =>
VL (lift2 (abin .lss) (j9.getD 0 .und) (k9.getD 12 .und)) fun n9 =>
pcond (
JN (fun o9 =>
VL (lift2 (abin .shr) (k9.getD 6 .und) (k9.getD 5 .und)) fun p9 =>
VL (lift2 (abin .and) p9 (.int .u32 1)) fun q9 =>
VL (lift2 (abin .eql) q9 (.int .u32 1)) fun r9 =>
pgk true l9 (fun s9 t9 => t9 (k9.getD 6 .und) l9) (fun u9 v9 w9 =>
pgk true w9 (fun y9 z9 => z9 (j9.getD 0 .und) w9) (fun a10 b10 c10 =>
pgk true c10 (fun d10 e10 => VL (lift2 (abin .shr) v9 b10) fun f10 =>
e10 f10 c10) (fun g10 h10 i10 =>
pgk true i10 (fun j10 k10 => VL (lift2 (abin .and) h10 (.int .u32 1)) fun l10 =>
k10 l10 i10) (fun m10 n10 o10 =>
pgk true o10 (fun p10 q10 => VL (lift2 (abin .eql) n10 (.int .u32 1)) fun r10 =>
q10 r10 o10) (fun s10 t10 u10 =>
VL (vpick s10 t10 (.bool false)) fun v10 =>
pcond (
VL (vixS 1 (k9.getD 3 .und) (j9.getD 0 .und)) fun w10 =>
pst u10 1 (cellsV (k9.getD 4 .und)) (fun y10 z10 =>
o9 [(k9.getD 0 .und), (k9.getD 1 .und), (k9.getD 2 .und), (k9.getD 3 .und), (k9.getD 4 .und), (k9.getD 5 .und), (k9.getD 6 .und), (k9.getD 7 .und), (k9.getD 8 .und), (k9.getD 9 .und), (k9.getD 10 .und), (k9.getD 11 .und), (k9.getD 12 .und), (j9.getD 0 .und)] z10) w10) (
o9 [(k9.getD 0 .und), (k9.getD 1 .und), (k9.getD 2 .und), (k9.getD 3 .und), (k9.getD 4 .und), (k9.getD 5 .und), (k9.getD 6 .und), (k9.getD 7 .und), (k9.getD 8 .und), (k9.getD 9 .und), (k9.getD 10 .und), (k9.getD 11 .und), (k9.getD 12 .und), (j9.getD 0 .und)] u10) v10) m10) g10) a10) u9) r9) fun a11 b11 =>
VL (lift2 (abin .add) (a11.getD 13 .und) (.int .i64 1)) fun c11 =>
m9 [c11] [(a11.getD 0 .und), (a11.getD 1 .und), (a11.getD 2 .und), (a11.getD 3 .und), (a11.getD 4 .und), (a11.getD 5 .und), (a11.getD 6 .und), (a11.getD 7 .und), (a11.getD 8 .und), (a11.getD 9 .und), (a11.getD 10 .und), (a11.getD 11 .und), (a11.getD 12 .und)] b11) (
VL (lift2 (abin .add) (k9.getD 11 .und) (.int .i64 1)) fun d11 =>
b9 [d11] [(k9.getD 0 .und), (k9.getD 1 .und), (k9.getD 2 .und), (k9.getD 3 .und), (k9.getD 4 .und), (k9.getD 5 .und), (k9.getD 7 .und), (k9.getD 8 .und), (k9.getD 9 .und), (k9.getD 10 .und)] l9) n9) [(.int .i64 0)] [(z8.getD 0 .und), (z8.getD 1 .und), (z8.getD 2 .und), (z8.getD 3 .und), (z8.getD 4 .und), (z8.getD 5 .und), e9, (z8.getD 6 .und), (z8.getD 7 .und), (z8.getD 8 .und), (z8.getD 9 .und), (y8.getD 0 .und), h9] i9) g9) d9) (
VL (lift2 (abin .add) (z8.getD 4 .und) (.int .i64 1)) fun e11 =>
r8 [(z8.getD 0 .und), (z8.getD 1 .und), (z8.getD 2 .und), (z8.getD 3 .und), e11, (z8.getD 6 .und), (z8.getD 7 .und)] a9) c9) [(.int .i64 0)] [(n8.getD 0 .und), (n8.getD 1 .und), (n8.getD 2 .und), (n8.getD 3 .und), (m8.getD 0 .und), (m8.getD 1 .und), (n8.getD 4 .und), (m8.getD 1 .und), (n8.getD 2 .und), w8] u8) v8) s8) fun f11 g11 =>
VL (lift2 (abin .add) (f11.getD 6 .und) (.int .i64 1)) fun h11 =>
p8 [(f11.getD 4 .und), h11] [(f11.getD 0 .und), (f11.getD 1 .und), (f11.getD 2 .und), (f11.getD 3 .und), (f11.getD 5 .und)] g11) (
pld o8 (some 33) (fun i11 j11 =>
pcal Tryz.prog 34 232 j11 (fun k11 l11 =>
pst l11 33 (cellsV k11) (fun m11 n11 =>
VL (pcellV n11 (some 33) (n8.getD 1 .und)) fun o11 =>
Rt n11 (.tup [o11, (.int .i64 0)])) (n8.getD 1 .und)) [i11, (n8.getD 3 .und), (m8.getD 0 .und)]) (n8.getD 0 .und)) q8) [(.int .i64 0), (.int .i64 0)] [(d5.getD 0 .und), (d5.getD 1 .und), (c5.getD 0 .und), h8, k8] l8) j8) [(.rf 183 0 1), f8]) e8) (vfill [(.int .i64 0)] [(0, 1, (.int .i64 (-1)))])) h5) [(.rf 126 0 1), (.int .i64 0)] [(u2.getD 1 .und), (u2.getD 2 .und)] b5) (vfill [(.int .u32 0)] [(0, 1, (t2.getD 0 .und))])) y2) [(.int .u32 0), (.int .i64 0)] [x1, (.ptr 66 0), (.ptr 68 0), x1, s2] m2) n2) e2) w1) r1) m1) g1) [c1]) (.ptr 66 0)
theorem impl_QuotientByBlock_f {x0 x1 : V} : Prt Tryz.prog 14 [x0, x1] (impl_QuotientByBlock_F x0 x1) := pfun (fn := Tryz.f14) (m := [.s, .s, .s, .s, .s, .s, .s, .s, .s, .s, .l [6, 39] [1, 2, 4, 37, 38], .s, .s, .s, .s, .s, .s, .s, .s, .s, .s, .l [9, 10] [2, 4], .s, .s, .s, .s, .l [9, 75] [2, 4, 10, 73, 74], .s, .s, .j [2, 4, 9, 10, 73, 74, 75], .s, .s, .s, .s, .l [13, 81] [2, 4, 9, 10, 12, 73, 74, 75, 80], .s, .s, .j [2, 4, 9, 10, 12, 13, 73, 74, 75, 80, 81], .s, .s, .s, .s, .s, .s, .l [104] [2, 4, 9, 10, 13, 73, 74, 75, 102, 103], .s, .s, .s, .s, .s, .s, .s, .s, .s, .s, .l [18, 125] [2, 4, 9, 17, 124], .s, .s, .j [2, 4, 9, 17, 18, 124, 125], .s, .s, .s, .s, .s, .l [135] [2, 4, 9, 17, 18, 19, 124, 125, 133, 134], .s, .s, .s, .s, .s, .l [141] [2, 4, 9, 17, 18, 19, 21, 124, 125, 133, 134, 135, 140], .s, .s, .j [2, 4, 9, 17, 18, 19, 21, 124, 125, 133, 134, 135, 140, 141], .s, .s, .s]) (c := 2 ≤ 169) rfl (fun h0 Rt => by kernel_rfl) (by decide)

def laws_roll_F (x0 x1 : V) (hi : Hp) (Rt : Hp → V → Prop) : Prop :=
VL (lift2 (abin .mul) x1 (.int .u64 6257)) fun a1 =>
VL (vlenS x0) fun b1 =>
VL (lift1 (acvi .u64) b1) fun c1 =>
VL (lift2 (abin .add) a1 c1) fun d1 =>
VL (vbld (vfill [.nils, (.int .i64 0), (.int .u64 0)] [(0, 1, x0), (2, 1, d1)])) fun e1 =>
pbox hi 79 67 (cellsV e1) fun f1 =>
LP [6] [0, 5] (fun g1 h1 i1 j1 =>
VL (vlenS (h1.getD 0 .und)) fun k1 =>
VL (lift2 (abin .lss) (g1.getD 0 .und) k1) fun l1 =>
pcond (
VL (vfa 0 (h1.getD 1 .und)) fun m1 =>
VL (vfa 2 m1) fun n1 =>
pld i1 none (fun o1 p1 =>
VL (lift2 (abin .mul) o1 (.int .u64 1099511628211)) fun q1 =>
VL (vixS 1 (h1.getD 0 .und) (g1.getD 0 .und)) fun r1 =>
pld p1 none (fun s1 t1 =>
VL (lift1 (acvi .u64) s1) fun u1 =>
VL (lift2 (abin .add) q1 u1) fun v1 =>
VL (lift2 (abin .add) v1 (.int .u64 5)) fun w1 =>
VL (vfa 0 (h1.getD 1 .und)) fun y1 =>
VL (vfa 2 y1) fun z1 =>
pst t1 1 (cellsV w1) (fun a2 b2 =>
VL (lift2 (abin .add) (g1.getD 0 .und) (.int .i64 1)) fun c2 =>
j1 [c2] [(h1.getD 0 .und), (h1.getD 1 .und)] b2) z1) r1) n1) (
Rt i1 (h1.getD 1 .und)) l1) [(.int .i64 0)] [x0, (.ptr 79 0)] f1
theorem laws_roll_f {x0 x1 : V} : Prt Tryz.prog 15 [x0, x1] (laws_roll_F x0 x1) := pfun (fn := Tryz.f15) (m := [.s, .s, .s, .s, .l [6] [0, 5], .s, .s, .s, .s]) (c := 2 ≤ 38) rfl (fun h0 Rt => by kernel_rfl) (by decide)

def laws_dice_below_F (x0 x1 : V) (hi : Hp) (Rt : Hp → V → Prop) : Prop :=
VL (lift2 (abin .lss) x1 (.int .i64 1)) fun a1 =>
pcond (
Rt hi (.int .i64 0)) (
VL (vfa 0 x0) fun b1 =>
VL (vfa 2 b1) fun c1 =>
pld hi none (fun d1 e1 =>
VL (lift2 (abin .mul) d1 (.int .u64 6364136223846793005)) fun f1 =>
VL (lift2 (abin .add) f1 (.int .u64 1442695040888963407)) fun g1 =>
VL (vfa 0 x0) fun h1 =>
VL (vfa 2 h1) fun i1 =>
pst e1 1 (cellsV g1) (fun j1 k1 =>
VL (vfa 0 x0) fun l1 =>
VL (vfa 2 l1) fun m1 =>
pld k1 none (fun n1 o1 =>
VL (lift2 (abin .shr) n1 (.int .u64 33)) fun p1 =>
VL (lift2 (abin .and) p1 (.int .u64 16777215)) fun q1 =>
VL (lift1 (acvi .i64) q1) fun r1 =>
JN (fun s1 =>
VL (vfa 0 x0) fun t1 =>
VL (vfa 1 t1) fun u1 =>
pld o1 none (fun v1 w1 =>
VL (vfa 0 x0) fun y1 =>
VL (vfa 0 y1) fun z1 =>
pld w1 none (fun a2 b2 =>
VL (vlenS a2) fun c2 =>
VL (lift2 (abin .lss) v1 c2) fun d2 =>
pcond (
VL (vfa 0 x0) fun e2 =>
VL (vfa 0 e2) fun f2 =>
pld b2 none (fun g2 h2 =>
VL (vfa 0 x0) fun i2 =>
VL (vfa 1 i2) fun j2 =>
pld h2 none (fun k2 l2 =>
VL (vixS 1 g2 k2) fun m2 =>
pld l2 none (fun n2 o2 =>
VL (lift1 (acvi .i64) n2) fun p2 =>
VL (lift2 (abin .add) r1 p2) fun q2 =>
VL (vfa 0 x0) fun r2 =>
VL (vfa 1 r2) fun s2 =>
pld o2 none (fun t2 u2 =>
VL (lift2 (abin .add) t2 (.int .i64 1)) fun v2 =>
VL (vfa 0 x0) fun w2 =>
VL (vfa 1 w2) fun y2 =>
pst u2 1 (cellsV v2) (fun z2 a3 =>
s1 [x1, q2] a3) y2) s2) m2) j2) f2) (
s1 [x1, r1] b2) d2) z1) u1) fun b3 c3 =>
VL (lift2 (abin .rem) (b3.getD 1 .und) (b3.getD 0 .und)) fun d3 =>
Rt c3 d3) m1) i1) c1) a1
theorem laws_dice_below_f {x0 x1 : V} : Prt Tryz.prog 16 [x0, x1] (laws_dice_below_F x0 x1) := pfun (fn := Tryz.f16) (m := [.s, .s, .s, .s, .s, .s, .j [1, 5], .s, .s, .s]) (c := 2 ≤ 58) rfl (fun h0 Rt => by kernel_rfl) (by decide)

def impl_WalkOf_F (x0 x1 x2 x3 x4 x5 x6 : V) (hi : Hp) (Rt : Hp → V → Prop) : Prop :=
pbox hi 71 27 (cellsV x0) fun a1 =>
pbox a1 72 2 (cellsV x1) fun b1 =>
pbox b1 75 2 (cellsV x4) fun c1 =>
pbox c1 76 2 (cellsV x5) fun d1 =>
pld d1 (some 33) (fun e1 f1 =>
pld f1 none (fun g1 h1 =>
pcal Tryz.prog 23 88 h1 (fun i1 j1 =>
VL (lift2 (abin .neq) i1 (.int .i64 0)) fun k1 =>
pcond (
Rt j1 (.tup [.nils, i1])) (
pld j1 (some 33) (fun l1 m1 =>
pld m1 none (fun n1 o1 =>
pmks o1 95 2 1 1 (fun p1 =>
pcal Tryz.prog 31 96 p1 (fun q1 r1 =>
VL (lift1 (aun .not) q1) fun s1 =>
pgk false r1 (fun t1 u1 => pld r1 none (fun v1 w1 =>
u1 v1 w1) (.ptr 76 0)) (fun y1 z1 a2 =>
pgk false a2 (fun b2 c2 => VL (lift2 (abin .lss) z1 (.int .i64 0)) fun d2 =>
c2 d2 a2) (fun e2 f2 g2 =>
VL (vpick e2 (.bool true) f2) fun h2 =>
pgk false g2 (fun i2 j2 => pld g2 none (fun k2 l2 =>
j2 k2 l2) (.ptr 76 0)) (fun m2 n2 o2 =>
pgk false o2 (fun p2 q2 => pld o2 none (fun r2 s2 =>
q2 r2 s2) (.ptr 72 0)) (fun t2 u2 v2 =>
pgk false v2 (fun w2 y2 => VL (lift2 (abin .geq) n2 u2) fun z2 =>
y2 z2 v2) (fun a3 b3 c3 =>
VL (vpick a3 (.bool true) b3) fun d3 =>
pcond (
Rt c3 (.tup [.nils, (.int .i64 2)])) (
pcal Tryz.prog 35 109 c3 (fun e3 f3 =>
VL (lift1 (aun .not) e3) fun g3 =>
pcond (
Rt f3 (.tup [.nils, (.int .i64 6)])) (
VL (vmkf (.func 36) [] [(.ptr 76 0), (.ptr 75 0), (.ptr 72 0)]) fun h3 =>
VL (vmkf (.func 37) [] [(.ptr 71 0), (.ptr 75 0), (.ptr 76 0), (.ptr 72 0)]) fun i3 =>
VL (vlenT x6) fun j3 =>
LP [51] [2, 3, 6, 7, 11, 12, 17, 18, 50] (fun k3 l3 m3 n3 =>
VL (lift2 (abin .lss) (k3.getD 0 .und) (l3.getD 8 .und)) fun o3 =>
pcond (
JN (fun p3 =>
VL (vixT (l3.getD 2 .und) (k3.getD 0 .und)) fun q3 =>
VL (lift2 (abin .eql) q3 (.int .u8 98)) fun r3 =>
pcond (
VL (vfa 1 (l3.getD 3 .und)) fun s3 =>
pld m3 (some 16) (fun t3 u3 =>
pcallv Tryz.prog [t3, (l3.getD 0 .und)] 127 u3 (fun v3 w3 =>
p3 [(l3.getD 0 .und), (l3.getD 1 .und), (l3.getD 2 .und), (l3.getD 3 .und), (l3.getD 4 .und), (l3.getD 5 .und), (l3.getD 6 .und), (l3.getD 7 .und), (l3.getD 8 .und), (k3.getD 0 .und)] w3) (l3.getD 6 .und)) s3) (
VL (lift2 (abin .eql) q3 (.int .u8 119)) fun y3 =>
pcond (
VL (vfa 17 (l3.getD 3 .und)) fun z3 =>
pld m3 (some 16) (fun a4 b4 =>
pcallv Tryz.prog [a4, (l3.getD 1 .und)] 134 b4 (fun c4 d4 =>
p3 [(l3.getD 0 .und), (l3.getD 1 .und), (l3.getD 2 .und), (l3.getD 3 .und), (l3.getD 4 .und), (l3.getD 5 .und), (l3.getD 6 .und), (l3.getD 7 .und), (l3.getD 8 .und), (k3.getD 0 .und)] d4) (l3.getD 6 .und)) z3) (
VL (lift2 (abin .eql) q3 (.int .u8 102)) fun e4 =>
pcond (
VL (vfa 17 (l3.getD 3 .und)) fun f4 =>
pld m3 (some 16) (fun g4 h4 =>
pcallv Tryz.prog [g4, (l3.getD 1 .und)] 141 h4 (fun i4 j4 =>
VL (vfa 1 (l3.getD 3 .und)) fun k4 =>
pld j4 (some 16) (fun l4 m4 =>
pcallv Tryz.prog [l4, (l3.getD 0 .und)] 146 m4 (fun n4 o4 =>
p3 [(l3.getD 0 .und), (l3.getD 1 .und), (l3.getD 2 .und), (l3.getD 3 .und), (l3.getD 4 .und), (l3.getD 5 .und), (l3.getD 6 .und), (l3.getD 7 .und), (l3.getD 8 .und), (k3.getD 0 .und)] o4) (l3.getD 7 .und)) k4) (l3.getD 7 .und)) f4) (
VL (lift2 (abin .eql) q3 (.int .u8 66)) fun p4 =>
pcond (
VL (vfa 1 (l3.getD 3 .und)) fun q4 =>
pld m3 (some 16) (fun r4 s4 =>
pcallv Tryz.prog [r4, (l3.getD 0 .und)] 153 s4 (fun t4 u4 =>
p3 [(l3.getD 0 .und), (l3.getD 1 .und), (l3.getD 2 .und), (l3.getD 3 .und), (l3.getD 4 .und), (l3.getD 5 .und), (l3.getD 6 .und), (l3.getD 7 .und), (l3.getD 8 .und), (k3.getD 0 .und)] u4) (l3.getD 7 .und)) q4) (
VL (lift2 (abin .eql) q3 (.int .u8 87)) fun v4 =>
pcond (
VL (vfa 17 (l3.getD 3 .und)) fun w4 =>
pld m3 (some 16) (fun y4 z4 =>
pcallv Tryz.prog [y4, (l3.getD 1 .und)] 160 z4 (fun a5 b5 =>
p3 [(l3.getD 0 .und), (l3.getD 1 .und), (l3.getD 2 .und), (l3.getD 3 .und), (l3.getD 4 .und), (l3.getD 5 .und), (l3.getD 6 .und), (l3.getD 7 .und), (l3.getD 8 .und), (k3.getD 0 .und)] b5) (l3.getD 7 .und)) w4) (
VL (lift2 (abin .eql) q3 (.int .u8 70)) fun c5 =>
pcond (
VL (vfa 1 (l3.getD 3 .und)) fun d5 =>
pld m3 (some 16) (fun e5 f5 =>
pcallv Tryz.prog [e5, (l3.getD 0 .und)] 167 f5 (fun g5 h5 =>
VL (vfa 17 (l3.getD 3 .und)) fun i5 =>
pld h5 (some 16) (fun j5 k5 =>
pcallv Tryz.prog [j5, (l3.getD 1 .und)] 172 k5 (fun l5 m5 =>
p3 [(l3.getD 0 .und), (l3.getD 1 .und), (l3.getD 2 .und), (l3.getD 3 .und), (l3.getD 4 .und), (l3.getD 5 .und), (l3.getD 6 .und), (l3.getD 7 .und), (l3.getD 8 .und), (k3.getD 0 .und)] m5) (l3.getD 6 .und)) i5) (l3.getD 6 .und)) d5) (
p3 [(l3.getD 0 .und), (l3.getD 1 .und), (l3.getD 2 .und), (l3.getD 3 .und), (l3.getD 4 .und), (l3.getD 5 .und), (l3.getD 6 .und), (l3.getD 7 .und), (l3.getD 8 .und), (k3.getD 0 .und)] m3) c5) v4) p4) e4) y3) r3) fun n5 o5 =>
VL (lift2 (abin .add) (n5.getD 9 .und) (.int .i64 1)) fun p5 =>
n3 [p5] [(n5.getD 0 .und), (n5.getD 1 .und), (n5.getD 2 .und), (n5.getD 3 .und), (n5.getD 4 .und), (n5.getD 5 .und), (n5.getD 6 .und), (n5.getD 7 .und), (n5.getD 8 .und)] o5) (
pld m3 none (fun q5 r5 =>
pld r5 none (fun s5 t5 =>
pmks t5 176 2 2 2 (fun u5 =>
Rt u5 (.tup [(.rf 176 0 2), (.int .i64 0)])) (vfill [(.int .i64 0), (.int .i64 0)] [(0, 1, q5), (1, 1, s5)])) (l3.getD 5 .und)) (l3.getD 4 .und)) o3) [(.int .i64 0)] [x2, x3, x6, (.ptr 71 0), (.ptr 75 0), (.ptr 76 0), h3, i3, j3] f3) g3) [x6]) d3) t2) m2) h2) y1) s1) [l1, (.rf 95 0 1)]) (vfill [(.int .i64 0)] [(0, 1, n1)])) (.ptr 75 0)) (.ptr 71 0)) k1) [e1, g1, x2, x3]) (.ptr 72 0)) (.ptr 71 0)
theorem impl_WalkOf_f {x0 x1 x2 x3 x4 x5 x6 : V} : Prt Tryz.prog 17 [x0, x1, x2, x3, x4, x5, x6] (impl_WalkOf_F x0 x1 x2 x3 x4 x5 x6) := pfun (fn := Tryz.f17) (m := [.s, .s, .s, .s, .s, .s, .s, .s, .s, .s, .s, .s, .s, .s, .l [51] [2, 3, 6, 7, 11, 12, 17, 18, 50], .s, .s, .j [2, 3, 6, 7, 11, 12, 17, 18, 50, 51], .s, .s, .s, .s, .s, .s, .s, .s, .s, .s, .s]) (c := 7 ≤ 113) rfl (fun h0 Rt => by kernel_rfl) (by decide)

def impl_ValueOfWord_F (x0 x1 : V) (hi : Hp) (Rt : Hp → V → Prop) : Prop :=
pbox hi 66 27 (cellsV x0) fun a1 =>
palloc a1 68 25 (vi .u8 (List.replicate 16 0)) fun b1 =>
pld b1 (some 33) (fun c1 d1 =>
pcal Tryz.prog 24 72 d1 (fun e1 f1 =>
VL (lift1 (aun .not) e1) fun g1 =>
pcond (
VL (vbld (vfill (vi .u8 (List.replicate 16 0)) [])) fun h1 =>
pst f1 16 (cellsV h1) (fun i1 j1 =>
VL (pcellV j1 (some 16) (.ptr 68 0)) fun k1 =>
Rt j1 (.tup [k1, (.int .i64 1)])) (.ptr 68 0)) (
pcal Tryz.prog 35 77 f1 (fun l1 m1 =>
VL (lift1 (aun .not) l1) fun n1 =>
pcond (
VL (vbld (vfill (vi .u8 (List.replicate 16 0)) [])) fun o1 =>
pst m1 16 (cellsV o1) (fun p1 q1 =>
VL (pcellV q1 (some 16) (.ptr 68 0)) fun r1 =>
Rt q1 (.tup [r1, (.int .i64 6)])) (.ptr 68 0)) (
pld m1 (some 33) (fun s1 t1 =>
pcal Tryz.prog 39 82 t1 (fun u1 v1 =>
pst v1 16 (cellsV u1) (fun w1 y1 =>
VL (pcellV y1 (some 16) (.ptr 68 0)) fun z1 =>
Rt y1 (.tup [z1, (.int .i64 0)])) (.ptr 68 0)) [s1, x1]) (.ptr 66 0)) n1) [x1]) g1) [c1]) (.ptr 66 0)
theorem impl_ValueOfWord_f {x0 x1 : V} : Prt Tryz.prog 18 [x0, x1] (impl_ValueOfWord_F x0 x1) := pfun (fn := Tryz.f18) (m := [.s, .s, .s, .s, .s, .s, .s]) (c := 2 ≤ 19) rfl (fun h0 Rt => by kernel_rfl) (by decide)

def spec_DrawWalkOf_F (x0 : V) (hi : Hp) (Rt : Hp → V → Prop) : Prop :=
palloc hi 66 27 ([(.int .i64 0)] ++ (vi .u8 (List.replicate 32 0))) fun a1 =>
pmks a1 78 5 1 1 (fun b1 =>
papp b1 (fun c1 d1 => papV 5 1 1 80 b1 (fun e1 f1 =>
pcal Tryz.prog 40 81 f1 (fun g1 h1 =>
pcal Tryz.prog 22 84 h1 (fun i1 j1 =>
VL (vext 0 i1) fun k1 =>
VL (vext 1 i1) fun l1 =>
VL (vext 2 i1) fun m1 =>
VL (vext 3 i1) fun n1 =>
palloc j1 74 27 ([(.int .i64 0)] ++ (vi .u8 (List.replicate 32 0))) fun o1 =>
pst o1 33 (cellsV k1) (fun p1 q1 =>
pldb q1 (some 33) (fun r1 s1 =>
pldb s1 none (fun t1 u1 =>
pcala Tryz.prog 41 97 u1 (fun v1 w1 =>
VL (lift2 (abin .quo) v1 (.int .i64 23)) fun y1 =>
VL (lift2 (abin .add) t1 y1) fun z1 =>
pcala Tryz.prog 41 100 w1 (fun a2 b2 =>
pcala Tryz.prog 41 104 b2 (fun c2 d2 =>
VL (lift2 (abin .quo) c2 (.int .i64 23)) fun e2 =>
VL (lift2 (abin .add) l1 e2) fun f2 =>
pcala Tryz.prog 41 107 d2 (fun g2 h2 =>
pcala Tryz.prog 42 109 h2 (fun i2 j2 =>
pst j2 33 (cellsV r1) (fun k2 l2 =>
VL (pcellV l2 (some 33) (.ptr 66 0)) fun m2 =>
Rt l2 (.tup [m2, l1, m1, n1, a2, g2, i2])) (.ptr 66 0)) [(.ptr 74 0)] [g1]) [(.ptr 74 0)] [g1, f2]) [(.ptr 74 0)] [g1, (.int .i64 24)]) [(.ptr 74 0)] [g1, z1]) [(.ptr 74 0), (.ptr 74 0)] [g1, (.int .i64 24)]) (.ptr 74 0) (.ptr 74 0)) (.ptr 74 0) (.ptr 74 0)) (.ptr 74 0)) [x0]) [e1]) c1 d1 (.rf 78 0 1)) (pavs b1 (.rf 78 0 1) []) (preadS 1 b1 x0)) (vfill [(.int .u8 0)] [(0, 1, (.int .u8 3))])
theorem spec_DrawWalkOf_f {x0 : V} : Prt Tryz.prog 19 [x0] (spec_DrawWalkOf_F x0) := pfun (fn := Tryz.f19) (m := [.s, .s, .s, .s]) (c := 1 ≤ 46) rfl (fun h0 Rt => by kernel_rfl) (by decide)

def spec_WalkOf_F (x0 x1 x2 x3 x4 x5 x6 : V) (hi : Hp) (Rt : Hp → V → Prop) : Prop :=
pbox hi 71 27 (cellsV x0) fun a1 =>
pld a1 (some 33) (fun b1 c1 =>
pcal Tryz.prog 25 90 c1 (fun d1 e1 =>
JN (fun f1 =>
VL (lift2 (abin .eql) d1 (.int .i64 0)) fun g1 =>
pgk true e1 (fun h1 i1 => i1 x4 e1) (fun j1 k1 l1 =>
pgk true l1 (fun m1 n1 => n1 (.ptr 71 0) l1) (fun o1 p1 q1 =>
pgk true q1 (fun r1 s1 => pld q1 none (fun t1 u1 =>
s1 t1 u1) p1) (fun v1 w1 y1 =>
pgk true y1 (fun z1 a2 => VL (lift2 (abin .sub) w1 (.int .i64 1)) fun b2 =>
a2 b2 y1) (fun c2 d2 e2 =>
pgk true e2 (fun f2 g2 => pcal Tryz.prog 43 98 e2 (fun h2 i2 =>
g2 h2 i2) [k1, (.int .i64 0), d2]) (fun j2 k2 l2 =>
pgk true l2 (fun m2 n2 => VL (lift1 (aun .not) k2) fun o2 =>
n2 o2 l2) (fun p2 q2 r2 =>
pgk true r2 (fun s2 t2 => t2 q2 r2) (fun u2 v2 w2 =>
pgk false w2 (fun y2 z2 => z2 x5 w2) (fun a3 b3 c3 =>
pgk false c3 (fun d3 e3 => e3 x1 c3) (fun f3 g3 h3 =>
pgk false h3 (fun i3 j3 => VL (lift2 (abin .sub) g3 (.int .i64 1)) fun k3 =>
j3 k3 h3) (fun l3 m3 n3 =>
pgk false n3 (fun o3 p3 => pcal Tryz.prog 43 104 n3 (fun q3 r3 =>
p3 q3 r3) [b3, (.int .i64 0), m3]) (fun s3 t3 u3 =>
pgk false u3 (fun v3 w3 => VL (lift1 (aun .not) t3) fun y3 =>
w3 y3 u3) (fun z3 a4 b4 =>
pgk true b4 (fun c4 d4 => VL (vpick z3 (.bool true) a4) fun e4 =>
d4 e4 b4) (fun f4 g4 h4 =>
VL (vpick f4 g4 (.bool false)) fun i4 =>
pcond (
f1 [x1, x2, x3, x4, x5, x6, (.ptr 71 0), (.int .i64 2)] h4) (
f1 [x1, x2, x3, x4, x5, x6, (.ptr 71 0), d1] h4) i4) u2) s3) l3) f3) a3) v2) p2) j2) c2) v1) o1) j1) g1) fun j4 k4 =>
VL (lift2 (abin .neq) (j4.getD 7 .und) (.int .i64 0)) fun l4 =>
pcond (
Rt k4 (.tup [.nils, (j4.getD 7 .und)])) (
pld k4 (some 33) (fun m4 n4 =>
pcal Tryz.prog 44 114 n4 (fun o4 p4 =>
VL (vext 0 o4) fun q4 =>
VL (vext 1 o4) fun r4 =>
palloc p4 81 25 (vi .u8 (List.replicate 16 0)) fun s4 =>
pst s4 16 (cellsV q4) (fun t4 u4 =>
VL (lift1 (aun .not) r4) fun v4 =>
pcond (
Rt u4 (.tup [.nils, (.int .i64 6)])) (
LP [4, 5, 19] [1, 2, 3, 6, 7] (fun w4 y4 z4 a5 =>
VL (vlenT (y4.getD 3 .und)) fun b5 =>
VL (lift2 (abin .lss) (w4.getD 2 .und) b5) fun c5 =>
pcond (
VL (vixT (y4.getD 3 .und) (w4.getD 2 .und)) fun d5 =>
pmks z4 128 5 1 1 (fun e5 =>
VL (vb2s e5 (.rf 128 0 1)) fun f5 =>
JN (fun g5 =>
VL (vixT (y4.getD 3 .und) (w4.getD 2 .und)) fun h5 =>
VL (lift2 (abin .eql) h5 (.int .u8 102)) fun i5 =>
pcond (
g5 [(y4.getD 0 .und), (y4.getD 1 .und), (y4.getD 2 .und), (w4.getD 0 .und), (w4.getD 1 .und), (y4.getD 3 .und), (y4.getD 4 .und), (w4.getD 2 .und), (.str [87, 66])] e5) (
VL (lift2 (abin .eql) h5 (.int .u8 70)) fun j5 =>
pcond (
g5 [(y4.getD 0 .und), (y4.getD 1 .und), (y4.getD 2 .und), (w4.getD 0 .und), (w4.getD 1 .und), (y4.getD 3 .und), (y4.getD 4 .und), (w4.getD 2 .und), (.str [98, 119])] e5) (
g5 [(y4.getD 0 .und), (y4.getD 1 .und), (y4.getD 2 .und), (w4.getD 0 .und), (w4.getD 1 .und), (y4.getD 3 .und), (y4.getD 4 .und), (w4.getD 2 .und), f5] e5) j5) i5) fun k5 l5 =>
LP [4, 5, 21] [1, 2, 3, 6, 7, 19, 20] (fun m5 n5 o5 p5 =>
VL (vlenT (n5.getD 6 .und)) fun q5 =>
VL (lift2 (abin .lss) (m5.getD 2 .und) q5) fun r5 =>
pcond (
JN (fun s5 =>
VL (vixT (n5.getD 6 .und) (m5.getD 2 .und)) fun t5 =>
VL (lift2 (abin .eql) t5 (.int .u8 98)) fun u5 =>
pcond (
VL (vixS 1 (n5.getD 1 .und) (m5.getD 0 .und)) fun v5 =>
pld o5 none (fun w5 y5 =>
VL (lift2 (abin .add) (m5.getD 1 .und) w5) fun z5 =>
VL (lift2 (abin .rem) z5 (n5.getD 0 .und)) fun a6 =>
VL (vfa 1 (n5.getD 4 .und)) fun b6 =>
VL (vixA 16 1 b6 (m5.getD 0 .und)) fun c6 =>
pld y5 none (fun d6 e6 =>
VL (lift1 (acvi .i64) d6) fun f6 =>
s5 [(n5.getD 0 .und), (n5.getD 1 .und), (n5.getD 2 .und), f6, a6, (n5.getD 3 .und), (n5.getD 4 .und), (n5.getD 5 .und), (n5.getD 6 .und), (m5.getD 2 .und)] e6) c6) v5) (
VL (lift2 (abin .eql) t5 (.int .u8 119)) fun g6 =>
pcond (
VL (vixS 1 (n5.getD 2 .und) (m5.getD 0 .und)) fun h6 =>
pld o5 none (fun i6 j6 =>
VL (lift2 (abin .add) (m5.getD 1 .und) i6) fun k6 =>
VL (lift2 (abin .rem) k6 (n5.getD 0 .und)) fun l6 =>
VL (vfa 17 (n5.getD 4 .und)) fun m6 =>
VL (vixA 16 1 m6 (m5.getD 0 .und)) fun n6 =>
pld j6 none (fun o6 p6 =>
VL (lift1 (acvi .i64) o6) fun q6 =>
s5 [(n5.getD 0 .und), (n5.getD 1 .und), (n5.getD 2 .und), q6, l6, (n5.getD 3 .und), (n5.getD 4 .und), (n5.getD 5 .und), (n5.getD 6 .und), (m5.getD 2 .und)] p6) n6) h6) (
VL (lift2 (abin .eql) t5 (.int .u8 66)) fun r6 =>
pcond (
VL (vfa 1 (n5.getD 4 .und)) fun s6 =>
pld o5 (some 16) (fun t6 u6 =>
VL (vfa 0 (n5.getD 4 .und)) fun v6 =>
pld u6 none (fun w6 y6 =>
pcal Tryz.prog 45 182 y6 (fun z6 a7 =>
VL (vixV 16 1 none z6 (m5.getD 0 .und)) fun b7 =>
VL (lift1 (acvi .i64) b7) fun c7 =>
VL (vixS 1 (n5.getD 1 .und) c7) fun d7 =>
pld a7 none (fun e7 f7 =>
VL (lift2 (abin .sub) (m5.getD 1 .und) e7) fun g7 =>
VL (lift2 (abin .add) g7 (n5.getD 0 .und)) fun h7 =>
VL (lift2 (abin .rem) h7 (n5.getD 0 .und)) fun i7 =>
s5 [(n5.getD 0 .und), (n5.getD 1 .und), (n5.getD 2 .und), c7, i7, (n5.getD 3 .und), (n5.getD 4 .und), (n5.getD 5 .und), (n5.getD 6 .und), (m5.getD 2 .und)] f7) d7) [t6, w6]) v6) s6) (
VL (lift2 (abin .eql) t5 (.int .u8 87)) fun j7 =>
pcond (
VL (vfa 17 (n5.getD 4 .und)) fun k7 =>
pld o5 (some 16) (fun l7 m7 =>
VL (vfa 0 (n5.getD 4 .und)) fun n7 =>
pld m7 none (fun o7 p7 =>
pcal Tryz.prog 45 202 p7 (fun q7 r7 =>
VL (vixV 16 1 none q7 (m5.getD 0 .und)) fun s7 =>
VL (lift1 (acvi .i64) s7) fun t7 =>
VL (vixS 1 (n5.getD 2 .und) t7) fun u7 =>
pld r7 none (fun v7 w7 =>
VL (lift2 (abin .sub) (m5.getD 1 .und) v7) fun y7 =>
VL (lift2 (abin .add) y7 (n5.getD 0 .und)) fun z7 =>
VL (lift2 (abin .rem) z7 (n5.getD 0 .und)) fun a8 =>
s5 [(n5.getD 0 .und), (n5.getD 1 .und), (n5.getD 2 .und), t7, a8, (n5.getD 3 .und), (n5.getD 4 .und), (n5.getD 5 .und), (n5.getD 6 .und), (m5.getD 2 .und)] w7) u7) [l7, o7]) n7) k7) (
s5 [(n5.getD 0 .und), (n5.getD 1 .und), (n5.getD 2 .und), (m5.getD 0 .und), (m5.getD 1 .und), (n5.getD 3 .und), (n5.getD 4 .und), (n5.getD 5 .und), (n5.getD 6 .und), (m5.getD 2 .und)] o5) j7) r6) g6) u5) fun b8 c8 =>
VL (lift2 (abin .add) (b8.getD 9 .und) (.int .i64 1)) fun d8 =>
p5 [(b8.getD 3 .und), (b8.getD 4 .und), d8] [(b8.getD 0 .und), (b8.getD 1 .und), (b8.getD 2 .und), (b8.getD 5 .und), (b8.getD 6 .und), (b8.getD 7 .und), (b8.getD 8 .und)] c8) (
VL (lift2 (abin .add) (n5.getD 5 .und) (.int .i64 1)) fun e8 =>
a5 [(m5.getD 0 .und), (m5.getD 1 .und), e8] [(n5.getD 0 .und), (n5.getD 1 .und), (n5.getD 2 .und), (n5.getD 3 .und), (n5.getD 4 .und)] o5) r5) [(k5.getD 3 .und), (k5.getD 4 .und), (.int .i64 0)] [(k5.getD 0 .und), (k5.getD 1 .und), (k5.getD 2 .und), (k5.getD 5 .und), (k5.getD 6 .und), (k5.getD 7 .und), (k5.getD 8 .und)] l5) (vfill [(.int .u8 0)] [(0, 1, d5)])) (
pmks z4 218 2 2 2 (fun f8 =>
Rt f8 (.tup [(.rf 218 0 2), (.int .i64 0)])) (vfill [(.int .i64 0), (.int .i64 0)] [(0, 1, (w4.getD 0 .und)), (1, 1, (w4.getD 1 .und))])) c5) [(j4.getD 3 .und), (j4.getD 4 .und), (.int .i64 0)] [(j4.getD 0 .und), (j4.getD 1 .und), (j4.getD 2 .und), (j4.getD 5 .und), (j4.getD 6 .und)] u4) v4) (.ptr 81 0)) [m4, (j4.getD 5 .und)]) (j4.getD 6 .und)) l4) [b1, x1, x2, x3]) (.ptr 71 0)
theorem spec_WalkOf_f {x0 x1 x2 x3 x4 x5 x6 : V} : Prt Tryz.prog 20 [x0, x1, x2, x3, x4, x5, x6] (spec_WalkOf_F x0 x1 x2 x3 x4 x5 x6) := pfun (fn := Tryz.f20) (m := [.s, .s, .j [1, 2, 3, 4, 5, 6, 7, 16], .s, .s, .s, .s, .s, .s, .s, .s, .s, .s, .l [4, 5, 19] [1, 2, 3, 6, 7], .s, .s, .s, .s, .j [1, 2, 3, 4, 5, 6, 7, 19, 20], .s, .s, .s, .s, .l [4, 5, 21] [1, 2, 3, 6, 7, 19, 20], .s, .s, .j [1, 2, 3, 4, 5, 6, 7, 19, 20, 21], .s, .s, .s, .s, .s, .s, .s, .s, .s, .s]) (c := 7 ≤ 155) rfl (fun h0 Rt => by kernel_rfl) (by decide)

def laws_likeInts_F (x0 x1 : V) (hi : Hp) (Rt : Hp → V → Prop) : Prop :=
VL (vlenS x0) fun a1 =>
VL (vlenS x1) fun b1 =>
VL (lift2 (abin .neq) a1 b1) fun c1 =>
pcond (
Rt hi (.bool false)) (
LP [5] [0, 1] (fun d1 e1 f1 g1 =>
VL (vlenS (e1.getD 0 .und)) fun h1 =>
VL (lift2 (abin .lss) (d1.getD 0 .und) h1) fun i1 =>
pcond (
VL (vixS 1 (e1.getD 0 .und) (d1.getD 0 .und)) fun j1 =>
pld f1 none (fun k1 l1 =>
VL (vixS 1 (e1.getD 1 .und) (d1.getD 0 .und)) fun m1 =>
pld l1 none (fun n1 o1 =>
VL (lift2 (abin .neq) k1 n1) fun p1 =>
pcond (
Rt o1 (.bool false)) (
VL (lift2 (abin .add) (d1.getD 0 .und) (.int .i64 1)) fun q1 =>
g1 [q1] [(e1.getD 0 .und), (e1.getD 1 .und)] o1) p1) m1) j1) (
Rt f1 (.bool true)) i1) [(.int .i64 0)] [x0, x1] hi) c1
theorem laws_likeInts_f {x0 x1 : V} : Prt Tryz.prog 21 [x0, x1] (laws_likeInts_F x0 x1) := pfun (fn := Tryz.f21) (m := [.s, .s, .s, .s, .s, .s, .l [5] [0, 1], .s, .s, .s, .s, .s, .s]) (c := 2 ≤ 26) rfl (fun h0 Rt => by kernel_rfl) (by decide)

def spec_l09Safe_F (x0 : V) (hi : Hp) (Rt : Hp → V → Prop) : Prop :=
palloc hi 66 27 ([(.int .i64 0)] ++ (vi .u8 (List.replicate 32 0))) fun a1 =>
pcal Tryz.prog 40 78 a1 (fun b1 c1 =>
pcal Tryz.prog 46 79 c1 (fun d1 e1 =>
pmks e1 80 2 3 3 (fun f1 =>
pmks f1 81 2 3 3 (fun g1 =>
palloc g1 71 27 ([(.int .i64 0)] ++ (vi .u8 (List.replicate 32 0))) fun h1 =>
pst h1 33 (cellsV d1) (fun i1 j1 =>
JN (fun k1 =>
LP [8, 9, 10, 11] [2, 6, 7] (fun l1 m1 n1 o1 =>
VL (lift2 (abin .lss) (l1.getD 3 .und) (.int .i64 4)) fun p1 =>
pcond (
pcal Tryz.prog 47 87 n1 (fun q1 r1 =>
palloc r1 76 27 ([(.int .i64 0)] ++ (vi .u8 (List.replicate 32 0))) fun s1 =>
pst s1 33 (cellsV q1) (fun t1 u1 =>
pld u1 none (fun v1 w1 =>
VL (lift2 (abin .geq) v1 (.int .i64 1)) fun y1 =>
pcond (
pcal Tryz.prog 48 93 w1 (fun z1 a2 =>
VL (vext 0 z1) fun b2 =>
VL (vext 1 z1) fun c2 =>
VL (vext 2 z1) fun d2 =>
VL (vext 3 z1) fun e2 =>
pst a2 33 (cellsV b2) (fun f2 g2 =>
k1 [(m1.getD 0 .und), (m1.getD 2 .und), c2, d2, e2] g2) (m1.getD 2 .und)) [(m1.getD 1 .und)]) (
VL (lift2 (abin .add) (l1.getD 3 .und) (.int .i64 1)) fun h2 =>
o1 [(l1.getD 0 .und), (l1.getD 1 .und), (l1.getD 2 .und), h2] [(m1.getD 0 .und), (m1.getD 1 .und), (m1.getD 2 .und)] w1) y1) (.ptr 76 0)) (.ptr 76 0)) [(m1.getD 1 .und), (.int .i64 3)]) (
k1 [(m1.getD 0 .und), (m1.getD 2 .und), (l1.getD 0 .und), (l1.getD 1 .und), (l1.getD 2 .und)] n1) p1) [(.int .i64 2), (.rf 80 0 3), (.rf 81 0 3), (.int .i64 0)] [(.ptr 66 0), b1, (.ptr 71 0)] j1) fun i2 j2 =>
pld j2 (some 33) (fun k2 l2 =>
pst l2 33 (cellsV k2) (fun m2 n2 =>
VL (pcellV n2 (some 33) (i2.getD 0 .und)) fun o2 =>
Rt n2 (.tup [o2, (i2.getD 2 .und), (i2.getD 3 .und), (i2.getD 4 .und)])) (i2.getD 0 .und)) (i2.getD 1 .und)) (.ptr 71 0)) (vfill [(.int .i64 0), (.int .i64 0), (.int .i64 0)] [(0, 1, (.int .i64 0)), (1, 1, (.int .i64 0)), (2, 1, (.int .i64 1))])) (vfill [(.int .i64 0), (.int .i64 0), (.int .i64 0)] [(0, 1, (.int .i64 0)), (1, 1, (.int .i64 1)), (2, 1, (.int .i64 1))])) [(.int .i64 3)]) [x0]
theorem spec_l09Safe_f {x0 : V} : Prt Tryz.prog 22 [x0] (spec_l09Safe_F x0) := pfun (fn := Tryz.f22) (m := [.s, .s, .s, .j [2, 7, 8, 9, 10], .s, .l [8, 9, 10, 11] [2, 6, 7], .s, .s, .s, .s, .s, .s, .s]) (c := 1 ≤ 38) rfl (fun h0 Rt => by kernel_rfl) (by decide)

def impl_coverCode_F (x0 x1 x2 x3 : V) (hi : Hp) (Rt : Hp → V → Prop) : Prop :=
pbox hi 68 27 (cellsV x0) fun a1 =>
pld a1 (some 33) (fun b1 c1 =>
pcal Tryz.prog 24 75 c1 (fun d1 e1 =>
VL (lift1 (aun .not) d1) fun f1 =>
pcond (
Rt e1 (.int .i64 1)) (
pld e1 (some 33) (fun g1 h1 =>
pmks h1 82 28 2 2 (fun i1 =>
pcal Tryz.prog 49 83 i1 (fun j1 k1 =>
VL (lift1 (aun .not) j1) fun l1 =>
pcond (
Rt k1 (.int .i64 2)) (
Rt k1 (.int .i64 0)) l1) [g1, x1, (.rf 82 0 2)]) (vfill [.nils, .nils] [(0, 1, x2), (1, 1, x3)])) (.ptr 68 0)) f1) [b1]) (.ptr 68 0)
theorem impl_coverCode_f {x0 x1 x2 x3 : V} : Prt Tryz.prog 23 [x0, x1, x2, x3] (impl_coverCode_F x0 x1 x2 x3) := pfun (fn := Tryz.f23) (m := [.s, .s, .s, .s, .s, .s, .s]) (c := 4 ≤ 21) rfl (fun h0 Rt => by kernel_rfl) (by decide)

def impl_IsDessin_F (x0 : V) (hi : Hp) (Rt : Hp → V → Prop) : Prop :=
pbox hi 65 27 (cellsV x0) fun a1 =>
pld a1 none (fun b1 c1 =>
pld c1 (some 16) (fun d1 e1 =>
pcal Tryz.prog 50 73 e1 (fun f1 g1 =>
pgk true g1 (fun h1 i1 => i1 (.ptr 65 17) g1) (fun j1 k1 l1 =>
pgk true l1 (fun m1 n1 => pld l1 (some 16) (fun o1 p1 =>
n1 o1 p1) k1) (fun q1 r1 s1 =>
pgk true s1 (fun t1 u1 => u1 b1 s1) (fun v1 w1 y1 =>
pgk true y1 (fun z1 a2 => pcal Tryz.prog 50 78 y1 (fun b2 c2 =>
a2 b2 c2) [r1, w1]) (fun d2 e2 f2 =>
VL (vpick d2 e2 (.bool false)) fun g2 =>
pgk true f2 (fun h2 i2 => i2 b1 f2) (fun j2 k2 l2 =>
pgk true l2 (fun m2 n2 => n2 (.ptr 65 1) l2) (fun o2 p2 q2 =>
pgk true q2 (fun r2 s2 => pld q2 (some 16) (fun t2 u2 =>
s2 t2 u2) p2) (fun v2 w2 y2 =>
pgk true y2 (fun z2 a3 => a3 (.ptr 65 17) y2) (fun b3 c3 d3 =>
pgk true d3 (fun e3 f3 => pld d3 (some 16) (fun g3 h3 =>
f3 g3 h3) c3) (fun i3 j3 k3 =>
pgk true k3 (fun l3 m3 => pmks k3 86 25 32 2 (fun n3 =>
m3 (.rf 86 0 2) n3) (vfill (vi .u8 (List.replicate 32 0)) [(0, 16, w2), (16, 16, j3)])) (fun o3 p3 q3 =>
pgk true q3 (fun r3 s3 => pcal Tryz.prog 51 87 q3 (fun t3 u3 =>
s3 t3 u3) [k2, p3]) (fun v3 w3 y3 =>
pgk true y3 (fun z3 a4 => a4 b1 y3) (fun b4 c4 d4 =>
pgk true d4 (fun e4 f4 => VL (lift2 (abin .eql) w3 c4) fun g4 =>
f4 g4 d4) (fun h4 i4 j4 =>
VL (vpick h4 i4 (.bool false)) fun k4 =>
Rt j4 k4) b4) v3) o3) i3) b3) v2) o2) j2) g2) v1) q1) j1) f1) [d1, b1]) (.ptr 65 1)) (.ptr 65 0)
theorem impl_IsDessin_f {x0 : V} : Prt Tryz.prog 24 [x0] (impl_IsDessin_F x0) := pfun (fn := Tryz.f24) (m := [.s, .s, .s]) (c := 1 ≤ 27) rfl (fun h0 Rt => by kernel_rfl) (by decide)

def spec_l09Code_F (x0 x1 x2 x3 : V) (hi : Hp) (Rt : Hp → V → Prop) : Prop :=
pbox hi 68 27 (cellsV x0) fun a1 =>
pld a1 (some 33) (fun b1 c1 =>
pcal Tryz.prog 26 75 c1 (fun d1 e1 =>
VL (lift1 (aun .not) d1) fun f1 =>
pcond (
Rt e1 (.int .i64 1)) (
pcal Tryz.prog 43 79 e1 (fun g1 h1 =>
VL (lift1 (aun .not) g1) fun i1 =>
pgk false h1 (fun j1 k1 => k1 x2 h1) (fun l1 m1 n1 =>
pgk false n1 (fun o1 p1 => p1 (.ptr 68 0) n1) (fun q1 r1 s1 =>
pgk false s1 (fun t1 u1 => pld s1 none (fun v1 w1 =>
u1 v1 w1) r1) (fun y1 z1 a2 =>
pgk false a2 (fun b2 c2 => c2 x1 a2) (fun d2 e2 f2 =>
pgk false f2 (fun g2 h2 => VL (lift2 (abin .sub) e2 (.int .i64 1)) fun i2 =>
h2 i2 f2) (fun j2 k2 l2 =>
pgk false l2 (fun m2 n2 => pcal Tryz.prog 52 87 l2 (fun o2 p2 =>
n2 o2 p2) [m1, z1, (.int .i64 0), k2]) (fun q2 r2 s2 =>
pgk false s2 (fun t2 u2 => VL (lift1 (aun .not) r2) fun v2 =>
u2 v2 s2) (fun w2 y2 z2 =>
VL (vpick w2 (.bool true) y2) fun a3 =>
pgk false z2 (fun b3 c3 => c3 x3 z2) (fun d3 e3 f3 =>
pgk false f3 (fun g3 h3 => h3 (.ptr 68 0) f3) (fun i3 j3 k3 =>
pgk false k3 (fun l3 m3 => pld k3 none (fun n3 o3 =>
m3 n3 o3) j3) (fun p3 q3 r3 =>
pgk false r3 (fun s3 t3 => t3 x1 r3) (fun u3 v3 w3 =>
pgk false w3 (fun y3 z3 => VL (lift2 (abin .sub) v3 (.int .i64 1)) fun a4 =>
z3 a4 w3) (fun b4 c4 d4 =>
pgk false d4 (fun e4 f4 => pcal Tryz.prog 52 96 d4 (fun g4 h4 =>
f4 g4 h4) [e3, q3, (.int .i64 0), c4]) (fun i4 j4 k4 =>
pgk false k4 (fun l4 m4 => VL (lift1 (aun .not) j4) fun n4 =>
m4 n4 k4) (fun o4 p4 q4 =>
VL (vpick o4 (.bool true) p4) fun r4 =>
pcond (
Rt q4 (.int .i64 2)) (
Rt q4 (.int .i64 0)) r4) i4) b4) u3) p3) i3) d3) a3) q2) j2) d2) y1) q1) l1) i1) [x1, (.int .i64 1), (.int .i64 16)]) f1) [b1]) (.ptr 68 0)
theorem spec_l09Code_f {x0 x1 x2 x3 : V} : Prt Tryz.prog 25 [x0, x1, x2, x3] (spec_l09Code_F x0 x1 x2 x3) := pfun (fn := Tryz.f25) (m := [.s, .s, .s, .s, .s, .s, .s]) (c := 4 ≤ 35) rfl (fun h0 Rt => by kernel_rfl) (by decide)

def spec_l01Is_F (x0 : V) (hi : Hp) (Rt : Hp → V → Prop) : Prop :=
pbox hi 65 27 (cellsV x0) fun a1 =>
pld a1 (some 16) (fun b1 c1 =>
pld c1 none (fun d1 e1 =>
pcal Tryz.prog 53 71 e1 (fun f1 g1 =>
pgk true g1 (fun h1 i1 => i1 (.ptr 65 17) g1) (fun j1 k1 l1 =>
pgk true l1 (fun m1 n1 => pld l1 (some 16) (fun o1 p1 =>
n1 o1 p1) k1) (fun q1 r1 s1 =>
pgk true s1 (fun t1 u1 => u1 (.ptr 65 0) s1) (fun v1 w1 y1 =>
pgk true y1 (fun z1 a2 => pld y1 none (fun b2 c2 =>
a2 b2 c2) w1) (fun d2 e2 f2 =>
pgk true f2 (fun g2 h2 => pcal Tryz.prog 53 77 f2 (fun i2 j2 =>
h2 i2 j2) [r1, e2]) (fun k2 l2 m2 =>
VL (vpick k2 l2 (.bool false)) fun n2 =>
pgk true m2 (fun o2 p2 => p2 (.ptr 65 0) m2) (fun q2 r2 s2 =>
pgk true s2 (fun t2 u2 => pld s2 none (fun v2 w2 =>
u2 v2 w2) r2) (fun y2 z2 a3 =>
pgk true a3 (fun b3 c3 => c3 (.ptr 65 1) a3) (fun d3 e3 f3 =>
pgk true f3 (fun g3 h3 => pld f3 (some 16) (fun i3 j3 =>
h3 i3 j3) e3) (fun k3 l3 m3 =>
pgk true m3 (fun n3 o3 => o3 (.ptr 65 17) m3) (fun p3 q3 r3 =>
pgk true r3 (fun s3 t3 => pld r3 (some 16) (fun u3 v3 =>
t3 u3 v3) q3) (fun w3 y3 z3 =>
pgk true z3 (fun a4 b4 => pcal Tryz.prog 54 86 z3 (fun c4 d4 =>
b4 c4 d4) [z2, l3, y3]) (fun e4 f4 g4 =>
VL (vpick e4 f4 (.bool false)) fun h4 =>
Rt g4 h4) w3) p3) k3) d3) y2) q2) n2) d2) v1) q1) j1) f1) [b1, d1]) (.ptr 65 0)) (.ptr 65 1)
theorem spec_l01Is_f {x0 : V} : Prt Tryz.prog 26 [x0] (spec_l01Is_F x0) := pfun (fn := Tryz.f26) (m := [.s, .s]) (c := 1 ≤ 24) rfl (fun h0 Rt => by kernel_rfl) (by decide)

def impl_sumsOfVoltages_F (x0 x1 x2 x3 : V) (hi : Hp) (Rt : Hp → V → Prop) : Prop :=
pbox hi 68 27 (cellsV x0) fun a1 =>
pbox a1 70 28 (cellsV x2) fun b1 =>
pbox b1 71 28 (cellsV x3) fun c1 =>
pld c1 (some 16) (fun d1 e1 =>
pld e1 none (fun f1 g1 =>
VL (vmkf (.func 57) [] [(.ptr 70 0)]) fun h1 =>
pld g1 (some 16) (fun i1 j1 =>
pld j1 none (fun k1 l1 =>
VL (vmkf (.func 58) [] [(.ptr 71 0)]) fun m1 =>
pld l1 (some 33) (fun n1 o1 =>
pld o1 none (fun p1 q1 =>
VL (vmkf (.func 60) [] [(.ptr 70 0), (.ptr 71 0), (.ptr 68 0)]) fun r1 =>
pcalp Tryz.prog 56 77 q1 (fun s1 t1 =>
pcalp Tryz.prog 55 80 t1 (fun u1 v1 =>
pcalp Tryz.prog 56 85 v1 (fun w1 y1 =>
pcalp Tryz.prog 55 88 y1 (fun z1 a2 =>
pcalp Tryz.prog 59 90 a2 (fun b2 c2 =>
pcal Tryz.prog 56 93 c2 (fun d2 e2 =>
pcal Tryz.prog 55 96 e2 (fun f2 g2 =>
pmks g2 97 28 3 3 (fun h2 =>
Rt h2 (.rf 97 0 3)) (vfill [.nils, .nils, .nils] [(0, 1, u1), (1, 1, z1), (2, 1, f2)])) [d2, x1, r1]) [b2, p1]) [n1]) [w1, x1, m1]) [i1, k1]) [s1, x1, h1]) [d1, f1]) (.ptr 68 0)) (.ptr 68 0)) (.ptr 68 0)) (.ptr 68 17)) (.ptr 68 0)) (.ptr 68 1)
theorem impl_sumsOfVoltages_f {x0 x1 x2 x3 : V} : Prt Tryz.prog 27 [x0, x1, x2, x3] (impl_sumsOfVoltages_F x0 x1 x2 x3) := pfun (fn := Tryz.f27) (m := [.s, .s]) (c := 4 ≤ 34) rfl (fun h0 Rt => by kernel_rfl) (by decide)

def spec_l09Sums_F (x0 x1 x2 x3 : V) (hi : Hp) (Rt : Hp → V → Prop) : Prop :=
pbox hi 68 27 (cellsV x0) fun a1 =>
pmks a1 84 2 0 0 (fun b1 =>
LP [9, 10] [1, 2, 3, 4] (fun c1 d1 e1 f1 =>
VL (vfa 0 (d1.getD 3 .und)) fun g1 =>
pld e1 none (fun h1 i1 =>
VL (lift2 (abin .lss) (c1.getD 1 .und) h1) fun j1 =>
pcond (
VL (vixS 1 (d1.getD 1 .und) (c1.getD 1 .und)) fun k1 =>
pld i1 none (fun l1 m1 =>
VL (vfa 1 (d1.getD 3 .und)) fun n1 =>
VL (vixA 16 1 n1 (c1.getD 1 .und)) fun o1 =>
pld m1 none (fun p1 q1 =>
VL (vixS 1 (d1.getD 2 .und) p1) fun r1 =>
pld q1 none (fun s1 t1 =>
VL (lift2 (abin .add) l1 s1) fun u1 =>
pmks t1 104 2 1 1 (fun v1 =>
papp v1 (fun w1 y1 => papV 2 1 8 105 v1 (fun z1 a2 =>
VL (lift2 (abin .add) (c1.getD 1 .und) (.int .i64 1)) fun b2 =>
f1 [z1, b2] [(d1.getD 0 .und), (d1.getD 1 .und), (d1.getD 2 .und), (d1.getD 3 .und)] a2) w1 y1 (c1.getD 0 .und)) (pavs v1 (c1.getD 0 .und) []) (preadS 1 v1 (.rf 104 0 1))) (vfill [(.int .i64 0)] [(0, 1, u1)])) r1) o1) k1) (
VL (vfa 1 (d1.getD 3 .und)) fun c2 =>
pld i1 (some 16) (fun d2 e2 =>
VL (vfa 17 (d1.getD 3 .und)) fun f2 =>
pld e2 (some 16) (fun g2 h2 =>
pld h2 (some 33) (fun i2 j2 =>
pcalp Tryz.prog 61 111 j2 (fun k2 l2 =>
pmks l2 112 25 48 3 (fun m2 =>
pmks m2 116 28 3 3 (fun n2 =>
pmks n2 117 28 0 0 (fun o2 =>
LP [13, 14] [1, 4, 11, 12] (fun p2 q2 r2 s2 =>
VL (lift2 (abin .lss) (p2.getD 1 .und) (.int .i64 3)) fun t2 =>
pcond (
VL (vixS 16 (q2.getD 2 .und) (p2.getD 1 .und)) fun u2 =>
pld r2 (some 16) (fun v2 w2 =>
VL (vfa 0 (q2.getD 1 .und)) fun y2 =>
pld w2 none (fun z2 a3 =>
pcalp Tryz.prog 62 129 a3 (fun b3 c3 =>
pmks c3 122 2 0 0 (fun d3 =>
LP [15, 17] [1, 4, 11, 12, 13, 14, 16] (fun e3 f3 g3 h3 =>
VL (vlenS (f3.getD 6 .und)) fun i3 =>
VL (lift2 (abin .lss) (e3.getD 1 .und) i3) fun j3 =>
pcond (
LP [18, 19] [1, 4, 11, 12, 13, 14, 15, 16, 17] (fun k3 l3 m3 n3 =>
VL (vixS 1 (l3.getD 7 .und) (l3.getD 8 .und)) fun o3 =>
pld m3 none (fun p3 q3 =>
VL (vlenS p3) fun r3 =>
VL (lift2 (abin .lss) (k3.getD 1 .und) r3) fun s3 =>
pcond (
VL (vixS 1 (l3.getD 3 .und) (l3.getD 5 .und)) fun t3 =>
pld q3 none (fun u3 v3 =>
VL (vixS 1 (l3.getD 7 .und) (l3.getD 8 .und)) fun w3 =>
pld v3 none (fun y3 z3 =>
VL (vixS 1 y3 (k3.getD 1 .und)) fun a4 =>
pld z3 none (fun b4 c4 =>
VL (vixS 1 u3 b4) fun d4 =>
pld c4 none (fun e4 f4 =>
VL (lift2 (abin .add) (k3.getD 0 .und) e4) fun g4 =>
VL (lift2 (abin .add) (k3.getD 1 .und) (.int .i64 1)) fun h4 =>
n3 [g4, h4] [(l3.getD 0 .und), (l3.getD 1 .und), (l3.getD 2 .und), (l3.getD 3 .und), (l3.getD 4 .und), (l3.getD 5 .und), (l3.getD 6 .und), (l3.getD 7 .und), (l3.getD 8 .und)] f4) d4) a4) w3) t3) (
VL (lift2 (abin .rem) (k3.getD 0 .und) (l3.getD 0 .und)) fun i4 =>
pmks q3 164 2 1 1 (fun j4 =>
papp j4 (fun k4 l4 => papV 2 1 8 165 j4 (fun m4 n4 =>
VL (lift2 (abin .add) (l3.getD 8 .und) (.int .i64 1)) fun o4 =>
h3 [m4, o4] [(l3.getD 0 .und), (l3.getD 1 .und), (l3.getD 2 .und), (l3.getD 3 .und), (l3.getD 4 .und), (l3.getD 5 .und), (l3.getD 7 .und)] n4) k4 l4 (l3.getD 6 .und)) (pavs j4 (l3.getD 6 .und) []) (preadS 1 j4 (.rf 164 0 1))) (vfill [(.int .i64 0)] [(0, 1, i4)])) s3) o3) [(.int .i64 0), (.int .i64 0)] [(f3.getD 0 .und), (f3.getD 1 .und), (f3.getD 2 .und), (f3.getD 3 .und), (f3.getD 4 .und), (f3.getD 5 .und), (e3.getD 0 .und), (f3.getD 6 .und), (e3.getD 1 .und)] g3) (
pmks g3 168 28 1 1 (fun p4 =>
papp p4 (fun q4 r4 => papV 28 1 24 169 p4 (fun s4 t4 =>
VL (lift2 (abin .add) (f3.getD 5 .und) (.int .i64 1)) fun u4 =>
s2 [s4, u4] [(f3.getD 0 .und), (f3.getD 1 .und), (f3.getD 2 .und), (f3.getD 3 .und)] t4) q4 r4 (f3.getD 4 .und)) (pavs p4 (f3.getD 4 .und) []) (preadS 1 p4 (.rf 168 0 1))) (vfill [.nils] [(0, 1, (e3.getD 0 .und))])) j3) [(.rf 122 0 0), (.int .i64 0)] [(q2.getD 0 .und), (q2.getD 1 .und), (q2.getD 2 .und), (q2.getD 3 .und), (p2.getD 0 .und), (p2.getD 1 .und), b3] d3) (vfill [] [])) [v2, z2]) y2) u2) (
Rt r2 (p2.getD 0 .und)) t2) [(.rf 117 0 0), (.int .i64 0)] [(d1.getD 0 .und), (d1.getD 3 .und), (.rf 112 0 3), (.rf 116 0 3)] o2) (vfill [] [])) (vfill [.nils, .nils, .nils] [(0, 1, (d1.getD 1 .und)), (1, 1, (d1.getD 2 .und)), (2, 1, (c1.getD 0 .und))])) (vfill (vi .u8 (List.replicate 48 0)) [(0, 16, d2), (16, 16, g2), (32, 16, k2)])) [i2]) (d1.getD 3 .und)) f2) c2) j1) g1) [(.rf 84 0 0), (.int .i64 0)] [x1, x2, x3, (.ptr 68 0)] b1) (vfill [] [])
theorem spec_l09Sums_f {x0 x1 x2 x3 : V} : Prt Tryz.prog 28 [x0, x1, x2, x3] (spec_l09Sums_F x0 x1 x2 x3) := pfun (fn := Tryz.f28) (m := [.s, .s, .s, .s, .l [9, 10] [1, 2, 3, 4], .s, .s, .s, .s, .s, .s, .l [13, 14] [1, 4, 11, 12], .s, .s, .s, .s, .s, .s, .l [15, 17] [1, 4, 11, 12, 13, 14, 16], .s, .s, .s, .s, .s, .s, .l [18, 19] [1, 4, 11, 12, 13, 14, 15, 16, 17], .s, .s, .s, .s]) (c := 4 ≤ 107) rfl (fun h0 Rt => by kernel_rfl) (by decide)

def impl_eulerOf_F (x0 x1 : V) (hi : Hp) (Rt : Hp → V → Prop) : Prop :=
VL (vixS 1 x0 (.int .i64 0)) fun a1 =>
pld hi none (fun b1 c1 =>
VL (vlenS b1) fun d1 =>
VL (vixS 1 x0 (.int .i64 1)) fun e1 =>
pld c1 none (fun f1 g1 =>
VL (vlenS f1) fun h1 =>
VL (lift2 (abin .add) d1 h1) fun i1 =>
VL (vixS 1 x0 (.int .i64 2)) fun j1 =>
pld g1 none (fun k1 l1 =>
VL (vlenS k1) fun m1 =>
VL (lift2 (abin .add) i1 m1) fun n1 =>
VL (lift2 (abin .sub) n1 x1) fun o1 =>
Rt l1 o1) j1) e1) a1
theorem impl_eulerOf_f {x0 x1 : V} : Prt Tryz.prog 29 [x0, x1] (impl_eulerOf_F x0 x1) := pfun (fn := Tryz.f29) (m := [.s, .s]) (c := 2 ≤ 21) rfl (fun h0 Rt => by kernel_rfl) (by decide)

def impl_passport_F (x0 : V) (hi : Hp) (Rt : Hp → V → Prop) : Prop :=
pbox hi 65 27 (cellsV x0) fun a1 =>
pld a1 (some 16) (fun b1 c1 =>
pld c1 none (fun d1 e1 =>
pld e1 (some 16) (fun f1 g1 =>
pld g1 none (fun h1 i1 =>
pld i1 (some 33) (fun j1 k1 =>
pld k1 none (fun l1 m1 =>
pcalp Tryz.prog 63 71 m1 (fun n1 o1 =>
pcalp Tryz.prog 63 76 o1 (fun p1 q1 =>
pcalp Tryz.prog 59 78 q1 (fun r1 s1 =>
pcal Tryz.prog 63 81 s1 (fun t1 u1 =>
pmks u1 82 28 3 3 (fun v1 =>
Rt v1 (.rf 82 0 3)) (vfill [.nils, .nils, .nils] [(0, 1, n1), (1, 1, p1), (2, 1, t1)])) [r1, l1]) [j1]) [f1, h1]) [b1, d1]) (.ptr 65 0)) (.ptr 65 0)) (.ptr 65 0)) (.ptr 65 17)) (.ptr 65 0)) (.ptr 65 1)
theorem impl_passport_f {x0 : V} : Prt Tryz.prog 30 [x0] (impl_passport_F x0) := pfun (fn := Tryz.f30) (m := [.s, .s]) (c := 1 ≤ 19) rfl (fun h0 Rt => by kernel_rfl) (by decide)

def impl_isDart_F (x0 x1 : V) (hi : Hp) (Rt : Hp → V → Prop) : Prop :=
pbox hi 66 27 (cellsV x0) fun a1 =>
VL (vlenS x1) fun b1 =>
LP [9] [2, 7, 8] (fun c1 d1 e1 f1 =>
VL (lift2 (abin .lss) (c1.getD 0 .und) (d1.getD 2 .und)) fun g1 =>
pcond (
VL (vixS 1 (d1.getD 1 .und) (c1.getD 0 .und)) fun h1 =>
pld e1 none (fun i1 j1 =>
VL (lift2 (abin .lss) i1 (.int .i64 0)) fun k1 =>
pgk false j1 (fun l1 m1 => m1 i1 j1) (fun n1 o1 p1 =>
pgk false p1 (fun q1 r1 => VL (vfa 0 (d1.getD 0 .und)) fun s1 =>
r1 s1 p1) (fun t1 u1 v1 =>
pgk false v1 (fun w1 y1 => pld v1 none (fun z1 a2 =>
y1 z1 a2) u1) (fun b2 c2 d2 =>
pgk false d2 (fun e2 f2 => VL (lift2 (abin .geq) o1 c2) fun g2 =>
f2 g2 d2) (fun h2 i2 j2 =>
VL (vpick h2 (.bool true) i2) fun k2 =>
pcond (
Rt j2 (.bool false)) (
VL (lift2 (abin .add) (c1.getD 0 .und) (.int .i64 1)) fun l2 =>
f1 [l2] [(d1.getD 0 .und), (d1.getD 1 .und), (d1.getD 2 .und)] j2) k2) b2) t1) n1) k1) h1) (
Rt e1 (.bool true)) g1) [(.int .i64 0)] [(.ptr 66 0), x1, b1] a1
theorem impl_isDart_f {x0 x1 : V} : Prt Tryz.prog 31 [x0, x1] (impl_isDart_F x0 x1) := pfun (fn := Tryz.f31) (m := [.s, .s, .s, .l [9] [2, 7, 8], .s, .s, .s, .s, .s, .s, .s]) (c := 2 ≤ 22) rfl (fun h0 Rt => by kernel_rfl) (by decide)

def slices_Contains_uint32_uint32_F (x0 x1 : V) (hi : Hp) (Rt : Hp → V → Prop) : Prop :=
pcal Tryz.prog 64 71 hi (fun a1 b1 =>
VL (lift2 (abin .geq) a1 (.int .i64 0)) fun c1 =>
Rt b1 c1) [x0, x1]
theorem slices_Contains_uint32_uint32_f {x0 x1 : V} : Prt Tryz.prog 32 [x0, x1] (slices_Contains_uint32_uint32_F x0 x1) := pfun (fn := Tryz.f32) (m := [.s, .s]) (c := 2 ≤ 9) rfl (fun h0 Rt => by kernel_rfl) (by decide)

def slices_Repeat_int64_int64_i_F (x0 x1 : V) (hi : Hp) (Rt : Hp → V → Prop) : Prop :=
JN (fun a1 =>
VL (lift2 (abin .lss) x1 (.int .i64 0)) fun b1 =>
pcond (
False) (
a1 [x0, x1] hi) b1) fun c1 d1 =>
VL (vlenS (c1.getD 0 .und)) fun e1 =>
VL (lift1 (acvi .u64) e1) fun f1 =>
VL (lift1 (acvi .u64) (c1.getD 1 .und)) fun g1 =>
pcal Tryz.prog 65 82 d1 (fun h1 i1 =>
VL (vext 0 h1) fun j1 =>
VL (vext 1 h1) fun k1 =>
JN (fun l1 =>
VL (lift2 (abin .gtr) j1 (.int .u64 0)) fun m1 =>
pgk false i1 (fun n1 o1 => o1 k1 i1) (fun p1 q1 r1 =>
pgk false r1 (fun s1 t1 => VL (lift2 (abin .gtr) q1 (.int .u64 9223372036854775807)) fun u1 =>
t1 u1 r1) (fun v1 w1 y1 =>
VL (vpick v1 (.bool true) w1) fun z1 =>
pcond (
False) (
l1 [(c1.getD 0 .und), k1] y1) z1) p1) m1) fun a2 b2 =>
VL (lift1 (acvi .i64) (a2.getD 1 .und)) fun c2 =>
pmk b2 94 2 8 [(.int .i64 0)] (fun d2 e2 =>
pcp (fun f2 g2 => pcpyV 1 e2 (fun h2 i2 =>
LP [8] [7] (fun j2 k2 l2 m2 =>
VL (vlenS (k2.getD 0 .und)) fun n2 =>
VL (lift2 (abin .lss) (j2.getD 0 .und) n2) fun o2 =>
pcond (
VL (vslS 1 (k2.getD 0 .und) (some (j2.getD 0 .und)) none) fun p2 =>
VL (vslS 1 (k2.getD 0 .und) none (some (j2.getD 0 .und))) fun q2 =>
pcp (fun r2 s2 => pcpyV 1 l2 (fun t2 u2 =>
VL (lift2 (abin .add) (j2.getD 0 .und) t2) fun v2 =>
m2 [v2] [(k2.getD 0 .und)] u2) r2 s2 p2) (preadS 1 l2 q2)) (
Rt l2 (k2.getD 0 .und)) o2) [h2] [d2] i2) f2 g2 d2) (preadS 1 e2 (a2.getD 0 .und))) c2 c2) [f1, g1]
theorem slices_Repeat_int64_int64_i_f {x0 x1 : V} : Prt Tryz.prog 33 [x0, x1] (slices_Repeat_int64_int64_i_F x0 x1) := pfun (fn := Tryz.f33) (m := [.s, .j [0, 1], .s, .s, .j [0, 6], .s, .s, .s, .s, .l [8] [7], .s, .s, .s]) (c := 2 ≤ 48) rfl (fun h0 Rt => by kernel_rfl) (by decide)

def impl_parted_F (x0 x1 x2 : V) (hi : Hp) (Rt : Hp → V → Prop) : Prop :=
pbox hi 67 27 (cellsV x0) fun a1 =>
palloc a1 70 27 ([(.int .i64 0)] ++ (vi .u8 (List.replicate 32 0))) fun b1 =>
VL (vbld (vfill ([(.int .i64 0)] ++ (vi .u8 (List.replicate 32 0))) [(0, 1, x2)])) fun c1 =>
palloc b1 71 27 ([(.int .i64 0)] ++ (vi .u8 (List.replicate 32 0))) fun d1 =>
pst d1 33 (cellsV c1) (fun e1 f1 =>
pld f1 none (fun g1 h1 =>
LP [13] [1, 3, 6, 7, 12] (fun i1 j1 k1 l1 =>
VL (lift2 (abin .lss) (i1.getD 0 .und) (j1.getD 4 .und)) fun m1 =>
pcond (
VL (vixS 1 (j1.getD 0 .und) (i1.getD 0 .und)) fun n1 =>
pld k1 none (fun o1 p1 =>
VL (vfa 1 (j1.getD 1 .und)) fun q1 =>
VL (vixA 16 1 q1 (i1.getD 0 .und)) fun r1 =>
pld p1 none (fun s1 t1 =>
VL (vixS 1 (j1.getD 0 .und) s1) fun u1 =>
pld t1 none (fun v1 w1 =>
VL (lift1 (acvi .u8) v1) fun y1 =>
VL (vfa 1 (j1.getD 3 .und)) fun z1 =>
VL (vixA 16 1 z1 o1) fun a2 =>
pst w1 1 (cellsV y1) (fun b2 c2 =>
VL (vixS 1 (j1.getD 0 .und) (i1.getD 0 .und)) fun d2 =>
pld c2 none (fun e2 f2 =>
VL (vfa 17 (j1.getD 1 .und)) fun g2 =>
VL (vixA 16 1 g2 (i1.getD 0 .und)) fun h2 =>
pld f2 none (fun i2 j2 =>
VL (vixS 1 (j1.getD 0 .und) i2) fun k2 =>
pld j2 none (fun l2 m2 =>
VL (lift1 (acvi .u8) l2) fun n2 =>
VL (vfa 17 (j1.getD 3 .und)) fun o2 =>
VL (vixA 16 1 o2 e2) fun p2 =>
pst m2 1 (cellsV n2) (fun q2 r2 =>
VL (lift2 (abin .add) (i1.getD 0 .und) (.int .i64 1)) fun s2 =>
l1 [s2] [(j1.getD 0 .und), (j1.getD 1 .und), (j1.getD 2 .und), (j1.getD 3 .und), (j1.getD 4 .und)] r2) p2) k2) h2) d2) a2) u1) r1) n1) (
pld k1 (some 33) (fun t2 u2 =>
pst u2 33 (cellsV t2) (fun v2 w2 =>
VL (pcellV w2 (some 33) (j1.getD 2 .und)) fun y2 =>
Rt w2 y2) (j1.getD 2 .und)) (j1.getD 3 .und)) m1) [(.int .i64 0)] [x1, (.ptr 67 0), (.ptr 70 0), (.ptr 71 0), g1] h1) (.ptr 67 0)) (.ptr 71 0)
theorem impl_parted_f {x0 x1 x2 : V} : Prt Tryz.prog 34 [x0, x1, x2] (impl_parted_F x0 x1 x2) := pfun (fn := Tryz.f34) (m := [.s, .s, .s, .s, .l [13] [1, 3, 6, 7, 12], .s, .s, .s, .s, .s, .s]) (c := 3 ≤ 46) rfl (fun h0 Rt => by kernel_rfl) (by decide)

def impl_isSpelled_F (x0 : V) (hi : Hp) (Rt : Hp → V → Prop) : Prop :=
VL (vlenT x0) fun a1 =>
VL (lift2 (abin .leq) a1 (.int .i64 60)) fun b1 =>
pgk true hi (fun c1 d1 => d1 x0 hi) (fun e1 f1 g1 =>
pgk true g1 (fun h1 i1 => pcal Tryz.prog 66 72 g1 (fun j1 k1 =>
i1 j1 k1) [f1, (.str [98, 119, 102, 66, 87, 70])]) (fun l1 m1 n1 =>
pgk true n1 (fun o1 p1 => VL (lift2 (abin .eql) m1 (.str [])) fun q1 =>
p1 q1 n1) (fun r1 s1 t1 =>
VL (vpick r1 s1 (.bool false)) fun u1 =>
Rt t1 u1) l1) e1) b1
theorem impl_isSpelled_f {x0 : V} : Prt Tryz.prog 35 [x0] (impl_isSpelled_F x0) := pfun (fn := Tryz.f35) (m := [.s, .s]) (c := 1 ≤ 11) rfl (fun h0 Rt => by kernel_rfl) (by decide)

def impl_WalkOf_1_F (x0 x1 x2 x3 x4 : V) (hi : Hp) (Rt : Hp → V → Prop) : Prop :=
pbox hi 69 25 (cellsV x0) fun a1 =>
pld a1 none (fun b1 c1 =>
pld c1 none (fun d1 e1 =>
VL (vixS 1 x1 d1) fun f1 =>
pld e1 none (fun g1 h1 =>
VL (lift2 (abin .add) b1 g1) fun i1 =>
pld h1 none (fun j1 k1 =>
VL (lift2 (abin .rem) i1 j1) fun l1 =>
pst k1 1 (cellsV l1) (fun m1 n1 =>
pld n1 none (fun o1 p1 =>
VL (vixA 16 1 (.ptr 69 0) o1) fun q1 =>
pld p1 none (fun r1 s1 =>
VL (lift1 (acvi .i64) r1) fun t1 =>
pst s1 1 (cellsV t1) (fun u1 v1 =>
Rt v1 (.tup [])) x3) q1) x3) x2) x4) f1) x3) x2
theorem impl_WalkOf_1_f {x0 x1 x2 x3 x4 : V} : Prt Tryz.prog 36 [x0, x1, x2, x3, x4] (impl_WalkOf_1_F x0 x1 x2 x3 x4) := pfun (fn := Tryz.f36) (m := [.s, .s]) (c := 5 ≤ 19) rfl (fun h0 Rt => by kernel_rfl) (by decide)

def impl_WalkOf_2_F (x0 x1 x2 x3 x4 x5 : V) (hi : Hp) (Rt : Hp → V → Prop) : Prop :=
pbox hi 70 25 (cellsV x0) fun a1 =>
pld a1 (some 16) (fun b1 c1 =>
VL (vfa 0 x2) fun d1 =>
pld c1 none (fun e1 f1 =>
pld f1 none (fun g1 h1 =>
pcalp Tryz.prog 38 75 h1 (fun i1 j1 =>
VL (vixV 16 1 none i1 g1) fun k1 =>
VL (lift1 (acvi .i64) k1) fun l1 =>
pst j1 1 (cellsV l1) (fun m1 n1 =>
pld n1 none (fun o1 p1 =>
pld p1 none (fun q1 r1 =>
VL (vixS 1 x1 q1) fun s1 =>
pld r1 none (fun t1 u1 =>
VL (lift2 (abin .sub) o1 t1) fun v1 =>
pld u1 none (fun w1 y1 =>
VL (lift2 (abin .add) v1 w1) fun z1 =>
pld y1 none (fun a2 b2 =>
VL (lift2 (abin .rem) z1 a2) fun c2 =>
pst b2 1 (cellsV c2) (fun d2 e2 =>
Rt e2 (.tup [])) x4) x5) x5) s1) x3) x4) x3) [b1, e1]) x3) d1) (.ptr 70 0)
theorem impl_WalkOf_2_f {x0 x1 x2 x3 x4 x5 : V} : Prt Tryz.prog 37 [x0, x1, x2, x3, x4, x5] (impl_WalkOf_2_F x0 x1 x2 x3 x4 x5) := pfun (fn := Tryz.f37) (m := [.s, .s]) (c := 6 ≤ 25) rfl (fun h0 Rt => by kernel_rfl) (by decide)

def impl_back_F (x0 x1 : V) (hi : Hp) (Rt : Hp → V → Prop) : Prop :=
pbox hi 66 25 (cellsV x0) fun a1 =>
palloc a1 68 25 (vi .u8 (List.replicate 16 0)) fun b1 =>
VL (vbld (vfill (vi .u8 (List.replicate 16 0)) [])) fun c1 =>
palloc b1 69 25 (vi .u8 (List.replicate 16 0)) fun d1 =>
pst d1 16 (cellsV c1) (fun e1 f1 =>
LP [9] [2, 4, 5, 8] (fun g1 h1 i1 j1 =>
VL (lift2 (abin .lss) (g1.getD 0 .und) (h1.getD 3 .und)) fun k1 =>
pcond (
VL (vixA 16 1 (h1.getD 0 .und) (g1.getD 0 .und)) fun l1 =>
pld i1 none (fun m1 n1 =>
VL (lift1 (acvi .u8) (g1.getD 0 .und)) fun o1 =>
VL (vixA 16 1 (h1.getD 2 .und) m1) fun p1 =>
pst n1 1 (cellsV o1) (fun q1 r1 =>
VL (lift2 (abin .add) (g1.getD 0 .und) (.int .i64 1)) fun s1 =>
j1 [s1] [(h1.getD 0 .und), (h1.getD 1 .und), (h1.getD 2 .und), (h1.getD 3 .und)] r1) p1) l1) (
pld i1 (some 16) (fun t1 u1 =>
pst u1 16 (cellsV t1) (fun v1 w1 =>
VL (pcellV w1 (some 16) (h1.getD 1 .und)) fun y1 =>
Rt w1 y1) (h1.getD 1 .und)) (h1.getD 2 .und)) k1) [(.int .i64 0)] [(.ptr 66 0), (.ptr 68 0), (.ptr 69 0), x1] f1) (.ptr 69 0)
theorem impl_back_f {x0 x1 : V} : Prt Tryz.prog 38 [x0, x1] (impl_back_F x0 x1) := pfun (fn := Tryz.f38) (m := [.s, .s, .s, .s, .l [9] [2, 4, 5, 8], .s, .s, .s, .s, .s]) (c := 2 ≤ 20) rfl (fun h0 Rt => by kernel_rfl) (by decide)

def impl_valueOfWord_F (x0 x1 : V) (hi : Hp) (Rt : Hp → V → Prop) : Prop :=
pbox hi 66 27 (cellsV x0) fun a1 =>
palloc a1 68 25 (vi .u8 (List.replicate 16 0)) fun b1 =>
pld b1 none (fun c1 d1 =>
pld d1 none (fun e1 f1 =>
pcalp Tryz.prog 67 77 f1 (fun g1 h1 =>
palloc h1 70 25 (vi .u8 (List.replicate 16 0)) fun i1 =>
pst i1 16 (cellsV g1) (fun j1 k1 =>
VL (vlenT x1) fun l1 =>
LP [16] [1, 2, 4, 5, 6, 15] (fun m1 n1 o1 p1 =>
VL (lift2 (abin .lss) (m1.getD 0 .und) (n1.getD 5 .und)) fun q1 =>
pcond (
VL (vfa 1 (n1.getD 1 .und)) fun r1 =>
pld o1 (some 16) (fun s1 t1 =>
palloc t1 72 25 (vi .u8 (List.replicate 16 0)) fun u1 =>
pst u1 16 (cellsV s1) (fun v1 w1 =>
JN (fun y1 =>
VL (vixT (n1.getD 0 .und) (m1.getD 0 .und)) fun z1 =>
JN (fun a2 =>
VL (lift2 (abin .eql) z1 (.int .u8 119)) fun b2 =>
pcond (
a2 [(n1.getD 0 .und), (n1.getD 1 .und), (n1.getD 2 .und), (n1.getD 3 .und), (n1.getD 4 .und), (m1.getD 0 .und), (.ptr 72 0), (n1.getD 5 .und), (m1.getD 0 .und), z1, b2] w1) (
VL (lift2 (abin .eql) z1 (.int .u8 87)) fun c2 =>
a2 [(n1.getD 0 .und), (n1.getD 1 .und), (n1.getD 2 .und), (n1.getD 3 .und), (n1.getD 4 .und), (m1.getD 0 .und), (.ptr 72 0), (n1.getD 5 .und), (m1.getD 0 .und), z1, c2] w1) b2) fun d2 e2 =>
pcond (
VL (vfa 17 (d2.getD 1 .und)) fun f2 =>
pld e2 (some 16) (fun g2 h2 =>
pst h2 16 (cellsV g2) (fun i2 j2 =>
y1 [(d2.getD 0 .und), (d2.getD 1 .und), (d2.getD 2 .und), (d2.getD 3 .und), (d2.getD 4 .und), (d2.getD 5 .und), (d2.getD 6 .und), (d2.getD 7 .und), (d2.getD 8 .und)] j2) (d2.getD 6 .und)) f2) (
JN (fun k2 =>
VL (lift2 (abin .eql) (d2.getD 9 .und) (.int .u8 102)) fun l2 =>
pcond (
k2 [(d2.getD 0 .und), (d2.getD 1 .und), (d2.getD 2 .und), (d2.getD 3 .und), (d2.getD 4 .und), (d2.getD 5 .und), (d2.getD 6 .und), (d2.getD 7 .und), (d2.getD 8 .und), l2] e2) (
VL (lift2 (abin .eql) (d2.getD 9 .und) (.int .u8 70)) fun m2 =>
k2 [(d2.getD 0 .und), (d2.getD 1 .und), (d2.getD 2 .und), (d2.getD 3 .und), (d2.getD 4 .und), (d2.getD 5 .und), (d2.getD 6 .und), (d2.getD 7 .und), (d2.getD 8 .und), m2] e2) l2) fun n2 o2 =>
pcond (
pld o2 (some 33) (fun p2 q2 =>
pcal Tryz.prog 59 97 q2 (fun r2 s2 =>
pst s2 16 (cellsV r2) (fun t2 u2 =>
y1 [(n2.getD 0 .und), (n2.getD 1 .und), (n2.getD 2 .und), (n2.getD 3 .und), (n2.getD 4 .und), (n2.getD 5 .und), (n2.getD 6 .und), (n2.getD 7 .und), (n2.getD 8 .und)] u2) (n2.getD 6 .und)) [p2]) (n2.getD 1 .und)) (
y1 [(n2.getD 0 .und), (n2.getD 1 .und), (n2.getD 2 .und), (n2.getD 3 .und), (n2.getD 4 .und), (n2.getD 5 .und), (n2.getD 6 .und), (n2.getD 7 .und), (n2.getD 8 .und)] o2) (n2.getD 9 .und)) (d2.getD 10 .und)) fun v2 w2 =>
JN (fun y2 =>
VL (vixT (v2.getD 0 .und) (v2.getD 5 .und)) fun z2 =>
VL (lift2 (abin .lss) z2 (.int .u8 97)) fun a3 =>
pcond (
pld w2 (some 16) (fun b3 c3 =>
pcal Tryz.prog 38 104 c3 (fun d3 e3 =>
pst e3 16 (cellsV d3) (fun f3 g3 =>
y2 [(v2.getD 0 .und), (v2.getD 1 .und), (v2.getD 2 .und), (v2.getD 3 .und), (v2.getD 4 .und), (v2.getD 6 .und), (v2.getD 7 .und), (v2.getD 8 .und)] g3) (v2.getD 6 .und)) [b3, (v2.getD 3 .und)]) (v2.getD 6 .und)) (
y2 [(v2.getD 0 .und), (v2.getD 1 .und), (v2.getD 2 .und), (v2.getD 3 .und), (v2.getD 4 .und), (v2.getD 6 .und), (v2.getD 7 .und), (v2.getD 8 .und)] w2) a3) fun h3 i3 =>
pld i3 (some 16) (fun j3 k3 =>
pld k3 (some 16) (fun l3 m3 =>
pcal Tryz.prog 68 108 m3 (fun n3 o3 =>
pst o3 16 (cellsV n3) (fun p3 q3 =>
VL (lift2 (abin .add) (h3.getD 7 .und) (.int .i64 1)) fun r3 =>
p1 [r3] [(h3.getD 0 .und), (h3.getD 1 .und), (h3.getD 2 .und), (h3.getD 3 .und), (h3.getD 4 .und), (h3.getD 6 .und)] q3) (h3.getD 4 .und)) [j3, l3, (h3.getD 3 .und)]) (h3.getD 5 .und)) (h3.getD 4 .und)) (.ptr 72 0)) r1) (
pld o1 (some 16) (fun s3 t3 =>
pst t3 16 (cellsV s3) (fun u3 v3 =>
VL (pcellV v3 (some 16) (n1.getD 2 .und)) fun w3 =>
Rt v3 w3) (n1.getD 2 .und)) (n1.getD 4 .und)) q1) [(.int .i64 0)] [x1, (.ptr 66 0), (.ptr 68 0), c1, (.ptr 70 0), l1] k1) (.ptr 70 0)) [e1]) (.ptr 66 0)) (.ptr 66 0)
theorem impl_valueOfWord_f {x0 x1 : V} : Prt Tryz.prog 39 [x0, x1] (impl_valueOfWord_F x0 x1) := pfun (fn := Tryz.f39) (m := [.s, .s, .s, .s, .l [16] [1, 2, 4, 5, 6, 15], .s, .s, .s, .s, .s, .j [1, 2, 4, 5, 6, 7, 8, 15, 16], .s, .j [1, 2, 4, 5, 6, 7, 8, 15, 16, 23, 24], .s, .j [1, 2, 4, 5, 6, 7, 8, 15, 16, 29], .s, .j [1, 2, 4, 5, 6, 8, 15, 16], .s, .s]) (c := 2 ≤ 47) rfl (fun h0 Rt => by kernel_rfl) (by decide)

def spec_l01From_F (x0 : V) (hi : Hp) (Rt : Hp → V → Prop) : Prop :=
VL (vlenS x0) fun a1 =>
VL (lift1 (acvi .u64) a1) fun b1 =>
VL (lift2 (abin .add) (.int .u64 8117) b1) fun c1 =>
VL (vbld (vfill [.nils, (.int .i64 0), (.int .u64 0)] [(0, 1, x0), (2, 1, c1)])) fun d1 =>
pbox hi 75 99 (cellsV d1) fun e1 =>
LP [4] [0, 3] (fun f1 g1 h1 i1 =>
VL (vlenS (g1.getD 0 .und)) fun j1 =>
VL (lift2 (abin .lss) (f1.getD 0 .und) j1) fun k1 =>
pgk true h1 (fun l1 m1 => m1 (f1.getD 0 .und) h1) (fun n1 o1 p1 =>
pgk true p1 (fun q1 r1 => VL (lift2 (abin .lss) o1 (.int .i64 4096)) fun s1 =>
r1 s1 p1) (fun t1 u1 v1 =>
VL (vpick t1 u1 (.bool false)) fun w1 =>
pcond (
VL (vfa 0 (g1.getD 1 .und)) fun y1 =>
VL (vfa 2 y1) fun z1 =>
pld v1 none (fun a2 b2 =>
VL (lift2 (abin .mul) a2 (.int .u64 1099511628211)) fun c2 =>
VL (vixS 1 (g1.getD 0 .und) (f1.getD 0 .und)) fun d2 =>
pld b2 none (fun e2 f2 =>
VL (lift1 (acvi .u64) e2) fun g2 =>
VL (lift2 (abin .add) c2 g2) fun h2 =>
VL (lift2 (abin .add) h2 (.int .u64 23)) fun i2 =>
VL (vfa 0 (g1.getD 1 .und)) fun j2 =>
VL (vfa 2 j2) fun k2 =>
pst f2 1 (cellsV i2) (fun l2 m2 =>
VL (lift2 (abin .add) (f1.getD 0 .und) (.int .i64 1)) fun n2 =>
i1 [n2] [(g1.getD 0 .und), (g1.getD 1 .und)] m2) k2) d2) z1) (
Rt v1 (g1.getD 1 .und)) w1) n1) k1) [(.int .i64 0)] [x0, (.ptr 75 0)] e1
theorem spec_l01From_f {x0 : V} : Prt Tryz.prog 40 [x0] (spec_l01From_F x0) := pfun (fn := Tryz.f40) (m := [.s, .s, .s, .s, .l [4] [0, 3], .s, .s, .s, .s]) (c := 1 ≤ 38) rfl (fun h0 Rt => by kernel_rfl) (by decide)

def spec_l01Next_F (x0 x1 : V) (hi : Hp) (Rt : Hp → V → Prop) : Prop :=
VL (lift2 (abin .lss) x1 (.int .i64 1)) fun a1 =>
pcond (
Rt hi (.int .i64 0)) (
VL (vfa 0 x0) fun b1 =>
VL (vfa 2 b1) fun c1 =>
pld hi none (fun d1 e1 =>
VL (lift2 (abin .mul) d1 (.int .u64 6364136223846793005)) fun f1 =>
VL (lift2 (abin .add) f1 (.int .u64 1442695040888963407)) fun g1 =>
VL (vfa 0 x0) fun h1 =>
VL (vfa 2 h1) fun i1 =>
pst e1 1 (cellsV g1) (fun j1 k1 =>
VL (vfa 0 x0) fun l1 =>
VL (vfa 2 l1) fun m1 =>
pld k1 none (fun n1 o1 =>
VL (lift2 (abin .shr) n1 (.int .u64 33)) fun p1 =>
VL (lift2 (abin .and) p1 (.int .u64 16777215)) fun q1 =>
VL (lift1 (acvi .i64) q1) fun r1 =>
JN (fun s1 =>
VL (vfa 0 x0) fun t1 =>
VL (vfa 1 t1) fun u1 =>
pld o1 none (fun v1 w1 =>
VL (vfa 0 x0) fun y1 =>
VL (vfa 0 y1) fun z1 =>
pld w1 none (fun a2 b2 =>
VL (vlenS a2) fun c2 =>
VL (lift2 (abin .lss) v1 c2) fun d2 =>
pcond (
VL (vfa 0 x0) fun e2 =>
VL (vfa 0 e2) fun f2 =>
pld b2 none (fun g2 h2 =>
VL (vfa 0 x0) fun i2 =>
VL (vfa 1 i2) fun j2 =>
pld h2 none (fun k2 l2 =>
VL (vixS 1 g2 k2) fun m2 =>
pld l2 none (fun n2 o2 =>
VL (lift1 (acvi .i64) n2) fun p2 =>
VL (lift2 (abin .add) r1 p2) fun q2 =>
VL (vfa 0 x0) fun r2 =>
VL (vfa 1 r2) fun s2 =>
pld o2 none (fun t2 u2 =>
VL (lift2 (abin .add) t2 (.int .i64 1)) fun v2 =>
VL (vfa 0 x0) fun w2 =>
VL (vfa 1 w2) fun y2 =>
pst u2 1 (cellsV v2) (fun z2 a3 =>
s1 [x1, q2] a3) y2) s2) m2) j2) f2) (
s1 [x1, r1] b2) d2) z1) u1) fun b3 c3 =>
VL (lift2 (abin .rem) (b3.getD 1 .und) (b3.getD 0 .und)) fun d3 =>
Rt c3 d3) m1) i1) c1) a1
theorem spec_l01Next_f {x0 x1 : V} : Prt Tryz.prog 41 [x0, x1] (spec_l01Next_F x0 x1) := pfun (fn := Tryz.f41) (m := [.s, .s, .s, .s, .s, .s, .j [1, 5], .s, .s, .s]) (c := 2 ≤ 58) rfl (fun h0 Rt => by kernel_rfl) (by decide)

def spec_l03Word_F (x0 : V) (hi : Hp) (Rt : Hp → V → Prop) : Prop :=
pcal Tryz.prog 41 71 hi (fun a1 b1 =>
pcal Tryz.prog 41 73 b1 (fun c1 d1 =>
pcal Tryz.prog 41 75 d1 (fun e1 f1 =>
pmks f1 76 2 3 3 (fun g1 =>
pcal Tryz.prog 69 77 g1 (fun h1 i1 =>
LP [3, 4] [0] (fun j1 k1 l1 m1 =>
VL (lift2 (abin .gtr) (j1.getD 1 .und) (.int .i64 0)) fun n1 =>
pcond (
pmks l1 83 9 6 6 (fun o1 =>
pcal Tryz.prog 41 85 o1 (fun p1 q1 =>
VL (vixS 1 (.rf 83 0 6) p1) fun r1 =>
pld q1 none (fun s1 t1 =>
VL (lift2 (abin .add) (j1.getD 0 .und) s1) fun u1 =>
VL (lift2 (abin .sub) (j1.getD 1 .und) (.int .i64 1)) fun v1 =>
m1 [u1, v1] [(k1.getD 0 .und)] t1) r1) [(k1.getD 0 .und), (.int .i64 6)]) (vfill (vt (List.replicate 6 [])) [(0, 1, (.str [98])), (1, 1, (.str [119])), (2, 1, (.str [102])), (3, 1, (.str [66])), (4, 1, (.str [87])), (5, 1, (.str [70]))])) (
pcal Tryz.prog 41 90 l1 (fun w1 y1 =>
VL (lift2 (abin .eql) w1 (.int .i64 0)) fun z1 =>
pcond (
VL (lift2 (abin .add) (j1.getD 0 .und) (.str [120])) fun a2 =>
Rt y1 a2) (
Rt y1 (j1.getD 0 .und)) z1) [(k1.getD 0 .und), (.int .i64 20)]) n1) [(.str []), h1] [x0] i1) [x0, (.rf 76 0 3)]) (vfill [(.int .i64 0), (.int .i64 0), (.int .i64 0)] [(0, 1, a1), (1, 1, c1), (2, 1, e1)])) [x0, (.int .i64 62)]) [x0, (.int .i64 20)]) [x0, (.int .i64 6)]
theorem spec_l03Word_f {x0 : V} : Prt Tryz.prog 42 [x0] (spec_l03Word_F x0) := pfun (fn := Tryz.f42) (m := [.s, .s, .s, .s, .l [3, 4] [0], .s, .s, .s, .s, .s, .s, .s]) (c := 1 ≤ 31) rfl (fun h0 Rt => by kernel_rfl) (by decide)

def spec_l01In_F (x0 x1 x2 : V) (hi : Hp) (Rt : Hp → V → Prop) : Prop :=
VL (lift2 (abin .geq) x0 x1) fun a1 =>
pgk true hi (fun b1 c1 => c1 x0 hi) (fun d1 e1 f1 =>
pgk true f1 (fun g1 h1 => h1 x2 f1) (fun i1 j1 k1 =>
pgk true k1 (fun l1 m1 => VL (lift2 (abin .leq) e1 j1) fun n1 =>
m1 n1 k1) (fun o1 p1 q1 =>
VL (vpick o1 p1 (.bool false)) fun r1 =>
Rt q1 r1) i1) d1) a1
theorem spec_l01In_f {x0 x1 x2 : V} : Prt Tryz.prog 43 [x0, x1, x2] (spec_l01In_F x0 x1 x2) := pfun (fn := Tryz.f43) (m := [.s, .s]) (c := 3 ≤ 15) rfl (fun h0 Rt => by kernel_rfl) (by decide)

def spec_l03Value_F (x0 x1 : V) (hi : Hp) (Rt : Hp → V → Prop) : Prop :=
pbox hi 66 27 (cellsV x0) fun a1 =>
palloc a1 68 25 (vi .u8 (List.replicate 16 0)) fun b1 =>
VL (vlenT x1) fun c1 =>
VL (lift2 (abin .gtr) c1 (.int .i64 60)) fun d1 =>
pcond (
VL (vbld (vfill (vi .u8 (List.replicate 16 0)) [])) fun e1 =>
pst b1 16 (cellsV e1) (fun f1 g1 =>
VL (pcellV g1 (some 16) (.ptr 68 0)) fun h1 =>
Rt g1 (.tup [h1, (.bool false)])) (.ptr 68 0)) (
pld b1 none (fun i1 j1 =>
pld j1 (some 33) (fun k1 l1 =>
pld l1 none (fun m1 n1 =>
pcalp Tryz.prog 61 82 n1 (fun o1 p1 =>
pcalp Tryz.prog 70 85 p1 (fun q1 r1 =>
palloc r1 71 25 (vi .u8 (List.replicate 16 0)) fun s1 =>
palloc s1 72 25 (vi .u8 (List.replicate 16 0)) fun t1 =>
pst t1 16 (cellsV o1) (fun u1 v1 =>
pst v1 16 (cellsV q1) (fun w1 y1 =>
LP [9] [1, 2, 4, 6, 7, 8] (fun z1 a2 b2 c2 =>
VL (vlenT (a2.getD 0 .und)) fun d2 =>
VL (lift2 (abin .lss) (z1.getD 0 .und) d2) fun e2 =>
pcond (
VL (vbld (vfill (vi .u8 (List.replicate 16 0)) [])) fun f2 =>
palloc b2 74 25 (vi .u8 (List.replicate 16 0)) fun g2 =>
pst g2 16 (cellsV f2) (fun h2 i2 =>
JN (fun j2 =>
VL (vixT (a2.getD 0 .und) (z1.getD 0 .und)) fun k2 =>
JN (fun l2 =>
VL (lift2 (abin .eql) k2 (.int .u8 98)) fun m2 =>
pcond (
l2 [(a2.getD 0 .und), (a2.getD 1 .und), (a2.getD 2 .und), (a2.getD 3 .und), (a2.getD 4 .und), (a2.getD 5 .und), (z1.getD 0 .und), (.ptr 74 0), k2, m2] i2) (
VL (lift2 (abin .eql) k2 (.int .u8 66)) fun n2 =>
l2 [(a2.getD 0 .und), (a2.getD 1 .und), (a2.getD 2 .und), (a2.getD 3 .und), (a2.getD 4 .und), (a2.getD 5 .und), (z1.getD 0 .und), (.ptr 74 0), k2, n2] i2) m2) fun o2 p2 =>
pcond (
VL (vfa 1 (o2.getD 1 .und)) fun q2 =>
pld p2 (some 16) (fun r2 s2 =>
pst s2 16 (cellsV r2) (fun t2 u2 =>
j2 [(o2.getD 0 .und), (o2.getD 1 .und), (o2.getD 2 .und), (o2.getD 3 .und), (o2.getD 4 .und), (o2.getD 5 .und), (o2.getD 6 .und), (o2.getD 7 .und)] u2) (o2.getD 7 .und)) q2) (
JN (fun v2 =>
VL (lift2 (abin .eql) (o2.getD 8 .und) (.int .u8 119)) fun w2 =>
pcond (
v2 [(o2.getD 0 .und), (o2.getD 1 .und), (o2.getD 2 .und), (o2.getD 3 .und), (o2.getD 4 .und), (o2.getD 5 .und), (o2.getD 6 .und), (o2.getD 7 .und), (o2.getD 8 .und), w2] p2) (
VL (lift2 (abin .eql) (o2.getD 8 .und) (.int .u8 87)) fun y2 =>
v2 [(o2.getD 0 .und), (o2.getD 1 .und), (o2.getD 2 .und), (o2.getD 3 .und), (o2.getD 4 .und), (o2.getD 5 .und), (o2.getD 6 .und), (o2.getD 7 .und), (o2.getD 8 .und), y2] p2) w2) fun z2 a3 =>
pcond (
VL (vfa 17 (z2.getD 1 .und)) fun b3 =>
pld a3 (some 16) (fun c3 d3 =>
pst d3 16 (cellsV c3) (fun e3 f3 =>
j2 [(z2.getD 0 .und), (z2.getD 1 .und), (z2.getD 2 .und), (z2.getD 3 .und), (z2.getD 4 .und), (z2.getD 5 .und), (z2.getD 6 .und), (z2.getD 7 .und)] f3) (z2.getD 7 .und)) b3) (
JN (fun g3 =>
VL (lift2 (abin .eql) (z2.getD 8 .und) (.int .u8 102)) fun h3 =>
pcond (
g3 [(z2.getD 0 .und), (z2.getD 1 .und), (z2.getD 2 .und), (z2.getD 3 .und), (z2.getD 4 .und), (z2.getD 5 .und), (z2.getD 6 .und), (z2.getD 7 .und), h3] a3) (
VL (lift2 (abin .eql) (z2.getD 8 .und) (.int .u8 70)) fun i3 =>
g3 [(z2.getD 0 .und), (z2.getD 1 .und), (z2.getD 2 .und), (z2.getD 3 .und), (z2.getD 4 .und), (z2.getD 5 .und), (z2.getD 6 .und), (z2.getD 7 .und), i3] a3) h3) fun j3 k3 =>
pcond (
pld k3 (some 16) (fun l3 m3 =>
pst m3 16 (cellsV l3) (fun n3 o3 =>
j2 [(j3.getD 0 .und), (j3.getD 1 .und), (j3.getD 2 .und), (j3.getD 3 .und), (j3.getD 4 .und), (j3.getD 5 .und), (j3.getD 6 .und), (j3.getD 7 .und)] o3) (j3.getD 7 .und)) (j3.getD 4 .und)) (
VL (vbld (vfill (vi .u8 (List.replicate 16 0)) [])) fun p3 =>
pst k3 16 (cellsV p3) (fun q3 r3 =>
VL (pcellV r3 (some 16) (j3.getD 2 .und)) fun s3 =>
Rt r3 (.tup [s3, (.bool false)])) (j3.getD 2 .und)) (j3.getD 8 .und)) (z2.getD 9 .und)) (o2.getD 9 .und)) fun t3 u3 =>
JN (fun v3 =>
VL (vixT (t3.getD 0 .und) (t3.getD 6 .und)) fun w3 =>
VL (lift2 (abin .lss) w3 (.int .u8 97)) fun y3 =>
pcond (
pld u3 (some 16) (fun z3 a4 =>
pcal Tryz.prog 45 117 a4 (fun b4 c4 =>
pst c4 16 (cellsV b4) (fun d4 e4 =>
v3 [(t3.getD 0 .und), (t3.getD 1 .und), (t3.getD 2 .und), (t3.getD 3 .und), (t3.getD 4 .und), (t3.getD 5 .und), (t3.getD 6 .und), (t3.getD 7 .und)] e4) (t3.getD 7 .und)) [z3, (t3.getD 3 .und)]) (t3.getD 7 .und)) (
v3 [(t3.getD 0 .und), (t3.getD 1 .und), (t3.getD 2 .und), (t3.getD 3 .und), (t3.getD 4 .und), (t3.getD 5 .und), (t3.getD 6 .und), (t3.getD 7 .und)] u3) y3) fun f4 g4 =>
pld g4 (some 16) (fun h4 i4 =>
pld i4 (some 16) (fun j4 k4 =>
pcal Tryz.prog 71 121 k4 (fun l4 m4 =>
pst m4 16 (cellsV l4) (fun n4 o4 =>
VL (lift2 (abin .add) (f4.getD 6 .und) (.int .i64 1)) fun p4 =>
c2 [p4] [(f4.getD 0 .und), (f4.getD 1 .und), (f4.getD 2 .und), (f4.getD 3 .und), (f4.getD 4 .und), (f4.getD 5 .und)] o4) (f4.getD 5 .und)) [h4, j4, (f4.getD 3 .und)]) (f4.getD 7 .und)) (f4.getD 5 .und)) (.ptr 74 0)) (
pld b2 (some 16) (fun q4 r4 =>
pst r4 16 (cellsV q4) (fun s4 t4 =>
VL (pcellV t4 (some 16) (a2.getD 2 .und)) fun u4 =>
Rt t4 (.tup [u4, (.bool true)])) (a2.getD 2 .und)) (a2.getD 5 .und)) e2) [(.int .i64 0)] [x1, (.ptr 66 0), (.ptr 68 0), i1, (.ptr 71 0), (.ptr 72 0)] y1) (.ptr 72 0)) (.ptr 71 0)) [m1]) [k1]) (.ptr 66 0)) (.ptr 66 0)) (.ptr 66 0)) d1
theorem spec_l03Value_f {x0 x1 : V} : Prt Tryz.prog 44 [x0, x1] (spec_l03Value_F x0 x1) := pfun (fn := Tryz.f44) (m := [.s, .s, .s, .s, .s, .s, .s, .l [9] [1, 2, 4, 6, 7, 8], .s, .s, .s, .s, .j [1, 2, 4, 6, 7, 8, 9, 10], .s, .j [1, 2, 4, 6, 7, 8, 9, 10, 31, 33], .s, .j [1, 2, 4, 6, 7, 8, 9, 10, 31, 38], .s, .j [1, 2, 4, 6, 7, 8, 9, 10, 43], .s, .s, .j [1, 2, 4, 6, 7, 8, 9, 10], .s, .s]) (c := 2 ≤ 59) rfl (fun h0 Rt => by kernel_rfl) (by decide)

def spec_l01Back_F (x0 x1 : V) (hi : Hp) (Rt : Hp → V → Prop) : Prop :=
pbox hi 66 25 (cellsV x0) fun a1 =>
palloc a1 68 25 (vi .u8 (List.replicate 16 0)) fun b1 =>
VL (vbld (vfill (vi .u8 (List.replicate 16 0)) [])) fun c1 =>
palloc b1 69 25 (vi .u8 (List.replicate 16 0)) fun d1 =>
pst d1 16 (cellsV c1) (fun e1 f1 =>
LP [6] [1, 2, 4, 5] (fun g1 h1 i1 j1 =>
VL (lift2 (abin .lss) (g1.getD 0 .und) (h1.getD 0 .und)) fun k1 =>
pcond (
VL (vixA 16 1 (h1.getD 1 .und) (g1.getD 0 .und)) fun l1 =>
pld i1 none (fun m1 n1 =>
VL (lift1 (acvi .u8) (g1.getD 0 .und)) fun o1 =>
VL (vixA 16 1 (h1.getD 3 .und) m1) fun p1 =>
pst n1 1 (cellsV o1) (fun q1 r1 =>
VL (lift2 (abin .add) (g1.getD 0 .und) (.int .i64 1)) fun s1 =>
j1 [s1] [(h1.getD 0 .und), (h1.getD 1 .und), (h1.getD 2 .und), (h1.getD 3 .und)] r1) p1) l1) (
pld i1 (some 16) (fun t1 u1 =>
pst u1 16 (cellsV t1) (fun v1 w1 =>
VL (pcellV w1 (some 16) (h1.getD 2 .und)) fun y1 =>
Rt w1 y1) (h1.getD 2 .und)) (h1.getD 3 .und)) k1) [(.int .i64 0)] [x1, (.ptr 66 0), (.ptr 68 0), (.ptr 69 0)] f1) (.ptr 69 0)
theorem spec_l01Back_f {x0 x1 : V} : Prt Tryz.prog 45 [x0, x1] (spec_l01Back_F x0 x1) := pfun (fn := Tryz.f45) (m := [.s, .s, .s, .s, .l [6] [1, 2, 4, 5], .s, .s, .s, .s]) (c := 2 ≤ 20) rfl (fun h0 Rt => by kernel_rfl) (by decide)

def spec_l01Star_F (x0 : V) (hi : Hp) (Rt : Hp → V → Prop) : Prop :=
palloc hi 66 27 ([(.int .i64 0)] ++ (vi .u8 (List.replicate 32 0))) fun a1 =>
pcal Tryz.prog 72 69 a1 (fun b1 c1 =>
pcal Tryz.prog 70 71 c1 (fun d1 e1 =>
VL (vbld (vfill ([(.int .i64 0)] ++ (vi .u8 (List.replicate 32 0))) [(0, 1, x0), (1, 16, b1), (17, 16, d1)])) fun f1 =>
pst e1 33 (cellsV f1) (fun g1 h1 =>
VL (pcellV h1 (some 33) (.ptr 66 0)) fun i1 =>
Rt h1 i1) (.ptr 66 0)) [x0]) [x0]
theorem spec_l01Star_f {x0 : V} : Prt Tryz.prog 46 [x0] (spec_l01Star_F x0) := pfun (fn := Tryz.f46) (m := [.s, .s]) (c := 1 ≤ 9) rfl (fun h0 Rt => by kernel_rfl) (by decide)

def spec_l09Draw_F (x0 x1 : V) (hi : Hp) (Rt : Hp → V → Prop) : Prop :=
palloc hi 68 27 ([(.int .i64 0)] ++ (vi .u8 (List.replicate 32 0))) fun a1 =>
pcal Tryz.prog 41 73 a1 (fun b1 c1 =>
VL (lift2 (abin .add) (.int .i64 1) b1) fun d1 =>
pcal Tryz.prog 41 76 c1 (fun e1 f1 =>
VL (lift2 (abin .eql) e1 (.int .i64 0)) fun g1 =>
pcond (
pcal Tryz.prog 46 79 f1 (fun h1 i1 =>
palloc i1 70 27 ([(.int .i64 0)] ++ (vi .u8 (List.replicate 32 0))) fun j1 =>
pst j1 33 (cellsV h1) (fun k1 l1 =>
pcal Tryz.prog 73 82 l1 (fun m1 n1 =>
pst n1 16 (cellsV m1) (fun o1 p1 =>
pld p1 (some 33) (fun q1 r1 =>
pst r1 33 (cellsV q1) (fun s1 t1 =>
VL (pcellV t1 (some 33) (.ptr 68 0)) fun u1 =>
Rt t1 u1) (.ptr 68 0)) (.ptr 70 0)) (.ptr 70 17)) [x0, d1]) (.ptr 70 0)) [d1]) (
pcal Tryz.prog 74 87 f1 (fun v1 w1 =>
pst w1 33 (cellsV v1) (fun y1 z1 =>
VL (pcellV z1 (some 33) (.ptr 68 0)) fun a2 =>
Rt z1 a2) (.ptr 68 0)) [x0, x1]) g1) [x0, (.int .i64 2)]) [x0, x1]
theorem spec_l09Draw_f {x0 x1 : V} : Prt Tryz.prog 47 [x0, x1] (spec_l09Draw_F x0 x1) := pfun (fn := Tryz.f47) (m := [.s, .s, .s, .s, .s, .s, .s, .s]) (c := 2 ≤ 24) rfl (fun h0 Rt => by kernel_rfl) (by decide)

def spec_l09Voltages_F (x0 : V) (hi : Hp) (Rt : Hp → V → Prop) : Prop :=
palloc hi 66 27 ([(.int .i64 0)] ++ (vi .u8 (List.replicate 32 0))) fun a1 =>
pmks a1 79 2 4 4 (fun b1 =>
pcal Tryz.prog 69 80 b1 (fun c1 d1 =>
pcal Tryz.prog 47 81 d1 (fun e1 f1 =>
pcal Tryz.prog 41 84 f1 (fun g1 h1 =>
VL (lift2 (abin .add) (.int .i64 1) g1) fun i1 =>
pmks h1 86 2 6 6 (fun j1 =>
pcal Tryz.prog 69 87 j1 (fun k1 l1 =>
palloc l1 70 27 ([(.int .i64 0)] ++ (vi .u8 (List.replicate 32 0))) fun m1 =>
pst m1 33 (cellsV e1) (fun n1 o1 =>
pld o1 none (fun p1 q1 =>
VL (lift2 amax p1 (.int .i64 1)) fun r1 =>
VL (lift2 amin r1 (.int .i64 16)) fun s1 =>
pmk q1 93 2 8 [(.int .i64 0)] (fun t1 u1 =>
pmk u1 95 2 8 [(.int .i64 0)] (fun v1 w1 =>
JN (fun y1 =>
pcal Tryz.prog 41 97 w1 (fun z1 a2 =>
VL (lift2 (abin .eql) z1 (.int .i64 0)) fun b2 =>
pcond (
pld a2 (some 33) (fun c2 d2 =>
pcal Tryz.prog 26 118 d2 (fun e2 f2 =>
pcond (
LP [11] [0, 2, 6, 7, 8, 9, 10] (fun g2 h2 i2 j2 =>
VL (lift2 (abin .lss) (g2.getD 0 .und) (h2.getD 4 .und)) fun k2 =>
pcond (
VL (vfa 1 (h2.getD 2 .und)) fun l2 =>
VL (vixA 16 1 l2 (g2.getD 0 .und)) fun m2 =>
pld i2 none (fun n2 o2 =>
VL (lift1 (acvi .i64) n2) fun p2 =>
VL (lift2 (abin .sub) p2 (g2.getD 0 .und)) fun q2 =>
VL (lift2 (abin .mul) (.int .i64 16) (h2.getD 3 .und)) fun r2 =>
VL (lift2 (abin .add) q2 r2) fun s2 =>
VL (lift2 (abin .rem) s2 (h2.getD 3 .und)) fun t2 =>
VL (vixS 1 (h2.getD 5 .und) (g2.getD 0 .und)) fun u2 =>
pst o2 1 (cellsV t2) (fun v2 w2 =>
VL (vfa 17 (h2.getD 2 .und)) fun y2 =>
VL (vixA 16 1 y2 (g2.getD 0 .und)) fun z2 =>
pld w2 none (fun a3 b3 =>
VL (lift1 (acvi .i64) a3) fun c3 =>
VL (lift2 (abin .sub) c3 (g2.getD 0 .und)) fun d3 =>
VL (lift2 (abin .mul) (.int .i64 16) (h2.getD 3 .und)) fun e3 =>
VL (lift2 (abin .add) d3 e3) fun f3 =>
VL (lift2 (abin .rem) f3 (h2.getD 3 .und)) fun g3 =>
VL (vixS 1 (h2.getD 6 .und) (g2.getD 0 .und)) fun h3 =>
pst b3 1 (cellsV g3) (fun i3 j3 =>
VL (lift2 (abin .add) (g2.getD 0 .und) (.int .i64 1)) fun k3 =>
j2 [k3] [(h2.getD 0 .und), (h2.getD 1 .und), (h2.getD 2 .und), (h2.getD 3 .und), (h2.getD 4 .und), (h2.getD 5 .und), (h2.getD 6 .und)] j3) h3) z2) u2) m2) (
y1 [(h2.getD 0 .und), (h2.getD 1 .und), (h2.getD 2 .und), (h2.getD 3 .und), (h2.getD 5 .und), (h2.getD 6 .und)] i2) k2) [(.int .i64 0)] [x0, (.ptr 66 0), (.ptr 70 0), k1, s1, t1, v1] f2) (
y1 [x0, (.ptr 66 0), (.ptr 70 0), k1, t1, v1] f2) e2) [c2]) (.ptr 70 0)) (
VL (lift2 (abin .eql) z1 (.int .i64 1)) fun l3 =>
pcond (
pcal Tryz.prog 41 159 a2 (fun m3 n3 =>
pcal Tryz.prog 41 162 n3 (fun o3 p3 =>
VL (vixS 1 t1 m3) fun q3 =>
pst p3 1 (cellsV o3) (fun r3 s3 =>
pcal Tryz.prog 41 167 s3 (fun t3 u3 =>
VL (vixS 1 v1 (.int .i64 0)) fun v3 =>
pst u3 1 (cellsV t3) (fun w3 y3 =>
y1 [x0, (.ptr 66 0), (.ptr 70 0), k1, t1, v1] y3) v3) [x0, k1]) q3) [x0, k1]) [x0, s1]) (
LP [12] [0, 2, 6, 7, 8, 9, 10] (fun z3 a4 b4 c4 =>
VL (lift2 (abin .lss) (z3.getD 0 .und) (a4.getD 4 .und)) fun d4 =>
pcond (
pcal Tryz.prog 41 107 b4 (fun e4 f4 =>
VL (vixS 1 (a4.getD 5 .und) (z3.getD 0 .und)) fun g4 =>
pst f4 1 (cellsV e4) (fun h4 i4 =>
pcal Tryz.prog 41 113 i4 (fun j4 k4 =>
VL (vixS 1 (a4.getD 6 .und) (z3.getD 0 .und)) fun l4 =>
pst k4 1 (cellsV j4) (fun m4 n4 =>
VL (lift2 (abin .add) (z3.getD 0 .und) (.int .i64 1)) fun o4 =>
c4 [o4] [(a4.getD 0 .und), (a4.getD 1 .und), (a4.getD 2 .und), (a4.getD 3 .und), (a4.getD 4 .und), (a4.getD 5 .und), (a4.getD 6 .und)] n4) l4) [(a4.getD 0 .und), (a4.getD 3 .und)]) g4) [(a4.getD 0 .und), (a4.getD 3 .und)]) (
y1 [(a4.getD 0 .und), (a4.getD 1 .und), (a4.getD 2 .und), (a4.getD 3 .und), (a4.getD 5 .und), (a4.getD 6 .und)] b4) d4) [(.int .i64 0)] [x0, (.ptr 66 0), (.ptr 70 0), k1, s1, t1, v1] a2) l3) b2) [x0, (.int .i64 4)]) fun p4 q4 =>
JN (fun r4 =>
pcal Tryz.prog 41 170 q4 (fun s4 t4 =>
VL (lift2 (abin .eql) s4 (.int .i64 0)) fun u4 =>
pcond (
pmks t4 174 2 3 3 (fun v4 =>
pcal Tryz.prog 69 175 v4 (fun w4 y4 =>
r4 [(p4.getD 1 .und), (p4.getD 2 .und), w4, (p4.getD 4 .und), (p4.getD 5 .und)] y4) [(p4.getD 0 .und), (.rf 174 0 3)]) (vfill [(.int .i64 0), (.int .i64 0), (.int .i64 0)] [(0, 1, (.int .i64 0)), (1, 1, (.int .i64 17)), (2, 1, (.int .i64 1))])) (
VL (lift2 (abin .eql) s4 (.int .i64 1)) fun z4 =>
pcond (
pmks t4 179 2 1 1 (fun a5 =>
papp a5 (fun b5 c5 => papV 2 1 8 180 a5 (fun d5 e5 =>
r4 [(p4.getD 1 .und), (p4.getD 2 .und), (p4.getD 3 .und), d5, (p4.getD 5 .und)] e5) b5 c5 (p4.getD 4 .und)) (pavs a5 (p4.getD 4 .und) []) (preadS 1 a5 (.rf 179 0 1))) (vfill [(.int .i64 0)] [(0, 1, (.int .i64 0))])) (
r4 [(p4.getD 1 .und), (p4.getD 2 .und), (p4.getD 3 .und), (p4.getD 4 .und), (p4.getD 5 .und)] t4) z4) u4) [(p4.getD 0 .und), (.int .i64 24)]) fun f5 g5 =>
pld g5 (some 33) (fun h5 i5 =>
pst i5 33 (cellsV h5) (fun j5 k5 =>
VL (pcellV k5 (some 33) (f5.getD 0 .und)) fun l5 =>
Rt k5 (.tup [l5, (f5.getD 2 .und), (f5.getD 3 .und), (f5.getD 4 .und)])) (f5.getD 0 .und)) (f5.getD 1 .und)) s1 s1) s1 s1) (.ptr 70 0)) (.ptr 70 0)) [x0, (.rf 86 0 6)]) (vfill (vi .i64 (List.replicate 6 0)) [(0, 1, (.int .i64 1)), (1, 1, (.int .i64 2)), (2, 1, (.int .i64 2)), (3, 1, (.int .i64 3)), (4, 1, (.int .i64 4)), (5, 1, i1)])) [x0, (.int .i64 16)]) [x0, c1]) [x0, (.rf 79 0 4)]) (vfill (vi .i64 (List.replicate 4 0)) [(0, 1, (.int .i64 4)), (1, 1, (.int .i64 8)), (2, 1, (.int .i64 8)), (3, 1, (.int .i64 16))])
theorem spec_l09Voltages_f {x0 : V} : Prt Tryz.prog 48 [x0] (spec_l09Voltages_F x0) := pfun (fn := Tryz.f48) (m := [.s, .s, .s, .s, .j [0, 2, 6, 7, 9, 10], .s, .s, .s, .s, .l [11] [0, 2, 6, 7, 8, 9, 10], .s, .s, .s, .s, .s, .s, .s, .l [12] [0, 2, 6, 7, 8, 9, 10], .s, .s, .s, .s, .j [2, 6, 7, 9, 10], .s, .s, .s, .s]) (c := 1 ≤ 121) rfl (fun h0 Rt => by kernel_rfl) (by decide)

def impl_areVoltages_F (x0 x1 x2 : V) (hi : Hp) (Rt : Hp → V → Prop) : Prop :=
pbox hi 67 27 (cellsV x0) fun a1 =>
VL (lift2 (abin .lss) x1 (.int .i64 1)) fun b1 =>
pgk false a1 (fun c1 d1 => d1 x1 a1) (fun e1 f1 g1 =>
pgk false g1 (fun h1 i1 => VL (lift2 (abin .gtr) f1 (.int .i64 16)) fun j1 =>
i1 j1 g1) (fun k1 l1 m1 =>
VL (vpick k1 (.bool true) l1) fun n1 =>
pcond (
Rt m1 (.bool false)) (
VL (vlenS x2) fun o1 =>
LP [19] [1, 3, 17, 18] (fun p1 q1 r1 s1 =>
VL (lift2 (abin .lss) (p1.getD 0 .und) (q1.getD 3 .und)) fun t1 =>
pcond (
VL (vixS 1 (q1.getD 2 .und) (p1.getD 0 .und)) fun u1 =>
pld r1 none (fun v1 w1 =>
VL (vlenS v1) fun y1 =>
VL (vfa 0 (q1.getD 1 .und)) fun z1 =>
pld w1 none (fun a2 b2 =>
VL (lift2 (abin .neq) y1 a2) fun c2 =>
pcond (
Rt b2 (.bool false)) (
VL (vlenS v1) fun d2 =>
LP [30] [1, 3, 17, 18, 19, 28, 29] (fun e2 f2 g2 h2 =>
VL (lift2 (abin .lss) (e2.getD 0 .und) (f2.getD 6 .und)) fun i2 =>
pcond (
VL (vixS 1 (f2.getD 5 .und) (e2.getD 0 .und)) fun j2 =>
pld g2 none (fun k2 l2 =>
VL (lift2 (abin .lss) k2 (.int .i64 0)) fun m2 =>
pgk false l2 (fun n2 o2 => o2 k2 l2) (fun p2 q2 r2 =>
pgk false r2 (fun s2 t2 => t2 (f2.getD 0 .und) r2) (fun u2 v2 w2 =>
pgk false w2 (fun y2 z2 => VL (lift2 (abin .geq) q2 v2) fun a3 =>
z2 a3 w2) (fun b3 c3 d3 =>
VL (vpick b3 (.bool true) c3) fun e3 =>
pcond (
Rt d3 (.bool false)) (
VL (lift2 (abin .add) (e2.getD 0 .und) (.int .i64 1)) fun f3 =>
h2 [f3] [(f2.getD 0 .und), (f2.getD 1 .und), (f2.getD 2 .und), (f2.getD 3 .und), (f2.getD 4 .und), (f2.getD 5 .und), (f2.getD 6 .und)] d3) e3) u2) p2) m2) j2) (
VL (lift2 (abin .add) (f2.getD 4 .und) (.int .i64 1)) fun g3 =>
s1 [g3] [(f2.getD 0 .und), (f2.getD 1 .und), (f2.getD 2 .und), (f2.getD 3 .und)] g2) i2) [(.int .i64 0)] [(q1.getD 0 .und), (q1.getD 1 .und), (q1.getD 2 .und), (q1.getD 3 .und), (p1.getD 0 .und), v1, d2] b2) c2) z1) u1) (
Rt r1 (.bool true)) t1) [(.int .i64 0)] [x1, (.ptr 67 0), x2, o1] m1) n1) e1) b1
theorem impl_areVoltages_f {x0 x1 x2 : V} : Prt Tryz.prog 49 [x0, x1, x2] (impl_areVoltages_F x0 x1 x2) := pfun (fn := Tryz.f49) (m := [.s, .s, .s, .s, .s, .s, .l [19] [1, 3, 17, 18], .s, .s, .s, .s, .s, .s, .s, .s, .l [30] [1, 3, 17, 18, 19, 28, 29], .s, .s, .s, .s, .s, .s, .s]) (c := 3 ≤ 43) rfl (fun h0 Rt => by kernel_rfl) (by decide)

def impl_IsPermutation_F (x0 x1 : V) (hi : Hp) (Rt : Hp → V → Prop) : Prop :=
pbox hi 66 25 (cellsV x0) fun a1 =>
pcal Tryz.prog 75 73 a1 (fun b1 c1 =>
VL (lift1 (aun .not) b1) fun d1 =>
pcond (
Rt c1 (.bool false)) (
VL (vbld (vfill (vb (List.replicate 16 false)) [])) fun e1 =>
palloc c1 69 103 (vb (List.replicate 16 false)) fun f1 =>
pst f1 16 (cellsV e1) (fun g1 h1 =>
pld h1 (some 16) (fun i1 j1 =>
LP [13] [1, 5, 12] (fun k1 l1 m1 n1 =>
VL (lift2 (abin .lss) (k1.getD 0 .und) (.int .i64 16)) fun o1 =>
pcond (
JN (fun p1 =>
VL (vixV 16 1 none (l1.getD 2 .und) (k1.getD 0 .und)) fun q1 =>
VL (lift2 (abin .geq) (k1.getD 0 .und) (l1.getD 0 .und)) fun r1 =>
pcond (
VL (lift2 (abin .neq) q1 (.int .u8 0)) fun s1 =>
pcond (
Rt m1 (.bool false)) (
p1 [(l1.getD 0 .und), (l1.getD 1 .und), (l1.getD 2 .und), (k1.getD 0 .und)] m1) s1) (
VL (lift1 (acvi .i64) q1) fun t1 =>
VL (lift2 (abin .geq) t1 (l1.getD 0 .und)) fun u1 =>
pgk false m1 (fun v1 w1 => w1 q1 m1) (fun y1 z1 a2 =>
pgk false a2 (fun b2 c2 => VL (vixA 16 1 (l1.getD 1 .und) z1) fun d2 =>
c2 d2 a2) (fun e2 f2 g2 =>
pgk false g2 (fun h2 i2 => pld g2 none (fun j2 k2 =>
i2 j2 k2) f2) (fun l2 m2 n2 =>
VL (vpick l2 (.bool true) m2) fun o2 =>
pcond (
Rt n2 (.bool false)) (
VL (vixA 16 1 (l1.getD 1 .und) q1) fun p2 =>
pst n2 1 (cellsV (.bool true)) (fun q2 r2 =>
p1 [(l1.getD 0 .und), (l1.getD 1 .und), (l1.getD 2 .und), (k1.getD 0 .und)] r2) p2) o2) e2) y1) u1) r1) fun s2 t2 =>
VL (lift2 (abin .add) (s2.getD 3 .und) (.int .i64 1)) fun u2 =>
n1 [u2] [(s2.getD 0 .und), (s2.getD 1 .und), (s2.getD 2 .und)] t2) (
Rt m1 (.bool true)) o1) [(.int .i64 0)] [x1, (.ptr 69 0), i1] j1) (.ptr 66 0)) (.ptr 69 0)) d1) [x1]
theorem impl_IsPermutation_f {x0 x1 : V} : Prt Tryz.prog 50 [x0, x1] (impl_IsPermutation_F x0 x1) := pfun (fn := Tryz.f50) (m := [.s, .s, .s, .s, .s, .s, .s, .l [13] [1, 5, 12], .s, .s, .j [1, 5, 12, 13], .s, .s, .s, .s, .s, .s, .s, .s, .s, .s]) (c := 2 ≤ 34) rfl (fun h0 Rt => by kernel_rfl) (by decide)

def impl_reached_F (x0 x1 : V) (hi : Hp) (Rt : Hp → V → Prop) : Prop :=
VL (vbld (vfill (vb (List.replicate 16 false)) [(0, 1, (.bool true))])) fun a1 =>
palloc hi 69 103 (vb (List.replicate 16 false)) fun b1 =>
pst b1 16 (cellsV a1) (fun c1 d1 =>
pmks d1 76 5 1 1 (fun e1 =>
LP [6, 7] [1, 5] (fun f1 g1 h1 i1 =>
VL (vlenS (f1.getD 0 .und)) fun j1 =>
VL (lift2 (abin .lss) (f1.getD 1 .und) j1) fun k1 =>
pcond (
VL (vlenS (g1.getD 0 .und)) fun l1 =>
LP [6, 21] [1, 5, 7, 19, 20] (fun m1 n1 o1 p1 =>
VL (lift2 (abin .lss) (m1.getD 1 .und) (n1.getD 4 .und)) fun q1 =>
pcond (
JN (fun r1 =>
VL (vixS 16 (n1.getD 3 .und) (m1.getD 1 .und)) fun s1 =>
pld o1 (some 16) (fun t1 u1 =>
palloc u1 73 25 (vi .u8 (List.replicate 16 0)) fun v1 =>
pst v1 16 (cellsV t1) (fun w1 y1 =>
VL (vixS 1 (m1.getD 0 .und) (n1.getD 2 .und)) fun z1 =>
pld y1 none (fun a2 b2 =>
VL (vixA 16 1 (.ptr 73 0) a2) fun c2 =>
pld b2 none (fun d2 e2 =>
VL (vixA 16 1 (n1.getD 1 .und) d2) fun f2 =>
pld e2 none (fun g2 h2 =>
VL (lift1 (aun .not) g2) fun i2 =>
pcond (
VL (vixA 16 1 (n1.getD 1 .und) d2) fun j2 =>
pst h2 1 (cellsV (.bool true)) (fun k2 l2 =>
pmks l2 103 5 1 1 (fun m2 =>
papp m2 (fun n2 o2 => papV 5 1 1 104 m2 (fun p2 q2 =>
r1 [(n1.getD 0 .und), (n1.getD 1 .und), p2, (n1.getD 2 .und), (n1.getD 3 .und), (n1.getD 4 .und), (m1.getD 1 .und)] q2) n2 o2 (m1.getD 0 .und)) (pavs m2 (m1.getD 0 .und) []) (preadS 1 m2 (.rf 103 0 1))) (vfill [(.int .u8 0)] [(0, 1, d2)])) j2) (
r1 [(n1.getD 0 .und), (n1.getD 1 .und), (m1.getD 0 .und), (n1.getD 2 .und), (n1.getD 3 .und), (n1.getD 4 .und), (m1.getD 1 .und)] h2) i2) f2) c2) z1) (.ptr 73 0)) s1) fun r2 s2 =>
VL (lift2 (abin .add) (r2.getD 6 .und) (.int .i64 1)) fun t2 =>
p1 [(r2.getD 2 .und), t2] [(r2.getD 0 .und), (r2.getD 1 .und), (r2.getD 3 .und), (r2.getD 4 .und), (r2.getD 5 .und)] s2) (
VL (lift2 (abin .add) (n1.getD 2 .und) (.int .i64 1)) fun u2 =>
i1 [(m1.getD 0 .und), u2] [(n1.getD 0 .und), (n1.getD 1 .und)] o1) q1) [(f1.getD 0 .und), (.int .i64 0)] [(g1.getD 0 .und), (g1.getD 1 .und), (f1.getD 1 .und), (g1.getD 0 .und), l1] h1) (
VL (vlenS (f1.getD 0 .und)) fun v2 =>
Rt h1 v2) k1) [(.rf 76 0 1), (.int .i64 0)] [x1, (.ptr 69 0)] e1) (vfill [(.int .u8 0)] [(0, 1, (.int .u8 0))])) (.ptr 69 0)
theorem impl_reached_f {x0 x1 : V} : Prt Tryz.prog 51 [x0, x1] (impl_reached_F x0 x1) := pfun (fn := Tryz.f51) (m := [.s, .s, .s, .s, .s, .l [6, 7] [1, 5], .s, .s, .s, .s, .l [6, 21] [1, 5, 7, 19, 20], .s, .s, .j [1, 5, 6, 7, 19, 20, 21], .s, .s, .s, .s, .s]) (c := 2 ≤ 44) rfl (fun h0 Rt => by kernel_rfl) (by decide)

def spec_l09List_F (x0 x1 x2 x3 : V) (hi : Hp) (Rt : Hp → V → Prop) : Prop :=
LP [9] [0, 1, 2, 3] (fun a1 b1 c1 d1 =>
VL (vlenS (b1.getD 0 .und)) fun e1 =>
VL (lift2 (abin .lss) (a1.getD 0 .und) e1) fun f1 =>
pcond (
VL (vixS 1 (b1.getD 0 .und) (a1.getD 0 .und)) fun g1 =>
pld c1 none (fun h1 i1 =>
pcal Tryz.prog 43 86 i1 (fun j1 k1 =>
VL (lift1 (aun .not) j1) fun l1 =>
pcond (
Rt k1 (.bool false)) (
VL (lift2 (abin .add) (a1.getD 0 .und) (.int .i64 1)) fun m1 =>
d1 [m1] [(b1.getD 0 .und), (b1.getD 1 .und), (b1.getD 2 .und), (b1.getD 3 .und)] k1) l1) [h1, (b1.getD 2 .und), (b1.getD 3 .und)]) g1) (
VL (vlenS (b1.getD 0 .und)) fun n1 =>
VL (lift2 (abin .eql) n1 (b1.getD 1 .und)) fun o1 =>
Rt c1 o1) f1) [(.int .i64 0)] [x0, x1, x2, x3] hi
theorem spec_l09List_f {x0 x1 x2 x3 : V} : Prt Tryz.prog 52 [x0, x1, x2, x3] (spec_l09List_F x0 x1 x2 x3) := pfun (fn := Tryz.f52) (m := [.s, .s, .s, .l [9] [0, 1, 2, 3], .s, .s, .s, .s, .s, .s]) (c := 4 ≤ 28) rfl (fun h0 Rt => by kernel_rfl) (by decide)

def spec_l01Perm_F (x0 x1 : V) (hi : Hp) (Rt : Hp → V → Prop) : Prop :=
pbox hi 66 25 (cellsV x0) fun a1 =>
pcal Tryz.prog 43 72 a1 (fun b1 c1 =>
VL (lift1 (aun .not) b1) fun d1 =>
pcond (
Rt c1 (.bool false)) (
VL (vbld (vfill (vb (List.replicate 16 false)) [])) fun e1 =>
palloc c1 69 103 (vb (List.replicate 16 false)) fun f1 =>
pst f1 16 (cellsV e1) (fun g1 h1 =>
LP [6] [1, 2, 5] (fun i1 j1 k1 l1 =>
VL (lift2 (abin .lss) (i1.getD 0 .und) (.int .i64 16)) fun m1 =>
pcond (
JN (fun n1 =>
VL (lift2 (abin .geq) (i1.getD 0 .und) (j1.getD 0 .und)) fun o1 =>
pcond (
VL (vixA 16 1 (j1.getD 1 .und) (i1.getD 0 .und)) fun p1 =>
pld k1 none (fun q1 r1 =>
VL (lift2 (abin .neq) q1 (.int .u8 0)) fun s1 =>
pcond (
Rt r1 (.bool false)) (
n1 [(j1.getD 0 .und), (j1.getD 1 .und), (j1.getD 2 .und), (i1.getD 0 .und)] r1) s1) p1) (
VL (vixA 16 1 (j1.getD 1 .und) (i1.getD 0 .und)) fun t1 =>
pld k1 none (fun u1 v1 =>
VL (lift1 (acvi .i64) u1) fun w1 =>
VL (lift2 (abin .geq) w1 (j1.getD 0 .und)) fun y1 =>
pgk false v1 (fun z1 a2 => a2 (i1.getD 0 .und) v1) (fun b2 c2 d2 =>
pgk false d2 (fun e2 f2 => VL (vixA 16 1 (j1.getD 1 .und) c2) fun g2 =>
f2 g2 d2) (fun h2 i2 j2 =>
pgk false j2 (fun k2 l2 => pld j2 none (fun m2 n2 =>
l2 m2 n2) i2) (fun o2 p2 q2 =>
pgk false q2 (fun r2 s2 => VL (vixA 16 1 (j1.getD 2 .und) p2) fun t2 =>
s2 t2 q2) (fun u2 v2 w2 =>
pgk false w2 (fun y2 z2 => pld w2 none (fun a3 b3 =>
z2 a3 b3) v2) (fun c3 d3 e3 =>
VL (vpick c3 (.bool true) d3) fun f3 =>
pcond (
Rt e3 (.bool false)) (
VL (vixA 16 1 (j1.getD 1 .und) (i1.getD 0 .und)) fun g3 =>
pld e3 none (fun h3 i3 =>
VL (vixA 16 1 (j1.getD 2 .und) h3) fun j3 =>
pst i3 1 (cellsV (.bool true)) (fun k3 l3 =>
n1 [(j1.getD 0 .und), (j1.getD 1 .und), (j1.getD 2 .und), (i1.getD 0 .und)] l3) j3) g3) f3) u2) o2) h2) b2) y1) t1) o1) fun m3 n3 =>
VL (lift2 (abin .add) (m3.getD 3 .und) (.int .i64 1)) fun o3 =>
l1 [o3] [(m3.getD 0 .und), (m3.getD 1 .und), (m3.getD 2 .und)] n3) (
Rt k1 (.bool true)) m1) [(.int .i64 0)] [x1, (.ptr 66 0), (.ptr 69 0)] h1) (.ptr 69 0)) d1) [x1, (.int .i64 1), (.int .i64 16)]
theorem spec_l01Perm_f {x0 x1 : V} : Prt Tryz.prog 53 [x0, x1] (spec_l01Perm_F x0 x1) := pfun (fn := Tryz.f53) (m := [.s, .s, .s, .s, .s, .s, .s, .l [6] [1, 2, 5], .s, .s, .j [1, 2, 5, 6], .s, .s, .s, .s, .s, .s]) (c := 2 ≤ 41) rfl (fun h0 Rt => by kernel_rfl) (by decide)

def spec_l01Connected_F (x0 x1 x2 : V) (hi : Hp) (Rt : Hp → V → Prop) : Prop :=
pbox hi 68 25 (cellsV x1) fun a1 =>
pbox a1 69 25 (cellsV x2) fun b1 =>
VL (vbld (vfill (vb (List.replicate 16 false)) [])) fun c1 =>
pmks b1 77 5 1 1 (fun d1 =>
palloc d1 71 103 (vb (List.replicate 16 false)) fun e1 =>
pst e1 16 (cellsV c1) (fun f1 g1 =>
VL (vixA 16 1 (.ptr 71 0) (.int .i64 0)) fun h1 =>
pst g1 1 (cellsV (.bool true)) (fun i1 j1 =>
LP [8, 9] [0, 4, 5, 7] (fun k1 l1 m1 n1 =>
VL (vlenS (k1.getD 0 .und)) fun o1 =>
VL (lift2 (abin .lss) (k1.getD 1 .und) o1) fun p1 =>
pcond (
VL (vixS 1 (k1.getD 0 .und) (k1.getD 1 .und)) fun q1 =>
pld m1 none (fun r1 s1 =>
VL (vixA 16 1 (l1.getD 1 .und) r1) fun t1 =>
pld s1 none (fun u1 v1 =>
VL (vixS 1 (k1.getD 0 .und) (k1.getD 1 .und)) fun w1 =>
pld v1 none (fun y1 z1 =>
VL (vixA 16 1 (l1.getD 2 .und) y1) fun a2 =>
pld z1 none (fun b2 c2 =>
pmks c2 97 5 2 2 (fun d2 =>
LP [8, 11] [0, 4, 5, 7, 9, 10] (fun e2 f2 g2 h2 =>
VL (lift2 (abin .lss) (e2.getD 1 .und) (.int .i64 2)) fun i2 =>
pcond (
JN (fun j2 =>
VL (vixS 1 (f2.getD 5 .und) (e2.getD 1 .und)) fun k2 =>
pld g2 none (fun l2 m2 =>
VL (vixA 16 1 (f2.getD 3 .und) l2) fun n2 =>
pld m2 none (fun o2 p2 =>
VL (lift1 (aun .not) o2) fun q2 =>
pcond (
VL (vixS 1 (f2.getD 5 .und) (e2.getD 1 .und)) fun r2 =>
pld p2 none (fun s2 t2 =>
VL (vixA 16 1 (f2.getD 3 .und) s2) fun u2 =>
pst t2 1 (cellsV (.bool true)) (fun v2 w2 =>
VL (vixS 1 (f2.getD 5 .und) (e2.getD 1 .und)) fun y2 =>
pld w2 none (fun z2 a3 =>
pmks a3 119 5 1 1 (fun b3 =>
papp b3 (fun c3 d3 => papV 5 1 1 120 b3 (fun e3 f3 =>
j2 [(f2.getD 0 .und), (f2.getD 1 .und), (f2.getD 2 .und), (f2.getD 3 .und), e3, (f2.getD 4 .und), (f2.getD 5 .und), (e2.getD 1 .und)] f3) c3 d3 (e2.getD 0 .und)) (pavs b3 (e2.getD 0 .und) []) (preadS 1 b3 (.rf 119 0 1))) (vfill [(.int .u8 0)] [(0, 1, z2)])) y2) u2) r2) (
j2 [(f2.getD 0 .und), (f2.getD 1 .und), (f2.getD 2 .und), (f2.getD 3 .und), (e2.getD 0 .und), (f2.getD 4 .und), (f2.getD 5 .und), (e2.getD 1 .und)] p2) q2) n2) k2) fun g3 h3 =>
VL (lift2 (abin .add) (g3.getD 7 .und) (.int .i64 1)) fun i3 =>
h2 [(g3.getD 4 .und), i3] [(g3.getD 0 .und), (g3.getD 1 .und), (g3.getD 2 .und), (g3.getD 3 .und), (g3.getD 5 .und), (g3.getD 6 .und)] h3) (
VL (lift2 (abin .add) (f2.getD 4 .und) (.int .i64 1)) fun j3 =>
n1 [(e2.getD 0 .und), j3] [(f2.getD 0 .und), (f2.getD 1 .und), (f2.getD 2 .und), (f2.getD 3 .und)] g2) i2) [(k1.getD 0 .und), (.int .i64 0)] [(l1.getD 0 .und), (l1.getD 1 .und), (l1.getD 2 .und), (l1.getD 3 .und), (k1.getD 1 .und), (.rf 97 0 2)] d2) (vfill [(.int .u8 0), (.int .u8 0)] [(0, 1, u1), (1, 1, b2)])) a2) w1) t1) q1) (
VL (vlenS (k1.getD 0 .und)) fun k3 =>
VL (lift2 (abin .eql) k3 (l1.getD 0 .und)) fun l3 =>
Rt m1 l3) p1) [(.rf 77 0 1), (.int .i64 0)] [x0, (.ptr 68 0), (.ptr 69 0), (.ptr 71 0)] j1) h1) (.ptr 71 0)) (vfill [(.int .u8 0)] [(0, 1, (.int .u8 0))])
theorem spec_l01Connected_f {x0 x1 x2 : V} : Prt Tryz.prog 54 [x0, x1, x2] (spec_l01Connected_F x0 x1 x2) := pfun (fn := Tryz.f54) (m := [.s, .s, .s, .s, .s, .l [8, 9] [0, 4, 5, 7], .s, .s, .s, .s, .s, .l [8, 11] [0, 4, 5, 7, 9, 10], .s, .s, .j [0, 4, 5, 7, 8, 9, 10, 11], .s, .s, .s]) (c := 3 ≤ 61) rfl (fun h0 Rt => by kernel_rfl) (by decide)

def impl_sumsAt_F (x0 x1 x2 : V) (hi : Hp) (Rt : Hp → V → Prop) : Prop :=
pmks hi 77 2 0 0 (fun a1 =>
VL (vlenS x0) fun b1 =>
LP [7, 16] [1, 2, 14, 15] (fun c1 d1 e1 f1 =>
VL (lift2 (abin .lss) (c1.getD 1 .und) (d1.getD 3 .und)) fun g1 =>
pcond (
VL (vixS 1 (d1.getD 2 .und) (c1.getD 1 .und)) fun h1 =>
pld e1 none (fun i1 j1 =>
VL (vlenS i1) fun k1 =>
LP [10, 22] [1, 2, 7, 14, 15, 16, 20, 21] (fun l1 m1 n1 o1 =>
VL (lift2 (abin .lss) (l1.getD 1 .und) (m1.getD 7 .und)) fun p1 =>
pcond (
VL (vixS 1 (m1.getD 6 .und) (l1.getD 1 .und)) fun q1 =>
pld n1 none (fun r1 s1 =>
pcallv Tryz.prog [r1] 93 s1 (fun t1 u1 =>
VL (lift2 (abin .add) (l1.getD 0 .und) t1) fun v1 =>
VL (lift2 (abin .add) (l1.getD 1 .und) (.int .i64 1)) fun w1 =>
o1 [v1, w1] [(m1.getD 0 .und), (m1.getD 1 .und), (m1.getD 2 .und), (m1.getD 3 .und), (m1.getD 4 .und), (m1.getD 5 .und), (m1.getD 6 .und), (m1.getD 7 .und)] u1) (m1.getD 1 .und)) q1) (
VL (lift2 (abin .rem) (l1.getD 0 .und) (m1.getD 0 .und)) fun y1 =>
pmks n1 100 2 1 1 (fun z1 =>
papp z1 (fun a2 b2 => papV 2 1 8 101 z1 (fun c2 d2 =>
VL (lift2 (abin .add) (m1.getD 5 .und) (.int .i64 1)) fun e2 =>
f1 [c2, e2] [(m1.getD 0 .und), (m1.getD 1 .und), (m1.getD 3 .und), (m1.getD 4 .und)] d2) a2 b2 (m1.getD 2 .und)) (pavs z1 (m1.getD 2 .und) []) (preadS 1 z1 (.rf 100 0 1))) (vfill [(.int .i64 0)] [(0, 1, y1)])) p1) [(.int .i64 0), (.int .i64 0)] [(d1.getD 0 .und), (d1.getD 1 .und), (c1.getD 0 .und), (d1.getD 2 .und), (d1.getD 3 .und), (c1.getD 1 .und), i1, k1] j1) h1) (
Rt e1 (c1.getD 0 .und)) g1) [(.rf 77 0 0), (.int .i64 0)] [x1, x2, x0, b1] a1) (vfill [] [])
theorem impl_sumsAt_f {x0 x1 x2 : V} : Prt Tryz.prog 55 [x0, x1, x2] (impl_sumsAt_F x0 x1 x2) := pfun (fn := Tryz.f55) (m := [.s, .s, .s, .s, .l [7, 16] [1, 2, 14, 15], .s, .s, .s, .s, .s, .s, .s, .l [10, 22] [1, 2, 7, 14, 15, 16, 20, 21], .s, .s, .s, .s, .s]) (c := 3 ≤ 40) rfl (fun h0 Rt => by kernel_rfl) (by decide)

def impl_cycles_F (x0 x1 : V) (hi : Hp) (Rt : Hp → V → Prop) : Prop :=
pbox hi 66 25 (cellsV x0) fun a1 =>
pmks a1 74 28 0 0 (fun b1 =>
VL (vbld (vfill (vb (List.replicate 16 false)) [])) fun c1 =>
palloc b1 70 103 (vb (List.replicate 16 false)) fun d1 =>
pst d1 16 (cellsV c1) (fun e1 f1 =>
LP [5, 13] [2, 6, 12] (fun g1 h1 i1 j1 =>
VL (lift2 (abin .lss) (g1.getD 1 .und) (h1.getD 2 .und)) fun k1 =>
pcond (
JN (fun l1 =>
VL (vixA 16 1 (h1.getD 1 .und) (g1.getD 1 .und)) fun m1 =>
pld i1 none (fun n1 o1 =>
pcond (
l1 [(h1.getD 0 .und), (g1.getD 0 .und), (h1.getD 1 .und), (h1.getD 2 .und), (g1.getD 1 .und)] o1) (
pmks o1 83 2 0 0 (fun p1 =>
LP [8, 9] [2, 5, 6, 12, 13] (fun q1 r1 s1 t1 =>
VL (vixA 16 1 (r1.getD 2 .und) (q1.getD 1 .und)) fun u1 =>
pld s1 none (fun v1 w1 =>
VL (lift1 (aun .not) v1) fun y1 =>
pcond (
VL (vixA 16 1 (r1.getD 2 .und) (q1.getD 1 .und)) fun z1 =>
pst w1 1 (cellsV (.bool true)) (fun a2 b2 =>
pmks b2 97 2 1 1 (fun c2 =>
papp c2 (fun d2 e2 => papV 2 1 8 98 c2 (fun f2 g2 =>
VL (vixA 16 1 (r1.getD 0 .und) (q1.getD 1 .und)) fun h2 =>
pld g2 none (fun i2 j2 =>
VL (lift1 (acvi .i64) i2) fun k2 =>
t1 [f2, k2] [(r1.getD 0 .und), (r1.getD 1 .und), (r1.getD 2 .und), (r1.getD 3 .und), (r1.getD 4 .und)] j2) h2) d2 e2 (q1.getD 0 .und)) (pavs c2 (q1.getD 0 .und) []) (preadS 1 c2 (.rf 97 0 1))) (vfill [(.int .i64 0)] [(0, 1, (q1.getD 1 .und))])) z1) (
pmks w1 101 28 1 1 (fun l2 =>
papp l2 (fun m2 n2 => papV 28 1 24 102 l2 (fun o2 p2 =>
l1 [(r1.getD 0 .und), o2, (r1.getD 2 .und), (r1.getD 3 .und), (r1.getD 4 .und)] p2) m2 n2 (r1.getD 1 .und)) (pavs l2 (r1.getD 1 .und) []) (preadS 1 l2 (.rf 101 0 1))) (vfill [.nils] [(0, 1, (q1.getD 0 .und))])) y1) u1) [(.rf 83 0 0), (g1.getD 1 .und)] [(h1.getD 0 .und), (g1.getD 0 .und), (h1.getD 1 .und), (h1.getD 2 .und), (g1.getD 1 .und)] p1) (vfill [] [])) n1) m1) fun q2 r2 =>
VL (lift2 (abin .add) (q2.getD 4 .und) (.int .i64 1)) fun s2 =>
j1 [(q2.getD 1 .und), s2] [(q2.getD 0 .und), (q2.getD 2 .und), (q2.getD 3 .und)] r2) (
Rt i1 (g1.getD 0 .und)) k1) [(.rf 74 0 0), (.int .i64 0)] [(.ptr 66 0), (.ptr 70 0), x1] f1) (.ptr 70 0)) (vfill [] [])
theorem impl_cycles_f {x0 x1 : V} : Prt Tryz.prog 56 [x0, x1] (impl_cycles_F x0 x1) := pfun (fn := Tryz.f56) (m := [.s, .s, .s, .s, .s, .l [5, 13] [2, 6, 12], .s, .s, .j [2, 5, 6, 12, 13], .s, .s, .s, .s, .s, .s, .l [8, 9] [2, 5, 6, 12, 13], .s, .s, .s, .s, .s]) (c := 2 ≤ 41) rfl (fun h0 Rt => by kernel_rfl) (by decide)

def impl_sumsOfVoltages_1_F (x0 x1 : V) (hi : Hp) (Rt : Hp → V → Prop) : Prop :=
pld hi none (fun a1 b1 =>
VL (vixS 1 a1 x0) fun c1 =>
pld b1 none (fun d1 e1 =>
Rt e1 d1) c1) x1
theorem impl_sumsOfVoltages_1_f {x0 x1 : V} : Prt Tryz.prog 57 [x0, x1] (impl_sumsOfVoltages_1_F x0 x1) := pfun (fn := Tryz.f57) (m := [.s, .s]) (c := 2 ≤ 8) rfl (fun h0 Rt => by kernel_rfl) (by decide)

def impl_sumsOfVoltages_2_F (x0 x1 : V) (hi : Hp) (Rt : Hp → V → Prop) : Prop :=
pld hi none (fun a1 b1 =>
VL (vixS 1 a1 x0) fun c1 =>
pld b1 none (fun d1 e1 =>
Rt e1 d1) c1) x1
theorem impl_sumsOfVoltages_2_f {x0 x1 : V} : Prt Tryz.prog 58 [x0, x1] (impl_sumsOfVoltages_2_F x0 x1) := pfun (fn := Tryz.f58) (m := [.s, .s]) (c := 2 ≤ 8) rfl (fun h0 Rt => by kernel_rfl) (by decide)

def impl_face_F (x0 : V) (hi : Hp) (Rt : Hp → V → Prop) : Prop :=
pbox hi 65 27 (cellsV x0) fun a1 =>
palloc a1 66 25 (vi .u8 (List.replicate 16 0)) fun b1 =>
pld b1 (some 16) (fun c1 d1 =>
pld d1 (some 16) (fun e1 f1 =>
pld f1 none (fun g1 h1 =>
pld h1 none (fun i1 j1 =>
pcalp Tryz.prog 68 73 j1 (fun k1 l1 =>
pcal Tryz.prog 38 76 l1 (fun m1 n1 =>
pst n1 16 (cellsV m1) (fun o1 p1 =>
VL (pcellV p1 (some 16) (.ptr 66 0)) fun q1 =>
Rt p1 q1) (.ptr 66 0)) [k1, i1]) [c1, e1, g1]) (.ptr 65 0)) (.ptr 65 0)) (.ptr 65 17)) (.ptr 65 1)
theorem impl_face_f {x0 : V} : Prt Tryz.prog 59 [x0] (impl_face_F x0) := pfun (fn := Tryz.f59) (m := [.s, .s]) (c := 1 ≤ 13) rfl (fun h0 Rt => by kernel_rfl) (by decide)

def impl_sumsOfVoltages_3_F (x0 x1 x2 x3 : V) (hi : Hp) (Rt : Hp → V → Prop) : Prop :=
pld hi none (fun a1 b1 =>
VL (vixS 1 a1 x0) fun c1 =>
pld b1 none (fun d1 e1 =>
pld e1 none (fun f1 g1 =>
VL (vfa 1 x3) fun h1 =>
VL (vixA 16 1 h1 x0) fun i1 =>
pld g1 none (fun j1 k1 =>
VL (vixS 1 f1 j1) fun l1 =>
pld k1 none (fun m1 n1 =>
VL (lift2 (abin .add) d1 m1) fun o1 =>
Rt n1 o1) l1) i1) x2) c1) x1
theorem impl_sumsOfVoltages_3_f {x0 x1 x2 x3 : V} : Prt Tryz.prog 60 [x0, x1, x2, x3] (impl_sumsOfVoltages_3_F x0 x1 x2 x3) := pfun (fn := Tryz.f60) (m := [.s, .s]) (c := 4 ≤ 18) rfl (fun h0 Rt => by kernel_rfl) (by decide)

def spec_l01Face_F (x0 : V) (hi : Hp) (Rt : Hp → V → Prop) : Prop :=
pbox hi 65 27 (cellsV x0) fun a1 =>
palloc a1 66 25 (vi .u8 (List.replicate 16 0)) fun b1 =>
pld b1 (some 16) (fun c1 d1 =>
pld d1 (some 16) (fun e1 f1 =>
pld f1 none (fun g1 h1 =>
pld h1 none (fun i1 j1 =>
pcalp Tryz.prog 71 73 j1 (fun k1 l1 =>
pcal Tryz.prog 45 76 l1 (fun m1 n1 =>
pst n1 16 (cellsV m1) (fun o1 p1 =>
VL (pcellV p1 (some 16) (.ptr 66 0)) fun q1 =>
Rt p1 q1) (.ptr 66 0)) [k1, i1]) [c1, e1, g1]) (.ptr 65 0)) (.ptr 65 0)) (.ptr 65 17)) (.ptr 65 1)
theorem spec_l01Face_f {x0 : V} : Prt Tryz.prog 61 [x0] (spec_l01Face_F x0) := pfun (fn := Tryz.f61) (m := [.s, .s]) (c := 1 ≤ 13) rfl (fun h0 Rt => by kernel_rfl) (by decide)

def spec_l01Cycles_F (x0 x1 : V) (hi : Hp) (Rt : Hp → V → Prop) : Prop :=
pbox hi 66 25 (cellsV x0) fun a1 =>
pmks a1 74 28 0 0 (fun b1 =>
VL (vbld (vfill (vb (List.replicate 16 false)) [])) fun c1 =>
palloc b1 70 103 (vb (List.replicate 16 false)) fun d1 =>
pst d1 16 (cellsV c1) (fun e1 f1 =>
LP [5, 7] [1, 2, 6] (fun g1 h1 i1 j1 =>
VL (lift2 (abin .lss) (g1.getD 1 .und) (h1.getD 0 .und)) fun k1 =>
pcond (
JN (fun l1 =>
pmks i1 81 2 0 0 (fun m1 =>
LP [8, 9] [1, 2, 5, 6, 7] (fun n1 o1 p1 q1 =>
VL (vixA 16 1 (o1.getD 3 .und) (n1.getD 1 .und)) fun r1 =>
pld p1 none (fun s1 t1 =>
VL (lift1 (aun .not) s1) fun u1 =>
pcond (
VL (vixA 16 1 (o1.getD 3 .und) (n1.getD 1 .und)) fun v1 =>
pst t1 1 (cellsV (.bool true)) (fun w1 y1 =>
pmks y1 95 2 1 1 (fun z1 =>
papp z1 (fun a2 b2 => papV 2 1 8 96 z1 (fun c2 d2 =>
VL (vixA 16 1 (o1.getD 1 .und) (n1.getD 1 .und)) fun e2 =>
pld d2 none (fun f2 g2 =>
VL (lift1 (acvi .i64) f2) fun h2 =>
q1 [c2, h2] [(o1.getD 0 .und), (o1.getD 1 .und), (o1.getD 2 .und), (o1.getD 3 .und), (o1.getD 4 .und)] g2) e2) a2 b2 (n1.getD 0 .und)) (pavs z1 (n1.getD 0 .und) []) (preadS 1 z1 (.rf 95 0 1))) (vfill [(.int .i64 0)] [(0, 1, (n1.getD 1 .und))])) v1) (
VL (vlenS (n1.getD 0 .und)) fun i2 =>
VL (lift2 (abin .gtr) i2 (.int .i64 0)) fun j2 =>
pcond (
pmks t1 102 28 1 1 (fun k2 =>
papp k2 (fun l2 m2 => papV 28 1 24 103 k2 (fun n2 o2 =>
l1 [(o1.getD 0 .und), (o1.getD 1 .und), n2, (o1.getD 3 .und), (o1.getD 4 .und)] o2) l2 m2 (o1.getD 2 .und)) (pavs k2 (o1.getD 2 .und) []) (preadS 1 k2 (.rf 102 0 1))) (vfill [.nils] [(0, 1, (n1.getD 0 .und))])) (
l1 [(o1.getD 0 .und), (o1.getD 1 .und), (o1.getD 2 .und), (o1.getD 3 .und), (o1.getD 4 .und)] t1) j2) u1) r1) [(.rf 81 0 0), (g1.getD 1 .und)] [(h1.getD 0 .und), (h1.getD 1 .und), (g1.getD 0 .und), (h1.getD 2 .und), (g1.getD 1 .und)] m1) (vfill [] [])) fun p2 q2 =>
VL (lift2 (abin .add) (p2.getD 4 .und) (.int .i64 1)) fun r2 =>
j1 [(p2.getD 2 .und), r2] [(p2.getD 0 .und), (p2.getD 1 .und), (p2.getD 3 .und)] q2) (
Rt i1 (g1.getD 0 .und)) k1) [(.rf 74 0 0), (.int .i64 0)] [x1, (.ptr 66 0), (.ptr 70 0)] f1) (.ptr 70 0)) (vfill [] [])
theorem spec_l01Cycles_f {x0 x1 : V} : Prt Tryz.prog 62 [x0, x1] (spec_l01Cycles_F x0 x1) := pfun (fn := Tryz.f62) (m := [.s, .s, .s, .s, .l [5, 7] [1, 2, 6], .s, .s, .j [1, 2, 5, 6, 7], .s, .s, .s, .l [8, 9] [1, 2, 5, 6, 7], .s, .s, .s, .s, .s, .s]) (c := 2 ≤ 41) rfl (fun h0 Rt => by kernel_rfl) (by decide)

def impl_typeOf_F (x0 x1 : V) (hi : Hp) (Rt : Hp → V → Prop) : Prop :=
pbox hi 66 25 (cellsV x0) fun a1 =>
pmks a1 72 2 0 0 (fun b1 =>
pld b1 (some 16) (fun c1 d1 =>
pcal Tryz.prog 56 75 d1 (fun e1 f1 =>
VL (vlenS e1) fun g1 =>
LP [5, 13] [11, 12] (fun h1 i1 j1 k1 =>
VL (lift2 (abin .lss) (h1.getD 1 .und) (i1.getD 1 .und)) fun l1 =>
pcond (
VL (vixS 1 (i1.getD 0 .und) (h1.getD 1 .und)) fun m1 =>
pld j1 none (fun n1 o1 =>
VL (vlenS n1) fun p1 =>
pmks o1 84 2 1 1 (fun q1 =>
papp q1 (fun r1 s1 => papV 2 1 8 85 q1 (fun t1 u1 =>
VL (lift2 (abin .add) (h1.getD 1 .und) (.int .i64 1)) fun v1 =>
k1 [t1, v1] [(i1.getD 0 .und), (i1.getD 1 .und)] u1) r1 s1 (h1.getD 0 .und)) (pavs q1 (h1.getD 0 .und) []) (preadS 1 q1 (.rf 84 0 1))) (vfill [(.int .i64 0)] [(0, 1, p1)])) m1) (
pcal Tryz.prog 76 88 j1 (fun w1 y1 =>
Rt y1 w1) [(h1.getD 0 .und)]) l1) [(.rf 72 0 0), (.int .i64 0)] [e1, g1] f1) [c1, x1]) (.ptr 66 0)) (vfill [] [])
theorem impl_typeOf_f {x0 x1 : V} : Prt Tryz.prog 63 [x0, x1] (impl_typeOf_F x0 x1) := pfun (fn := Tryz.f63) (m := [.s, .s, .s, .s, .l [5, 13] [11, 12], .s, .s, .s, .s, .s]) (c := 2 ≤ 25) rfl (fun h0 Rt => by kernel_rfl) (by decide)

def slices_Index_uint32_uint32_F (x0 x1 : V) (hi : Hp) (Rt : Hp → V → Prop) : Prop :=
VL (vlenS x0) fun a1 =>
LP [8] [0, 1, 7] (fun b1 c1 d1 e1 =>
VL (lift2 (abin .lss) (b1.getD 0 .und) (c1.getD 2 .und)) fun f1 =>
pcond (
VL (vixS 1 (c1.getD 0 .und) (b1.getD 0 .und)) fun g1 =>
pld d1 none (fun h1 i1 =>
VL (lift2 (abin .eql) (c1.getD 1 .und) h1) fun j1 =>
pcond (
Rt i1 (b1.getD 0 .und)) (
VL (lift2 (abin .add) (b1.getD 0 .und) (.int .i64 1)) fun k1 =>
e1 [k1] [(c1.getD 0 .und), (c1.getD 1 .und), (c1.getD 2 .und)] i1) j1) g1) (
Rt d1 (.int .i64 (-1))) f1) [(.int .i64 0)] [x0, x1, a1] hi
theorem slices_Index_uint32_uint32_f {x0 x1 : V} : Prt Tryz.prog 64 [x0, x1] (slices_Index_uint32_uint32_F x0 x1) := pfun (fn := Tryz.f64) (m := [.s, .s, .s, .l [8] [0, 1, 7], .s, .s, .s, .s, .s, .s, .s]) (c := 2 ≤ 19) rfl (fun h0 Rt => by kernel_rfl) (by decide)

def math_bits_Mul_F (x0 x1 : V) (hi : Hp) (Rt : Hp → V → Prop) : Prop :=
pcond (
VL (lift1 (acvi .u32) x0) fun a1 =>
VL (lift1 (acvi .u32) x1) fun b1 =>
pcal Tryz.prog 77 79 hi (fun c1 d1 =>
VL (vext 0 c1) fun e1 =>
VL (vext 1 c1) fun f1 =>
VL (lift1 (acvi .u64) e1) fun g1 =>
VL (lift1 (acvi .u64) f1) fun h1 =>
Rt d1 (.tup [g1, h1])) [a1, b1]) (
pcal Tryz.prog 78 89 hi (fun i1 j1 =>
VL (vext 0 i1) fun k1 =>
VL (vext 1 i1) fun l1 =>
Rt j1 (.tup [k1, l1])) [x0, x1]) (.bool false)
theorem math_bits_Mul_f {x0 x1 : V} : Prt Tryz.prog 65 [x0, x1] (math_bits_Mul_F x0 x1) := pfun (fn := Tryz.f65) (m := [.s, .s, .s, .s, .s, .s]) (c := 2 ≤ 30) rfl (fun h0 Rt => by kernel_rfl) (by decide)

def strings_Trim_F (x0 x1 : V) (hi : Hp) (Rt : Hp → V → Prop) : Prop :=
VL (lift2 (abin .eql) x0 (.str [])) fun a1 =>
pgk false hi (fun b1 c1 => c1 x1 hi) (fun d1 e1 f1 =>
pgk false f1 (fun g1 h1 => VL (lift2 (abin .eql) e1 (.str [])) fun i1 =>
h1 i1 f1) (fun j1 k1 l1 =>
VL (vpick j1 (.bool true) k1) fun m1 =>
pcond (
Rt l1 x0) (
VL (vlenT x1) fun n1 =>
VL (lift2 (abin .eql) n1 (.int .i64 1)) fun o1 =>
pgk true l1 (fun p1 q1 => q1 x1 l1) (fun r1 s1 t1 =>
pgk true t1 (fun u1 v1 => VL (vixT s1 (.int .i64 0)) fun w1 =>
v1 w1 t1) (fun y1 z1 a2 =>
pgk true a2 (fun b2 c2 => VL (lift2 (abin .lss) z1 (.int .u8 128)) fun d2 =>
c2 d2 a2) (fun e2 f2 g2 =>
VL (vpick e2 f2 (.bool false)) fun h2 =>
pcond (
VL (vixT x1 (.int .i64 0)) fun i2 =>
VL (vixT x1 (.int .i64 0)) fun j2 =>
pcal Tryz.prog 80 89 g2 (fun k2 l2 =>
pcal Tryz.prog 79 92 l2 (fun m2 n2 =>
Rt n2 m2) [k2, j2]) [x0, i2]) (
pcal Tryz.prog 81 95 g2 (fun o2 p2 =>
VL (vext 0 o2) fun q2 =>
VL (vext 1 o2) fun r2 =>
palloc p2 69 111 (vb (List.replicate 256 false)) fun s2 =>
pst s2 256 (cellsV q2) (fun t2 u2 =>
pcond (
pcal Tryz.prog 83 100 u2 (fun v2 w2 =>
pcal Tryz.prog 82 101 w2 (fun y2 z2 =>
Rt z2 y2) [v2, (.ptr 69 0)]) [x0, (.ptr 69 0)]) (
pcal Tryz.prog 85 104 u2 (fun a3 b3 =>
pcal Tryz.prog 84 106 b3 (fun c3 d3 =>
Rt d3 c3) [a3, x1]) [x0, x1]) r2) (.ptr 69 0)) [x1]) h2) y1) r1) o1) m1) d1) a1
theorem strings_Trim_f {x0 x1 : V} : Prt Tryz.prog 66 [x0, x1] (strings_Trim_F x0 x1) := pfun (fn := Tryz.f66) (m := [.s, .s, .s, .s, .s, .s, .s, .s, .s, .s, .s, .s]) (c := 2 ≤ 43) rfl (fun h0 Rt => by kernel_rfl) (by decide)

def impl_same_F (x0 : V) (hi : Hp) (Rt : Hp → V → Prop) : Prop :=
palloc hi 66 25 (vi .u8 (List.replicate 16 0)) fun a1 =>
VL (vbld (vfill (vi .u8 (List.replicate 16 0)) [])) fun b1 =>
palloc a1 67 25 (vi .u8 (List.replicate 16 0)) fun c1 =>
pst c1 16 (cellsV b1) (fun d1 e1 =>
LP [7] [2, 3, 6] (fun f1 g1 h1 i1 =>
VL (lift2 (abin .lss) (f1.getD 0 .und) (g1.getD 2 .und)) fun j1 =>
pcond (
VL (lift1 (acvi .u8) (f1.getD 0 .und)) fun k1 =>
VL (vixA 16 1 (g1.getD 1 .und) (f1.getD 0 .und)) fun l1 =>
pst h1 1 (cellsV k1) (fun m1 n1 =>
VL (lift2 (abin .add) (f1.getD 0 .und) (.int .i64 1)) fun o1 =>
i1 [o1] [(g1.getD 0 .und), (g1.getD 1 .und), (g1.getD 2 .und)] n1) l1) (
pld h1 (some 16) (fun p1 q1 =>
pst q1 16 (cellsV p1) (fun r1 s1 =>
VL (pcellV s1 (some 16) (g1.getD 0 .und)) fun t1 =>
Rt s1 t1) (g1.getD 0 .und)) (g1.getD 1 .und)) j1) [(.int .i64 0)] [(.ptr 66 0), (.ptr 67 0), x0] e1) (.ptr 67 0)
theorem impl_same_f {x0 : V} : Prt Tryz.prog 67 [x0] (impl_same_F x0) := pfun (fn := Tryz.f67) (m := [.s, .s, .s, .s, .l [7] [2, 3, 6], .s, .s, .s, .s, .s]) (c := 1 ≤ 16) rfl (fun h0 Rt => by kernel_rfl) (by decide)

def impl_then_F (x0 x1 x2 : V) (hi : Hp) (Rt : Hp → V → Prop) : Prop :=
pbox hi 67 25 (cellsV x0) fun a1 =>
pbox a1 68 25 (cellsV x1) fun b1 =>
palloc b1 70 25 (vi .u8 (List.replicate 16 0)) fun c1 =>
VL (vbld (vfill (vi .u8 (List.replicate 16 0)) [])) fun d1 =>
palloc c1 71 25 (vi .u8 (List.replicate 16 0)) fun e1 =>
pst e1 16 (cellsV d1) (fun f1 g1 =>
LP [11] [3, 4, 6, 7, 10] (fun h1 i1 j1 k1 =>
VL (lift2 (abin .lss) (h1.getD 0 .und) (i1.getD 4 .und)) fun l1 =>
pcond (
VL (vixA 16 1 (i1.getD 0 .und) (h1.getD 0 .und)) fun m1 =>
pld j1 none (fun n1 o1 =>
VL (vixA 16 1 (i1.getD 1 .und) n1) fun p1 =>
pld o1 none (fun q1 r1 =>
VL (vixA 16 1 (i1.getD 3 .und) (h1.getD 0 .und)) fun s1 =>
pst r1 1 (cellsV q1) (fun t1 u1 =>
VL (lift2 (abin .add) (h1.getD 0 .und) (.int .i64 1)) fun v1 =>
k1 [v1] [(i1.getD 0 .und), (i1.getD 1 .und), (i1.getD 2 .und), (i1.getD 3 .und), (i1.getD 4 .und)] u1) s1) p1) m1) (
pld j1 (some 16) (fun w1 y1 =>
pst y1 16 (cellsV w1) (fun z1 a2 =>
VL (pcellV a2 (some 16) (i1.getD 2 .und)) fun b2 =>
Rt a2 b2) (i1.getD 2 .und)) (i1.getD 3 .und)) l1) [(.int .i64 0)] [(.ptr 67 0), (.ptr 68 0), (.ptr 70 0), (.ptr 71 0), x2] g1) (.ptr 71 0)
theorem impl_then_f {x0 x1 x2 : V} : Prt Tryz.prog 68 [x0, x1, x2] (impl_then_F x0 x1 x2) := pfun (fn := Tryz.f68) (m := [.s, .s, .s, .s, .l [11] [3, 4, 6, 7, 10], .s, .s, .s, .s, .s]) (c := 3 ≤ 23) rfl (fun h0 Rt => by kernel_rfl) (by decide)

def spec_l01Pick_F (x0 x1 : V) (hi : Hp) (Rt : Hp → V → Prop) : Prop :=
VL (vlenS x1) fun a1 =>
pcal Tryz.prog 41 73 hi (fun b1 c1 =>
VL (vixS 1 x1 b1) fun d1 =>
pld c1 none (fun e1 f1 =>
Rt f1 e1) d1) [x0, a1]
theorem spec_l01Pick_f {x0 x1 : V} : Prt Tryz.prog 69 [x0, x1] (spec_l01Pick_F x0 x1) := pfun (fn := Tryz.f69) (m := [.s, .s]) (c := 2 ≤ 12) rfl (fun h0 Rt => by kernel_rfl) (by decide)

def spec_l01Same_F (x0 : V) (hi : Hp) (Rt : Hp → V → Prop) : Prop :=
palloc hi 66 25 (vi .u8 (List.replicate 16 0)) fun a1 =>
VL (vbld (vfill (vi .u8 (List.replicate 16 0)) [])) fun b1 =>
palloc a1 67 25 (vi .u8 (List.replicate 16 0)) fun c1 =>
pst c1 16 (cellsV b1) (fun d1 e1 =>
LP [4] [0, 2, 3] (fun f1 g1 h1 i1 =>
VL (lift2 (abin .lss) (f1.getD 0 .und) (g1.getD 0 .und)) fun j1 =>
pcond (
VL (lift1 (acvi .u8) (f1.getD 0 .und)) fun k1 =>
VL (vixA 16 1 (g1.getD 2 .und) (f1.getD 0 .und)) fun l1 =>
pst h1 1 (cellsV k1) (fun m1 n1 =>
VL (lift2 (abin .add) (f1.getD 0 .und) (.int .i64 1)) fun o1 =>
i1 [o1] [(g1.getD 0 .und), (g1.getD 1 .und), (g1.getD 2 .und)] n1) l1) (
pld h1 (some 16) (fun p1 q1 =>
pst q1 16 (cellsV p1) (fun r1 s1 =>
VL (pcellV s1 (some 16) (g1.getD 1 .und)) fun t1 =>
Rt s1 t1) (g1.getD 1 .und)) (g1.getD 2 .und)) j1) [(.int .i64 0)] [x0, (.ptr 66 0), (.ptr 67 0)] e1) (.ptr 67 0)
theorem spec_l01Same_f {x0 : V} : Prt Tryz.prog 70 [x0] (spec_l01Same_F x0) := pfun (fn := Tryz.f70) (m := [.s, .s, .s, .s, .l [4] [0, 2, 3], .s, .s, .s, .s]) (c := 1 ≤ 16) rfl (fun h0 Rt => by kernel_rfl) (by decide)

def spec_l01Then_F (x0 x1 x2 : V) (hi : Hp) (Rt : Hp → V → Prop) : Prop :=
pbox hi 67 25 (cellsV x0) fun a1 =>
pbox a1 68 25 (cellsV x1) fun b1 =>
palloc b1 70 25 (vi .u8 (List.replicate 16 0)) fun c1 =>
VL (vbld (vfill (vi .u8 (List.replicate 16 0)) [])) fun d1 =>
palloc c1 71 25 (vi .u8 (List.replicate 16 0)) fun e1 =>
pst e1 16 (cellsV d1) (fun f1 g1 =>
LP [8] [2, 3, 4, 6, 7] (fun h1 i1 j1 k1 =>
VL (lift2 (abin .lss) (h1.getD 0 .und) (i1.getD 0 .und)) fun l1 =>
pcond (
VL (vixA 16 1 (i1.getD 1 .und) (h1.getD 0 .und)) fun m1 =>
pld j1 none (fun n1 o1 =>
VL (vixA 16 1 (i1.getD 2 .und) n1) fun p1 =>
pld o1 none (fun q1 r1 =>
VL (vixA 16 1 (i1.getD 4 .und) (h1.getD 0 .und)) fun s1 =>
pst r1 1 (cellsV q1) (fun t1 u1 =>
VL (lift2 (abin .add) (h1.getD 0 .und) (.int .i64 1)) fun v1 =>
k1 [v1] [(i1.getD 0 .und), (i1.getD 1 .und), (i1.getD 2 .und), (i1.getD 3 .und), (i1.getD 4 .und)] u1) s1) p1) m1) (
pld j1 (some 16) (fun w1 y1 =>
pst y1 16 (cellsV w1) (fun z1 a2 =>
VL (pcellV a2 (some 16) (i1.getD 3 .und)) fun b2 =>
Rt a2 b2) (i1.getD 3 .und)) (i1.getD 4 .und)) l1) [(.int .i64 0)] [x2, (.ptr 67 0), (.ptr 68 0), (.ptr 70 0), (.ptr 71 0)] g1) (.ptr 71 0)
theorem spec_l01Then_f {x0 x1 x2 : V} : Prt Tryz.prog 71 [x0, x1, x2] (spec_l01Then_F x0 x1 x2) := pfun (fn := Tryz.f71) (m := [.s, .s, .s, .s, .l [8] [2, 3, 4, 6, 7], .s, .s, .s, .s]) (c := 3 ≤ 23) rfl (fun h0 Rt => by kernel_rfl) (by decide)

def spec_l01Turn_F (x0 : V) (hi : Hp) (Rt : Hp → V → Prop) : Prop :=
palloc hi 66 25 (vi .u8 (List.replicate 16 0)) fun a1 =>
VL (vbld (vfill (vi .u8 (List.replicate 16 0)) [])) fun b1 =>
palloc a1 67 25 (vi .u8 (List.replicate 16 0)) fun c1 =>
pst c1 16 (cellsV b1) (fun d1 e1 =>
LP [4] [0, 2, 3] (fun f1 g1 h1 i1 =>
VL (lift2 (abin .lss) (f1.getD 0 .und) (g1.getD 0 .und)) fun j1 =>
pcond (
VL (lift2 (abin .add) (f1.getD 0 .und) (.int .i64 1)) fun k1 =>
VL (lift2 (abin .rem) k1 (g1.getD 0 .und)) fun l1 =>
VL (lift1 (acvi .u8) l1) fun m1 =>
VL (vixA 16 1 (g1.getD 2 .und) (f1.getD 0 .und)) fun n1 =>
pst h1 1 (cellsV m1) (fun o1 p1 =>
VL (lift2 (abin .add) (f1.getD 0 .und) (.int .i64 1)) fun q1 =>
i1 [q1] [(g1.getD 0 .und), (g1.getD 1 .und), (g1.getD 2 .und)] p1) n1) (
pld h1 (some 16) (fun r1 s1 =>
pst s1 16 (cellsV r1) (fun t1 u1 =>
VL (pcellV u1 (some 16) (g1.getD 1 .und)) fun v1 =>
Rt u1 v1) (g1.getD 1 .und)) (g1.getD 2 .und)) j1) [(.int .i64 0)] [x0, (.ptr 66 0), (.ptr 67 0)] e1) (.ptr 67 0)
theorem spec_l01Turn_f {x0 : V} : Prt Tryz.prog 72 [x0] (spec_l01Turn_F x0) := pfun (fn := Tryz.f72) (m := [.s, .s, .s, .s, .l [4] [0, 2, 3], .s, .s, .s, .s]) (c := 1 ≤ 19) rfl (fun h0 Rt => by kernel_rfl) (by decide)

def spec_l01DrawPlaces_F (x0 x1 : V) (hi : Hp) (Rt : Hp → V → Prop) : Prop :=
palloc hi 68 25 (vi .u8 (List.replicate 16 0)) fun a1 =>
pcal Tryz.prog 70 74 a1 (fun b1 c1 =>
palloc c1 69 25 (vi .u8 (List.replicate 16 0)) fun d1 =>
pst d1 16 (cellsV b1) (fun e1 f1 =>
pcal Tryz.prog 41 76 f1 (fun g1 h1 =>
VL (lift2 (abin .eql) g1 (.int .i64 0)) fun i1 =>
pcond (
pld h1 (some 16) (fun j1 k1 =>
pst k1 16 (cellsV j1) (fun l1 m1 =>
VL (pcellV m1 (some 16) (.ptr 68 0)) fun n1 =>
Rt m1 n1) (.ptr 68 0)) (.ptr 69 0)) (
VL (lift2 (abin .sub) x1 (.int .i64 1)) fun o1 =>
LP [6] [0, 4, 5] (fun p1 q1 r1 s1 =>
VL (lift2 (abin .gtr) (p1.getD 0 .und) (.int .i64 0)) fun t1 =>
pcond (
VL (lift2 (abin .add) (p1.getD 0 .und) (.int .i64 1)) fun u1 =>
pcal Tryz.prog 41 88 r1 (fun v1 w1 =>
VL (vixA 16 1 (q1.getD 2 .und) (p1.getD 0 .und)) fun y1 =>
pld w1 none (fun z1 a2 =>
VL (vixA 16 1 (q1.getD 2 .und) v1) fun b2 =>
pld a2 none (fun c2 d2 =>
VL (vixA 16 1 (q1.getD 2 .und) (p1.getD 0 .und)) fun e2 =>
pst d2 1 (cellsV c2) (fun f2 g2 =>
VL (vixA 16 1 (q1.getD 2 .und) v1) fun h2 =>
pst g2 1 (cellsV z1) (fun i2 j2 =>
VL (lift2 (abin .sub) (p1.getD 0 .und) (.int .i64 1)) fun k2 =>
s1 [k2] [(q1.getD 0 .und), (q1.getD 1 .und), (q1.getD 2 .und)] j2) h2) e2) b2) y1) [(q1.getD 0 .und), u1]) (
pld r1 (some 16) (fun l2 m2 =>
pst m2 16 (cellsV l2) (fun n2 o2 =>
VL (pcellV o2 (some 16) (q1.getD 1 .und)) fun p2 =>
Rt o2 p2) (q1.getD 1 .und)) (q1.getD 2 .und)) t1) [o1] [x0, (.ptr 68 0), (.ptr 69 0)] h1) i1) [x0, (.int .i64 8)]) (.ptr 69 0)) [x1]
theorem spec_l01DrawPlaces_f {x0 x1 : V} : Prt Tryz.prog 73 [x0, x1] (spec_l01DrawPlaces_F x0 x1) := pfun (fn := Tryz.f73) (m := [.s, .s, .s, .s, .s, .s, .s, .l [6] [0, 4, 5], .s, .s, .s, .s, .s, .s, .s]) (c := 2 ≤ 37) rfl (fun h0 Rt => by kernel_rfl) (by decide)

def spec_l01Spoil_F (x0 x1 : V) (hi : Hp) (Rt : Hp → V → Prop) : Prop :=
palloc hi 68 27 ([(.int .i64 0)] ++ (vi .u8 (List.replicate 32 0))) fun a1 =>
pcal Tryz.prog 86 72 a1 (fun b1 c1 =>
palloc c1 69 27 ([(.int .i64 0)] ++ (vi .u8 (List.replicate 32 0))) fun d1 =>
pst d1 33 (cellsV b1) (fun e1 f1 =>
JN (fun g1 =>
pcal Tryz.prog 41 74 f1 (fun h1 i1 =>
VL (lift2 (abin .eql) h1 (.int .i64 0)) fun j1 =>
pcond (
VL (vixA 16 1 (.ptr 69 1) (.int .i64 0)) fun k1 =>
pld i1 none (fun l1 m1 =>
VL (lift2 (abin .add) l1 (.int .u8 1)) fun n1 =>
VL (vixA 16 1 (.ptr 69 1) (.int .i64 0)) fun o1 =>
pst m1 1 (cellsV n1) (fun p1 q1 =>
g1 [(.ptr 68 0), (.ptr 69 0)] q1) o1) k1) (
VL (lift2 (abin .eql) h1 (.int .i64 1)) fun r1 =>
pcond (
pld i1 none (fun s1 t1 =>
VL (lift2 (abin .add) s1 (.int .i64 1)) fun u1 =>
pld t1 none (fun v1 w1 =>
VL (lift2 (abin .sub) v1 (.int .i64 1)) fun y1 =>
pmks w1 92 2 5 5 (fun z1 =>
pcal Tryz.prog 69 93 z1 (fun a2 b2 =>
pst b2 1 (cellsV a2) (fun c2 d2 =>
g1 [(.ptr 68 0), (.ptr 69 0)] d2) (.ptr 69 0)) [x0, (.rf 92 0 5)]) (vfill (vi .i64 (List.replicate 5 0)) [(0, 1, (.int .i64 0)), (1, 1, (.int .i64 17)), (2, 1, (.int .i64 (-1))), (3, 1, u1), (4, 1, y1)])) (.ptr 69 0)) (.ptr 69 0)) (
VL (lift2 (abin .eql) h1 (.int .i64 2)) fun e2 =>
pcond (
pld i1 none (fun f2 g2 =>
VL (lift2 amin f2 (.int .i64 16)) fun h2 =>
pcal Tryz.prog 70 100 g2 (fun i2 j2 =>
pst j2 16 (cellsV i2) (fun k2 l2 =>
g1 [(.ptr 68 0), (.ptr 69 0)] l2) (.ptr 69 17)) [h2]) (.ptr 69 0)) (
VL (lift2 (abin .eql) h1 (.int .i64 3)) fun m2 =>
pcond (
pmks i1 105 2 2 2 (fun n2 =>
pcal Tryz.prog 69 106 n2 (fun o2 p2 =>
VL (lift1 (acvi .u8) o2) fun q2 =>
VL (vixA 16 1 (.ptr 69 17) (.int .i64 15)) fun r2 =>
pst p2 1 (cellsV q2) (fun s2 t2 =>
g1 [(.ptr 68 0), (.ptr 69 0)] t2) r2) [x0, (.rf 105 0 2)]) (vfill [(.int .i64 0), (.int .i64 0)] [(0, 1, (.int .i64 1)), (1, 1, (.int .i64 255))])) (
g1 [(.ptr 68 0), (.ptr 69 0)] i1) m2) e2) r1) j1) [x0, (.int .i64 40)]) fun u2 v2 =>
pld v2 (some 33) (fun w2 y2 =>
pst y2 33 (cellsV w2) (fun z2 a3 =>
VL (pcellV a3 (some 33) (u2.getD 0 .und)) fun b3 =>
Rt a3 b3) (u2.getD 0 .und)) (u2.getD 1 .und)) (.ptr 69 0)) [x0, x1]
theorem spec_l01Spoil_f {x0 x1 : V} : Prt Tryz.prog 74 [x0, x1] (spec_l01Spoil_F x0 x1) := pfun (fn := Tryz.f74) (m := [.s, .s, .j [4, 5], .s, .s, .s, .s, .s, .s]) (c := 2 ≤ 47) rfl (fun h0 Rt => by kernel_rfl) (by decide)

def impl_isSize_F (x0 : V) (hi : Hp) (Rt : Hp → V → Prop) : Prop :=
VL (lift2 (abin .geq) x0 (.int .i64 1)) fun a1 =>
pgk true hi (fun b1 c1 => c1 x0 hi) (fun d1 e1 f1 =>
pgk true f1 (fun g1 h1 => VL (lift2 (abin .leq) e1 (.int .i64 16)) fun i1 =>
h1 i1 f1) (fun j1 k1 l1 =>
VL (vpick j1 k1 (.bool false)) fun m1 =>
Rt l1 m1) d1) a1
theorem impl_isSize_f {x0 : V} : Prt Tryz.prog 75 [x0] (impl_isSize_F x0) := pfun (fn := Tryz.f75) (m := [.s, .s]) (c := 1 ≤ 9) rfl (fun h0 Rt => by kernel_rfl) (by decide)

def impl_descending_F (x0 : V) (hi : Hp) (Rt : Hp → V → Prop) : Prop :=
pcal Tryz.prog 87 68 hi (fun a1 b1 =>
pcal Tryz.prog 88 70 b1 (fun c1 d1 =>
Rt d1 x0) [x0]) [x0]
theorem impl_descending_f {x0 : V} : Prt Tryz.prog 76 [x0] (impl_descending_F x0) := pfun (fn := Tryz.f76) (m := [.s, .s, .s, .s]) (c := 1 ≤ 8) rfl (fun h0 Rt => by kernel_rfl) (by decide)

def math_bits_Mul64_F (x0 x1 : V) (hi : Hp) (Rt : Hp → V → Prop) : Prop :=
VL (lift2 (abin .and) x0 (.int .u64 4294967295)) fun a1 =>
VL (lift2 (abin .shr) x0 (.int .u64 32)) fun b1 =>
VL (lift2 (abin .and) x1 (.int .u64 4294967295)) fun c1 =>
VL (lift2 (abin .shr) x1 (.int .u64 32)) fun d1 =>
VL (lift2 (abin .mul) a1 c1) fun e1 =>
VL (lift2 (abin .mul) b1 c1) fun f1 =>
VL (lift2 (abin .shr) e1 (.int .u64 32)) fun g1 =>
VL (lift2 (abin .add) f1 g1) fun h1 =>
VL (lift2 (abin .and) h1 (.int .u64 4294967295)) fun i1 =>
VL (lift2 (abin .shr) h1 (.int .u64 32)) fun j1 =>
VL (lift2 (abin .mul) a1 d1) fun k1 =>
VL (lift2 (abin .add) i1 k1) fun l1 =>
VL (lift2 (abin .mul) b1 d1) fun m1 =>
VL (lift2 (abin .add) m1 j1) fun n1 =>
VL (lift2 (abin .shr) l1 (.int .u64 32)) fun o1 =>
VL (lift2 (abin .add) n1 o1) fun p1 =>
VL (lift2 (abin .mul) x0 x1) fun q1 =>
Rt hi (.tup [p1, q1])
theorem math_bits_Mul64_f {x0 x1 : V} : Prt Tryz.prog 78 [x0, x1] (math_bits_Mul64_F x0 x1) := pfun (fn := Tryz.f78) (m := [.s, .s, .s, .s, .s, .s, .s, .s, .s, .s, .s, .s]) (c := 2 ≤ 51) rfl (fun h0 Rt => by kernel_rfl) (by decide)

def strings_makeASCIISet_F (x0 : V) (hi : Hp) (Rt : Hp → V → Prop) : Prop :=
palloc hi 66 111 (vb (List.replicate 256 false)) fun a1 =>
LP [4] [0, 2] (fun b1 c1 d1 e1 =>
VL (vlenT (c1.getD 0 .und)) fun f1 =>
VL (lift2 (abin .lss) (b1.getD 0 .und) f1) fun g1 =>
pcond (
VL (vixT (c1.getD 0 .und) (b1.getD 0 .und)) fun h1 =>
VL (lift2 (abin .geq) h1 (.int .u8 128)) fun i1 =>
pcond (
pld d1 (some 256) (fun j1 k1 =>
pst k1 256 (cellsV j1) (fun l1 m1 =>
VL (pcellV m1 (some 256) (c1.getD 1 .und)) fun n1 =>
Rt m1 (.tup [n1, (.bool false)])) (c1.getD 1 .und)) (c1.getD 1 .und)) (
VL (vixA 256 1 (c1.getD 1 .und) h1) fun o1 =>
pst d1 1 (cellsV (.bool true)) (fun p1 q1 =>
VL (lift2 (abin .add) (b1.getD 0 .und) (.int .i64 1)) fun r1 =>
e1 [r1] [(c1.getD 0 .und), (c1.getD 1 .und)] q1) o1) i1) (
pld d1 (some 256) (fun s1 t1 =>
pst t1 256 (cellsV s1) (fun u1 v1 =>
VL (pcellV v1 (some 256) (c1.getD 1 .und)) fun w1 =>
Rt v1 (.tup [w1, (.bool true)])) (c1.getD 1 .und)) (c1.getD 1 .und)) g1) [(.int .i64 0)] [x0, (.ptr 66 0)] a1
theorem strings_makeASCIISet_f {x0 : V} : Prt Tryz.prog 81 [x0] (strings_makeASCIISet_F x0) := pfun (fn := Tryz.f81) (m := [.s, .s, .s, .l [4] [0, 2], .s, .s, .s, .s, .s, .s, .s, .s]) (c := 1 ≤ 21) rfl (fun h0 Rt => by kernel_rfl) (by decide)

def strings_trimLeftASCII_F (x0 x1 : V) (hi : Hp) (Rt : Hp → V → Prop) : Prop :=
JN (fun a1 =>
LP [0] [1] (fun b1 c1 d1 e1 =>
VL (vlenT (b1.getD 0 .und)) fun f1 =>
VL (lift2 (abin .gtr) f1 (.int .i64 0)) fun g1 =>
pcond (
VL (vixT (b1.getD 0 .und) (.int .i64 0)) fun h1 =>
pcal Tryz.prog 89 75 d1 (fun i1 j1 =>
VL (lift1 (aun .not) i1) fun k1 =>
pcond (
a1 [(b1.getD 0 .und)] j1) (
VL (vslT (b1.getD 0 .und) (some (.int .i64 1)) none) fun l1 =>
e1 [l1] [(c1.getD 0 .und)] j1) k1) [(c1.getD 0 .und), h1]) (
a1 [(b1.getD 0 .und)] d1) g1) [x0] [x1] hi) fun m1 n1 =>
Rt n1 (m1.getD 0 .und)
theorem strings_trimLeftASCII_f {x0 x1 : V} : Prt Tryz.prog 82 [x0, x1] (strings_trimLeftASCII_F x0 x1) := pfun (fn := Tryz.f82) (m := [.s, .j [0], .l [0] [1], .s, .s, .s, .s, .s]) (c := 2 ≤ 16) rfl (fun h0 Rt => by kernel_rfl) (by decide)

def strings_trimRightASCII_F (x0 x1 : V) (hi : Hp) (Rt : Hp → V → Prop) : Prop :=
JN (fun a1 =>
LP [0] [1] (fun b1 c1 d1 e1 =>
VL (vlenT (b1.getD 0 .und)) fun f1 =>
VL (lift2 (abin .gtr) f1 (.int .i64 0)) fun g1 =>
pcond (
VL (vlenT (b1.getD 0 .und)) fun h1 =>
VL (lift2 (abin .sub) h1 (.int .i64 1)) fun i1 =>
VL (vixT (b1.getD 0 .und) i1) fun j1 =>
pcal Tryz.prog 89 78 d1 (fun k1 l1 =>
VL (lift1 (aun .not) k1) fun m1 =>
pcond (
a1 [(b1.getD 0 .und)] l1) (
VL (vlenT (b1.getD 0 .und)) fun n1 =>
VL (lift2 (abin .sub) n1 (.int .i64 1)) fun o1 =>
VL (vslT (b1.getD 0 .und) none (some o1)) fun p1 =>
e1 [p1] [(c1.getD 0 .und)] l1) m1) [(c1.getD 0 .und), j1]) (
a1 [(b1.getD 0 .und)] d1) g1) [x0] [x1] hi) fun q1 r1 =>
Rt r1 (q1.getD 0 .und)
theorem strings_trimRightASCII_f {x0 x1 : V} : Prt Tryz.prog 83 [x0, x1] (strings_trimRightASCII_F x0 x1) := pfun (fn := Tryz.f83) (m := [.s, .j [0], .l [0] [1], .s, .s, .s, .s, .s]) (c := 2 ≤ 22) rfl (fun h0 Rt => by kernel_rfl) (by decide)

def spec_l01Draw_F (x0 x1 : V) (hi : Hp) (Rt : Hp → V → Prop) : Prop :=
palloc hi 68 27 ([(.int .i64 0)] ++ (vi .u8 (List.replicate 32 0))) fun a1 =>
pcal Tryz.prog 41 75 a1 (fun b1 c1 =>
VL (lift2 (abin .add) (.int .i64 1) b1) fun d1 =>
LP [6] [0, 4, 5] (fun e1 f1 g1 h1 =>
VL (lift2 (abin .lss) (e1.getD 0 .und) (.int .i64 8)) fun i1 =>
pcond (
pmks g1 86 2 4 4 (fun j1 =>
pcal Tryz.prog 69 87 j1 (fun k1 l1 =>
pcal Tryz.prog 93 88 l1 (fun m1 n1 =>
pmks n1 93 2 4 4 (fun o1 =>
pcal Tryz.prog 69 94 o1 (fun p1 q1 =>
pcal Tryz.prog 93 95 q1 (fun r1 s1 =>
VL (vbld (vfill ([(.int .i64 0)] ++ (vi .u8 (List.replicate 32 0))) [(0, 1, (f1.getD 2 .und)), (1, 16, m1), (17, 16, r1)])) fun t1 =>
palloc s1 71 27 ([(.int .i64 0)] ++ (vi .u8 (List.replicate 32 0))) fun u1 =>
pst u1 33 (cellsV t1) (fun v1 w1 =>
pld w1 (some 33) (fun y1 z1 =>
pcal Tryz.prog 26 98 z1 (fun a2 b2 =>
pcond (
pld b2 (some 33) (fun c2 d2 =>
pst d2 33 (cellsV c2) (fun e2 f2 =>
VL (pcellV f2 (some 33) (f1.getD 1 .und)) fun g2 =>
Rt f2 g2) (f1.getD 1 .und)) (.ptr 71 0)) (
VL (lift2 (abin .add) (e1.getD 0 .und) (.int .i64 1)) fun h2 =>
h1 [h2] [(f1.getD 0 .und), (f1.getD 1 .und), (f1.getD 2 .und)] b2) a2) [y1]) (.ptr 71 0)) (.ptr 71 0)) [(f1.getD 0 .und), (f1.getD 2 .und), p1]) [(f1.getD 0 .und), (.rf 93 0 4)]) (vfill (vi .i64 (List.replicate 4 0)) [(0, 1, (.int .i64 2)), (1, 1, (.int .i64 2)), (2, 1, (.int .i64 3)), (3, 1, (f1.getD 2 .und))])) [(f1.getD 0 .und), (f1.getD 2 .und), k1]) [(f1.getD 0 .und), (.rf 86 0 4)]) (vfill (vi .i64 (List.replicate 4 0)) [(0, 1, (.int .i64 2)), (1, 1, (.int .i64 3)), (2, 1, (.int .i64 4)), (3, 1, (f1.getD 2 .und))])) (
pcal Tryz.prog 46 101 g1 (fun i2 j2 =>
palloc j2 72 27 ([(.int .i64 0)] ++ (vi .u8 (List.replicate 32 0))) fun k2 =>
pst k2 33 (cellsV i2) (fun l2 m2 =>
pcal Tryz.prog 73 104 m2 (fun n2 o2 =>
pst o2 16 (cellsV n2) (fun p2 q2 =>
pld q2 (some 33) (fun r2 s2 =>
pst s2 33 (cellsV r2) (fun t2 u2 =>
VL (pcellV u2 (some 33) (f1.getD 1 .und)) fun v2 =>
Rt u2 v2) (f1.getD 1 .und)) (.ptr 72 0)) (.ptr 72 17)) [(f1.getD 0 .und), (f1.getD 2 .und)]) (.ptr 72 0)) [(f1.getD 2 .und)]) i1) [(.int .i64 0)] [x0, (.ptr 68 0), d1] c1) [x0, x1]
theorem spec_l01Draw_f {x0 x1 : V} : Prt Tryz.prog 86 [x0, x1] (spec_l01Draw_F x0 x1) := pfun (fn := Tryz.f86) (m := [.s, .s, .s, .s, .l [6] [0, 4, 5], .s, .s, .s, .s, .s, .s, .s, .s, .s]) (c := 2 ≤ 43) rfl (fun h0 Rt => by kernel_rfl) (by decide)

def slices_Sort_int64_int64_i_F (x0 : V) (hi : Hp) (Rt : Hp → V → Prop) : Prop :=
VL (vlenS x0) fun a1 =>
VL (lift1 (acvi .u64) a1) fun b1 =>
pcal Tryz.prog 95 73 hi (fun c1 d1 =>
pcal Tryz.prog 94 74 d1 (fun e1 f1 =>
Rt f1 (.tup [])) [x0, (.int .i64 0), a1, c1]) [b1]
theorem slices_Sort_int64_int64_i_f {x0 : V} : Prt Tryz.prog 87 [x0] (slices_Sort_int64_int64_i_F x0) := pfun (fn := Tryz.f87) (m := [.s]) (c := 1 ≤ 11) rfl (fun h0 Rt => by kernel_rfl) (by decide)

def slices_Reverse_int64_int64_i_F (x0 : V) (hi : Hp) (Rt : Hp → V → Prop) : Prop :=
VL (vlenS x0) fun a1 =>
VL (lift2 (abin .sub) a1 (.int .i64 1)) fun b1 =>
LP [2, 3] [0] (fun c1 d1 e1 f1 =>
VL (lift2 (abin .lss) (c1.getD 0 .und) (c1.getD 1 .und)) fun g1 =>
pcond (
VL (vixS 1 (d1.getD 0 .und) (c1.getD 1 .und)) fun h1 =>
pld e1 none (fun i1 j1 =>
VL (vixS 1 (d1.getD 0 .und) (c1.getD 0 .und)) fun k1 =>
pld j1 none (fun l1 m1 =>
VL (vixS 1 (d1.getD 0 .und) (c1.getD 0 .und)) fun n1 =>
pst m1 1 (cellsV i1) (fun o1 p1 =>
VL (vixS 1 (d1.getD 0 .und) (c1.getD 1 .und)) fun q1 =>
pst p1 1 (cellsV l1) (fun r1 s1 =>
VL (lift2 (abin .add) (c1.getD 0 .und) (.int .i64 1)) fun t1 =>
VL (lift2 (abin .sub) (c1.getD 1 .und) (.int .i64 1)) fun u1 =>
f1 [t1, u1] [(d1.getD 0 .und)] s1) q1) n1) k1) h1) (
Rt e1 (.tup [])) g1) [(.int .i64 0), b1] [x0] hi
theorem slices_Reverse_int64_int64_i_f {x0 : V} : Prt Tryz.prog 88 [x0] (slices_Reverse_int64_int64_i_F x0) := pfun (fn := Tryz.f88) (m := [.s, .l [2, 3] [0], .s, .s, .s]) (c := 1 ≤ 28) rfl (fun h0 Rt => by kernel_rfl) (by decide)

def strings_asciiSet_contains_F (x0 x1 : V) (hi : Hp) (Rt : Hp → V → Prop) : Prop :=
VL (vfa 0 x0) fun a1 =>
VL (vixA 256 1 a1 x1) fun b1 =>
pld hi none (fun c1 d1 =>
Rt d1 c1) b1
theorem strings_asciiSet_contains_f {x0 x1 : V} : Prt Tryz.prog 89 [x0, x1] (strings_asciiSet_contains_F x0 x1) := pfun (fn := Tryz.f89) (m := [.s, .s]) (c := 2 ≤ 10) rfl (fun h0 Rt => by kernel_rfl) (by decide)

def spec_l01Pairs_F (x0 x1 x2 : V) (hi : Hp) (Rt : Hp → V → Prop) : Prop :=
palloc hi 70 25 (vi .u8 (List.replicate 16 0)) fun a1 =>
pcal Tryz.prog 73 78 a1 (fun b1 c1 =>
pcal Tryz.prog 70 80 c1 (fun d1 e1 =>
palloc e1 71 25 (vi .u8 (List.replicate 16 0)) fun f1 =>
palloc f1 72 25 (vi .u8 (List.replicate 16 0)) fun g1 =>
pst g1 16 (cellsV b1) (fun h1 i1 =>
pst i1 16 (cellsV d1) (fun j1 k1 =>
LP [9] [0, 1, 2, 6, 7, 8] (fun l1 m1 n1 o1 =>
VL (lift2 (abin .lss) (l1.getD 0 .und) (m1.getD 1 .und)) fun p1 =>
pcond (
pcal Tryz.prog 41 86 n1 (fun q1 r1 =>
VL (lift2 (abin .add) (.int .i64 1) q1) fun s1 =>
VL (lift2 (abin .sub) (m1.getD 1 .und) (l1.getD 0 .und)) fun t1 =>
VL (lift2 amin s1 t1) fun u1 =>
LP [11] [0, 1, 2, 6, 7, 8, 9, 10] (fun v1 w1 y1 z1 =>
VL (lift2 (abin .lss) (v1.getD 0 .und) (w1.getD 7 .und)) fun a2 =>
pcond (
VL (lift2 (abin .add) (w1.getD 6 .und) (v1.getD 0 .und)) fun b2 =>
VL (vixA 16 1 (w1.getD 4 .und) b2) fun c2 =>
pld y1 none (fun d2 e2 =>
VL (lift2 (abin .add) (v1.getD 0 .und) (.int .i64 1)) fun f2 =>
VL (lift2 (abin .rem) f2 (w1.getD 7 .und)) fun g2 =>
VL (lift2 (abin .add) (w1.getD 6 .und) g2) fun h2 =>
VL (vixA 16 1 (w1.getD 4 .und) h2) fun i2 =>
pld e2 none (fun j2 k2 =>
VL (vixA 16 1 (w1.getD 5 .und) d2) fun l2 =>
pst k2 1 (cellsV j2) (fun m2 n2 =>
VL (lift2 (abin .add) (v1.getD 0 .und) (.int .i64 1)) fun o2 =>
z1 [o2] [(w1.getD 0 .und), (w1.getD 1 .und), (w1.getD 2 .und), (w1.getD 3 .und), (w1.getD 4 .und), (w1.getD 5 .und), (w1.getD 6 .und), (w1.getD 7 .und)] n2) l2) i2) c2) (
VL (lift2 (abin .add) (w1.getD 6 .und) (w1.getD 7 .und)) fun p2 =>
o1 [p2] [(w1.getD 0 .und), (w1.getD 1 .und), (w1.getD 2 .und), (w1.getD 3 .und), (w1.getD 4 .und), (w1.getD 5 .und)] y1) a2) [(.int .i64 0)] [(m1.getD 0 .und), (m1.getD 1 .und), (m1.getD 2 .und), (m1.getD 3 .und), (m1.getD 4 .und), (m1.getD 5 .und), (l1.getD 0 .und), u1] r1) [(m1.getD 0 .und), (m1.getD 2 .und)]) (
pld n1 (some 16) (fun q2 r2 =>
pst r2 16 (cellsV q2) (fun s2 t2 =>
VL (pcellV t2 (some 16) (m1.getD 3 .und)) fun u2 =>
Rt t2 u2) (m1.getD 3 .und)) (m1.getD 5 .und)) p1) [(.int .i64 0)] [x0, x1, x2, (.ptr 70 0), (.ptr 71 0), (.ptr 72 0)] k1) (.ptr 72 0)) (.ptr 71 0)) [x1]) [x0, x1]
theorem spec_l01Pairs_f {x0 x1 x2 : V} : Prt Tryz.prog 93 [x0, x1, x2] (spec_l01Pairs_F x0 x1 x2) := pfun (fn := Tryz.f93) (m := [.s, .s, .s, .s, .l [9] [0, 1, 2, 6, 7, 8], .s, .s, .s, .s, .s, .l [11] [0, 1, 2, 6, 7, 8, 9, 10], .s, .s, .s, .s]) (c := 3 ≤ 51) rfl (fun h0 Rt => by kernel_rfl) (by decide)

def slices_pdqsortOrdered_int64_F (x0 x1 x2 x3 : V) (hi : Hp) (Rt : Hp → V → Prop) : Prop :=
LP [1, 2, 3, 8, 9] [0] (fun a1 b1 c1 d1 =>
VL (lift2 (abin .sub) (a1.getD 1 .und) (a1.getD 0 .und)) fun e1 =>
VL (lift2 (abin .leq) e1 (.int .i64 12)) fun f1 =>
pcond (
pcal Tryz.prog 99 91 c1 (fun g1 h1 =>
Rt h1 (.tup [])) [(b1.getD 0 .und), (a1.getD 0 .und), (a1.getD 1 .und)]) (
VL (lift2 (abin .eql) (a1.getD 2 .und) (.int .i64 0)) fun i1 =>
pcond (
pcal Tryz.prog 100 97 c1 (fun j1 k1 =>
Rt k1 (.tup [])) [(b1.getD 0 .und), (a1.getD 0 .und), (a1.getD 1 .und)]) (
JN (fun l1 =>
VL (lift1 (aun .not) (a1.getD 3 .und)) fun m1 =>
pcond (
pcal Tryz.prog 101 103 c1 (fun n1 o1 =>
VL (lift2 (abin .sub) (a1.getD 2 .und) (.int .i64 1)) fun p1 =>
l1 [(b1.getD 0 .und), (a1.getD 0 .und), (a1.getD 1 .und), p1, (a1.getD 3 .und), (a1.getD 4 .und), e1] o1) [(b1.getD 0 .und), (a1.getD 0 .und), (a1.getD 1 .und)]) (
l1 [(b1.getD 0 .und), (a1.getD 0 .und), (a1.getD 1 .und), (a1.getD 2 .und), (a1.getD 3 .und), (a1.getD 4 .und), e1] c1) m1) fun q1 r1 =>
pcal Tryz.prog 102 110 r1 (fun s1 t1 =>
VL (vext 0 s1) fun u1 =>
VL (vext 1 s1) fun v1 =>
JN (fun w1 =>
VL (lift2 (abin .eql) v1 (.int .i64 2)) fun y1 =>
pcond (
pcal Tryz.prog 103 118 t1 (fun z1 a2 =>
VL (lift2 (abin .sub) (q1.getD 2 .und) (.int .i64 1)) fun b2 =>
VL (lift2 (abin .sub) u1 (q1.getD 1 .und)) fun c2 =>
VL (lift2 (abin .sub) b2 c2) fun d2 =>
w1 [(q1.getD 0 .und), (q1.getD 1 .und), (q1.getD 2 .und), (q1.getD 3 .und), (q1.getD 4 .und), (q1.getD 5 .und), (q1.getD 6 .und), d2, (.int .i64 1)] a2) [(q1.getD 0 .und), (q1.getD 1 .und), (q1.getD 2 .und)]) (
w1 [(q1.getD 0 .und), (q1.getD 1 .und), (q1.getD 2 .und), (q1.getD 3 .und), (q1.getD 4 .und), (q1.getD 5 .und), (q1.getD 6 .und), u1, v1] t1) y1) fun e2 f2 =>
JN (fun g2 =>
pgk true f2 (fun h2 i2 => i2 (e2.getD 5 .und) f2) (fun j2 k2 l2 =>
VL (vpick j2 k2 (.bool false)) fun m2 =>
pgk true l2 (fun n2 o2 => o2 (e2.getD 8 .und) l2) (fun p2 q2 r2 =>
pgk true r2 (fun s2 t2 => VL (lift2 (abin .eql) q2 (.int .i64 1)) fun u2 =>
t2 u2 r2) (fun v2 w2 y2 =>
VL (vpick v2 w2 (.bool false)) fun z2 =>
pcond (
pcal Tryz.prog 104 136 y2 (fun a3 b3 =>
pcond (
Rt b3 (.tup [])) (
g2 [(e2.getD 0 .und), (e2.getD 1 .und), (e2.getD 2 .und), (e2.getD 3 .und), (e2.getD 4 .und), (e2.getD 5 .und), (e2.getD 6 .und), (e2.getD 7 .und)] b3) a3) [(e2.getD 0 .und), (e2.getD 1 .und), (e2.getD 2 .und)]) (
g2 [(e2.getD 0 .und), (e2.getD 1 .und), (e2.getD 2 .und), (e2.getD 3 .und), (e2.getD 4 .und), (e2.getD 5 .und), (e2.getD 6 .und), (e2.getD 7 .und)] y2) z2) p2) m2) (e2.getD 4 .und)) fun c3 d3 =>
VL (lift2 (abin .gtr) (c3.getD 1 .und) (.int .i64 0)) fun e3 =>
pgk true d3 (fun f3 g3 => g3 (c3.getD 0 .und) d3) (fun h3 i3 j3 =>
pgk true j3 (fun k3 l3 => l3 (c3.getD 1 .und) j3) (fun m3 n3 o3 =>
pgk true o3 (fun p3 q3 => VL (lift2 (abin .sub) n3 (.int .i64 1)) fun r3 =>
q3 r3 o3) (fun s3 t3 u3 =>
pgk true u3 (fun v3 w3 => VL (vixS 1 i3 t3) fun y3 =>
w3 y3 u3) (fun z3 a4 b4 =>
pgk true b4 (fun c4 d4 => pld b4 none (fun e4 f4 =>
d4 e4 f4) a4) (fun g4 h4 i4 =>
pgk true i4 (fun j4 k4 => k4 (c3.getD 0 .und) i4) (fun l4 m4 n4 =>
pgk true n4 (fun o4 p4 => p4 (c3.getD 7 .und) n4) (fun q4 r4 s4 =>
pgk true s4 (fun t4 u4 => VL (vixS 1 m4 r4) fun v4 =>
u4 v4 s4) (fun w4 y4 z4 =>
pgk true z4 (fun a5 b5 => pld z4 none (fun c5 d5 =>
b5 c5 d5) y4) (fun e5 f5 g5 =>
pgk true g5 (fun h5 i5 => pcal Tryz.prog 105 149 g5 (fun j5 k5 =>
i5 j5 k5) [h4, f5]) (fun l5 m5 n5 =>
pgk true n5 (fun o5 p5 => VL (lift1 (aun .not) m5) fun q5 =>
p5 q5 n5) (fun r5 s5 t5 =>
VL (vpick r5 s5 (.bool false)) fun u5 =>
pcond (
pcal Tryz.prog 106 156 t5 (fun v5 w5 =>
d1 [v5, (c3.getD 2 .und), (c3.getD 3 .und), (c3.getD 4 .und), (c3.getD 5 .und)] [(c3.getD 0 .und)] w5) [(c3.getD 0 .und), (c3.getD 1 .und), (c3.getD 2 .und), (c3.getD 7 .und)]) (
pcal Tryz.prog 107 163 t5 (fun y5 z5 =>
VL (vext 0 y5) fun a6 =>
VL (vext 1 y5) fun b6 =>
VL (lift2 (abin .sub) a6 (c3.getD 1 .und)) fun c6 =>
VL (lift2 (abin .sub) (c3.getD 2 .und) a6) fun d6 =>
VL (lift2 (abin .quo) (c3.getD 6 .und) (.int .i64 8)) fun e6 =>
VL (lift2 (abin .lss) c6 d6) fun f6 =>
pcond (
VL (lift2 (abin .geq) c6 e6) fun g6 =>
pcal Tryz.prog 94 185 z5 (fun h6 i6 =>
VL (lift2 (abin .add) a6 (.int .i64 1)) fun j6 =>
d1 [j6, (c3.getD 2 .und), (c3.getD 3 .und), g6, b6] [(c3.getD 0 .und)] i6) [(c3.getD 0 .und), (c3.getD 1 .und), a6, (c3.getD 3 .und)]) (
VL (lift2 (abin .geq) d6 e6) fun k6 =>
VL (lift2 (abin .add) a6 (.int .i64 1)) fun l6 =>
pcal Tryz.prog 94 196 z5 (fun m6 n6 =>
d1 [(c3.getD 1 .und), a6, (c3.getD 3 .und), k6, b6] [(c3.getD 0 .und)] n6) [(c3.getD 0 .und), l6, (c3.getD 2 .und), (c3.getD 3 .und)]) f6) [(c3.getD 0 .und), (c3.getD 1 .und), (c3.getD 2 .und), (c3.getD 7 .und)]) u5) l5) e5) w4) q4) l4) g4) z3) s3) m3) h3) e3) [(q1.getD 0 .und), (q1.getD 1 .und), (q1.getD 2 .und)]) i1) f1) [x1, x2, x3, (.bool true), (.bool true)] [x0] hi
theorem slices_pdqsortOrdered_int64_f {x0 x1 x2 x3 : V} : Prt Tryz.prog 94 [x0, x1, x2, x3] (slices_pdqsortOrdered_int64_F x0 x1 x2 x3) := pfun (fn := Tryz.f94) (m := [.s, .s, .l [1, 2, 3, 8, 9] [0], .s, .s, .s, .s, .s, .s, .s, .j [0, 1, 2, 3, 8, 9, 10], .s, .s, .s, .j [0, 1, 2, 3, 8, 9, 10, 11, 12], .s, .s, .s, .j [0, 1, 2, 3, 8, 9, 10, 11], .s, .s, .s, .s, .s, .s, .s, .s, .s, .s, .s, .s, .s, .s, .s]) (c := 4 ≤ 134) rfl (fun h0 Rt => by kernel_rfl) (by decide)

def math_bits_Len_F (x0 : V) (hi : Hp) (Rt : Hp → V → Prop) : Prop :=
pcond (
VL (lift1 (acvi .u32) x0) fun a1 =>
pcal Tryz.prog 108 69 hi (fun b1 c1 =>
Rt c1 b1) [a1]) (
pcal Tryz.prog 109 71 hi (fun d1 e1 =>
Rt e1 d1) [x0]) (.bool false)
theorem math_bits_Len_f {x0 : V} : Prt Tryz.prog 95 [x0] (math_bits_Len_F x0) := pfun (fn := Tryz.f95) (m := [.s, .s, .s, .s]) (c := 1 ≤ 8) rfl (fun h0 Rt => by kernel_rfl) (by decide)

def slices_insertionSortOrdered_int64_F (x0 x1 x2 : V) (hi : Hp) (Rt : Hp → V → Prop) : Prop :=
VL (lift2 (abin .add) x1 (.int .i64 1)) fun a1 =>
LP [6] [0, 1, 2] (fun b1 c1 d1 e1 =>
VL (lift2 (abin .lss) (b1.getD 0 .und) (c1.getD 2 .und)) fun f1 =>
pcond (
LP [7] [0, 1, 2, 6] (fun g1 h1 i1 j1 =>
VL (lift2 (abin .gtr) (g1.getD 0 .und) (h1.getD 1 .und)) fun k1 =>
pgk true i1 (fun l1 m1 => m1 (h1.getD 0 .und) i1) (fun n1 o1 p1 =>
pgk true p1 (fun q1 r1 => r1 (g1.getD 0 .und) p1) (fun s1 t1 u1 =>
pgk true u1 (fun v1 w1 => VL (vixS 1 o1 t1) fun y1 =>
w1 y1 u1) (fun z1 a2 b2 =>
pgk true b2 (fun c2 d2 => pld b2 none (fun e2 f2 =>
d2 e2 f2) a2) (fun g2 h2 i2 =>
pgk true i2 (fun j2 k2 => k2 (h1.getD 0 .und) i2) (fun l2 m2 n2 =>
pgk true n2 (fun o2 p2 => p2 (g1.getD 0 .und) n2) (fun q2 r2 s2 =>
pgk true s2 (fun t2 u2 => VL (lift2 (abin .sub) r2 (.int .i64 1)) fun v2 =>
u2 v2 s2) (fun w2 y2 z2 =>
pgk true z2 (fun a3 b3 => VL (vixS 1 m2 y2) fun c3 =>
b3 c3 z2) (fun d3 e3 f3 =>
pgk true f3 (fun g3 h3 => pld f3 none (fun i3 j3 =>
h3 i3 j3) e3) (fun k3 l3 m3 =>
pgk true m3 (fun n3 o3 => pcal Tryz.prog 105 93 m3 (fun p3 q3 =>
o3 p3 q3) [h2, l3]) (fun r3 s3 t3 =>
VL (vpick r3 s3 (.bool false)) fun u3 =>
pcond (
VL (lift2 (abin .sub) (g1.getD 0 .und) (.int .i64 1)) fun v3 =>
VL (lift2 (abin .sub) (g1.getD 0 .und) (.int .i64 1)) fun w3 =>
VL (vixS 1 (h1.getD 0 .und) w3) fun y3 =>
pld t3 none (fun z3 a4 =>
VL (vixS 1 (h1.getD 0 .und) (g1.getD 0 .und)) fun b4 =>
pld a4 none (fun c4 d4 =>
VL (vixS 1 (h1.getD 0 .und) (g1.getD 0 .und)) fun e4 =>
pst d4 1 (cellsV z3) (fun f4 g4 =>
VL (vixS 1 (h1.getD 0 .und) v3) fun h4 =>
pst g4 1 (cellsV c4) (fun i4 j4 =>
VL (lift2 (abin .sub) (g1.getD 0 .und) (.int .i64 1)) fun k4 =>
j1 [k4] [(h1.getD 0 .und), (h1.getD 1 .und), (h1.getD 2 .und), (h1.getD 3 .und)] j4) h4) e4) b4) y3) (
VL (lift2 (abin .add) (h1.getD 3 .und) (.int .i64 1)) fun l4 =>
e1 [l4] [(h1.getD 0 .und), (h1.getD 1 .und), (h1.getD 2 .und)] t3) u3) k3) d3) w2) q2) l2) g2) z1) s1) n1) k1) [(b1.getD 0 .und)] [(c1.getD 0 .und), (c1.getD 1 .und), (c1.getD 2 .und), (b1.getD 0 .und)] d1) (
Rt d1 (.tup [])) f1) [a1] [x0, x1, x2] hi
theorem slices_insertionSortOrdered_int64_f {x0 x1 x2 : V} : Prt Tryz.prog 99 [x0, x1, x2] (slices_insertionSortOrdered_int64_F x0 x1 x2) := pfun (fn := Tryz.f99) (m := [.s, .l [6] [0, 1, 2], .s, .s, .s, .s, .l [7] [0, 1, 2, 6], .s, .s, .s]) (c := 3 ≤ 49) rfl (fun h0 Rt => by kernel_rfl) (by decide)

def slices_heapSortOrdered_int64_F (x0 x1 x2 : V) (hi : Hp) (Rt : Hp → V → Prop) : Prop :=
VL (lift2 (abin .sub) x2 x1) fun a1 =>
VL (lift2 (abin .sub) a1 (.int .i64 1)) fun b1 =>
VL (lift2 (abin .quo) b1 (.int .i64 2)) fun c1 =>
LP [9] [0, 6, 7, 8] (fun d1 e1 f1 g1 =>
VL (lift2 (abin .geq) (d1.getD 0 .und) (.int .i64 0)) fun h1 =>
pcond (
pcal Tryz.prog 114 90 f1 (fun i1 j1 =>
VL (lift2 (abin .sub) (d1.getD 0 .und) (.int .i64 1)) fun k1 =>
g1 [k1] [(e1.getD 0 .und), (e1.getD 1 .und), (e1.getD 2 .und), (e1.getD 3 .und)] j1) [(e1.getD 0 .und), (d1.getD 0 .und), (e1.getD 3 .und), (e1.getD 1 .und)]) (
VL (lift2 (abin .sub) (e1.getD 3 .und) (.int .i64 1)) fun l1 =>
LP [10] [0, 6, 7] (fun m1 n1 o1 p1 =>
VL (lift2 (abin .geq) (m1.getD 0 .und) (.int .i64 0)) fun q1 =>
pcond (
VL (lift2 (abin .add) (n1.getD 1 .und) (m1.getD 0 .und)) fun r1 =>
VL (lift2 (abin .add) (n1.getD 1 .und) (m1.getD 0 .und)) fun s1 =>
VL (vixS 1 (n1.getD 0 .und) s1) fun t1 =>
pld o1 none (fun u1 v1 =>
VL (vixS 1 (n1.getD 0 .und) (n1.getD 1 .und)) fun w1 =>
pld v1 none (fun y1 z1 =>
VL (vixS 1 (n1.getD 0 .und) (n1.getD 1 .und)) fun a2 =>
pst z1 1 (cellsV u1) (fun b2 c2 =>
VL (vixS 1 (n1.getD 0 .und) r1) fun d2 =>
pst c2 1 (cellsV y1) (fun e2 f2 =>
pcal Tryz.prog 114 119 f2 (fun g2 h2 =>
VL (lift2 (abin .sub) (m1.getD 0 .und) (.int .i64 1)) fun i2 =>
p1 [i2] [(n1.getD 0 .und), (n1.getD 1 .und), (n1.getD 2 .und)] h2) [(n1.getD 0 .und), (n1.getD 2 .und), (m1.getD 0 .und), (n1.getD 1 .und)]) d2) a2) w1) t1) (
Rt o1 (.tup [])) q1) [l1] [(e1.getD 0 .und), (e1.getD 1 .und), (e1.getD 2 .und)] f1) h1) [c1] [x0, x1, (.int .i64 0), a1] hi
theorem slices_heapSortOrdered_int64_f {x0 x1 x2 : V} : Prt Tryz.prog 100 [x0, x1, x2] (slices_heapSortOrdered_int64_F x0 x1 x2) := pfun (fn := Tryz.f100) (m := [.s, .s, .s, .s, .s, .l [9] [0, 6, 7, 8], .s, .s, .s, .s, .l [10] [0, 6, 7], .s, .s, .s, .s]) (c := 3 ≤ 56) rfl (fun h0 Rt => by kernel_rfl) (by decide)

def slices_breakPatternsOrdered_int64_F (x0 x1 x2 : V) (hi : Hp) (Rt : Hp → V → Prop) : Prop :=
VL (lift2 (abin .sub) x2 x1) fun a1 =>
VL (lift2 (abin .geq) a1 (.int .i64 8)) fun b1 =>
pcond (
VL (lift1 (acvi .u64) a1) fun c1 =>
palloc hi 71 144 [(.int .u64 0)] fun d1 =>
pst d1 1 (cellsV c1) (fun e1 f1 =>
pcal Tryz.prog 115 83 f1 (fun g1 h1 =>
VL (lift2 (abin .quo) a1 (.int .i64 4)) fun i1 =>
VL (lift2 (abin .mul) i1 (.int .i64 2)) fun j1 =>
VL (lift2 (abin .add) x1 j1) fun k1 =>
VL (lift2 (abin .sub) k1 (.int .i64 1)) fun l1 =>
LP [9] [0, 1, 6, 7, 8] (fun m1 n1 o1 p1 =>
VL (lift2 (abin .quo) (n1.getD 2 .und) (.int .i64 4)) fun q1 =>
VL (lift2 (abin .mul) q1 (.int .i64 2)) fun r1 =>
VL (lift2 (abin .add) (n1.getD 1 .und) r1) fun s1 =>
VL (lift2 (abin .add) s1 (.int .i64 1)) fun t1 =>
VL (lift2 (abin .leq) (m1.getD 0 .und) t1) fun u1 =>
pcond (
pcal Tryz.prog 116 100 o1 (fun v1 w1 =>
VL (lift2 (abin .sub) (n1.getD 4 .und) (.int .u64 1)) fun y1 =>
VL (lift2 (abin .and) v1 y1) fun z1 =>
VL (lift1 (acvi .i64) z1) fun a2 =>
JN (fun b2 =>
VL (lift2 (abin .geq) a2 (n1.getD 2 .und)) fun c2 =>
pcond (
VL (lift2 (abin .sub) a2 (n1.getD 2 .und)) fun d2 =>
b2 [(n1.getD 0 .und), (n1.getD 1 .und), (n1.getD 2 .und), (n1.getD 3 .und), (n1.getD 4 .und), (m1.getD 0 .und), d2] w1) (
b2 [(n1.getD 0 .und), (n1.getD 1 .und), (n1.getD 2 .und), (n1.getD 3 .und), (n1.getD 4 .und), (m1.getD 0 .und), a2] w1) c2) fun e2 f2 =>
VL (lift2 (abin .add) (e2.getD 1 .und) (e2.getD 6 .und)) fun g2 =>
VL (lift2 (abin .add) (e2.getD 1 .und) (e2.getD 6 .und)) fun h2 =>
VL (vixS 1 (e2.getD 0 .und) h2) fun i2 =>
pld f2 none (fun j2 k2 =>
VL (vixS 1 (e2.getD 0 .und) (e2.getD 5 .und)) fun l2 =>
pld k2 none (fun m2 n2 =>
VL (vixS 1 (e2.getD 0 .und) (e2.getD 5 .und)) fun o2 =>
pst n2 1 (cellsV j2) (fun p2 q2 =>
VL (vixS 1 (e2.getD 0 .und) g2) fun r2 =>
pst q2 1 (cellsV m2) (fun s2 t2 =>
VL (lift2 (abin .add) (e2.getD 5 .und) (.int .i64 1)) fun u2 =>
p1 [u2] [(e2.getD 0 .und), (e2.getD 1 .und), (e2.getD 2 .und), (e2.getD 3 .und), (e2.getD 4 .und)] t2) r2) o2) l2) i2) [(n1.getD 3 .und)]) (
Rt o1 (.tup [])) u1) [l1] [x0, x1, a1, (.ptr 71 0), g1] h1) [a1]) (.ptr 71 0)) (
Rt hi (.tup [])) b1
theorem slices_breakPatternsOrdered_int64_f {x0 x1 x2 : V} : Prt Tryz.prog 101 [x0, x1, x2] (slices_breakPatternsOrdered_int64_F x0 x1 x2) := pfun (fn := Tryz.f101) (m := [.s, .s, .s, .s, .s, .l [9] [0, 1, 6, 7, 8], .s, .s, .s, .s, .j [0, 1, 6, 7, 8, 9, 10], .s]) (c := 3 ≤ 65) rfl (fun h0 Rt => by kernel_rfl) (by decide)

def slices_choosePivotOrdered_int64_F (x0 x1 x2 : V) (hi : Hp) (Rt : Hp → V → Prop) : Prop :=
VL (lift2 (abin .sub) x2 x1) fun a1 =>
palloc hi 73 3 [(.int .i64 0)] fun b1 =>
VL (lift2 (abin .quo) a1 (.int .i64 4)) fun c1 =>
VL (lift2 (abin .mul) c1 (.int .i64 1)) fun d1 =>
VL (lift2 (abin .add) x1 d1) fun e1 =>
VL (lift2 (abin .quo) a1 (.int .i64 4)) fun f1 =>
VL (lift2 (abin .mul) f1 (.int .i64 2)) fun g1 =>
VL (lift2 (abin .add) x1 g1) fun h1 =>
VL (lift2 (abin .quo) a1 (.int .i64 4)) fun i1 =>
VL (lift2 (abin .mul) i1 (.int .i64 3)) fun j1 =>
VL (lift2 (abin .add) x1 j1) fun k1 =>
JN (fun l1 =>
VL (lift2 (abin .geq) a1 (.int .i64 8)) fun m1 =>
pcond (
JN (fun n1 =>
VL (lift2 (abin .geq) a1 (.int .i64 50)) fun o1 =>
pcond (
pcal Tryz.prog 117 101 b1 (fun p1 q1 =>
pcal Tryz.prog 117 104 q1 (fun r1 s1 =>
pcal Tryz.prog 117 107 s1 (fun t1 u1 =>
n1 [x0, (.ptr 73 0), p1, r1, t1] u1) [x0, k1, (.ptr 73 0)]) [x0, h1, (.ptr 73 0)]) [x0, e1, (.ptr 73 0)]) (
n1 [x0, (.ptr 73 0), e1, h1, k1] b1) o1) fun v1 w1 =>
pcal Tryz.prog 118 112 w1 (fun y1 z1 =>
l1 [(v1.getD 1 .und), y1] z1) [(v1.getD 0 .und), (v1.getD 2 .und), (v1.getD 3 .und), (v1.getD 4 .und), (v1.getD 1 .und)]) (
l1 [(.ptr 73 0), h1] b1) m1) fun a2 b2 =>
pld b2 none (fun c2 d2 =>
VL (lift2 (abin .eql) c2 (.int .i64 0)) fun e2 =>
pcond (
Rt d2 (.tup [(a2.getD 1 .und), (.int .i64 1)])) (
VL (lift2 (abin .eql) c2 (.int .i64 12)) fun f2 =>
pcond (
Rt d2 (.tup [(a2.getD 1 .und), (.int .i64 2)])) (
Rt d2 (.tup [(a2.getD 1 .und), (.int .i64 0)])) f2) e2) (a2.getD 0 .und)
theorem slices_choosePivotOrdered_int64_f {x0 x1 x2 : V} : Prt Tryz.prog 102 [x0, x1, x2] (slices_choosePivotOrdered_int64_F x0 x1 x2) := pfun (fn := Tryz.f102) (m := [.s, .s, .s, .s, .s, .s, .j [9, 11], .s, .j [0, 9, 10, 11, 12], .s, .s, .s, .s, .s, .s, .s, .s, .s]) (c := 3 ≤ 57) rfl (fun h0 Rt => by kernel_rfl) (by decide)

def slices_reverseRangeOrdered_int64_F (x0 x1 x2 : V) (hi : Hp) (Rt : Hp → V → Prop) : Prop :=
VL (lift2 (abin .sub) x2 (.int .i64 1)) fun a1 =>
LP [6, 7] [0] (fun b1 c1 d1 e1 =>
VL (lift2 (abin .lss) (b1.getD 0 .und) (b1.getD 1 .und)) fun f1 =>
pcond (
VL (vixS 1 (c1.getD 0 .und) (b1.getD 1 .und)) fun g1 =>
pld d1 none (fun h1 i1 =>
VL (vixS 1 (c1.getD 0 .und) (b1.getD 0 .und)) fun j1 =>
pld i1 none (fun k1 l1 =>
VL (vixS 1 (c1.getD 0 .und) (b1.getD 0 .und)) fun m1 =>
pst l1 1 (cellsV h1) (fun n1 o1 =>
VL (vixS 1 (c1.getD 0 .und) (b1.getD 1 .und)) fun p1 =>
pst o1 1 (cellsV k1) (fun q1 r1 =>
VL (lift2 (abin .add) (b1.getD 0 .und) (.int .i64 1)) fun s1 =>
VL (lift2 (abin .sub) (b1.getD 1 .und) (.int .i64 1)) fun t1 =>
e1 [s1, t1] [(c1.getD 0 .und)] r1) p1) m1) j1) g1) (
Rt d1 (.tup [])) f1) [x1, a1] [x0] hi
theorem slices_reverseRangeOrdered_int64_f {x0 x1 x2 : V} : Prt Tryz.prog 103 [x0, x1, x2] (slices_reverseRangeOrdered_int64_F x0 x1 x2) := pfun (fn := Tryz.f103) (m := [.s, .s, .l [6, 7] [0], .s, .s, .s, .s]) (c := 3 ≤ 32) rfl (fun h0 Rt => by kernel_rfl) (by decide)

def slices_partialInsertionSortOrdered_int64_F (x0 x1 x2 : V) (hi : Hp) (Rt : Hp → V → Prop) : Prop :=
VL (lift2 (abin .add) x1 (.int .i64 1)) fun a1 =>
LP [7, 8] [0, 1, 2] (fun b1 c1 d1 e1 =>
VL (lift2 (abin .lss) (b1.getD 1 .und) (.int .i64 5)) fun f1 =>
pcond (
JN (fun g1 =>
LP [7] [0, 1, 2, 8] (fun h1 i1 j1 k1 =>
VL (lift2 (abin .lss) (h1.getD 0 .und) (i1.getD 2 .und)) fun l1 =>
pgk true j1 (fun m1 n1 => n1 (i1.getD 0 .und) j1) (fun o1 p1 q1 =>
pgk true q1 (fun r1 s1 => s1 (h1.getD 0 .und) q1) (fun t1 u1 v1 =>
pgk true v1 (fun w1 y1 => VL (vixS 1 p1 u1) fun z1 =>
y1 z1 v1) (fun a2 b2 c2 =>
pgk true c2 (fun d2 e2 => pld c2 none (fun f2 g2 =>
e2 f2 g2) b2) (fun h2 i2 j2 =>
pgk true j2 (fun k2 l2 => l2 (i1.getD 0 .und) j2) (fun m2 n2 o2 =>
pgk true o2 (fun p2 q2 => q2 (h1.getD 0 .und) o2) (fun r2 s2 t2 =>
pgk true t2 (fun u2 v2 => VL (lift2 (abin .sub) s2 (.int .i64 1)) fun w2 =>
v2 w2 t2) (fun y2 z2 a3 =>
pgk true a3 (fun b3 c3 => VL (vixS 1 n2 z2) fun d3 =>
c3 d3 a3) (fun e3 f3 g3 =>
pgk true g3 (fun h3 i3 => pld g3 none (fun j3 k3 =>
i3 j3 k3) f3) (fun l3 m3 n3 =>
pgk true n3 (fun o3 p3 => pcal Tryz.prog 105 94 n3 (fun q3 r3 =>
p3 q3 r3) [i2, m3]) (fun s3 t3 u3 =>
pgk true u3 (fun v3 w3 => VL (lift1 (aun .not) t3) fun y3 =>
w3 y3 u3) (fun z3 a4 b4 =>
VL (vpick z3 a4 (.bool false)) fun c4 =>
pcond (
VL (lift2 (abin .add) (h1.getD 0 .und) (.int .i64 1)) fun d4 =>
k1 [d4] [(i1.getD 0 .und), (i1.getD 1 .und), (i1.getD 2 .und), (i1.getD 3 .und)] b4) (
VL (lift2 (abin .eql) (h1.getD 0 .und) (i1.getD 2 .und)) fun e4 =>
pcond (
Rt b4 (.bool true)) (
VL (lift2 (abin .sub) (i1.getD 2 .und) (i1.getD 1 .und)) fun f4 =>
VL (lift2 (abin .lss) f4 (.int .i64 50)) fun g4 =>
pcond (
Rt b4 (.bool false)) (
VL (lift2 (abin .sub) (h1.getD 0 .und) (.int .i64 1)) fun h4 =>
VL (lift2 (abin .sub) (h1.getD 0 .und) (.int .i64 1)) fun i4 =>
VL (vixS 1 (i1.getD 0 .und) i4) fun j4 =>
pld b4 none (fun k4 l4 =>
VL (vixS 1 (i1.getD 0 .und) (h1.getD 0 .und)) fun m4 =>
pld l4 none (fun n4 o4 =>
VL (vixS 1 (i1.getD 0 .und) (h1.getD 0 .und)) fun p4 =>
pst o4 1 (cellsV k4) (fun q4 r4 =>
VL (vixS 1 (i1.getD 0 .und) h4) fun s4 =>
pst r4 1 (cellsV n4) (fun t4 u4 =>
JN (fun v4 =>
VL (lift2 (abin .sub) (h1.getD 0 .und) (i1.getD 1 .und)) fun w4 =>
VL (lift2 (abin .geq) w4 (.int .i64 2)) fun y4 =>
pcond (
VL (lift2 (abin .sub) (h1.getD 0 .und) (.int .i64 1)) fun z4 =>
LP [9] [0, 1, 2, 7, 8] (fun a5 b5 c5 d5 =>
VL (lift2 (abin .geq) (a5.getD 0 .und) (.int .i64 1)) fun e5 =>
pcond (
VL (vixS 1 (b5.getD 0 .und) (a5.getD 0 .und)) fun f5 =>
pld c5 none (fun g5 h5 =>
VL (lift2 (abin .sub) (a5.getD 0 .und) (.int .i64 1)) fun i5 =>
VL (vixS 1 (b5.getD 0 .und) i5) fun j5 =>
pld h5 none (fun k5 l5 =>
pcal Tryz.prog 105 141 l5 (fun m5 n5 =>
VL (lift1 (aun .not) m5) fun o5 =>
pcond (
v4 [(b5.getD 0 .und), (b5.getD 1 .und), (b5.getD 2 .und), (b5.getD 3 .und), (b5.getD 4 .und)] n5) (
VL (lift2 (abin .sub) (a5.getD 0 .und) (.int .i64 1)) fun p5 =>
VL (lift2 (abin .sub) (a5.getD 0 .und) (.int .i64 1)) fun q5 =>
VL (vixS 1 (b5.getD 0 .und) q5) fun r5 =>
pld n5 none (fun s5 t5 =>
VL (vixS 1 (b5.getD 0 .und) (a5.getD 0 .und)) fun u5 =>
pld t5 none (fun v5 w5 =>
VL (vixS 1 (b5.getD 0 .und) (a5.getD 0 .und)) fun y5 =>
pst w5 1 (cellsV s5) (fun z5 a6 =>
VL (vixS 1 (b5.getD 0 .und) p5) fun b6 =>
pst a6 1 (cellsV v5) (fun c6 d6 =>
VL (lift2 (abin .sub) (a5.getD 0 .und) (.int .i64 1)) fun e6 =>
d5 [e6] [(b5.getD 0 .und), (b5.getD 1 .und), (b5.getD 2 .und), (b5.getD 3 .und), (b5.getD 4 .und)] d6) b6) y5) u5) r5) o5) [g5, k5]) j5) f5) (
v4 [(b5.getD 0 .und), (b5.getD 1 .und), (b5.getD 2 .und), (b5.getD 3 .und), (b5.getD 4 .und)] c5) e5) [z4] [(i1.getD 0 .und), (i1.getD 1 .und), (i1.getD 2 .und), (h1.getD 0 .und), (i1.getD 3 .und)] u4) (
v4 [(i1.getD 0 .und), (i1.getD 1 .und), (i1.getD 2 .und), (h1.getD 0 .und), (i1.getD 3 .und)] u4) y4) fun f6 g6 =>
VL (lift2 (abin .sub) (f6.getD 2 .und) (f6.getD 3 .und)) fun h6 =>
VL (lift2 (abin .geq) h6 (.int .i64 2)) fun i6 =>
pcond (
VL (lift2 (abin .add) (f6.getD 3 .und) (.int .i64 1)) fun j6 =>
LP [10] [0, 1, 2, 7, 8] (fun k6 l6 m6 n6 =>
VL (lift2 (abin .lss) (k6.getD 0 .und) (l6.getD 2 .und)) fun o6 =>
pcond (
VL (vixS 1 (l6.getD 0 .und) (k6.getD 0 .und)) fun p6 =>
pld m6 none (fun q6 r6 =>
VL (lift2 (abin .sub) (k6.getD 0 .und) (.int .i64 1)) fun s6 =>
VL (vixS 1 (l6.getD 0 .und) s6) fun t6 =>
pld r6 none (fun u6 v6 =>
pcal Tryz.prog 105 179 v6 (fun w6 y6 =>
VL (lift1 (aun .not) w6) fun z6 =>
pcond (
g1 [(l6.getD 0 .und), (l6.getD 1 .und), (l6.getD 2 .und), (l6.getD 3 .und), (l6.getD 4 .und)] y6) (
VL (lift2 (abin .sub) (k6.getD 0 .und) (.int .i64 1)) fun a7 =>
VL (lift2 (abin .sub) (k6.getD 0 .und) (.int .i64 1)) fun b7 =>
VL (vixS 1 (l6.getD 0 .und) b7) fun c7 =>
pld y6 none (fun d7 e7 =>
VL (vixS 1 (l6.getD 0 .und) (k6.getD 0 .und)) fun f7 =>
pld e7 none (fun g7 h7 =>
VL (vixS 1 (l6.getD 0 .und) (k6.getD 0 .und)) fun i7 =>
pst h7 1 (cellsV d7) (fun j7 k7 =>
VL (vixS 1 (l6.getD 0 .und) a7) fun l7 =>
pst k7 1 (cellsV g7) (fun m7 n7 =>
VL (lift2 (abin .add) (k6.getD 0 .und) (.int .i64 1)) fun o7 =>
n6 [o7] [(l6.getD 0 .und), (l6.getD 1 .und), (l6.getD 2 .und), (l6.getD 3 .und), (l6.getD 4 .und)] n7) l7) i7) f7) c7) z6) [q6, u6]) t6) p6) (
g1 [(l6.getD 0 .und), (l6.getD 1 .und), (l6.getD 2 .und), (l6.getD 3 .und), (l6.getD 4 .und)] m6) o6) [j6] [(f6.getD 0 .und), (f6.getD 1 .und), (f6.getD 2 .und), (f6.getD 3 .und), (f6.getD 4 .und)] g6) (
g1 [(f6.getD 0 .und), (f6.getD 1 .und), (f6.getD 2 .und), (f6.getD 3 .und), (f6.getD 4 .und)] g6) i6) s4) p4) m4) j4) g4) e4) c4) s3) l3) e3) y2) r2) m2) h2) a2) t1) o1) l1) [(b1.getD 0 .und)] [(c1.getD 0 .und), (c1.getD 1 .und), (c1.getD 2 .und), (b1.getD 1 .und)] d1) fun p7 q7 =>
VL (lift2 (abin .add) (p7.getD 4 .und) (.int .i64 1)) fun r7 =>
e1 [(p7.getD 3 .und), r7] [(p7.getD 0 .und), (p7.getD 1 .und), (p7.getD 2 .und)] q7) (
Rt d1 (.bool false)) f1) [a1, (.int .i64 0)] [x0, x1, x2] hi
theorem slices_partialInsertionSortOrdered_int64_f {x0 x1 x2 : V} : Prt Tryz.prog 104 [x0, x1, x2] (slices_partialInsertionSortOrdered_int64_F x0 x1 x2) := pfun (fn := Tryz.f104) (m := [.s, .s, .s, .s, .l [7, 8] [0, 1, 2], .s, .s, .j [0, 1, 2, 7, 8], .s, .l [7] [0, 1, 2, 8], .s, .s, .s, .s, .s, .s, .s, .s, .s, .j [0, 1, 2, 7, 8], .s, .s, .l [9] [0, 1, 2, 7, 8], .s, .s, .s, .s, .s, .s, .s, .l [10] [0, 1, 2, 7, 8], .s, .s, .s, .s, .s, .s]) (c := 3 ≤ 133) rfl (fun h0 Rt => by kernel_rfl) (by decide)

def cmp_Less_int64_F (x0 x1 : V) (hi : Hp) (Rt : Hp → V → Prop) : Prop :=
pcal Tryz.prog 119 70 hi (fun a1 b1 =>
pgk true b1 (fun c1 d1 => d1 x1 b1) (fun e1 f1 g1 =>
pgk true g1 (fun h1 i1 => pcal Tryz.prog 119 73 g1 (fun j1 k1 =>
i1 j1 k1) [f1]) (fun l1 m1 n1 =>
pgk true n1 (fun o1 p1 => VL (lift1 (aun .not) m1) fun q1 =>
p1 q1 n1) (fun r1 s1 t1 =>
VL (vpick r1 s1 (.bool false)) fun u1 =>
pgk false t1 (fun v1 w1 => w1 x0 t1) (fun y1 z1 a2 =>
pgk false a2 (fun b2 c2 => c2 x1 a2) (fun d2 e2 f2 =>
pgk false f2 (fun g2 h2 => VL (lift2 (abin .lss) z1 e2) fun i2 =>
h2 i2 f2) (fun j2 k2 l2 =>
VL (vpick j2 (.bool true) k2) fun m2 =>
Rt l2 m2) d2) y1) u1) l1) e1) a1) [x0]
theorem cmp_Less_int64_f {x0 x1 : V} : Prt Tryz.prog 105 [x0, x1] (cmp_Less_int64_F x0 x1) := pfun (fn := Tryz.f105) (m := [.s, .s]) (c := 2 ≤ 17) rfl (fun h0 Rt => by kernel_rfl) (by decide)

def slices_partitionEqualOrdered_int64_F (x0 x1 x2 x3 : V) (hi : Hp) (Rt : Hp → V → Prop) : Prop :=
VL (vixS 1 x0 x3) fun a1 =>
pld hi none (fun b1 c1 =>
VL (vixS 1 x0 x1) fun d1 =>
pld c1 none (fun e1 f1 =>
VL (vixS 1 x0 x1) fun g1 =>
pst f1 1 (cellsV b1) (fun h1 i1 =>
VL (vixS 1 x0 x3) fun j1 =>
pst i1 1 (cellsV e1) (fun k1 l1 =>
VL (lift2 (abin .add) x1 (.int .i64 1)) fun m1 =>
VL (lift2 (abin .sub) x2 (.int .i64 1)) fun n1 =>
LP [9, 10] [0, 1] (fun o1 p1 q1 r1 =>
LP [9] [0, 1, 10] (fun s1 t1 u1 v1 =>
VL (lift2 (abin .leq) (s1.getD 0 .und) (t1.getD 2 .und)) fun w1 =>
pgk true u1 (fun y1 z1 => z1 (t1.getD 0 .und) u1) (fun a2 b2 c2 =>
pgk true c2 (fun d2 e2 => e2 (t1.getD 1 .und) c2) (fun f2 g2 h2 =>
pgk true h2 (fun i2 j2 => VL (vixS 1 b2 g2) fun k2 =>
j2 k2 h2) (fun l2 m2 n2 =>
pgk true n2 (fun o2 p2 => pld n2 none (fun q2 r2 =>
p2 q2 r2) m2) (fun s2 t2 u2 =>
pgk true u2 (fun v2 w2 => w2 (t1.getD 0 .und) u2) (fun y2 z2 a3 =>
pgk true a3 (fun b3 c3 => c3 (s1.getD 0 .und) a3) (fun d3 e3 f3 =>
pgk true f3 (fun g3 h3 => VL (vixS 1 z2 e3) fun i3 =>
h3 i3 f3) (fun j3 k3 l3 =>
pgk true l3 (fun m3 n3 => pld l3 none (fun o3 p3 =>
n3 o3 p3) k3) (fun q3 r3 s3 =>
pgk true s3 (fun t3 u3 => pcal Tryz.prog 105 105 s3 (fun v3 w3 =>
u3 v3 w3) [t2, r3]) (fun y3 z3 a4 =>
pgk true a4 (fun b4 c4 => VL (lift1 (aun .not) z3) fun d4 =>
c4 d4 a4) (fun e4 f4 g4 =>
VL (vpick e4 f4 (.bool false)) fun h4 =>
pcond (
VL (lift2 (abin .add) (s1.getD 0 .und) (.int .i64 1)) fun i4 =>
v1 [i4] [(t1.getD 0 .und), (t1.getD 1 .und), (t1.getD 2 .und)] g4) (
LP [10] [0, 1, 9] (fun j4 k4 l4 m4 =>
VL (lift2 (abin .leq) (k4.getD 2 .und) (j4.getD 0 .und)) fun n4 =>
pgk true l4 (fun o4 p4 => p4 (k4.getD 0 .und) l4) (fun q4 r4 s4 =>
pgk true s4 (fun t4 u4 => u4 (k4.getD 1 .und) s4) (fun v4 w4 y4 =>
pgk true y4 (fun z4 a5 => VL (vixS 1 r4 w4) fun b5 =>
a5 b5 y4) (fun c5 d5 e5 =>
pgk true e5 (fun f5 g5 => pld e5 none (fun h5 i5 =>
g5 h5 i5) d5) (fun j5 k5 l5 =>
pgk true l5 (fun m5 n5 => n5 (k4.getD 0 .und) l5) (fun o5 p5 q5 =>
pgk true q5 (fun r5 s5 => s5 (j4.getD 0 .und) q5) (fun t5 u5 v5 =>
pgk true v5 (fun w5 y5 => VL (vixS 1 p5 u5) fun z5 =>
y5 z5 v5) (fun a6 b6 c6 =>
pgk true c6 (fun d6 e6 => pld c6 none (fun f6 g6 =>
e6 f6 g6) b6) (fun h6 i6 j6 =>
pgk true j6 (fun k6 l6 => pcal Tryz.prog 105 122 j6 (fun m6 n6 =>
l6 m6 n6) [k5, i6]) (fun o6 p6 q6 =>
VL (vpick o6 p6 (.bool false)) fun r6 =>
pcond (
VL (lift2 (abin .sub) (j4.getD 0 .und) (.int .i64 1)) fun s6 =>
m4 [s6] [(k4.getD 0 .und), (k4.getD 1 .und), (k4.getD 2 .und)] q6) (
VL (lift2 (abin .gtr) (k4.getD 2 .und) (j4.getD 0 .und)) fun t6 =>
pcond (
Rt q6 (k4.getD 2 .und)) (
VL (vixS 1 (k4.getD 0 .und) (j4.getD 0 .und)) fun u6 =>
pld q6 none (fun v6 w6 =>
VL (vixS 1 (k4.getD 0 .und) (k4.getD 2 .und)) fun y6 =>
pld w6 none (fun z6 a7 =>
VL (vixS 1 (k4.getD 0 .und) (k4.getD 2 .und)) fun b7 =>
pst a7 1 (cellsV v6) (fun c7 d7 =>
VL (vixS 1 (k4.getD 0 .und) (j4.getD 0 .und)) fun e7 =>
pst d7 1 (cellsV z6) (fun f7 g7 =>
VL (lift2 (abin .add) (k4.getD 2 .und) (.int .i64 1)) fun h7 =>
VL (lift2 (abin .sub) (j4.getD 0 .und) (.int .i64 1)) fun i7 =>
r1 [h7, i7] [(k4.getD 0 .und), (k4.getD 1 .und)] g7) e7) b7) y6) u6) t6) r6) h6) a6) t5) o5) j5) c5) v4) q4) n4) [(t1.getD 2 .und)] [(t1.getD 0 .und), (t1.getD 1 .und), (s1.getD 0 .und)] g4) h4) y3) q3) j3) d3) y2) s2) l2) f2) a2) w1) [(o1.getD 0 .und)] [(p1.getD 0 .und), (p1.getD 1 .und), (o1.getD 1 .und)] q1) [m1, n1] [x0, x1] l1) j1) g1) d1) a1
theorem slices_partitionEqualOrdered_int64_f {x0 x1 x2 x3 : V} : Prt Tryz.prog 106 [x0, x1, x2, x3] (slices_partitionEqualOrdered_int64_F x0 x1 x2 x3) := pfun (fn := Tryz.f106) (m := [.s, .s, .s, .s, .l [9, 10] [0, 1], .s, .l [9] [0, 1, 10], .s, .s, .s, .l [10] [0, 1, 9], .s, .s, .s, .s, .s, .s, .s]) (c := 4 ≤ 84) rfl (fun h0 Rt => by kernel_rfl) (by decide)

def slices_partitionOrdered_int64_F (x0 x1 x2 x3 : V) (hi : Hp) (Rt : Hp → V → Prop) : Prop :=
VL (vixS 1 x0 x3) fun a1 =>
pld hi none (fun b1 c1 =>
VL (vixS 1 x0 x1) fun d1 =>
pld c1 none (fun e1 f1 =>
VL (vixS 1 x0 x1) fun g1 =>
pst f1 1 (cellsV b1) (fun h1 i1 =>
VL (vixS 1 x0 x3) fun j1 =>
pst i1 1 (cellsV e1) (fun k1 l1 =>
VL (lift2 (abin .add) x1 (.int .i64 1)) fun m1 =>
VL (lift2 (abin .sub) x2 (.int .i64 1)) fun n1 =>
LP [10] [0, 1, 11] (fun o1 p1 q1 r1 =>
VL (lift2 (abin .leq) (o1.getD 0 .und) (p1.getD 2 .und)) fun s1 =>
pgk true q1 (fun t1 u1 => u1 (p1.getD 0 .und) q1) (fun v1 w1 y1 =>
pgk true y1 (fun z1 a2 => a2 (o1.getD 0 .und) y1) (fun b2 c2 d2 =>
pgk true d2 (fun e2 f2 => VL (vixS 1 w1 c2) fun g2 =>
f2 g2 d2) (fun h2 i2 j2 =>
pgk true j2 (fun k2 l2 => pld j2 none (fun m2 n2 =>
l2 m2 n2) i2) (fun o2 p2 q2 =>
pgk true q2 (fun r2 s2 => s2 (p1.getD 0 .und) q2) (fun t2 u2 v2 =>
pgk true v2 (fun w2 y2 => y2 (p1.getD 1 .und) v2) (fun z2 a3 b3 =>
pgk true b3 (fun c3 d3 => VL (vixS 1 u2 a3) fun e3 =>
d3 e3 b3) (fun f3 g3 h3 =>
pgk true h3 (fun i3 j3 => pld h3 none (fun k3 l3 =>
j3 k3 l3) g3) (fun m3 n3 o3 =>
pgk true o3 (fun p3 q3 => pcal Tryz.prog 105 106 o3 (fun r3 s3 =>
q3 r3 s3) [p2, n3]) (fun t3 u3 v3 =>
VL (vpick t3 u3 (.bool false)) fun w3 =>
pcond (
VL (lift2 (abin .add) (o1.getD 0 .und) (.int .i64 1)) fun y3 =>
r1 [y3] [(p1.getD 0 .und), (p1.getD 1 .und), (p1.getD 2 .und)] v3) (
LP [11] [0, 1, 10] (fun z3 a4 b4 c4 =>
VL (lift2 (abin .leq) (a4.getD 2 .und) (z3.getD 0 .und)) fun d4 =>
pgk true b4 (fun e4 f4 => f4 (a4.getD 0 .und) b4) (fun g4 h4 i4 =>
pgk true i4 (fun j4 k4 => k4 (z3.getD 0 .und) i4) (fun l4 m4 n4 =>
pgk true n4 (fun o4 p4 => VL (vixS 1 h4 m4) fun q4 =>
p4 q4 n4) (fun r4 s4 t4 =>
pgk true t4 (fun u4 v4 => pld t4 none (fun w4 y4 =>
v4 w4 y4) s4) (fun z4 a5 b5 =>
pgk true b5 (fun c5 d5 => d5 (a4.getD 0 .und) b5) (fun e5 f5 g5 =>
pgk true g5 (fun h5 i5 => i5 (a4.getD 1 .und) g5) (fun j5 k5 l5 =>
pgk true l5 (fun m5 n5 => VL (vixS 1 f5 k5) fun o5 =>
n5 o5 l5) (fun p5 q5 r5 =>
pgk true r5 (fun s5 t5 => pld r5 none (fun u5 v5 =>
t5 u5 v5) q5) (fun w5 y5 z5 =>
pgk true z5 (fun a6 b6 => pcal Tryz.prog 105 122 z5 (fun c6 d6 =>
b6 c6 d6) [a5, y5]) (fun e6 f6 g6 =>
pgk true g6 (fun h6 i6 => VL (lift1 (aun .not) f6) fun j6 =>
i6 j6 g6) (fun k6 l6 m6 =>
VL (vpick k6 l6 (.bool false)) fun n6 =>
pcond (
VL (lift2 (abin .sub) (z3.getD 0 .und) (.int .i64 1)) fun o6 =>
c4 [o6] [(a4.getD 0 .und), (a4.getD 1 .und), (a4.getD 2 .und)] m6) (
VL (lift2 (abin .gtr) (a4.getD 2 .und) (z3.getD 0 .und)) fun p6 =>
pcond (
VL (vixS 1 (a4.getD 0 .und) (a4.getD 1 .und)) fun q6 =>
pld m6 none (fun r6 s6 =>
VL (vixS 1 (a4.getD 0 .und) (z3.getD 0 .und)) fun t6 =>
pld s6 none (fun u6 v6 =>
VL (vixS 1 (a4.getD 0 .und) (z3.getD 0 .und)) fun w6 =>
pst v6 1 (cellsV r6) (fun y6 z6 =>
VL (vixS 1 (a4.getD 0 .und) (a4.getD 1 .und)) fun a7 =>
pst z6 1 (cellsV u6) (fun b7 c7 =>
Rt c7 (.tup [(z3.getD 0 .und), (.bool true)])) a7) w6) t6) q6) (
VL (vixS 1 (a4.getD 0 .und) (z3.getD 0 .und)) fun d7 =>
pld m6 none (fun e7 f7 =>
VL (vixS 1 (a4.getD 0 .und) (a4.getD 2 .und)) fun g7 =>
pld f7 none (fun h7 i7 =>
VL (vixS 1 (a4.getD 0 .und) (a4.getD 2 .und)) fun j7 =>
pst i7 1 (cellsV e7) (fun k7 l7 =>
VL (vixS 1 (a4.getD 0 .und) (z3.getD 0 .und)) fun m7 =>
pst l7 1 (cellsV h7) (fun n7 o7 =>
VL (lift2 (abin .add) (a4.getD 2 .und) (.int .i64 1)) fun p7 =>
VL (lift2 (abin .sub) (z3.getD 0 .und) (.int .i64 1)) fun q7 =>
LP [10, 11] [0, 1] (fun r7 s7 t7 u7 =>
LP [10] [0, 1, 11] (fun v7 w7 y7 z7 =>
VL (lift2 (abin .leq) (v7.getD 0 .und) (w7.getD 2 .und)) fun a8 =>
pgk true y7 (fun b8 c8 => c8 (w7.getD 0 .und) y7) (fun d8 e8 f8 =>
pgk true f8 (fun g8 h8 => h8 (v7.getD 0 .und) f8) (fun i8 j8 k8 =>
pgk true k8 (fun l8 m8 => VL (vixS 1 e8 j8) fun n8 =>
m8 n8 k8) (fun o8 p8 q8 =>
pgk true q8 (fun r8 s8 => pld q8 none (fun t8 u8 =>
s8 t8 u8) p8) (fun v8 w8 y8 =>
pgk true y8 (fun z8 a9 => a9 (w7.getD 0 .und) y8) (fun b9 c9 d9 =>
pgk true d9 (fun e9 f9 => f9 (w7.getD 1 .und) d9) (fun g9 h9 i9 =>
pgk true i9 (fun j9 k9 => VL (vixS 1 c9 h9) fun l9 =>
k9 l9 i9) (fun m9 n9 o9 =>
pgk true o9 (fun p9 q9 => pld o9 none (fun r9 s9 =>
q9 r9 s9) n9) (fun t9 u9 v9 =>
pgk true v9 (fun w9 y9 => pcal Tryz.prog 105 175 v9 (fun z9 a10 =>
y9 z9 a10) [w8, u9]) (fun b10 c10 d10 =>
VL (vpick b10 c10 (.bool false)) fun e10 =>
pcond (
VL (lift2 (abin .add) (v7.getD 0 .und) (.int .i64 1)) fun f10 =>
z7 [f10] [(w7.getD 0 .und), (w7.getD 1 .und), (w7.getD 2 .und)] d10) (
LP [11] [0, 1, 10] (fun g10 h10 i10 j10 =>
VL (lift2 (abin .leq) (h10.getD 2 .und) (g10.getD 0 .und)) fun k10 =>
pgk true i10 (fun l10 m10 => m10 (h10.getD 0 .und) i10) (fun n10 o10 p10 =>
pgk true p10 (fun q10 r10 => r10 (g10.getD 0 .und) p10) (fun s10 t10 u10 =>
pgk true u10 (fun v10 w10 => VL (vixS 1 o10 t10) fun y10 =>
w10 y10 u10) (fun z10 a11 b11 =>
pgk true b11 (fun c11 d11 => pld b11 none (fun e11 f11 =>
d11 e11 f11) a11) (fun g11 h11 i11 =>
pgk true i11 (fun j11 k11 => k11 (h10.getD 0 .und) i11) (fun l11 m11 n11 =>
pgk true n11 (fun o11 p11 => p11 (h10.getD 1 .und) n11) (fun q11 r11 s11 =>
pgk true s11 (fun t11 u11 => VL (vixS 1 m11 r11) fun v11 =>
u11 v11 s11) (fun w11 y11 z11 =>
pgk true z11 (fun a12 b12 => pld z11 none (fun c12 d12 =>
b12 c12 d12) y11) (fun e12 f12 g12 =>
pgk true g12 (fun h12 i12 => pcal Tryz.prog 105 191 g12 (fun j12 k12 =>
i12 j12 k12) [h11, f12]) (fun l12 m12 n12 =>
pgk true n12 (fun o12 p12 => VL (lift1 (aun .not) m12) fun q12 =>
p12 q12 n12) (fun r12 s12 t12 =>
VL (vpick r12 s12 (.bool false)) fun u12 =>
pcond (
VL (lift2 (abin .sub) (g10.getD 0 .und) (.int .i64 1)) fun v12 =>
j10 [v12] [(h10.getD 0 .und), (h10.getD 1 .und), (h10.getD 2 .und)] t12) (
VL (lift2 (abin .gtr) (h10.getD 2 .und) (g10.getD 0 .und)) fun w12 =>
pcond (
VL (vixS 1 (h10.getD 0 .und) (h10.getD 1 .und)) fun y12 =>
pld t12 none (fun z12 a13 =>
VL (vixS 1 (h10.getD 0 .und) (g10.getD 0 .und)) fun b13 =>
pld a13 none (fun c13 d13 =>
VL (vixS 1 (h10.getD 0 .und) (g10.getD 0 .und)) fun e13 =>
pst d13 1 (cellsV z12) (fun f13 g13 =>
VL (vixS 1 (h10.getD 0 .und) (h10.getD 1 .und)) fun h13 =>
pst g13 1 (cellsV c13) (fun i13 j13 =>
Rt j13 (.tup [(g10.getD 0 .und), (.bool false)])) h13) e13) b13) y12) (
VL (vixS 1 (h10.getD 0 .und) (g10.getD 0 .und)) fun k13 =>
pld t12 none (fun l13 m13 =>
VL (vixS 1 (h10.getD 0 .und) (h10.getD 2 .und)) fun n13 =>
pld m13 none (fun o13 p13 =>
VL (vixS 1 (h10.getD 0 .und) (h10.getD 2 .und)) fun q13 =>
pst p13 1 (cellsV l13) (fun r13 s13 =>
VL (vixS 1 (h10.getD 0 .und) (g10.getD 0 .und)) fun t13 =>
pst s13 1 (cellsV o13) (fun u13 v13 =>
VL (lift2 (abin .add) (h10.getD 2 .und) (.int .i64 1)) fun w13 =>
VL (lift2 (abin .sub) (g10.getD 0 .und) (.int .i64 1)) fun y13 =>
u7 [w13, y13] [(h10.getD 0 .und), (h10.getD 1 .und)] v13) t13) q13) n13) k13) w12) u12) l12) e12) w11) q11) l11) g11) z10) s10) n10) k10) [(w7.getD 2 .und)] [(w7.getD 0 .und), (w7.getD 1 .und), (v7.getD 0 .und)] d10) e10) t9) m9) g9) b9) v8) o8) i8) d8) a8) [(r7.getD 0 .und)] [(s7.getD 0 .und), (s7.getD 1 .und), (r7.getD 1 .und)] t7) [p7, q7] [(a4.getD 0 .und), (a4.getD 1 .und)] o7) m7) j7) g7) d7) p6) n6) e6) w5) p5) j5) e5) z4) r4) l4) g4) d4) [(p1.getD 2 .und)] [(p1.getD 0 .und), (p1.getD 1 .und), (o1.getD 0 .und)] v3) w3) m3) f3) z2) t2) o2) h2) b2) v1) s1) [m1] [x0, x1, n1] l1) j1) g1) d1) a1
theorem slices_partitionOrdered_int64_f {x0 x1 x2 x3 : V} : Prt Tryz.prog 107 [x0, x1, x2, x3] (slices_partitionOrdered_int64_F x0 x1 x2 x3) := pfun (fn := Tryz.f107) (m := [.s, .s, .s, .s, .l [10] [0, 1, 11], .s, .s, .s, .l [11] [0, 1, 10], .s, .s, .s, .s, .s, .s, .s, .s, .s, .s, .l [10, 11] [0, 1], .s, .l [10] [0, 1, 11], .s, .s, .s, .l [11] [0, 1, 10], .s, .s, .s, .s, .s, .s, .s, .s]) (c := 4 ≤ 168) rfl (fun h0 Rt => by kernel_rfl) (by decide)

def math_bits_Len64_F (x0 : V) (hi : Hp) (Rt : Hp → V → Prop) : Prop :=
JN (fun a1 =>
VL (lift2 (abin .geq) x0 (.int .u64 4294967296)) fun b1 =>
pcond (
VL (lift2 (abin .shr) x0 (.int .u64 32)) fun c1 =>
a1 [c1, (.int .i64 32)] hi) (
a1 [x0, (.int .i64 0)] hi) b1) fun d1 e1 =>
JN (fun f1 =>
VL (lift2 (abin .geq) (d1.getD 0 .und) (.int .u64 65536)) fun g1 =>
pcond (
VL (lift2 (abin .shr) (d1.getD 0 .und) (.int .u64 16)) fun h1 =>
VL (lift2 (abin .add) (d1.getD 1 .und) (.int .i64 16)) fun i1 =>
f1 [h1, i1] e1) (
f1 [(d1.getD 0 .und), (d1.getD 1 .und)] e1) g1) fun j1 k1 =>
JN (fun l1 =>
VL (lift2 (abin .geq) (j1.getD 0 .und) (.int .u64 256)) fun m1 =>
pcond (
VL (lift2 (abin .shr) (j1.getD 0 .und) (.int .u64 8)) fun n1 =>
VL (lift2 (abin .add) (j1.getD 1 .und) (.int .i64 8)) fun o1 =>
l1 [n1, o1] k1) (
l1 [(j1.getD 0 .und), (j1.getD 1 .und)] k1) m1) fun p1 q1 =>
VL (lift1 (acvi .u8) (p1.getD 0 .und)) fun r1 =>
VL (vixT (.str [0, 1, 2, 2, 3, 3, 3, 3, 4, 4, 4, 4, 4, 4, 4, 4, 5, 5, 5, 5, 5, 5, 5, 5, 5, 5, 5, 5, 5, 5, 5, 5, 6, 6, 6, 6, 6, 6, 6, 6, 6, 6, 6, 6, 6, 6, 6, 6, 6, 6, 6, 6, 6, 6, 6, 6, 6, 6, 6, 6, 6, 6, 6, 6, 7, 7, 7, 7, 7, 7, 7, 7, 7, 7, 7, 7, 7, 7, 7, 7, 7, 7, 7, 7, 7, 7, 7, 7, 7, 7, 7, 7, 7, 7, 7, 7, 7, 7, 7, 7, 7, 7, 7, 7, 7, 7, 7, 7, 7, 7, 7, 7, 7, 7, 7, 7, 7, 7, 7, 7, 7, 7, 7, 7, 7, 7, 7, 7, 8, 8, 8, 8, 8, 8, 8, 8, 8, 8, 8, 8, 8, 8, 8, 8, 8, 8, 8, 8, 8, 8, 8, 8, 8, 8, 8, 8, 8, 8, 8, 8, 8, 8, 8, 8, 8, 8, 8, 8, 8, 8, 8, 8, 8, 8, 8, 8, 8, 8, 8, 8, 8, 8, 8, 8, 8, 8, 8, 8, 8, 8, 8, 8, 8, 8, 8, 8, 8, 8, 8, 8, 8, 8, 8, 8, 8, 8, 8, 8, 8, 8, 8, 8, 8, 8, 8, 8, 8, 8, 8, 8, 8, 8, 8, 8, 8, 8, 8, 8, 8, 8, 8, 8, 8, 8, 8, 8, 8, 8, 8, 8, 8, 8, 8, 8, 8, 8, 8, 8, 8, 8, 8, 8, 8, 8, 8, 8]) r1) fun s1 =>
VL (lift1 (acvi .i64) s1) fun t1 =>
VL (lift2 (abin .add) (p1.getD 1 .und) t1) fun u1 =>
Rt q1 u1
theorem math_bits_Len64_f {x0 : V} : Prt Tryz.prog 109 [x0] (math_bits_Len64_F x0) := pfun (fn := Tryz.f109) (m := [.s, .j [0, 2], .s, .s, .j [0, 2], .s, .s, .j [0, 2], .s, .s, .s]) (c := 1 ≤ 25) rfl (fun h0 Rt => by kernel_rfl) (by decide)

def slices_siftDownOrdered_int64_F (x0 x1 x2 x3 : V) (hi : Hp) (Rt : Hp → V → Prop) : Prop :=
LP [8] [0, 2, 3] (fun a1 b1 c1 d1 =>
VL (lift2 (abin .mul) (.int .i64 2) (a1.getD 0 .und)) fun e1 =>
VL (lift2 (abin .add) e1 (.int .i64 1)) fun f1 =>
VL (lift2 (abin .geq) f1 (b1.getD 1 .und)) fun g1 =>
pcond (
Rt c1 (.tup [])) (
JN (fun h1 =>
VL (lift2 (abin .add) f1 (.int .i64 1)) fun i1 =>
VL (lift2 (abin .lss) i1 (b1.getD 1 .und)) fun j1 =>
pgk true c1 (fun k1 l1 => l1 (b1.getD 0 .und) c1) (fun m1 n1 o1 =>
pgk true o1 (fun p1 q1 => q1 (b1.getD 2 .und) o1) (fun r1 s1 t1 =>
pgk true t1 (fun u1 v1 => v1 f1 t1) (fun w1 y1 z1 =>
pgk true z1 (fun a2 b2 => VL (lift2 (abin .add) s1 y1) fun c2 =>
b2 c2 z1) (fun d2 e2 f2 =>
pgk true f2 (fun g2 h2 => VL (vixS 1 n1 e2) fun i2 =>
h2 i2 f2) (fun j2 k2 l2 =>
pgk true l2 (fun m2 n2 => pld l2 none (fun o2 p2 =>
n2 o2 p2) k2) (fun q2 r2 s2 =>
pgk true s2 (fun t2 u2 => u2 (b1.getD 0 .und) s2) (fun v2 w2 y2 =>
pgk true y2 (fun z2 a3 => a3 (b1.getD 2 .und) y2) (fun b3 c3 d3 =>
pgk true d3 (fun e3 f3 => f3 f1 d3) (fun g3 h3 i3 =>
pgk true i3 (fun j3 k3 => VL (lift2 (abin .add) c3 h3) fun l3 =>
k3 l3 i3) (fun m3 n3 o3 =>
pgk true o3 (fun p3 q3 => VL (lift2 (abin .add) n3 (.int .i64 1)) fun r3 =>
q3 r3 o3) (fun s3 t3 u3 =>
pgk true u3 (fun v3 w3 => VL (vixS 1 w2 t3) fun y3 =>
w3 y3 u3) (fun z3 a4 b4 =>
pgk true b4 (fun c4 d4 => pld b4 none (fun e4 f4 =>
d4 e4 f4) a4) (fun g4 h4 i4 =>
pgk true i4 (fun j4 k4 => pcal Tryz.prog 105 99 i4 (fun l4 m4 =>
k4 l4 m4) [r2, h4]) (fun n4 o4 p4 =>
VL (vpick n4 o4 (.bool false)) fun q4 =>
pcond (
VL (lift2 (abin .add) f1 (.int .i64 1)) fun r4 =>
h1 [(b1.getD 0 .und), (b1.getD 1 .und), (b1.getD 2 .und), (a1.getD 0 .und), r4] p4) (
h1 [(b1.getD 0 .und), (b1.getD 1 .und), (b1.getD 2 .und), (a1.getD 0 .und), f1] p4) q4) g4) z3) s3) m3) g3) b3) v2) q2) j2) d2) w1) r1) m1) j1) fun s4 t4 =>
VL (lift2 (abin .add) (s4.getD 2 .und) (s4.getD 3 .und)) fun u4 =>
VL (vixS 1 (s4.getD 0 .und) u4) fun v4 =>
pld t4 none (fun w4 y4 =>
VL (lift2 (abin .add) (s4.getD 2 .und) (s4.getD 4 .und)) fun z4 =>
VL (vixS 1 (s4.getD 0 .und) z4) fun a5 =>
pld y4 none (fun b5 c5 =>
pcal Tryz.prog 105 115 c5 (fun d5 e5 =>
VL (lift1 (aun .not) d5) fun f5 =>
pcond (
Rt e5 (.tup [])) (
VL (lift2 (abin .add) (s4.getD 2 .und) (s4.getD 3 .und)) fun g5 =>
VL (lift2 (abin .add) (s4.getD 2 .und) (s4.getD 4 .und)) fun h5 =>
VL (lift2 (abin .add) (s4.getD 2 .und) (s4.getD 4 .und)) fun i5 =>
VL (vixS 1 (s4.getD 0 .und) i5) fun j5 =>
pld e5 none (fun k5 l5 =>
VL (lift2 (abin .add) (s4.getD 2 .und) (s4.getD 3 .und)) fun m5 =>
VL (vixS 1 (s4.getD 0 .und) m5) fun n5 =>
pld l5 none (fun o5 p5 =>
VL (vixS 1 (s4.getD 0 .und) g5) fun q5 =>
pst p5 1 (cellsV k5) (fun r5 s5 =>
VL (vixS 1 (s4.getD 0 .und) h5) fun t5 =>
pst s5 1 (cellsV o5) (fun u5 v5 =>
d1 [(s4.getD 4 .und)] [(s4.getD 0 .und), (s4.getD 1 .und), (s4.getD 2 .und)] v5) t5) q5) n5) j5) f5) [w4, b5]) a5) v4) g1) [x1] [x0, x2, x3] hi
theorem slices_siftDownOrdered_int64_f {x0 x1 x2 x3 : V} : Prt Tryz.prog 114 [x0, x1, x2, x3] (slices_siftDownOrdered_int64_F x0 x1 x2 x3) := pfun (fn := Tryz.f114) (m := [.s, .l [8] [0, 2, 3], .s, .s, .s, .j [0, 2, 3, 8, 9], .s, .s, .s, .s]) (c := 4 ≤ 76) rfl (fun h0 Rt => by kernel_rfl) (by decide)

def slices_nextPowerOfTwo_F (x0 : V) (hi : Hp) (Rt : Hp → V → Prop) : Prop :=
VL (lift1 (acvi .u64) x0) fun a1 =>
pcal Tryz.prog 95 69 hi (fun b1 c1 =>
VL (lift2 (abin .shl) (.int .u64 1) b1) fun d1 =>
Rt c1 d1) [a1]
theorem slices_nextPowerOfTwo_f {x0 : V} : Prt Tryz.prog 115 [x0] (slices_nextPowerOfTwo_F x0) := pfun (fn := Tryz.f115) (m := [.s, .s]) (c := 1 ≤ 7) rfl (fun h0 Rt => by kernel_rfl) (by decide)

def slices_xorshift_Next_F (x0 : V) (hi : Hp) (Rt : Hp → V → Prop) : Prop :=
VL (vfa 0 x0) fun a1 =>
pld hi none (fun b1 c1 =>
VL (vfa 0 x0) fun d1 =>
pld c1 none (fun e1 f1 =>
VL (lift2 (abin .shl) e1 (.int .u64 13)) fun g1 =>
VL (lift2 (abin .xor) b1 g1) fun h1 =>
VL (vfa 0 x0) fun i1 =>
pst f1 1 (cellsV h1) (fun j1 k1 =>
VL (vfa 0 x0) fun l1 =>
pld k1 none (fun m1 n1 =>
VL (vfa 0 x0) fun o1 =>
pld n1 none (fun p1 q1 =>
VL (lift2 (abin .shr) p1 (.int .u64 7)) fun r1 =>
VL (lift2 (abin .xor) m1 r1) fun s1 =>
VL (vfa 0 x0) fun t1 =>
pst q1 1 (cellsV s1) (fun u1 v1 =>
VL (vfa 0 x0) fun w1 =>
pld v1 none (fun y1 z1 =>
VL (vfa 0 x0) fun a2 =>
pld z1 none (fun b2 c2 =>
VL (lift2 (abin .shl) b2 (.int .u64 17)) fun d2 =>
VL (lift2 (abin .xor) y1 d2) fun e2 =>
VL (vfa 0 x0) fun f2 =>
pst c2 1 (cellsV e2) (fun g2 h2 =>
VL (vfa 0 x0) fun i2 =>
pld h2 none (fun j2 k2 =>
Rt k2 j2) i2) f2) a2) w1) t1) o1) l1) i1) d1) a1
theorem slices_xorshift_Next_f {x0 : V} : Prt Tryz.prog 116 [x0] (slices_xorshift_Next_F x0) := pfun (fn := Tryz.f116) (m := [.s, .s, .s, .s, .s]) (c := 1 ≤ 33) rfl (fun h0 Rt => by kernel_rfl) (by decide)

def slices_medianOrdered_int64_F (x0 x1 x2 x3 x4 : V) (hi : Hp) (Rt : Hp → V → Prop) : Prop :=
pcal Tryz.prog 121 80 hi (fun a1 b1 =>
VL (vext 0 a1) fun c1 =>
VL (vext 1 a1) fun d1 =>
pcal Tryz.prog 121 88 b1 (fun e1 f1 =>
VL (vext 0 e1) fun g1 =>
VL (vext 1 e1) fun h1 =>
pcal Tryz.prog 121 96 f1 (fun i1 j1 =>
VL (vext 0 i1) fun k1 =>
VL (vext 1 i1) fun l1 =>
Rt j1 l1) [x0, c1, g1, x4]) [x0, d1, x3, x4]) [x0, x1, x2, x4]
theorem slices_medianOrdered_int64_f {x0 x1 x2 x3 x4 : V} : Prt Tryz.prog 118 [x0, x1, x2, x3, x4] (slices_medianOrdered_int64_F x0 x1 x2 x3 x4) := pfun (fn := Tryz.f118) (m := [.s, .s, .s, .s, .s]) (c := 5 ≤ 36) rfl (fun h0 Rt => by kernel_rfl) (by decide)

def cmp_isNaN_int64_F (x0 : V) (hi : Hp) (Rt : Hp → V → Prop) : Prop :=
VL (lift2 (abin .neq) x0 x0) fun a1 =>
Rt hi a1
theorem cmp_isNaN_int64_f {x0 : V} : Prt Tryz.prog 119 [x0] (cmp_isNaN_int64_F x0) := pfun (fn := Tryz.f119) (m := [.s, .s]) (c := 1 ≤ 6) rfl (fun h0 Rt => by kernel_rfl) (by decide)

def slices_order2Ordered_int64_F (x0 x1 x2 x3 : V) (hi : Hp) (Rt : Hp → V → Prop) : Prop :=
VL (vixS 1 x0 x2) fun a1 =>
pld hi none (fun b1 c1 =>
VL (vixS 1 x0 x1) fun d1 =>
pld c1 none (fun e1 f1 =>
pcal Tryz.prog 105 82 f1 (fun g1 h1 =>
pcond (
VL (vfa 0 x3) fun i1 =>
pld h1 none (fun j1 k1 =>
VL (lift2 (abin .add) j1 (.int .i64 1)) fun l1 =>
VL (vfa 0 x3) fun m1 =>
pst k1 1 (cellsV l1) (fun n1 o1 =>
Rt o1 (.tup [x2, x1])) m1) i1) (
Rt h1 (.tup [x1, x2])) g1) [b1, e1]) d1) a1
theorem slices_order2Ordered_int64_f {x0 x1 x2 x3 : V} : Prt Tryz.prog 121 [x0, x1, x2, x3] (slices_order2Ordered_int64_F x0 x1 x2 x3) := pfun (fn := Tryz.f121) (m := [.s, .s, .s, .s, .s, .s]) (c := 4 ≤ 28) rfl (fun h0 Rt => by kernel_rfl) (by decide)

end Go.Proofs.YtjklebickfcddaaGreatDoor.Sep
end
section
/- What the functions on permutations and dessins compute. -/
namespace Go.Proofs.YtjklebickfcddaaGreatDoor.Sep
open Go.RowKit
set_option linter.unusedVariables false
set_option linter.unusedSimpArgs false
set_option maxRecDepth 20000

/-- Sixteen bytes. -/
def okP (p : List Int) : Prop := p.length = 16 ∧ ∀ i, i < 16 → 0 ≤ gi p i ∧ gi p i ≤ 255
theorem okP.len {p : List Int} (h : okP p) : p.length = 16 := h.1

/-- A dessin's cells. -/
def vD (n : Int) (b w : List Int) : V := .agg (.int .i64 n :: vi .u8 (b ++ w))
/-! ### Permutations -/
def PmAt (p : List Int) (n : Int) (j : Nat) : Prop := ((j : Int) < n → gi p j < n ∧ ∀ k, k < j → gi p k ≠ gi p j) ∧ (n ≤ j → gi p j = 0)
def isPm (p : List Int) (n : Int) : Prop := (1 ≤ n ∧ n ≤ 16) ∧ ∀ j, j < 16 → PmAt p n j
noncomputable def isPmB (p : List Int) (n : Int) : Bool := by classical exact decide (isPm p n)
theorem isPmB_iff {p : List Int} {n : Int} : isPmB p n = true ↔ isPm p n := by simp [isPmB]
theorem isPmB_no {p : List Int} {n : Int} (h : ¬ isPm p n) : isPmB p n = false := by simp [isPmB, h]
theorem isPmB_yes {p : List Int} {n : Int} (h : isPm p n) : isPmB p n = true := isPmB_iff.2 h
theorem not_isPm {p : List Int} {n : Int} {i : Nat} (hi : i < 16) (h : ¬ PmAt p n i) : ¬ isPm p n := fun hp => h (hp.2 i hi)

/-- What a search for numbers that are met twice knows. -/
def Met (p : List Int) (n : Int) (m : List Bool) (i : Nat) : Prop := i ≤ 16 ∧ m.length = 16 ∧ (∀ j, j < i → PmAt p n j) ∧ ∀ x : Nat, x < 16 → (gb m x = true ↔ ∃ j, j < i ∧ (j : Int) < n ∧ gi p j = x)
theorem Met.zero (p : List Int) (n : Int) : Met p n (List.replicate 16 false) 0 := by
  refine ⟨Nat.zero_le _, by simp, fun j hj => absurd hj (Nat.not_lt_zero j), fun x hx => ?_⟩
  rw [gb_rep]; simp
theorem Met.skip {p : List Int} {n : Int} {m : List Bool} {i : Nat} (h : Met p n m i) (hi : i < 16) (hn : n ≤ i) (h0 : gi p i = 0) : Met p n m (i + 1) := by
  obtain ⟨h1, h2, h3, h4⟩ := h
  refine ⟨by omega, h2, fun j hj => ?_, fun x hx => ?_⟩
  · by_cases e : j = i
    · subst e; exact ⟨fun h => absurd h (by omega), fun _ => h0⟩
    · exact h3 j (by omega)
  · rw [h4 x hx]
    exact ⟨fun ⟨j, a, b, c⟩ => ⟨j, by omega, b, c⟩, fun ⟨j, a, b, c⟩ => ⟨j, by omega, b, c⟩⟩
theorem Met.put {p : List Int} {n : Int} {m : List Bool} {i : Nat} (h : Met p n m i) (hi : i < 16) (hn : (i : Int) < n) (hn16 : n ≤ 16) (h0 : 0 ≤ gi p i) (h1 : gi p i < n) (hm : gb m (gi p i).toNat = false) : Met p n (m.set (gi p i).toNat true) (i + 1) := by
  obtain ⟨g1, g2, g3, g4⟩ := h
  have hx16 : (gi p i).toNat < 16 := by omega
  refine ⟨by omega, by simpa using g2, fun j hj => ?_, fun x hx => ?_⟩
  · by_cases e : j = i
    · subst e
      refine ⟨fun _ => ⟨h1, fun k hk he => ?_⟩, fun h => absurd h (by omega)⟩
      have := (g4 (gi p j).toNat hx16).2 ⟨k, hk, by omega, by omega⟩
      rw [hm] at this; cases this
    · exact g3 j (by omega)
  · rw [gb_set, g2]
    by_cases e : (gi p i).toNat = x
    · rw [if_pos ⟨e, hx⟩]
      exact ⟨fun _ => ⟨i, by omega, hn, by omega⟩, fun _ => rfl⟩
    · rw [if_neg (fun h => e h.1), g4 x hx]
      refine ⟨fun ⟨j, a, b, c⟩ => ⟨j, by omega, b, c⟩, fun ⟨j, a, b, c⟩ => ⟨j, ?_, b, c⟩⟩
      have : j ≠ i := fun hj => e (by subst hj; omega)
      omega
theorem Met.twice {p : List Int} {n : Int} {m : List Bool} {i : Nat} (h : Met p n m i) (hn : (i : Int) < n) (hn16 : n ≤ 16) (h0 : 0 ≤ gi p i) (h1 : gi p i < n) (hm : gb m (gi p i).toNat = true) : ¬ PmAt p n i := by
  obtain ⟨j, a, b, c⟩ := (h.2.2.2 (gi p i).toNat (by omega)).1 hm
  exact fun hp => (hp.1 hn).2 j a (by omega)

theorem c_impl_isSize {n : Int} : PSpec Tryz.prog 75 [.int .i64 n] fun v => v = .bool (decide (1 ≤ n ∧ n ≤ 16)) := by
  refine impl_isSize_f.f ?_
  simp (disch := first | omega | (simp only [LN]; omega)) only [↓EC, EW, seval, ↓reduceIte, impl_isSize_F]
  unfold Split
  simp only [V.bool.injEq]
  grind
theorem c_spec_l01In {n a b : Int} : PSpec Tryz.prog 43 [.int .i64 n, .int .i64 a, .int .i64 b] fun v => v = .bool (decide (a ≤ n ∧ n ≤ b)) := by
  refine spec_l01In_f.f ?_
  simp (disch := first | omega | (simp only [LN]; omega)) only [↓EC, EW, seval, ↓reduceIte, spec_l01In_F]
  unfold Split
  simp only [V.bool.injEq]
  grind
theorem c_impl_IsPermutation {p : List Int} {n : Int} (hp : okP p) : PSpec Tryz.prog 50 [.agg (vi .u8 p), .int .i64 n] fun v => v = .bool (isPmB p n) := by
  have hl := hp.len
  refine impl_IsPermutation_f.f ?_
  simp (disch := first | omega | (simp only [LN]; omega)) only [↓EC, EW, seval, ↓reduceIte, impl_IsPermutation_F]
  (refine pcd_v (c_impl_isSize) ?_; (try simp (disch := first | omega | (simp only [LN]; omega)) only [↓EC, EW, seval, ↓reduceIte]))
  (refine Split.mk (fun h => ?_) (fun h => ?_) <;> (try simp only [SD] at h))
  · rw [isPmB_no fun h => absurd h.1 (by omega)]
  · refine LP_of (σ := Nat × List Bool) 100000 [(69, 103, 1)] (fun s => [.int .i64 s.1]) (fun s => [vb s.2])
      (fun s => Met p n s.2 s.1) (fun s => 16 - s.1) (0, List.replicate 16 false) (by simp [frameOk, names, lpz, sclp, scv, scvs, nrfs, nrf, FRB]) (Met.zero p n) ?_ ?_
    · simp (disch := first | omega | (simp only [LN]; omega)) only [↓EC, EW, seval, ↓reduceIte, ColV_def]
    · rintro ⟨i, m⟩ hm
      have hm0 := hm
      obtain ⟨h1, h2, -, -⟩ := hm0
      simp only at h1 h2 hm
      simp (disch := first | omega | (simp only [LN]; omega)) only [↓EC, EW, seval, ↓reduceIte, ColV_def, lheap_def]
      (refine Split.mk (fun h => ?_) (fun h => ?_) <;> (try simp only [SD] at h))
      · have hb := hp.2 i (by omega)
        (try simp (disch := first | omega | (simp only [LN]; omega)) only [↓EC, EW, seval, ↓reduceIte])
        (refine Split.mk (fun h => ?_) (fun h => ?_) <;> (try simp only [SD] at h))
        · (refine Split.mk (fun h => ?_) (fun h => ?_) <;> (try simp only [SD] at h))
          · rw [isPmB_no (not_isPm (i := i) (by omega) fun hq => h (hq.2 (by omega)))]
          · (try simp (disch := first | omega | (simp only [LN]; omega)) only [↓EC, EW, seval, ↓reduceIte])
            exact ⟨(i + 1, m), rfl, rfl, hm.skip (by omega) (by omega) h, by simp only; omega⟩
        · (refine Split.mk (fun h => ?_) (fun h => ?_) <;> (try simp only [SD] at h))
          · rw [isPmB_no (not_isPm (i := i) (by omega) fun hq => absurd (hq.1 (by omega)).1 (by omega))]
          · (try simp (disch := first | omega | (simp only [LN]; omega)) only [↓EC, EW, seval, ↓reduceIte])
            (refine Split.mk (fun h => ?_) (fun h => ?_) <;> (try simp only [SD] at h))
            · rw [isPmB_no (not_isPm (i := i) (by omega) (hm.twice (by omega) (by omega) hb.1 (by omega) h))]
            · (try simp (disch := first | omega | (simp only [LN]; omega)) only [↓EC, EW, seval, ↓reduceIte])
              exact ⟨(i + 1, m.set (gi p i).toNat true), rfl, rfl, hm.put (by omega) (by omega) (by omega) hb.1 (by omega) h, by simp only; omega⟩
      · (try simp (disch := first | omega | (simp only [LN]; omega)) only [↓EC, EW, seval, ↓reduceIte])
        rw [isPmB_yes ⟨by omega, fun j hj => hm.2.2.1 j (by omega)⟩]
theorem c_spec_l01Perm {p : List Int} {n : Int} (hp : okP p) : PSpec Tryz.prog 53 [.agg (vi .u8 p), .int .i64 n] fun v => v = .bool (isPmB p n) := by
  have hl := hp.len
  refine spec_l01Perm_f.f ?_
  simp (disch := first | omega | (simp only [LN]; omega)) only [↓EC, EW, seval, ↓reduceIte, spec_l01Perm_F]
  (refine pcd_v (c_spec_l01In) ?_; (try simp (disch := first | omega | (simp only [LN]; omega)) only [↓EC, EW, seval, ↓reduceIte]))
  (refine Split.mk (fun h => ?_) (fun h => ?_) <;> (try simp only [SD] at h))
  · rw [isPmB_no fun h => absurd h.1 (by omega)]
  · refine LP_of (σ := Nat × List Bool) 100000 [(66, 25, 1), (69, 103, 1)] (fun s => [.int .i64 s.1]) (fun s => [vi .u8 p, vb s.2])
      (fun s => Met p n s.2 s.1) (fun s => 16 - s.1) (0, List.replicate 16 false) (by simp [frameOk, names, lpz, sclp, scv, scvs, nrfs, nrf, FRB]) (Met.zero p n) ?_ ?_
    · simp (disch := first | omega | (simp only [LN]; omega)) only [↓EC, EW, seval, ↓reduceIte, ColV_def]
    · rintro ⟨i, m⟩ hm
      have hm0 := hm
      obtain ⟨h1, h2, -, -⟩ := hm0
      simp only at h1 h2 hm
      simp (disch := first | omega | (simp only [LN]; omega)) only [↓EC, EW, seval, ↓reduceIte, ColV_def, lheap_def]
      (refine Split.mk (fun h => ?_) (fun h => ?_) <;> (try simp only [SD] at h))
      · have hb := hp.2 i (by omega)
        (try simp (disch := first | omega | (simp only [LN]; omega)) only [↓EC, EW, seval, ↓reduceIte])
        (refine Split.mk (fun h => ?_) (fun h => ?_) <;> (try simp only [SD] at h))
        · (try simp (disch := first | omega | (simp only [LN]; omega)) only [↓EC, EW, seval, ↓reduceIte])
          (refine Split.mk (fun h => ?_) (fun h => ?_) <;> (try simp only [SD] at h))
          · rw [isPmB_no (not_isPm (i := i) (by omega) fun hq => h (hq.2 (by omega)))]
          · (try simp (disch := first | omega | (simp only [LN]; omega)) only [↓EC, EW, seval, ↓reduceIte])
            exact ⟨(i + 1, m), rfl, rfl, hm.skip (by omega) (by omega) h, by simp only; omega⟩
        · (try simp (disch := first | omega | (simp only [LN]; omega)) only [↓EC, EW, seval, ↓reduceIte])
          (refine Split.mk (fun h => ?_) (fun h => ?_) <;> (try simp only [SD] at h))
          · rw [isPmB_no (not_isPm (i := i) (by omega) fun hq => absurd (hq.1 (by omega)).1 (by omega))]
          · (try simp (disch := first | omega | (simp only [LN]; omega)) only [↓EC, EW, seval, ↓reduceIte])
            (refine Split.mk (fun h => ?_) (fun h => ?_) <;> (try simp only [SD] at h))
            · rw [isPmB_no (not_isPm (i := i) (by omega) (hm.twice (by omega) (by omega) hb.1 (by omega) h))]
            · (try simp (disch := first | omega | (simp only [LN]; omega)) only [↓EC, EW, seval, ↓reduceIte])
              exact ⟨(i + 1, m.set (gi p i).toNat true), rfl, rfl, hm.put (by omega) (by omega) (by omega) hb.1 (by omega) h, by simp only; omega⟩
      · (try simp (disch := first | omega | (simp only [LN]; omega)) only [↓EC, EW, seval, ↓reduceIte])
        rw [isPmB_yes ⟨by omega, fun j hj => hm.2.2.1 j (by omega)⟩]

/-! ### What is reached from 0 -/
abbrev Sr := List Int × List Bool
def visit (y : Int) (s : Sr) : Sr := if gb s.2 y.toNat = true then s else (s.1 ++ [y], s.2.set y.toNat true)
def srStep (p q : List Int) (i : Nat) (s : Sr) : Sr := visit (gi q (gi s.1 i).toNat) (visit (gi p (gi s.1 i).toNat) s)
def srRun (p q : List Int) : Nat → Nat → Sr → Sr
  | 0, _, s => s
  | k + 1, i, s => if i < s.1.length then srRun p q k (i + 1) (srStep p q i s) else s
def sr0 : Sr := ([0], (List.replicate 16 false).set 0 true)
def cntR (p q : List Int) : Nat := (srRun p q 17 0 sr0).1.length
/-- Numbers below 16. -/
def lo16 (p : List Int) : Prop := p.length = 16 ∧ ∀ i, i < 16 → 0 ≤ gi p i ∧ gi p i < 16
theorem isPm.lo {p : List Int} {n : Int} (hp : okP p) (h : isPm p n) : lo16 p := ⟨hp.1, fun i hi => by
  obtain ⟨h1, h2⟩ := h
  have h3 := h2 i hi
  have := (hp.2 i hi).1
  by_cases h4 : (i : Int) < n
  · have := (h3.1 h4).1; omega
  · have := h3.2 (by omega); omega⟩
structure SrOk (s : Sr) : Prop where
  len : s.2.length = 16
  cnt : s.1.length = s.2.count true
  lo : ∀ j, j < s.1.length → 0 ≤ gi s.1 j ∧ gi s.1 j < 16
theorem SrOk.le {s : Sr} (h : SrOk s) : s.1.length ≤ 16 := by
  rw [h.cnt, ← h.len]; exact List.count_le_length
theorem sr0_ok : SrOk sr0 := ⟨rfl, rfl, fun j hj => by
  have : j = 0 := by simp [sr0] at hj; exact hj
  subst this; decide⟩
theorem visit_ok {s : Sr} (h : SrOk s) {y : Int} (hy : 0 ≤ y ∧ y < 16) : SrOk (visit y s) := by
  unfold visit
  split
  · exact h
  · rename_i hv
    have hl : y.toNat < s.2.length := by rw [h.len]; omega
    refine ⟨by simp [h.len], ?_, fun j hj => ?_⟩
    · have hg : s.2[y.toNat] = false := by
        have := gb_of hl
        rw [← this]; simpa using hv
      simp only [List.length_append, List.length_cons, List.length_nil]
      rw [List.count_set hl, hg, h.cnt]
      simp
    · simp only [List.length_append, List.length_cons, List.length_nil] at hj
      simp only [gi_app]
      split
      · exact h.lo j (by assumption)
      · have : j - s.1.length = 0 := by omega
        rw [this]; exact hy
theorem visit_len {s : Sr} {y : Int} : s.1.length ≤ (visit y s).1.length := by
  unfold visit; split <;> simp
theorem srStep_ok {p q : List Int} (hp : lo16 p) (hq : lo16 q) {s : Sr} (h : SrOk s) {i : Nat} (hi : i < s.1.length) : SrOk (srStep p q i s) := by
  have h0 := h.lo i hi
  exact visit_ok (visit_ok h (hp.2 _ (by omega))) (hq.2 _ (by omega))
theorem srStep_len {p q : List Int} {s : Sr} {i : Nat} : s.1.length ≤ (srStep p q i s).1.length := Nat.le_trans visit_len visit_len
theorem visit_yes {s : Sr} {y : Int} (h : gb s.2 y.toNat = true) : visit y s = s := if_pos h
theorem visit_no {s : Sr} {y : Int} (h : gb s.2 y.toNat = false) : visit y s = (s.1 ++ [y], s.2.set y.toNat true) := if_neg (by simp [h])

theorem c_impl_reached {n : Int} {p q : List Int} (hp : lo16 p) (hq : lo16 q) : PSpec Tryz.prog 51 [.int .i64 n, .sl 2 (vi .u8 (p ++ q))] fun v => v = .int .i64 (cntR p q) := by
  have hl := hp.1
  have hk := hq.1
  refine impl_reached_f.f ?_
  simp (disch := first | omega | (simp only [LN]; omega)) only [↓EC, EW, seval, ↓reduceIte, impl_reached_F]
  refine LP_of (σ := Sr × Nat) 100000 [(69, 103, 1)] (fun s => [.own 5 1 s.1.1.length (vi .u8 s.1.1), .int .i64 s.2]) (fun s => [vb s.1.2])
    (fun s => SrOk s.1 ∧ s.2 ≤ s.1.1.length ∧ srRun p q (17 - s.2) s.2 s.1 = srRun p q 17 0 sr0) (fun s => 17 - s.2) (sr0, 0) (by simp [frameOk, names, lpz, sclp, scv, scvs, nrfs, nrf, FRB]) ⟨sr0_ok, Nat.zero_le _, rfl⟩ ?_ ?_
  · simp (disch := first | omega | (simp only [LN]; omega)) only [↓EC, EW, seval, ↓reduceIte, ColV_def]
    exact ⟨rfl, rfl⟩
  · rintro ⟨⟨l, m⟩, i⟩ ⟨h1, h2, h3⟩
    simp only at h1 h2 h3
    have hm := h1.len
    have hle := h1.le
    simp only at hm hle
    simp (disch := first | omega | (simp only [LN]; omega)) only [↓EC, EW, seval, ↓reduceIte, ColV_def, lheap_def]
    (refine Split.mk (fun h => ?_) (fun h => ?_) <;> (try simp only [SD] at h))
    · have hi : i < l.length := by omega
      have hlo := h1.lo i hi
      simp only at hlo
      have hy1 := hp.2 (gi l i).toNat (by omega)
      have hy2 := hq.2 (gi l i).toNat (by omega)
      have hg : ∀ y, gi (visit y (l, m)).1 i = gi l i := fun y => by
        unfold visit; split
        · rfl
        · simp only [gi_app, if_pos hi]
      refine LP_of (σ := Sr × Nat) 200000 [(69, 103, 1)] (fun s => [.own 5 1 s.1.1.length (vi .u8 s.1.1), .int .i64 s.2]) (fun s => [vb s.1.2])
        (fun s => s.2 ≤ 2 ∧ s.1 = if s.2 = 0 then (l, m) else if s.2 = 1 then visit (gi p (gi l i).toNat) (l, m) else srStep p q i (l, m)) (fun s => 2 - s.2) ((l, m), 0) (by simp [frameOk, names, lpz, sclp, scv, scvs, nrfs, nrf, FRB]) ⟨Nat.zero_le 2, rfl⟩ ?_ ?_
      · simp (disch := first | omega | (simp only [LN]; omega)) only [↓EC, EW, seval, ↓reduceIte, ColV_def]
      · rintro ⟨s, j⟩ ⟨g1, g2⟩
        simp only at g1 g2
        have hs : SrOk s := by
          rw [g2]; split
          · exact h1
          · split
            · exact visit_ok h1 hy1
            · exact srStep_ok hp hq h1 hi
        have hsm := hs.len
        have hsl := hs.le
        have hgs : gi s.1 i = gi l i ∧ i < s.1.length := by
          rw [g2]; split
          · exact ⟨rfl, hi⟩
          · split
            · exact ⟨hg _, Nat.lt_of_lt_of_le hi (visit_len (s := (l, m)))⟩
            · exact ⟨by unfold srStep; rw [visit]; split; exact hg _; simp only [gi_app]; rw [if_pos (Nat.lt_of_lt_of_le hi (visit_len (s := (l, m))))]; exact hg _, Nat.lt_of_lt_of_le hi (srStep_len (s := (l, m)))⟩
        obtain ⟨hgs, hil⟩ := hgs
        simp (disch := first | omega | (simp only [LN]; omega)) only [↓EC, EW, seval, ↓reduceIte, ColV_def, lheap_def]
        (refine Split.mk (fun h => ?_) (fun h => ?_) <;> (try simp only [SD] at h))
        · have hj : j = 0 ∨ j = 1 := by omega
          rcases hj with rfl | rfl
          · (try simp (disch := first | omega | (simp only [LN]; omega)) only [↓EC, EW, seval, ↓reduceIte, hgs, hl, hk])
            rw [if_pos rfl] at g2
            (refine Split.mk (fun h => ?_) (fun h => ?_) <;> (try simp only [SD] at h))
            · exact ⟨(visit (gi p (gi l i).toNat) s, 1), by rw [visit_no h]; simp, by rw [visit_no h], ⟨by simp, by rw [g2]; rfl⟩, by simp⟩
            · exact ⟨(visit (gi p (gi l i).toNat) s, 1), by rw [visit_yes h]; simp, by rw [visit_yes h], ⟨by simp, by rw [g2]; rfl⟩, by simp⟩
          · (try simp (disch := first | omega | (simp only [LN]; omega)) only [↓EC, EW, seval, ↓reduceIte, hgs, hl, hk])
            rw [if_neg (by decide), if_pos rfl] at g2
            (refine Split.mk (fun h => ?_) (fun h => ?_) <;> (try simp only [SD] at h))
            · exact ⟨(visit (gi q (gi l i).toNat) s, 2), by rw [visit_no h]; simp, by rw [visit_no h], ⟨by simp, by rw [g2]; rfl⟩, by simp⟩
            · exact ⟨(visit (gi q (gi l i).toNat) s, 2), by rw [visit_yes h]; simp, by rw [visit_yes h], ⟨by simp, by rw [g2]; rfl⟩, by simp⟩
        · (try simp (disch := first | omega | (simp only [LN]; omega)) only [↓EC, EW, seval, ↓reduceIte])
          rw [if_neg (by omega), if_neg (by omega)] at g2
          refine ⟨(s, i + 1), rfl, rfl, ⟨hs, hil, ?_⟩, by simp only; omega⟩
          rw [show 17 - i = 16 - i + 1 from by omega] at h3
          simp only [srRun, if_pos hi] at h3
          try simp only
          rw [g2, show 17 - (i + 1) = 16 - i from by omega]
          exact h3
    · (try simp (disch := first | omega | (simp only [LN]; omega)) only [↓EC, EW, seval, ↓reduceIte])
      unfold cntR
      rw [← h3, show 17 - i = 16 - i + 1 from by omega]
      simp only [srRun]
      rw [if_neg (by omega)]

theorem c_spec_l01Connected {n : Int} {p q : List Int} (hp : lo16 p) (hq : lo16 q) : PSpec Tryz.prog 54 [.int .i64 n, .agg (vi .u8 p), .agg (vi .u8 q)] fun v => v = .bool (decide ((cntR p q : Int) = n)) := by
  have hl := hp.1
  have hk := hq.1
  refine spec_l01Connected_f.f ?_
  simp (disch := first | omega | (simp only [LN]; omega)) only [↓EC, EW, seval, ↓reduceIte, spec_l01Connected_F]
  refine LP_of (σ := Sr × Nat) 100000 [(68, 25, 1), (69, 25, 1), (71, 103, 1)] (fun s => [.own 5 1 s.1.1.length (vi .u8 s.1.1), .int .i64 s.2]) (fun s => [vi .u8 p, vi .u8 q, vb s.1.2])
    (fun s => SrOk s.1 ∧ s.2 ≤ s.1.1.length ∧ srRun p q (17 - s.2) s.2 s.1 = srRun p q 17 0 sr0) (fun s => 17 - s.2) (sr0, 0) (by simp [frameOk, names, lpz, sclp, scv, scvs, nrfs, nrf, FRB]) ⟨sr0_ok, Nat.zero_le _, rfl⟩ ?_ ?_
  · simp (disch := first | omega | (simp only [LN]; omega)) only [↓EC, EW, seval, ↓reduceIte, ColV_def]
    exact ⟨rfl, rfl⟩
  · rintro ⟨⟨l, m⟩, i⟩ ⟨h1, h2, h3⟩
    simp only at h1 h2 h3
    have hm := h1.len
    have hle := h1.le
    simp only at hm hle
    simp (disch := first | omega | (simp only [LN]; omega)) only [↓EC, EW, seval, ↓reduceIte, ColV_def, lheap_def]
    (refine Split.mk (fun h => ?_) (fun h => ?_) <;> (try simp only [SD] at h))
    · have hi : i < l.length := by omega
      have hlo := h1.lo i hi
      simp only at hlo
      have hy1 := hp.2 (gi l i).toNat (by omega)
      have hy2 := hq.2 (gi l i).toNat (by omega)
      (try simp (disch := first | omega | (simp only [LN]; omega)) only [↓EC, EW, seval, ↓reduceIte])
      refine LP_of (σ := Sr × Nat) 200000 [(68, 25, 1), (69, 25, 1), (71, 103, 1), (97, 5, 1)] (fun s => [.own 5 1 s.1.1.length (vi .u8 s.1.1), .int .i64 s.2])
        (fun s => [vi .u8 p, vi .u8 q, vb s.1.2, vi .u8 [gi p (gi l i).toNat, gi q (gi l i).toNat]])
        (fun s => s.2 ≤ 2 ∧ s.1 = if s.2 = 0 then (l, m) else if s.2 = 1 then visit (gi p (gi l i).toNat) (l, m) else srStep p q i (l, m)) (fun s => 2 - s.2) ((l, m), 0) (by simp [frameOk, names, lpz, sclp, scv, scvs, nrfs, nrf, FRB]) ⟨Nat.zero_le 2, rfl⟩ ?_ ?_
      · simp (disch := first | omega | (simp only [LN]; omega)) only [↓EC, EW, seval, ↓reduceIte, ColV_def]
        rfl
      · rintro ⟨s, j⟩ ⟨g1, g2⟩
        simp only at g1 g2
        have hs : SrOk s := by
          rw [g2]; split
          · exact h1
          · split
            · exact visit_ok h1 hy1
            · exact srStep_ok hp hq h1 hi
        have hil : i < s.1.length := by
          rw [g2]; split
          · exact hi
          · split
            · exact Nat.lt_of_lt_of_le hi (visit_len (s := (l, m)))
            · exact Nat.lt_of_lt_of_le hi (srStep_len (s := (l, m)))
        have hsm := hs.len
        have hsl := hs.le
        simp (disch := first | omega | (simp only [LN]; omega)) only [↓EC, EW, seval, ↓reduceIte, ColV_def, lheap_def]
        (refine Split.mk (fun h => ?_) (fun h => ?_) <;> (try simp only [SD] at h))
        · have hj : j = 0 ∨ j = 1 := by omega
          rcases hj with rfl | rfl
          · (try simp (disch := first | omega | (simp only [LN]; omega)) only [↓EC, EW, seval, ↓reduceIte, hl, hk])
            rw [if_pos rfl] at g2
            (refine Split.mk (fun h => ?_) (fun h => ?_) <;> (try simp only [SD] at h))
            · exact ⟨(visit (gi p (gi l i).toNat) s, 1), by rw [visit_no h]; simp, by rw [visit_no h], ⟨by simp, by rw [g2]; rfl⟩, by simp⟩
            · exact ⟨(visit (gi p (gi l i).toNat) s, 1), by rw [visit_yes h]; simp, by rw [visit_yes h], ⟨by simp, by rw [g2]; rfl⟩, by simp⟩
          · (try simp (disch := first | omega | (simp only [LN]; omega)) only [↓EC, EW, seval, ↓reduceIte, hl, hk])
            rw [if_neg (by decide), if_pos rfl] at g2
            (refine Split.mk (fun h => ?_) (fun h => ?_) <;> (try simp only [SD] at h))
            · exact ⟨(visit (gi q (gi l i).toNat) s, 2), by rw [visit_no h]; simp, by rw [visit_no h], ⟨by simp, by rw [g2]; rfl⟩, by simp⟩
            · exact ⟨(visit (gi q (gi l i).toNat) s, 2), by rw [visit_yes h]; simp, by rw [visit_yes h], ⟨by simp, by rw [g2]; rfl⟩, by simp⟩
        · (try simp (disch := first | omega | (simp only [LN]; omega)) only [↓EC, EW, seval, ↓reduceIte])
          rw [if_neg (by omega), if_neg (by omega)] at g2
          refine ⟨(s, i + 1), rfl, rfl, ⟨hs, hil, ?_⟩, by simp only; omega⟩
          rw [show 17 - i = 16 - i + 1 from by omega] at h3
          simp only [srRun, if_pos hi] at h3
          try simp only
          rw [g2, show 17 - (i + 1) = 16 - i from by omega]
          exact h3
    · (try simp (disch := first | omega | (simp only [LN]; omega)) only [↓EC, EW, seval, ↓reduceIte])
      have : cntR p q = l.length := by
        unfold cntR
        rw [← h3, show 17 - i = 16 - i + 1 from by omega]
        simp only [srRun]
        rw [if_neg (by omega)]
      rw [this, V.bool.injEq]
      grind

noncomputable def isDB (n : Int) (b w : List Int) : Bool := isPmB b n && isPmB w n && decide ((cntR b w : Int) = n)
structure isD (n : Int) (b w : List Int) : Prop where
  pb : isPm b n
  pw : isPm w n
  cn : (cntR b w : Int) = n
theorem isDB_iff {n : Int} {b w : List Int} : isDB n b w = true ↔ isD n b w := by
  simp only [isDB, Bool.and_eq_true, isPmB_iff, decide_eq_true_eq]
  exact ⟨fun ⟨⟨h1, h2⟩, h3⟩ => ⟨h1, h2, h3⟩, fun ⟨h1, h2, h3⟩ => ⟨⟨h1, h2⟩, h3⟩⟩
theorem c_impl_IsDessin {n : Int} {b w : List Int} (hb : okP b) (hw : okP w) : PSpec Tryz.prog 24 [vD n b w] fun v => v = .bool (isDB n b w) := by
  have hl := hb.len
  have hk := hw.len
  refine impl_IsDessin_f.f ?_
  unfold vD isDB
  simp (disch := first | omega | (simp only [LN]; omega)) only [↓EC, EW, seval, ↓reduceIte, impl_IsDessin_F, hl, hk]
  refine pcd_v (c_impl_IsPermutation hb) ?_
  (try simp (disch := first | omega | (simp only [LN]; omega)) only [↓EC, EW, seval, ↓reduceIte, hl, hk])
  (refine Split.mk (fun h => ?_) (fun h => ?_) <;> (try simp only [SD] at h))
  · refine pcd_v (c_impl_IsPermutation hw) ?_
    (try simp (disch := first | omega | (simp only [LN]; omega)) only [↓EC, EW, seval, ↓reduceIte, hl, hk])
    (refine Split.mk (fun h => ?_) (fun h => ?_) <;> (try simp only [SD] at h))
    · refine pcd_v (c_impl_reached ((isPmB_iff.1 (by assumption)).lo hb) ((isPmB_iff.1 (by assumption)).lo hw)) ?_
      (try simp (disch := first | omega | (simp only [LN]; omega)) only [↓EC, EW, seval, ↓reduceIte])
      simp_all
      try grind
    · simp_all
  · simp_all
theorem c_spec_l01Is {n : Int} {b w : List Int} (hb : okP b) (hw : okP w) : PSpec Tryz.prog 26 [vD n b w] fun v => v = .bool (isDB n b w) := by
  have hl := hb.len
  have hk := hw.len
  refine spec_l01Is_f.f ?_
  unfold vD isDB
  simp (disch := first | omega | (simp only [LN]; omega)) only [↓EC, EW, seval, ↓reduceIte, spec_l01Is_F, hl, hk]
  refine pcd_v (c_spec_l01Perm hb) ?_
  (try simp (disch := first | omega | (simp only [LN]; omega)) only [↓EC, EW, seval, ↓reduceIte, hl, hk])
  (refine Split.mk (fun h => ?_) (fun h => ?_) <;> (try simp only [SD] at h))
  · refine pcd_v (c_spec_l01Perm hw) ?_
    (try simp (disch := first | omega | (simp only [LN]; omega)) only [↓EC, EW, seval, ↓reduceIte, hl, hk])
    (refine Split.mk (fun h => ?_) (fun h => ?_) <;> (try simp only [SD] at h))
    · refine pcd_v (c_spec_l01Connected ((isPmB_iff.1 (by assumption)).lo hb) ((isPmB_iff.1 (by assumption)).lo hw)) ?_
      (try simp (disch := first | omega | (simp only [LN]; omega)) only [↓EC, EW, seval, ↓reduceIte])
      simp_all
      try grind
    · simp_all
  · simp_all

/-! ### What comes in -/
end Go.Proofs.YtjklebickfcddaaGreatDoor.Sep
end
section
/- What the functions on cycles compute. -/
namespace Go.Proofs.YtjklebickfcddaaGreatDoor.Sep
open Go.RowKit
set_option linter.unusedVariables false
set_option linter.unusedSimpArgs false
set_option maxRecDepth 20000

theorem count_false_lt {m : List Bool} {k : Nat} (h : gb m k = false) (hk : k < m.length) : (m.set k true).count false < m.count false := by
  rw [List.count_set hk]
  have hg : m[k] = false := by rw [← gb_of hk]; exact h
  have : 0 < m.count false := List.count_pos_iff.2 (by rw [← hg]; exact List.getElem_mem hk)
  rw [hg]; simp; omega
/-- A cycle, as far as its numbers are not met. -/
def cycF (p : List Int) (k : Int) (m : List Bool) (acc : List Int) : List Bool × List Int :=
  if h : gb m k.toNat = false ∧ k.toNat < m.length then cycF p (gi p k.toNat) (m.set k.toNat true) (acc ++ [k]) else (m, acc)
termination_by m.count false
decreasing_by exact count_false_lt h.1 h.2
theorem cycF_go {p : List Int} {k : Int} {m : List Bool} {acc : List Int} (h : gb m k.toNat = false) (hk : k.toNat < m.length) : cycF p k m acc = cycF p (gi p k.toNat) (m.set k.toNat true) (acc ++ [k]) := by
  rw [cycF, dif_pos ⟨h, hk⟩]
theorem cycF_end {p : List Int} {k : Int} {m : List Bool} {acc : List Int} (h : gb m k.toNat = true) : cycF p k m acc = (m, acc) := by
  rw [cycF, dif_neg (fun h' => by rw [h] at h'; cases h'.1)]
theorem cycF_len {p : List Int} : ∀ (c : Nat) {k : Int} {m : List Bool} {acc : List Int}, m.count false = c → (cycF p k m acc).1.length = m.length ∧ acc.length ≤ (cycF p k m acc).2.length ∧ (cycF p k m acc).2.length + (cycF p k m acc).1.count false = acc.length + m.count false := by
  intro c
  induction c using Nat.strongRecOn with
  | ind c ih =>
    intro k m acc hc
    by_cases h : gb m k.toNat = false ∧ k.toNat < m.length
    · rw [cycF_go h.1 h.2]
      have hlt := count_false_lt h.1 h.2
      obtain ⟨h1, h2, h3⟩ := @ih _ (by omega) (gi p k.toNat) (m.set k.toNat true) (acc ++ [k]) rfl
      have hcs : (m.set k.toNat true).count false + 1 = m.count false := by
        rw [List.count_set h.2] at hlt ⊢
        have hg : m[k.toNat] = false := by rw [← gb_of h.2]; exact h.1
        rw [hg] at hlt ⊢; simp at hlt ⊢; omega
      refine ⟨by simpa using h1, by simp at h2; omega, by simp at h3; omega⟩
    · rw [cycF, dif_neg h]; exact ⟨rfl, Nat.le_refl _, rfl⟩
def cycO (p : List Int) : Nat → List Bool × List (List Int)
  | 0 => (List.replicate 16 false, [])
  | i + 1 => if gb (cycO p i).1 i = true then cycO p i else ((cycF p i (cycO p i).1 []).1, (cycO p i).2 ++ [(cycF p i (cycO p i).1 []).2])
def cyc (p : List Int) (n : Int) : List (List Int) := (cycO p n.toNat).2
theorem cycO_len {p : List Int} : ∀ i : Nat, (cycO p i).1.length = 16 ∧ (cycO p i).2.length ≤ i
  | 0 => by simp [cycO]
  | i + 1 => by
    obtain ⟨h1, h2⟩ := cycO_len (p := p) i
    simp only [cycO]
    split
    · exact ⟨h1, by omega⟩
    · exact ⟨(cycF_len _ rfl).1.trans h1, by simp; omega⟩
theorem cycO_yes {p : List Int} {i : Nat} (h : gb (cycO p i).1 i = true) : cycO p (i + 1) = cycO p i := by simp only [cycO, if_pos h]
theorem cycO_no {p : List Int} {i : Nat} (h : gb (cycO p i).1 i = false) : cycO p (i + 1) = ((cycF p i (cycO p i).1 []).1, (cycO p i).2 ++ [(cycF p i (cycO p i).1 []).2]) := by
  simp only [cycO]; rw [if_neg (by rw [h]; decide)]

theorem c_impl_cycles {p : List Int} {n : Int} (hp : lo16 p) (hn : 1 ≤ n ∧ n ≤ 16) : PSpec Tryz.prog 56 [.agg (vi .u8 p), .int .i64 n] fun v => v = .own 28 1 (cyc p n).length (vo 2 (cyc p n)) := by
  have hl := hp.1
  refine impl_cycles_f.f ?_
  simp (disch := first | omega | (simp only [LN]; omega)) only [↓EC, EW, seval, ↓reduceIte, impl_cycles_F, hl]
  refine LP_ofE (σ := Nat) [1, 1] 100000 [(66, 25, 1), (70, 103, 1)] (fun i => [.own 28 1 (cycO p i).2.length (vo 2 (cycO p i).2), .int .i64 i]) (fun i => [vi .u8 p, vb (cycO p i).1])
    (fun i => (i : Int) ≤ n) (fun i => (n - i).toNat) 0 (by simp [frameOk, names, lpz, sclp, scv, scvs, nrfs, nrf, FRB]) (by simp only [Int.natCast_zero]; omega) ?_ ?_
  · simp (disch := first | omega | (simp only [LN]; omega)) only [↓EC, EW, seval, ↓reduceIte, ColV_def]
    exact ⟨fun _ => trivial, rfl, rfl⟩
  · rintro i hi
    obtain ⟨h1, h2⟩ := cycO_len (p := p) i
    simp (disch := first | omega | (simp only [LN]; omega)) only [↓EC, EW, seval, ↓reduceIte, ColV_def, lheap_def]
    (refine Split.mk (fun h => ?_) (fun h => ?_) <;> (try simp only [SD] at h))
    · (try simp (disch := first | omega | (simp only [LN]; omega)) only [↓EC, EW, seval, ↓reduceIte])
      (refine Split.mk (fun h => ?_) (fun h => ?_) <;> (try simp only [SD] at h))
      · (try simp (disch := first | omega | (simp only [LN]; omega)) only [↓EC, EW, seval, ↓reduceIte])
        exact ⟨i + 1, by rw [cycO_yes h]; rfl, by rw [cycO_yes h], by omega, by omega⟩
      · have hg := h
        (try simp (disch := first | omega | (simp only [LN]; omega)) only [↓EC, EW, seval, ↓reduceIte])
        refine LP_ofE (σ := List Bool × List Int × Int) [1, 1] 200000 [(66, 25, 1), (70, 103, 1), (100000, 28, 1)] (fun s => [.own 2 1 s.2.1.length (vi .i64 s.2.1), .int .i64 s.2.2])
          (fun s => [vi .u8 p, vb s.1, vo 2 (cycO p i).2])
          (fun s => s.1.length = 16 ∧ (0 ≤ s.2.2 ∧ s.2.2 < 16) ∧ s.2.1.length + s.1.count false ≤ 16 ∧ cycF p s.2.2 s.1 s.2.1 = cycF p i (cycO p i).1 []) (fun s => s.1.count false) ((cycO p i).1, [], (i : Int)) (by simp [frameOk, names, lpz, sclp, scv, scvs, nrfs, nrf, FRB])
          ⟨h1, ⟨by simp only; omega, by simp only; omega⟩, by have := List.count_le_length (a := false) (l := (cycO p i).1); simp; omega, rfl⟩ ?_ ?_
        · simp (disch := first | omega | (simp only [LN]; omega)) only [↓EC, EW, seval, ↓reduceIte, ColV_def]
          exact ⟨fun _ => trivial, trivial⟩
        · rintro ⟨m, acc, k⟩ ⟨g1, g2, g3, g4⟩
          simp only at g1 g2 g3 g4
          have hpk := hp.2 k.toNat (by omega)
          simp (disch := first | omega | (simp only [LN]; omega)) only [↓EC, EW, seval, ↓reduceIte, ColV_def, lheap_def]
          (refine Split.mk (fun h => ?_) (fun h => ?_) <;> (try simp only [SD] at h))
          · have hlt := count_false_lt h (by omega)
            (try simp (disch := first | omega | (simp only [LN]; omega)) only [↓EC, EW, seval, ↓reduceIte, hl])
            exact ⟨(m.set k.toNat true, acc ++ [k], gi p k.toNat), by simp, rfl, ⟨by simpa using g1, hpk, by simp only [List.length_append, List.length_cons, List.length_nil]; omega, by rw [← g4]; exact (cycF_go h (by omega)).symm⟩, hlt⟩
          · (try simp (disch := first | omega | (simp only [LN]; omega)) only [↓EC, EW, seval, ↓reduceIte])
            have he := cycO_no hg
            rw [← g4, cycF_end h] at he
            exact ⟨i + 1, by rw [he]; simp, by rw [he], by omega, by omega⟩
    · (try simp (disch := first | omega | (simp only [LN]; omega)) only [↓EC, EW, seval, ↓reduceIte])
      have : i = n.toNat := by omega
      subst this
      rfl
theorem c_spec_l01Cycles {p : List Int} {n : Int} (hp : lo16 p) (hn : 1 ≤ n ∧ n ≤ 16) : PSpec Tryz.prog 62 [.agg (vi .u8 p), .int .i64 n] fun v => v = .own 28 1 (cyc p n).length (vo 2 (cyc p n)) := by
  have hl := hp.1
  refine spec_l01Cycles_f.f ?_
  simp (disch := first | omega | (simp only [LN]; omega)) only [↓EC, EW, seval, ↓reduceIte, spec_l01Cycles_F, hl]
  refine LP_ofE (σ := Nat) [1, 1] 100000 [(66, 25, 1), (70, 103, 1)] (fun i => [.own 28 1 (cycO p i).2.length (vo 2 (cycO p i).2), .int .i64 i]) (fun i => [vi .u8 p, vb (cycO p i).1])
    (fun i => (i : Int) ≤ n) (fun i => (n - i).toNat) 0 (by simp [frameOk, names, lpz, sclp, scv, scvs, nrfs, nrf, FRB]) (by simp only [Int.natCast_zero]; omega) ?_ ?_
  · simp (disch := first | omega | (simp only [LN]; omega)) only [↓EC, EW, seval, ↓reduceIte, ColV_def]
    exact ⟨fun _ => trivial, rfl, rfl⟩
  · rintro i hi
    obtain ⟨h1, h2⟩ := cycO_len (p := p) i
    simp (disch := first | omega | (simp only [LN]; omega)) only [↓EC, EW, seval, ↓reduceIte, ColV_def, lheap_def]
    (refine Split.mk (fun h => ?_) (fun h => ?_) <;> (try simp only [SD] at h))
    · (try simp (disch := first | omega | (simp only [LN]; omega)) only [↓EC, EW, seval, ↓reduceIte])
      refine LP_ofE (σ := List Bool × List Int × Int) [1, 1] 200000 [(66, 25, 1), (70, 103, 1), (100000, 28, 1)] (fun s => [.own 2 1 s.2.1.length (vi .i64 s.2.1), .int .i64 s.2.2])
        (fun s => [vi .u8 p, vb s.1, vo 2 (cycO p i).2])
        (fun s => s.1.length = 16 ∧ (0 ≤ s.2.2 ∧ s.2.2 < 16) ∧ s.2.1.length + s.1.count false ≤ 16 ∧ cycF p s.2.2 s.1 s.2.1 = cycF p i (cycO p i).1 []) (fun s => s.1.count false) ((cycO p i).1, [], (i : Int)) (by simp [frameOk, names, lpz, sclp, scv, scvs, nrfs, nrf, FRB])
        ⟨h1, ⟨by simp only; omega, by simp only; omega⟩, by have := List.count_le_length (a := false) (l := (cycO p i).1); simp; omega, rfl⟩ ?_ ?_
      · simp (disch := first | omega | (simp only [LN]; omega)) only [↓EC, EW, seval, ↓reduceIte, ColV_def]
        exact ⟨fun _ => trivial, trivial⟩
      · rintro ⟨m, acc, k⟩ ⟨g1, g2, g3, g4⟩
        simp only at g1 g2 g3 g4
        have hpk := hp.2 k.toNat (by omega)
        simp (disch := first | omega | (simp only [LN]; omega)) only [↓EC, EW, seval, ↓reduceIte, ColV_def, lheap_def]
        (refine Split.mk (fun h => ?_) (fun h => ?_) <;> (try simp only [SD] at h))
        · have hlt := count_false_lt h (by omega)
          (try simp (disch := first | omega | (simp only [LN]; omega)) only [↓EC, EW, seval, ↓reduceIte, hl])
          exact ⟨(m.set k.toNat true, acc ++ [k], gi p k.toNat), by simp, rfl, ⟨by simpa using g1, hpk, by simp only [List.length_append, List.length_cons, List.length_nil]; omega, by rw [← g4]; exact (cycF_go h (by omega)).symm⟩, hlt⟩
        · rw [cycF_end h] at g4
          (try simp (disch := first | omega | (simp only [LN]; omega)) only [↓EC, EW, seval, ↓reduceIte])
          (refine Split.mk (fun h => ?_) (fun h => ?_) <;> (try simp only [SD] at h))
          · (try simp (disch := first | omega | (simp only [LN]; omega)) only [↓EC, EW, seval, ↓reduceIte])
            have hg : gb (cycO p i).1 i = false := by
              cases hgb : gb (cycO p i).1 i with
              | false => rfl
              | true =>
                rw [cycF_end (k := (i : Int)) (by simpa using hgb)] at g4
                simp only [Prod.mk.injEq] at g4
                rw [g4.2] at h
                simp at h
            have he := cycO_no hg
            rw [← g4] at he
            exact ⟨i + 1, by rw [he]; simp, by rw [he], by omega, by omega⟩
          · (try simp (disch := first | omega | (simp only [LN]; omega)) only [↓EC, EW, seval, ↓reduceIte])
            have hg : gb (cycO p i).1 i = true := by
              cases hgb : gb (cycO p i).1 i with
              | true => rfl
              | false =>
                rw [cycF_go (k := (i : Int)) (by simpa using hgb) (by simp only [Int.toNat_natCast]; omega)] at g4
                have := (cycF_len (p := p) _ (k := gi p (i : Int).toNat) (m := (cycO p i).1.set (i : Int).toNat true) (acc := [] ++ [(i : Int)]) rfl).2.1
                rw [← g4] at this
                simp at this
                omega
            have he := cycO_yes hg
            rw [cycF_end (k := (i : Int)) (by simpa using hg)] at g4
            simp only [Prod.mk.injEq] at g4
            exact ⟨i + 1, by rw [he]; rfl, by rw [he, g4.1], by omega, by omega⟩
    · (try simp (disch := first | omega | (simp only [LN]; omega)) only [↓EC, EW, seval, ↓reduceIte])
      have : i = n.toNat := by omega
      subst this
      rfl
end Go.Proofs.YtjklebickfcddaaGreatDoor.Sep
end
section
/- What the functions on coverings compute. -/
namespace Go.Proofs.YtjklebickfcddaaGreatDoor.Sep
open Go.RowKit
set_option linter.unusedVariables false
set_option linter.unusedSimpArgs false
set_option maxRecDepth 20000

/-! ### Voltages -/
def rngB (l : List Int) (lo hi : Int) : Bool := l.all fun a => decide (lo ≤ a ∧ a ≤ hi)
def voltB (n m : Int) (l : List Int) : Bool := decide ((l.length : Int) = n) && l.all fun a => decide (0 ≤ a ∧ a < m)
theorem voltB_len {n m : Int} {l : List Int} (h : ¬ (l.length : Int) = n) : voltB n m l = false := by simp [voltB, h]
theorem voltB_no {n m : Int} {l : List Int} {i : Nat} (hi : i < l.length) (h : ¬ (0 ≤ gi l i ∧ gi l i < m)) : voltB n m l = false := by
  unfold voltB
  rw [Bool.and_eq_false_iff]
  right
  cases ha : l.all fun a => decide (0 ≤ a ∧ a < m) with
  | false => rfl
  | true => exact absurd (by simpa [gi] using (all_getD (d := 0)).1 ha i hi) h
theorem voltB_of {n m : Int} {l : List Int} (h1 : (l.length : Int) = n) (h2 : ∀ k, k < l.length → 0 ≤ gi l k ∧ gi l k < m) : voltB n m l = true := by
  unfold voltB
  rw [Bool.and_eq_true]
  exact ⟨by simp [h1], (all_getD (d := 0)).2 fun j hj => by simpa [gi] using h2 j hj⟩
theorem voltB_at {n m : Int} {l : List Int} (h : voltB n m l = true) : (l.length : Int) = n ∧ ∀ k, k < l.length → 0 ≤ gi l k ∧ gi l k < m := by
  unfold voltB at h
  rw [Bool.and_eq_true] at h
  exact ⟨by simpa using h.1, fun k hk => by simpa [gi] using (all_getD (d := 0)).1 h.2 k hk⟩
theorem voltB_rng {n m : Int} {l : List Int} : voltB n m l = (rngB l 0 (m - 1) && decide ((l.length : Int) = n)) := by
  unfold voltB rngB
  rw [Bool.and_comm]
  congr 2
  funext a
  exact decide_eq_decide.2 (by omega)

theorem c_spec_l09List {l : List Int} {n lo hi : Int} (hl : l.length ≤ 1048576) : PSpec Tryz.prog 52 [.sl l.length (vi .i64 l), .int .i64 n, .int .i64 lo, .int .i64 hi] fun v => v = .bool (rngB l lo hi && decide ((l.length : Int) = n)) := by
  refine spec_l09List_f.f ?_
  simp (disch := first | omega | (simp only [LN]; omega)) only [↓EC, EW, seval, ↓reduceIte, spec_l09List_F]
  refine LP_of (σ := Nat) 100000 [] (fun s => [.int .i64 s]) (fun s => [])
    (fun s => s ≤ l.length ∧ ∀ j, j < s → lo ≤ gi l j ∧ gi l j ≤ hi) (fun s => l.length - s) 0 (by simp [frameOk, names, lpz, sclp, scv, scvs, nrfs, nrf, FRB]) ⟨Nat.zero_le _, fun j hj => absurd hj (Nat.not_lt_zero j)⟩ ?_ ?_
  · simp (disch := first | omega | (simp only [LN]; omega)) only [↓EC, EW, seval, ↓reduceIte, ColV_def]
  · rintro i ⟨h1, h2⟩
    simp (disch := first | omega | (simp only [LN]; omega)) only [↓EC, EW, seval, ↓reduceIte, ColV_def, lheap_def]
    (refine Split.mk (fun h => ?_) (fun h => ?_) <;> (try simp only [SD] at h))
    · (try simp (disch := first | omega | (simp only [LN]; omega)) only [↓EC, EW, seval, ↓reduceIte])
      (refine pcd_v (c_spec_l01In) ?_; (try simp (disch := first | omega | (simp only [LN]; omega)) only [↓EC, EW, seval, ↓reduceIte]))
      (refine Split.mk (fun h => ?_) (fun h => ?_) <;> (try simp only [SD] at h))
      · rw [eq_comm, V.bool.injEq, Bool.and_eq_false_iff]
        left
        cases ha : rngB l lo hi with
        | false => rfl
        | true => exact absurd (by simpa [gi] using (all_getD (d := 0)).1 ha i (by omega)) h
      · (try simp (disch := first | omega | (simp only [LN]; omega)) only [↓EC, EW, seval, ↓reduceIte])
        refine ⟨i + 1, rfl, ⟨by omega, fun j hj => ?_⟩, by omega⟩
        by_cases e : j = i
        · subst e; exact h
        · exact h2 j (by omega)
    · have : rngB l lo hi = true := (all_getD (d := 0)).2 fun j hj => by simpa [gi] using h2 j (by omega)
      rw [this, Bool.true_and, V.bool.injEq]
      grind
theorem c_impl_areVoltages {n m : Int} {b w a c : List Int} (hb : b.length = 16) (hw : w.length = 16) (ha : a.length ≤ 1048576) (hc : c.length ≤ 1048576) :
    PSpec Tryz.prog 49 [vD n b w, .int .i64 m, .sl 2 [.sl a.length (vi .i64 a), .sl c.length (vi .i64 c)]] fun v => v = .bool (decide (1 ≤ m ∧ m ≤ 16) && voltB n m a && voltB n m c) := by
  refine impl_areVoltages_f.f ?_
  unfold vD
  simp (disch := first | omega | (simp only [LN]; omega)) only [↓EC, EW, seval, ↓reduceIte, impl_areVoltages_F, hb, hw]
  (refine Split.mk (fun h => ?_) (fun h => ?_) <;> (try simp only [SD] at h))
  · rw [eq_comm, V.bool.injEq, Bool.and_eq_false_iff, Bool.and_eq_false_iff]
    left; left; simp; omega
  (refine Split.mk (fun h => ?_) (fun h => ?_) <;> (try simp only [SD] at h))
  · rw [eq_comm, V.bool.injEq, Bool.and_eq_false_iff, Bool.and_eq_false_iff]
    left; left; simp; omega
  · refine LP_of (σ := Nat) 100000 [(67, 27, 1)] (fun s => [.int .i64 s]) (fun s => [.int .i64 n :: vi .u8 (b ++ w)])
      (fun s => s ≤ 2 ∧ (0 < s → voltB n m a = true) ∧ (1 < s → voltB n m c = true)) (fun s => 2 - s) 0 (by simp [frameOk, names, lpz, sclp, scv, scvs, nrfs, nrf, FRB]) ⟨Nat.zero_le _, fun h => absurd h (by decide), fun h => absurd h (by decide)⟩ ?_ ?_
    · simp (disch := first | omega | (simp only [LN]; omega)) only [↓EC, EW, seval, ↓reduceIte, ColV_def]
    · rintro j ⟨g1, g2, g3⟩
      simp (disch := first | omega | (simp only [LN]; omega)) only [↓EC, EW, seval, ↓reduceIte, ColV_def, lheap_def]
      (refine Split.mk (fun h => ?_) (fun h => ?_) <;> (try simp only [SD] at h))
      · have hj : j = 0 ∨ j = 1 := by omega
        rcases hj with rfl | rfl
        ·
          (try simp (disch := first | omega | (simp only [LN]; omega)) only [↓EC, EW, seval, ↓reduceIte])
          (refine Split.mk (fun h => ?_) (fun h => ?_) <;> (try simp only [SD] at h))
          · (try simp (disch := first | omega | (simp only [LN]; omega)) only [↓EC, EW, seval, ↓reduceIte])
            rw [eq_comm, V.bool.injEq, Bool.and_eq_false_iff, Bool.and_eq_false_iff]
            exact .inl (.inr (voltB_len (by omega)))
          · (try simp (disch := first | omega | (simp only [LN]; omega)) only [↓EC, EW, seval, ↓reduceIte])
            refine LP_of (σ := Nat) 200000 [(67, 27, 1)] (fun s => [.int .i64 s]) (fun s => [.int .i64 n :: vi .u8 (b ++ w)])
              (fun s => s ≤ a.length ∧ ∀ k, k < s → 0 ≤ gi a k ∧ gi a k < m) (fun s => a.length - s) 0 (by simp [frameOk, names, lpz, sclp, scv, scvs, nrfs, nrf, FRB]) ⟨Nat.zero_le _, fun j hj => absurd hj (Nat.not_lt_zero j)⟩ ?_ ?_
            · simp (disch := first | omega | (simp only [LN]; omega)) only [↓EC, EW, seval, ↓reduceIte, ColV_def]
            · rintro i ⟨q1, q2⟩
              simp (disch := first | omega | (simp only [LN]; omega)) only [↓EC, EW, seval, ↓reduceIte, ColV_def, lheap_def]
              (refine Split.mk (fun h => ?_) (fun h => ?_) <;> (try simp only [SD] at h))
              · (try simp (disch := first | omega | (simp only [LN]; omega)) only [↓EC, EW, seval, ↓reduceIte])
                (refine Split.mk (fun h => ?_) (fun h => ?_) <;> (try simp only [SD] at h))
                · (try simp (disch := first | omega | (simp only [LN]; omega)) only [↓EC, EW, seval, ↓reduceIte])
                  rw [eq_comm, V.bool.injEq, Bool.and_eq_false_iff, Bool.and_eq_false_iff]
                  exact .inl (.inr ( voltB_no (i := i) (by omega) (by omega)))
                · (refine Split.mk (fun h => ?_) (fun h => ?_) <;> (try simp only [SD] at h))
                  · (try simp (disch := first | omega | (simp only [LN]; omega)) only [↓EC, EW, seval, ↓reduceIte])
                    rw [eq_comm, V.bool.injEq, Bool.and_eq_false_iff, Bool.and_eq_false_iff]
                    exact .inl (.inr ( voltB_no (i := i) (by omega) (by omega)))
                  · (try simp (disch := first | omega | (simp only [LN]; omega)) only [↓EC, EW, seval, ↓reduceIte])
                    refine ⟨i + 1, rfl, ⟨by omega, fun k hk => ?_⟩, by omega⟩
                    by_cases e : k = i
                    · subst e; omega
                    · exact q2 k (by omega)
              · (try simp (disch := first | omega | (simp only [LN]; omega)) only [↓EC, EW, seval, ↓reduceIte])
                exact ⟨1, rfl, ⟨by decide, fun _ => voltB_of (by omega) fun k hk => q2 k (by omega), fun h => absurd h (by decide)⟩, by decide⟩
        ·
          (try simp (disch := first | omega | (simp only [LN]; omega)) only [↓EC, EW, seval, ↓reduceIte])
          (refine Split.mk (fun h => ?_) (fun h => ?_) <;> (try simp only [SD] at h))
          · (try simp (disch := first | omega | (simp only [LN]; omega)) only [↓EC, EW, seval, ↓reduceIte])
            rw [eq_comm, V.bool.injEq, Bool.and_eq_false_iff, Bool.and_eq_false_iff]
            exact .inr (voltB_len (by omega))
          · (try simp (disch := first | omega | (simp only [LN]; omega)) only [↓EC, EW, seval, ↓reduceIte])
            refine LP_of (σ := Nat) 200000 [(67, 27, 1)] (fun s => [.int .i64 s]) (fun s => [.int .i64 n :: vi .u8 (b ++ w)])
              (fun s => s ≤ c.length ∧ ∀ k, k < s → 0 ≤ gi c k ∧ gi c k < m) (fun s => c.length - s) 0 (by simp [frameOk, names, lpz, sclp, scv, scvs, nrfs, nrf, FRB]) ⟨Nat.zero_le _, fun j hj => absurd hj (Nat.not_lt_zero j)⟩ ?_ ?_
            · simp (disch := first | omega | (simp only [LN]; omega)) only [↓EC, EW, seval, ↓reduceIte, ColV_def]
            · rintro i ⟨q1, q2⟩
              simp (disch := first | omega | (simp only [LN]; omega)) only [↓EC, EW, seval, ↓reduceIte, ColV_def, lheap_def]
              (refine Split.mk (fun h => ?_) (fun h => ?_) <;> (try simp only [SD] at h))
              · (try simp (disch := first | omega | (simp only [LN]; omega)) only [↓EC, EW, seval, ↓reduceIte])
                (refine Split.mk (fun h => ?_) (fun h => ?_) <;> (try simp only [SD] at h))
                · (try simp (disch := first | omega | (simp only [LN]; omega)) only [↓EC, EW, seval, ↓reduceIte])
                  rw [eq_comm, V.bool.injEq, Bool.and_eq_false_iff, Bool.and_eq_false_iff]
                  exact .inr ( voltB_no (i := i) (by omega) (by omega))
                · (refine Split.mk (fun h => ?_) (fun h => ?_) <;> (try simp only [SD] at h))
                  · (try simp (disch := first | omega | (simp only [LN]; omega)) only [↓EC, EW, seval, ↓reduceIte])
                    rw [eq_comm, V.bool.injEq, Bool.and_eq_false_iff, Bool.and_eq_false_iff]
                    exact .inr ( voltB_no (i := i) (by omega) (by omega))
                  · (try simp (disch := first | omega | (simp only [LN]; omega)) only [↓EC, EW, seval, ↓reduceIte])
                    refine ⟨i + 1, rfl, ⟨by omega, fun k hk => ?_⟩, by omega⟩
                    by_cases e : k = i
                    · subst e; omega
                    · exact q2 k (by omega)
              · (try simp (disch := first | omega | (simp only [LN]; omega)) only [↓EC, EW, seval, ↓reduceIte])
                exact ⟨2, rfl, ⟨by decide, fun _ => g2 (by decide), fun _ => voltB_of (by omega) fun k hk => q2 k (by omega)⟩, by decide⟩
      · (try simp (disch := first | omega | (simp only [LN]; omega)) only [↓EC, EW, seval, ↓reduceIte])
        rw [g2 (by omega), g3 (by omega), eq_comm, V.bool.injEq]
        simp; omega
end Go.Proofs.YtjklebickfcddaaGreatDoor.Sep
end
section
/- What the laws' functions on rows of rows compute. -/
namespace Go.Proofs.YtjklebickfcddaaGreatDoor.Sep
open Go.RowKit
set_option linter.unusedVariables false
set_option linter.unusedSimpArgs false
set_option maxRecDepth 20000

theorem gl_mem {ls : List (List Int)} {i : Nat} (hi : i < ls.length) : gl ls i ∈ ls := by
  simp only [gl, List.getD, hi, List.getElem?_eq_getElem, Option.getD_some]; exact List.getElem_mem hi
theorem take_gl {ls : List (List Int)} {i : Nat} (hi : i < ls.length) : ls.take (i + 1) = ls.take i ++ [gl ls i] := by
  rw [List.take_add_one]; simp [gl, List.getD, hi]
end Go.Proofs.YtjklebickfcddaaGreatDoor.Sep
end
section
/- What the laws' marks compute. -/
namespace Go.Proofs.YtjklebickfcddaaGreatDoor.Sep
open Go.RowKit
set_option linter.unusedVariables false
set_option linter.unusedSimpArgs false
set_option maxRecDepth 20000

end Go.Proofs.YtjklebickfcddaaGreatDoor.Sep
end
