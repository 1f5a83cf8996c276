/- Texts put together: Form, C75, C10, C11, C12, C76. -/
import Derived.Test.YtlfpiegadaiafaaK3
import Derived.Test.YtlfpiegadaiafaaProg
import Derived.KernelRfl
section
/- The printed forms of functions, by program out of the compiled code; each is held against it by the kernel. -/
namespace Go.Proofs.Ytlfpiegadaiafaa.Sep
set_option maxRecDepth 1000000
set_option linter.unusedVariables false

def laws_FnChainsOfMoves_F (x0 : V) (hi : Hp) (Rt : Hp → V → Prop) : Prop :=
pcal Try.prog 5 103 hi (fun v103_0 h1 =>
pcond (
Rt h1 (.bool true)) (
pcal Try.prog 25 106 h1 (fun v106_2 h3 =>
VL (vext 0 v106_2) fun v107_4 =>
VL (vext 1 v106_2) fun v108_5 =>
palloc h3 67 36 [(.int .i64 0), (.int .i64 0), (.int .i64 0)] fun h6 =>
pst h6 3 (cellsV v107_4) (fun u7 h8 =>
pld h8 (some 3) (fun v110_9 h10 =>
pcal Try.prog 26 112 h10 (fun v112_11 h12 =>
VL (vext 0 v112_11) fun v113_13 =>
VL (vext 1 v112_11) fun v114_14 =>
pld h12 (some 3) (fun v116_15 h16 =>
pcal Try.prog 27 118 h16 (fun v118_17 h18 =>
VL (vext 0 v118_17) fun v119_19 =>
VL (vext 1 v118_17) fun v120_20 =>
VL (lift2 (abin .neq) v114_14 v120_20) fun v123_21 =>
pgk false h18 (fun g22 k23 => k23 v113_13 h18) (fun g24 v61_25 h26 =>
pgk false h26 (fun g27 k28 => k28 v119_19 h26) (fun g29 v62_30 h31 =>
pgk false h31 (fun g32 k33 => pcal Try.prog 28 127 h31 (fun v127_34 h35 =>
k33 v127_34 h35) [v61_25, v62_30]) (fun g36 v63_37 h38 =>
pgk false h38 (fun g39 k40 => VL (lift1 (aun .not) v63_37) fun v128_41 =>
k40 v128_41 h38) (fun g42 v64_43 h44 =>
VL (vpick g42 (.bool true) v64_43) fun v129_45 =>
pgk false h44 (fun g46 k47 => k47 v108_5 h44) (fun g48 v67_49 h50 =>
pgk false h50 (fun g51 k52 => pcal Try.prog 29 132 h50 (fun v132_53 h54 =>
k52 v132_53 h54) [v67_49]) (fun g55 v68_56 h57 =>
pgk false h57 (fun g58 k59 => k59 v108_5 h57) (fun g60 v69_61 h62 =>
pgk false h62 (fun g63 k64 => pcal Try.prog 30 134 h62 (fun v134_65 h66 =>
k64 v134_65 h66) [v69_61]) (fun g67 v70_68 h69 =>
pgk false h69 (fun g70 k71 => VL (veqa true false [.b] v68_56 v70_68) fun v135_72 =>
k71 v135_72 h69) (fun g73 v71_74 h75 =>
VL (vpick g73 (.bool true) v71_74) fun v136_76 =>
pcond (
Rt h75 (.bool false)) (
pcal Try.prog 31 138 h75 (fun v138_77 h78 =>
pcal Try.prog 32 141 h78 (fun v141_79 h80 =>
VL (vext 0 v141_79) fun v142_81 =>
VL (vext 1 v141_79) fun v143_82 =>
palloc h80 74 36 [(.int .i64 0), (.int .i64 0), (.int .i64 0)] fun h83 =>
pst h83 3 (cellsV v142_81) (fun u84 h85 =>
pcal Try.prog 33 146 h85 (fun v146_86 h87 =>
VL (vext 0 v146_86) fun v147_88 =>
VL (vext 1 v146_86) fun v148_89 =>
palloc h87 76 36 [(.int .i64 0), (.int .i64 0), (.int .i64 0)] fun h90 =>
pst h90 3 (cellsV v147_88) (fun u91 h92 =>
VL (lift2 (abin .neq) v143_82 v148_89) fun v151_93 =>
pgk false h92 (fun g94 k95 => pld h92 (some 3) (fun v153_96 h97 =>
k95 v153_96 h97) (.ptr 74 0)) (fun g98 v89_99 h100 =>
pgk false h100 (fun g101 k102 => pld h100 (some 3) (fun v154_103 h104 =>
k102 v154_103 h104) (.ptr 76 0)) (fun g105 v90_106 h107 =>
pgk false h107 (fun g108 k109 => VL (veqa true true [(.i .i64), (.i .i64), (.i .i64)] v89_99 v90_106) fun v155_110 =>
k109 v155_110 h107) (fun g111 v91_112 h113 =>
VL (vpick g111 (.bool true) v91_112) fun v156_114 =>
pcond (
Rt h113 (.bool false)) (
pcal Try.prog 34 158 h113 (fun v158_115 h116 =>
pcal Try.prog 35 161 h116 (fun v161_117 h118 =>
VL (vext 0 v161_117) fun v162_119 =>
VL (vext 1 v161_117) fun v163_120 =>
pcal Try.prog 36 166 h118 (fun v166_121 h122 =>
VL (vext 0 v166_121) fun v167_123 =>
VL (vext 1 v166_121) fun v168_124 =>
VL (lift2 (abin .neq) v163_120 v168_124) fun v171_125 =>
pgk false h122 (fun g126 k127 => k127 v162_119 h122) (fun g128 v109_129 h130 =>
pgk false h130 (fun g131 k132 => k132 v167_123 h130) (fun g133 v110_134 h135 =>
pgk false h135 (fun g136 k137 => pcal Try.prog 37 175 h135 (fun v175_138 h139 =>
k137 v175_138 h139) [v109_129, v110_134]) (fun g140 v111_141 h142 =>
pgk false h142 (fun g143 k144 => VL (lift1 (aun .not) v111_141) fun v176_145 =>
k144 v176_145 h142) (fun g146 v112_147 h148 =>
VL (vpick g146 (.bool true) v112_147) fun v177_149 =>
pcond (
Rt h148 (.bool false)) (
pcal Try.prog 38 179 h148 (fun v179_150 h151 =>
pcal Try.prog 39 182 h151 (fun v182_152 h153 =>
VL (vext 0 v182_152) fun v183_154 =>
VL (vext 1 v182_152) fun v184_155 =>
pcal Try.prog 40 187 h153 (fun v187_156 h157 =>
VL (vext 0 v187_156) fun v188_158 =>
VL (vext 1 v187_156) fun v189_159 =>
VL (lift2 (abin .neq) v184_155 v189_159) fun v192_160 =>
pgk false h157 (fun g161 k162 => k162 v183_154 h157) (fun g163 v130_164 h165 =>
pgk false h165 (fun g166 k167 => k167 v188_158 h165) (fun g168 v131_169 h170 =>
pgk false h170 (fun g171 k172 => VL (lift2 (abin .neq) v130_164 v131_169) fun v196_173 =>
k172 v196_173 h170) (fun g174 v132_175 h176 =>
VL (vpick g174 (.bool true) v132_175) fun v197_177 =>
pcond (
Rt h176 (.bool false)) (
pcal Try.prog 41 200 h176 (fun v200_178 h179 =>
VL (vext 0 v200_178) fun v201_180 =>
VL (vext 1 v200_178) fun v202_181 =>
palloc h179 89 27 [(.int .i64 0), (.int .i64 0)] fun h182 =>
pst h182 2 (cellsV v202_181) (fun u183 h184 =>
pld h184 (some 2) (fun v205_185 h186 =>
pcal Try.prog 42 206 h186 (fun v206_187 h188 =>
VL (vext 0 v206_187) fun v207_189 =>
VL (vext 1 v206_187) fun v208_190 =>
palloc h188 90 27 [(.int .i64 0), (.int .i64 0)] fun h191 =>
pst h191 2 (cellsV v207_189) (fun u192 h193 =>
pld h193 (some 2) (fun v211_194 h195 =>
pcal Try.prog 43 212 h195 (fun v212_196 h197 =>
VL (vext 0 v212_196) fun v213_198 =>
VL (vext 1 v212_196) fun v214_199 =>
palloc h197 92 27 [(.int .i64 0), (.int .i64 0)] fun h200 =>
pst h200 2 (cellsV v213_198) (fun u201 h202 =>
VL (lift2 (abin .neq) v208_190 v214_199) fun v217_203 =>
pgk false h202 (fun g204 k205 => pld h202 (some 2) (fun v219_206 h207 =>
k205 v219_206 h207) (.ptr 90 0)) (fun g208 v155_209 h210 =>
pgk false h210 (fun g211 k212 => pld h210 (some 2) (fun v220_213 h214 =>
k212 v220_213 h214) (.ptr 92 0)) (fun g215 v156_216 h217 =>
pgk false h217 (fun g218 k219 => VL (veqa true true [(.i .i64), (.i .i64)] v155_209 v156_216) fun v221_220 =>
k219 v221_220 h217) (fun g221 v157_222 h223 =>
VL (vpick g221 (.bool true) v157_222) fun v222_224 =>
pcond (
Rt h223 (.bool false)) (
JN (fun k225 =>
VL (lift2 (abin .eql) v114_14 (.int .i64 0)) fun v224_228 =>
pcond (
LP [30] [3, 4, 5, 14, 15, 16] (fun w229 l230 h231 N232 =>
VL (vlenS (l230.getD 1 .und)) fun v227_233 =>
VL (lift2 (abin .lss) (w229.getD 0 .und) v227_233) fun v228_234 =>
pcond (
pld h231 (some 3) (fun v232_235 h236 =>
VL (vixS 2 (l230.getD 1 .und) (w229.getD 0 .und)) fun v235_237 =>
pld h236 (some 2) (fun v236_238 h239 =>
pcalp Try.prog 16 237 h239 (fun v237_240 h241 =>
VL (vext 0 v237_240) fun v238_242 =>
VL (vext 1 v237_240) fun v239_243 =>
palloc h241 95 27 [(.int .i64 0), (.int .i64 0)] fun h244 =>
pst h244 2 (cellsV v238_242) (fun u245 h246 =>
LP [33, 34] [3, 4, 5, 14, 15, 16, 30, 31, 32] (fun w247 l248 h249 N250 =>
VL (vlenS (l248.getD 2 .und)) fun v242_251 =>
VL (lift2 (abin .lss) (w247.getD 1 .und) v242_251) fun v243_252 =>
pcond (
pgk false h249 (fun g253 k254 => k254 (l248.getD 2 .und) h249) (fun g255 v184_256 h257 =>
pgk false h257 (fun g258 k259 => k259 (w247.getD 1 .und) h257) (fun g260 v185_261 h262 =>
pgk false h262 (fun g263 k264 => VL (vixS 2 v184_256 v185_261) fun v250_265 =>
k264 v250_265 h262) (fun g266 v186_267 h268 =>
pgk false h268 (fun g269 k270 => pld h268 (some 2) (fun v251_271 h272 =>
k270 v251_271 h272) v186_267) (fun g273 v187_274 h275 =>
pgk false h275 (fun g276 k277 => pld h275 (some 2) (fun v252_278 h279 =>
k277 v252_278 h279) (l248.getD 7 .und)) (fun g280 v188_281 h282 =>
pgk false h282 (fun g283 k284 => VL (veqa false true [(.i .i64), (.i .i64)] v187_274 v188_281) fun v253_285 =>
k284 v253_285 h282) (fun g286 v189_287 h288 =>
VL (vpick g286 (.bool true) v189_287) fun v254_289 =>
VL (lift2 (abin .add) (w247.getD 1 .und) (.int .i64 1)) fun v245_290 =>
N250 [v254_289, v245_290] [(l248.getD 0 .und), (l248.getD 1 .und), (l248.getD 2 .und), (l248.getD 3 .und), (l248.getD 4 .und), (l248.getD 5 .und), (l248.getD 6 .und), (l248.getD 7 .und), (l248.getD 8 .und)] h288) g280) g273) g266) g260) g255) (w247.getD 0 .und)) (
VL (lift2 (abin .neq) (l248.getD 8 .und) (.int .i64 0)) fun v256_291 =>
pgk false h249 (fun g292 k293 => k293 (w247.getD 0 .und) h249) (fun g294 v194_295 h296 =>
pgk false h296 (fun g297 k298 => VL (lift1 (aun .not) v194_295) fun v259_299 =>
k298 v259_299 h296) (fun g300 v195_301 h302 =>
VL (vpick g300 (.bool true) v195_301) fun v260_303 =>
pcond (
Rt h302 (.bool false)) (
VL (lift2 (abin .add) (l248.getD 6 .und) (.int .i64 1)) fun v230_304 =>
N232 [v230_304] [(l248.getD 0 .und), (l248.getD 1 .und), (l248.getD 2 .und), (l248.getD 3 .und), (l248.getD 4 .und), (l248.getD 5 .und)] h302) v260_303) g294) v256_291) v243_252) [(.bool false), (.int .i64 0)] [(l230.getD 0 .und), (l230.getD 1 .und), (l230.getD 2 .und), (l230.getD 3 .und), (l230.getD 4 .und), (l230.getD 5 .und), (w229.getD 0 .und), (.ptr 95 0), v239_243] h246) (.ptr 95 0)) [v232_235, v236_238]) v235_237) (l230.getD 0 .und)) (
pcal Try.prog 29 262 h231 (fun v262_305 h306 =>
VL (lift1 (aun .not) v262_305) fun v263_307 =>
pgk false h306 (fun g308 k309 => k309 (l230.getD 2 .und) h306) (fun g310 v201_311 h312 =>
pgk false h312 (fun g313 k314 => VL (vlenS v201_311) fun v266_315 =>
k314 v266_315 h312) (fun g316 v202_317 h318 =>
pgk false h318 (fun g319 k320 => k320 (l230.getD 1 .und) h318) (fun g321 v203_322 h323 =>
pgk false h323 (fun g324 k325 => VL (vlenS v203_322) fun v268_326 =>
k325 v268_326 h323) (fun g327 v204_328 h329 =>
pgk false h329 (fun g330 k331 => VL (lift2 (abin .gtr) v202_317 v204_328) fun v269_332 =>
k331 v269_332 h329) (fun g333 v205_334 h335 =>
VL (vpick g333 (.bool true) v205_334) fun v270_336 =>
pcond (
Rt h335 (.bool false)) (
k225 [(l230.getD 3 .und), (l230.getD 4 .und), (l230.getD 5 .und)] h335) v270_336) g327) g321) g316) g310) v263_307) [(l230.getD 2 .und)]) v228_234) [(.int .i64 0)] [(.ptr 67 0), v108_5, v113_13, v158_115, v162_119, v163_120] h223) (
k225 [v158_115, v162_119, v163_120] h223) v224_228) fun o226 h227 =>
VL (lift2 (abin .neq) (o226.getD 2 .und) (.int .i64 0)) fun v272_337 =>
pcond (
VL (vlenS (o226.getD 1 .und)) fun v274_338 =>
VL (lift2 (abin .eql) v274_338 (.int .i64 0)) fun v275_339 =>
Rt h227 v275_339) (
LP [35] [14, 15] (fun w340 l341 h342 N343 =>
VL (vlenS (l341.getD 0 .und)) fun v278_344 =>
VL (lift2 (abin .lss) (w340.getD 0 .und) v278_344) fun v279_345 =>
pcond (
VL (vixS 2 (l341.getD 0 .und) (w340.getD 0 .und)) fun v286_346 =>
pld h342 (some 2) (fun v287_347 h348 =>
pcal Try.prog 42 288 h348 (fun v288_349 h350 =>
VL (vext 0 v288_349) fun v289_351 =>
VL (vext 1 v288_349) fun v290_352 =>
palloc h350 100 27 [(.int .i64 0), (.int .i64 0)] fun h353 =>
pst h353 2 (cellsV v289_351) (fun u354 h355 =>
VL (lift2 (abin .neq) v290_352 (.int .i64 0)) fun v292_356 =>
pgk false h355 (fun g357 k358 => k358 (.ptr 100 0) h355) (fun g359 v230_360 h361 =>
pgk false h361 (fun g362 k363 => pld h361 none (fun v295_364 h365 =>
k363 v295_364 h365) v230_360) (fun g366 v231_367 h368 =>
pgk false h368 (fun g369 k370 => VL (lift2 (abin .neq) v231_367 (.int .i64 0)) fun v296_371 =>
k370 v296_371 h368) (fun g372 v232_373 h374 =>
pgk false h374 (fun g375 k376 => k376 v232_373 h374) (fun g377 v233_378 h379 =>
pgk true h379 (fun g380 k381 => k381 (.ptr 100 1) h379) (fun g382 v234_383 h384 =>
pgk true h384 (fun g385 k386 => pld h384 none (fun v299_387 h388 =>
k386 v299_387 h388) v234_383) (fun g389 v235_390 h391 =>
pgk true h391 (fun g392 k393 => VL (lift2 (abin .neq) v235_390 (.int .i64 0)) fun v300_394 =>
k393 v300_394 h391) (fun g395 v236_396 h397 =>
pgk false h397 (fun g398 k399 => VL (vpick g395 v236_396 (.bool false)) fun v301_400 =>
k399 v301_400 h397) (fun g401 v237_402 h403 =>
pgk false h403 (fun g404 k405 => k405 v237_402 h403) (fun g406 v238_407 h408 =>
pgk true h408 (fun g409 k410 => k410 (.ptr 100 0) h408) (fun g411 v239_412 h413 =>
pgk true h413 (fun g414 k415 => pld h413 none (fun v304_416 h417 =>
k415 v304_416 h417) v239_412) (fun g418 v240_419 h420 =>
pgk true h420 (fun g421 k422 => k422 (.ptr 100 1) h420) (fun g423 v241_424 h425 =>
pgk true h425 (fun g426 k427 => pld h425 none (fun v306_428 h429 =>
k427 v306_428 h429) v241_424) (fun g430 v242_431 h432 =>
pgk true h432 (fun g433 k434 => VL (lift2 (abin .neq) v240_419 v242_431) fun v307_435 =>
k434 v307_435 h432) (fun g436 v243_437 h438 =>
pgk false h438 (fun g439 k440 => VL (vpick g436 v243_437 (.bool false)) fun v308_441 =>
k440 v308_441 h438) (fun g442 v244_443 h444 =>
VL (vpick g442 (.bool true) v244_443) fun v309_445 =>
pcond (
Rt h444 (.bool false)) (
VL (lift2 (abin .add) (w340.getD 0 .und) (.int .i64 1)) fun v281_446 =>
N343 [v281_446] [(l341.getD 0 .und), (l341.getD 1 .und)] h444) v309_445) g406) g430) g423) g418) g411) v238_407) g401) g377) g389) g382) v233_378) g372) g366) g359) v292_356) (.ptr 100 0)) [(l341.getD 1 .und), v287_347]) v286_346) (
VL (vlenS (l341.getD 1 .und)) fun v311_447 =>
VL (lift2 (abin .eql) v311_447 (.int .i64 0)) fun v312_448 =>
pgk false h342 (fun g449 k450 => k450 (l341.getD 0 .und) h342) (fun g451 v250_452 h453 =>
pgk false h453 (fun g454 k455 => VL (vlenS v250_452) fun v315_456 =>
k455 v315_456 h453) (fun g457 v251_458 h459 =>
pgk false h459 (fun g460 k461 => VL (lift2 (abin .gtr) v251_458 (.int .i64 0)) fun v316_462 =>
k461 v316_462 h459) (fun g463 v252_464 h465 =>
VL (vpick g463 (.bool true) v252_464) fun v317_466 =>
Rt h465 v317_466) g457) g451) v312_448) v279_345) [(.int .i64 0)] [(o226.getD 0 .und), (o226.getD 1 .und)] h227) v272_337) v222_224) g215) g208) v217_203) (.ptr 92 0)) [v201_180, v211_194]) (.ptr 89 0)) (.ptr 90 0)) [v201_180, v205_185]) (.ptr 89 0)) (.ptr 89 0)) [x0]) v197_177) g168) g163) v192_160) [v179_150]) [v179_150]) [x0]) v177_149) g140) g133) g128) v171_125) [v158_115]) [v158_115]) [x0]) v156_114) g105) g98) v151_93) (.ptr 76 0)) [v138_77]) (.ptr 74 0)) [v138_77]) [x0]) v136_76) g67) g60) g55) g48) v129_45) g36) g29) g24) v123_21) [v116_15, v108_5]) (.ptr 67 0)) [v110_9, v108_5]) (.ptr 67 0)) (.ptr 67 0)) [x0]) v103_0) [x0]
theorem laws_FnChainsOfMoves_f {x0 : V} : Prt Try.prog 4 [x0] (laws_FnChainsOfMoves_F x0) := pfun (fn := Try.f4) (m := [.s, .s, .s, .s, .s, .s, .s, .s, .s, .s, .s, .s, .s, .s, .s, .s, .s, .s, .s, .s, .s, .s, .s, .s, .s, .s, .s, .s, .s, .s, .s, .s, .s, .s, .j [14, 15, 16], .s, .s, .s, .l [30] [3, 4, 5, 14, 15, 16], .s, .s, .s, .s, .s, .s, .s, .l [33, 34] [3, 4, 5, 14, 15, 16, 30, 31, 32], .s, .s, .s, .s, .s, .s, .s, .s, .s, .s, .s, .s, .l [35] [14, 15], .s, .s, .s, .s, .s, .s, .s]) (c := 1 ≤ 254) rfl (fun h0 Rt => by kernel_rfl) (by decide)

def laws_big_F (x0 : V) (hi : Hp) (Rt : Hp → V → Prop) : Prop :=
VL (vlenS x0) fun v68_0 =>
VL (lift2 (abin .gtr) v68_0 (.int .i64 4096)) fun v69_1 =>
Rt hi v69_1
theorem laws_big_f {x0 : V} : Prt Try.prog 5 [x0] (laws_big_F x0) := pfun (fn := Try.f5) (m := [.s, .s]) (c := 1 ≤ 6) rfl (fun h0 Rt => by kernel_rfl) (by decide)

def spec_DrawFractionOf_F (x0 : V) (hi : Hp) (Rt : Hp → V → Prop) : Prop :=
pcal Try.prog 44 70 hi (fun v70_0 h1 =>
pcal Try.prog 45 72 h1 (fun v72_2 h3 =>
VL (lift2 (abin .sub) v72_2 (.int .i64 20)) fun v73_4 =>
pcal Try.prog 45 76 h3 (fun v76_5 h6 =>
VL (lift2 (abin .sub) v76_5 (.int .i64 10)) fun v77_7 =>
pcal Try.prog 45 79 h6 (fun v79_8 h9 =>
VL (lift2 (abin .add) (.int .i64 1000000000) v79_8) fun v80_10 =>
pmks h9 81 2 3 3 (fun h11 =>
pcal Try.prog 46 82 h11 (fun v82_12 h13 =>
Rt h13 (.tup [v73_4, v82_12])) [v70_0, (.rf 81 0 3)]) (vfill [(.int .i64 0), (.int .i64 0), (.int .i64 0)] [(0, 1, v77_7), (1, 1, (.int .i64 0)), (2, 1, v80_10)])) [v70_0, (.int .i64 2)]) [v70_0, (.int .i64 30)]) [v70_0, (.int .i64 60)]) [x0]
theorem spec_DrawFractionOf_f {x0 : V} : Prt Try.prog 6 [x0] (spec_DrawFractionOf_F x0) := pfun (fn := Try.f6) (m := [.s, .s, .s]) (c := 1 ≤ 19) rfl (fun h0 Rt => by kernel_rfl) (by decide)

def impl_FractionOf_F (x0 x1 : V) (hi : Hp) (Rt : Hp → V → Prop) : Prop :=
palloc hi 68 27 [(.int .i64 0), (.int .i64 0)] fun h0 =>
VL (lift2 (abin .lss) x0 (.int .i64 (-1000000000))) fun v72_1 =>
pgk false h0 (fun g2 k3 => k3 x0 h0) (fun g4 v10_5 h6 =>
pgk false h6 (fun g7 k8 => VL (lift2 (abin .gtr) v10_5 (.int .i64 1000000000)) fun v75_9 =>
k8 v75_9 h6) (fun g10 v11_11 h12 =>
VL (vpick g10 (.bool true) v11_11) fun v76_13 =>
pgk false h12 (fun g14 k15 => k15 x1 h12) (fun g16 v14_17 h18 =>
pgk false h18 (fun g19 k20 => VL (lift2 (abin .lss) v14_17 (.int .i64 (-1000000000))) fun v79_21 =>
k20 v79_21 h18) (fun g22 v15_23 h24 =>
VL (vpick g22 (.bool true) v15_23) fun v80_25 =>
pgk false h24 (fun g26 k27 => k27 x1 h24) (fun g28 v18_29 h30 =>
pgk false h30 (fun g31 k32 => VL (lift2 (abin .gtr) v18_29 (.int .i64 1000000000)) fun v83_33 =>
k32 v83_33 h30) (fun g34 v19_35 h36 =>
VL (vpick g34 (.bool true) v19_35) fun v84_37 =>
pgk false h36 (fun g38 k39 => k39 x0 h36) (fun g40 v22_41 h42 =>
pgk false h42 (fun g43 k44 => VL (lift2 (abin .eql) v22_41 (.int .i64 0)) fun v87_45 =>
k44 v87_45 h42) (fun g46 v23_47 h48 =>
pgk false h48 (fun g49 k50 => k50 v23_47 h48) (fun g51 v24_52 h53 =>
pgk true h53 (fun g54 k55 => k55 x1 h53) (fun g56 v25_57 h58 =>
pgk true h58 (fun g59 k60 => VL (lift2 (abin .eql) v25_57 (.int .i64 0)) fun v90_61 =>
k60 v90_61 h58) (fun g62 v26_63 h64 =>
pgk false h64 (fun g65 k66 => VL (vpick g62 v26_63 (.bool false)) fun v91_67 =>
k66 v91_67 h64) (fun g68 v27_69 h70 =>
VL (vpick g68 (.bool true) v27_69) fun v92_71 =>
pcond (
VL (vbld (vfill [(.int .i64 0), (.int .i64 0)] [])) fun v93_72 =>
pst h70 2 (cellsV v93_72) (fun u73 h74 =>
VL (pcellV h74 (some 2) (.ptr 68 0)) fun r75 =>
Rt h74 (.tup [r75, (.int .i64 2)])) (.ptr 68 0)) (
VL (lift2 (abin .eql) x1 (.int .i64 0)) fun v95_76 =>
pcond (
VL (vbld (vfill [(.int .i64 0), (.int .i64 0)] [(0, 1, (.int .i64 1))])) fun v96_77 =>
pst h70 2 (cellsV v96_77) (fun u78 h79 =>
VL (pcellV h79 (some 2) (.ptr 68 0)) fun r80 =>
Rt h79 (.tup [r80, (.int .i64 0)])) (.ptr 68 0)) (
pcal Try.prog 47 99 h70 (fun v99_81 h82 =>
JN (fun k83 =>
VL (lift2 (abin .lss) x1 (.int .i64 0)) fun v101_86 =>
pcond (
VL (lift1 (aun .neg) v99_81) fun v103_87 =>
k83 [x0, x1, (.ptr 68 0), v103_87] h82) (
k83 [x0, x1, (.ptr 68 0), v99_81] h82) v101_86) fun o84 h85 =>
VL (lift2 (abin .quo) (o84.getD 0 .und) (o84.getD 3 .und)) fun v106_88 =>
VL (lift2 (abin .quo) (o84.getD 1 .und) (o84.getD 3 .und)) fun v109_89 =>
VL (vbld (vfill [(.int .i64 0), (.int .i64 0)] [(0, 1, v106_88), (1, 1, v109_89)])) fun v110_90 =>
pst h85 2 (cellsV v110_90) (fun u91 h92 =>
VL (pcellV h92 (some 2) (o84.getD 2 .und)) fun r93 =>
Rt h92 (.tup [r93, (.int .i64 0)])) (o84.getD 2 .und)) [x0, x1]) v95_76) v92_71) g51) g56) v24_52) g46) g40) v84_37) g28) v80_25) g16) v76_13) g4) v72_1
theorem impl_FractionOf_f {x0 x1 : V} : Prt Try.prog 7 [x0, x1] (impl_FractionOf_F x0 x1) := pfun (fn := Try.f7) (m := [.s, .s, .s, .s, .s, .s, .s, .s, .j [0, 1, 4, 6], .s, .s]) (c := 2 ≤ 47) rfl (fun h0 Rt => by kernel_rfl) (by decide)

def spec_FractionOf_F (x0 x1 : V) (hi : Hp) (Rt : Hp → V → Prop) : Prop :=
palloc hi 68 27 [(.int .i64 0), (.int .i64 0)] fun h0 =>
pcal Try.prog 48 73 h0 (fun v73_1 h2 =>
VL (lift1 (aun .not) v73_1) fun v74_3 =>
pgk false h2 (fun g4 k5 => k5 x1 h2) (fun g6 v12_7 h8 =>
pgk false h8 (fun g9 k10 => pcal Try.prog 48 77 h8 (fun v77_11 h12 =>
k10 v77_11 h12) [v12_7, (.int .i64 (-1000000000)), (.int .i64 1000000000)]) (fun g13 v13_14 h15 =>
pgk false h15 (fun g16 k17 => VL (lift1 (aun .not) v13_14) fun v78_18 =>
k17 v78_18 h15) (fun g19 v14_20 h21 =>
VL (vpick g19 (.bool true) v14_20) fun v79_22 =>
pgk false h21 (fun g23 k24 => k24 x0 h21) (fun g25 v17_26 h27 =>
pgk false h27 (fun g28 k29 => VL (lift2 (abin .eql) v17_26 (.int .i64 0)) fun v82_30 =>
k29 v82_30 h27) (fun g31 v18_32 h33 =>
pgk false h33 (fun g34 k35 => k35 v18_32 h33) (fun g36 v19_37 h38 =>
pgk true h38 (fun g39 k40 => k40 x1 h38) (fun g41 v20_42 h43 =>
pgk true h43 (fun g44 k45 => VL (lift2 (abin .eql) v20_42 (.int .i64 0)) fun v85_46 =>
k45 v85_46 h43) (fun g47 v21_48 h49 =>
pgk false h49 (fun g50 k51 => VL (vpick g47 v21_48 (.bool false)) fun v86_52 =>
k51 v86_52 h49) (fun g53 v22_54 h55 =>
VL (vpick g53 (.bool true) v22_54) fun v87_56 =>
pcond (
VL (vbld (vfill [(.int .i64 0), (.int .i64 0)] [])) fun v88_57 =>
pst h55 2 (cellsV v88_57) (fun u58 h59 =>
VL (pcellV h59 (some 2) (.ptr 68 0)) fun r60 =>
Rt h59 (.tup [r60, (.int .i64 2)])) (.ptr 68 0)) (
pcal Try.prog 49 92 h55 (fun v92_61 h62 =>
VL (vext 0 v92_61) fun v93_63 =>
VL (vext 1 v92_61) fun v94_64 =>
palloc h62 70 27 [(.int .i64 0), (.int .i64 0)] fun h65 =>
pst h65 2 (cellsV v93_63) (fun u66 h67 =>
pld h67 (some 2) (fun v95_68 h69 =>
pst h69 2 (cellsV v95_68) (fun u70 h71 =>
VL (pcellV h71 (some 2) (.ptr 68 0)) fun r72 =>
Rt h71 (.tup [r72, (.int .i64 0)])) (.ptr 68 0)) (.ptr 70 0)) (.ptr 70 0)) [x0, x1]) v87_56) g36) g41) v19_37) g31) g25) v79_22) g13) g6) v74_3) [x0, (.int .i64 (-1000000000)), (.int .i64 1000000000)]
theorem spec_FractionOf_f {x0 x1 : V} : Prt Try.prog 8 [x0, x1] (spec_FractionOf_F x0 x1) := pfun (fn := Try.f8) (m := [.s, .s, .s, .s, .s, .s]) (c := 2 ≤ 32) rfl (fun h0 Rt => by kernel_rfl) (by decide)

def spec_DrawIsFraction_F (x0 : V) (hi : Hp) (Rt : Hp → V → Prop) : Prop :=
palloc hi 66 27 [(.int .i64 0), (.int .i64 0)] fun h0 =>
pcal Try.prog 44 68 h0 (fun v68_1 h2 =>
pcal Try.prog 50 69 h2 (fun v69_3 h4 =>
pst h4 2 (cellsV v69_3) (fun u5 h6 =>
VL (pcellV h6 (some 2) (.ptr 66 0)) fun r7 =>
Rt h6 r7) (.ptr 66 0)) [v68_1]) [x0]
theorem spec_DrawIsFraction_f {x0 : V} : Prt Try.prog 9 [x0] (spec_DrawIsFraction_F x0) := pfun (fn := Try.f9) (m := [.s, .s]) (c := 1 ≤ 6) rfl (fun h0 Rt => by kernel_rfl) (by decide)

def impl_IsFraction_F (x0 : V) (hi : Hp) (Rt : Hp → V → Prop) : Prop :=
pbox hi 65 27 (cellsV x0) fun h0 =>
pld h0 none (fun v68_1 h2 =>
VL (lift2 (abin .lss) v68_1 (.int .i64 (-1000000000))) fun v69_3 =>
pgk false h2 (fun g4 k5 => k5 (.ptr 65 0) h2) (fun g6 v7_7 h8 =>
pgk false h8 (fun g9 k10 => pld h8 none (fun v72_11 h12 =>
k10 v72_11 h12) v7_7) (fun g13 v8_14 h15 =>
pgk false h15 (fun g16 k17 => VL (lift2 (abin .gtr) v8_14 (.int .i64 1000000000)) fun v73_18 =>
k17 v73_18 h15) (fun g19 v9_20 h21 =>
VL (vpick g19 (.bool true) v9_20) fun v74_22 =>
pgk false h21 (fun g23 k24 => k24 (.ptr 65 1) h21) (fun g25 v12_26 h27 =>
pgk false h27 (fun g28 k29 => pld h27 none (fun v77_30 h31 =>
k29 v77_30 h31) v12_26) (fun g32 v13_33 h34 =>
pgk false h34 (fun g35 k36 => VL (lift2 (abin .lss) v13_33 (.int .i64 0)) fun v78_37 =>
k36 v78_37 h34) (fun g38 v14_39 h40 =>
VL (vpick g38 (.bool true) v14_39) fun v79_41 =>
pgk false h40 (fun g42 k43 => k43 (.ptr 65 1) h40) (fun g44 v17_45 h46 =>
pgk false h46 (fun g47 k48 => pld h46 none (fun v82_49 h50 =>
k48 v82_49 h50) v17_45) (fun g51 v18_52 h53 =>
pgk false h53 (fun g54 k55 => VL (lift2 (abin .gtr) v18_52 (.int .i64 1000000000)) fun v83_56 =>
k55 v83_56 h53) (fun g57 v19_58 h59 =>
VL (vpick g57 (.bool true) v19_58) fun v84_60 =>
pcond (
Rt h59 (.bool false)) (
pld h59 none (fun v86_61 h62 =>
VL (lift2 (abin .eql) v86_61 (.int .i64 0)) fun v87_63 =>
pcond (
pld h62 none (fun v89_64 h65 =>
VL (lift2 (abin .eql) v89_64 (.int .i64 1)) fun v90_66 =>
Rt h65 v90_66) (.ptr 65 0)) (
pld h62 none (fun v92_67 h68 =>
pld h68 none (fun v94_69 h70 =>
pcal Try.prog 47 95 h70 (fun v95_71 h72 =>
VL (lift2 (abin .eql) v95_71 (.int .i64 1)) fun v96_73 =>
Rt h72 v96_73) [v92_67, v94_69]) (.ptr 65 1)) (.ptr 65 0)) v87_63) (.ptr 65 1)) v84_60) g51) g44) v79_41) g32) g25) v74_22) g13) g6) v69_3) (.ptr 65 0)
theorem impl_IsFraction_f {x0 : V} : Prt Try.prog 10 [x0] (impl_IsFraction_F x0) := pfun (fn := Try.f10) (m := [.s, .s, .s, .s, .s, .s, .s, .s]) (c := 1 ≤ 33) rfl (fun h0 Rt => by kernel_rfl) (by decide)

def spec_IsFraction_F (x0 : V) (hi : Hp) (Rt : Hp → V → Prop) : Prop :=
pbox hi 65 27 (cellsV x0) fun h0 =>
pld h0 (some 2) (fun v67_1 h2 =>
pcal Try.prog 51 68 h2 (fun v68_3 h4 =>
Rt h4 v68_3) [v67_1]) (.ptr 65 0)
theorem spec_IsFraction_f {x0 : V} : Prt Try.prog 11 [x0] (spec_IsFraction_F x0) := pfun (fn := Try.f11) (m := [.s, .s]) (c := 1 ≤ 5) rfl (fun h0 Rt => by kernel_rfl) (by decide)

def spec_DrawCompareFractions_F (x0 : V) (hi : Hp) (Rt : Hp → V → Prop) : Prop :=
palloc hi 66 27 [(.int .i64 0), (.int .i64 0)] fun h0 =>
palloc h0 67 27 [(.int .i64 0), (.int .i64 0)] fun h1 =>
pcal Try.prog 44 70 h1 (fun v70_2 h3 =>
pcal Try.prog 50 72 h3 (fun v72_4 h5 =>
pcal Try.prog 50 74 h5 (fun v74_6 h7 =>
pst h7 2 (cellsV v72_4) (fun u8 h9 =>
pst h9 2 (cellsV v74_6) (fun u10 h11 =>
VL (pcellV h11 (some 2) (.ptr 66 0)) fun r12 =>
VL (pcellV h11 (some 2) (.ptr 67 0)) fun r13 =>
Rt h11 (.tup [r12, r13])) (.ptr 67 0)) (.ptr 66 0)) [v70_2]) [v70_2]) [x0]
theorem spec_DrawCompareFractions_f {x0 : V} : Prt Try.prog 12 [x0] (spec_DrawCompareFractions_F x0) := pfun (fn := Try.f12) (m := [.s, .s, .s]) (c := 1 ≤ 11) rfl (fun h0 Rt => by kernel_rfl) (by decide)

def impl_CompareFractions_F (x0 x1 : V) (hi : Hp) (Rt : Hp → V → Prop) : Prop :=
pbox hi 66 27 (cellsV x0) fun h0 =>
pbox h0 67 27 (cellsV x1) fun h1 =>
pld h1 (some 2) (fun v70_2 h3 =>
pcal Try.prog 10 71 h3 (fun v71_4 h5 =>
VL (lift1 (aun .not) v71_4) fun v72_6 =>
pgk false h5 (fun g7 k8 => pld h5 (some 2) (fun v74_9 h10 =>
k8 v74_9 h10) (.ptr 67 0)) (fun g11 v10_12 h13 =>
pgk false h13 (fun g14 k15 => pcal Try.prog 10 75 h13 (fun v75_16 h17 =>
k15 v75_16 h17) [v10_12]) (fun g18 v11_19 h20 =>
pgk false h20 (fun g21 k22 => VL (lift1 (aun .not) v11_19) fun v76_23 =>
k22 v76_23 h20) (fun g24 v12_25 h26 =>
VL (vpick g24 (.bool true) v12_25) fun v77_27 =>
pcond (
Rt h26 (.tup [(.int .i64 0), (.int .i64 1)])) (
pld h26 (some 2) (fun v78_28 h29 =>
pld h29 (some 2) (fun v79_30 h31 =>
pcal Try.prog 52 80 h31 (fun v80_32 h33 =>
Rt h33 (.tup [v80_32, (.int .i64 0)])) [v78_28, v79_30]) (.ptr 67 0)) (.ptr 66 0)) v77_27) g18) g11) v72_6) [v70_2]) (.ptr 66 0)
theorem impl_CompareFractions_f {x0 x1 : V} : Prt Try.prog 13 [x0, x1] (impl_CompareFractions_F x0 x1) := pfun (fn := Try.f13) (m := [.s, .s, .s, .s, .s]) (c := 2 ≤ 17) rfl (fun h0 Rt => by kernel_rfl) (by decide)

def spec_CompareFractions_F (x0 x1 : V) (hi : Hp) (Rt : Hp → V → Prop) : Prop :=
pbox hi 66 27 (cellsV x0) fun h0 =>
pbox h0 67 27 (cellsV x1) fun h1 =>
pld h1 (some 2) (fun v70_2 h3 =>
pcal Try.prog 51 71 h3 (fun v71_4 h5 =>
VL (lift1 (aun .not) v71_4) fun v72_6 =>
pgk false h5 (fun g7 k8 => pld h5 (some 2) (fun v74_9 h10 =>
k8 v74_9 h10) (.ptr 67 0)) (fun g11 v10_12 h13 =>
pgk false h13 (fun g14 k15 => pcal Try.prog 51 75 h13 (fun v75_16 h17 =>
k15 v75_16 h17) [v10_12]) (fun g18 v11_19 h20 =>
pgk false h20 (fun g21 k22 => VL (lift1 (aun .not) v11_19) fun v76_23 =>
k22 v76_23 h20) (fun g24 v12_25 h26 =>
VL (vpick g24 (.bool true) v12_25) fun v77_27 =>
pcond (
Rt h26 (.tup [(.int .i64 0), (.int .i64 1)])) (
pld h26 (some 2) (fun v78_28 h29 =>
pld h29 (some 2) (fun v79_30 h31 =>
pcal Try.prog 53 80 h31 (fun v80_32 h33 =>
Rt h33 (.tup [v80_32, (.int .i64 0)])) [v78_28, v79_30]) (.ptr 67 0)) (.ptr 66 0)) v77_27) g18) g11) v72_6) [v70_2]) (.ptr 66 0)
theorem spec_CompareFractions_f {x0 x1 : V} : Prt Try.prog 14 [x0, x1] (spec_CompareFractions_F x0 x1) := pfun (fn := Try.f14) (m := [.s, .s, .s, .s, .s]) (c := 2 ≤ 17) rfl (fun h0 Rt => by kernel_rfl) (by decide)

def spec_DrawMoveFraction_F (x0 : V) (hi : Hp) (Rt : Hp → V → Prop) : Prop :=
palloc hi 66 36 [(.int .i64 0), (.int .i64 0), (.int .i64 0)] fun h0 =>
palloc h0 67 27 [(.int .i64 0), (.int .i64 0)] fun h1 =>
pcal Try.prog 44 70 h1 (fun v70_2 h3 =>
pcal Try.prog 54 72 h3 (fun v72_4 h5 =>
pcal Try.prog 50 74 h5 (fun v74_6 h7 =>
pst h7 3 (cellsV v72_4) (fun u8 h9 =>
pst h9 2 (cellsV v74_6) (fun u10 h11 =>
VL (pcellV h11 (some 3) (.ptr 66 0)) fun r12 =>
VL (pcellV h11 (some 2) (.ptr 67 0)) fun r13 =>
Rt h11 (.tup [r12, r13])) (.ptr 67 0)) (.ptr 66 0)) [v70_2]) [v70_2]) [x0]
theorem spec_DrawMoveFraction_f {x0 : V} : Prt Try.prog 15 [x0] (spec_DrawMoveFraction_F x0) := pfun (fn := Try.f15) (m := [.s, .s, .s]) (c := 1 ≤ 11) rfl (fun h0 Rt => by kernel_rfl) (by decide)

def impl_MoveFraction_F (x0 x1 : V) (hi : Hp) (Rt : Hp → V → Prop) : Prop :=
pbox hi 66 36 (cellsV x0) fun h0 =>
pbox h0 67 27 (cellsV x1) fun h1 =>
palloc h1 68 27 [(.int .i64 0), (.int .i64 0)] fun h2 =>
pld h2 (some 3) (fun v70_3 h4 =>
pcal Try.prog 18 71 h4 (fun v71_5 h6 =>
VL (lift1 (aun .not) v71_5) fun v72_7 =>
pgk false h6 (fun g8 k9 => pld h6 (some 2) (fun v74_10 h11 =>
k9 v74_10 h11) (.ptr 67 0)) (fun g12 v10_13 h14 =>
pgk false h14 (fun g15 k16 => pcal Try.prog 10 75 h14 (fun v75_17 h18 =>
k16 v75_17 h18) [v10_13]) (fun g19 v11_20 h21 =>
pgk false h21 (fun g22 k23 => VL (lift1 (aun .not) v11_20) fun v76_24 =>
k23 v76_24 h21) (fun g25 v12_26 h27 =>
VL (vpick g25 (.bool true) v12_26) fun v77_28 =>
pcond (
VL (vbld (vfill [(.int .i64 0), (.int .i64 0)] [])) fun v78_29 =>
pst h27 2 (cellsV v78_29) (fun u30 h31 =>
VL (pcellV h31 (some 2) (.ptr 68 0)) fun r32 =>
Rt h31 (.tup [r32, (.int .i64 1)])) (.ptr 68 0)) (
pld h27 (some 3) (fun v79_33 h34 =>
pld h34 (some 2) (fun v80_35 h36 =>
pcal Try.prog 55 81 h36 (fun v81_37 h38 =>
VL (vext 0 v81_37) fun v82_39 =>
VL (vext 1 v81_37) fun v83_40 =>
pst h38 2 (cellsV v82_39) (fun u41 h42 =>
VL (pcellV h42 (some 2) (.ptr 68 0)) fun r43 =>
Rt h42 (.tup [r43, v83_40])) (.ptr 68 0)) [v79_33, v80_35]) (.ptr 67 0)) (.ptr 66 0)) v77_28) g19) g12) v72_7) [v70_3]) (.ptr 66 0)
theorem impl_MoveFraction_f {x0 x1 : V} : Prt Try.prog 16 [x0, x1] (impl_MoveFraction_F x0 x1) := pfun (fn := Try.f16) (m := [.s, .s, .s, .s, .s]) (c := 2 ≤ 20) rfl (fun h0 Rt => by kernel_rfl) (by decide)

def spec_MoveFraction_F (x0 x1 : V) (hi : Hp) (Rt : Hp → V → Prop) : Prop :=
pbox hi 66 36 (cellsV x0) fun h0 =>
pbox h0 67 27 (cellsV x1) fun h1 =>
palloc h1 68 27 [(.int .i64 0), (.int .i64 0)] fun h2 =>
pld h2 (some 3) (fun v72_3 h4 =>
pcal Try.prog 56 73 h4 (fun v73_5 h6 =>
VL (lift1 (aun .not) v73_5) fun v74_7 =>
pgk false h6 (fun g8 k9 => pld h6 (some 2) (fun v76_10 h11 =>
k9 v76_10 h11) (.ptr 67 0)) (fun g12 v12_13 h14 =>
pgk false h14 (fun g15 k16 => pcal Try.prog 51 77 h14 (fun v77_17 h18 =>
k16 v77_17 h18) [v12_13]) (fun g19 v13_20 h21 =>
pgk false h21 (fun g22 k23 => VL (lift1 (aun .not) v13_20) fun v78_24 =>
k23 v78_24 h21) (fun g25 v14_26 h27 =>
VL (vpick g25 (.bool true) v14_26) fun v79_28 =>
pcond (
VL (vbld (vfill [(.int .i64 0), (.int .i64 0)] [])) fun v80_29 =>
pst h27 2 (cellsV v80_29) (fun u30 h31 =>
VL (pcellV h31 (some 2) (.ptr 68 0)) fun r32 =>
Rt h31 (.tup [r32, (.int .i64 1)])) (.ptr 68 0)) (
pld h27 (some 3) (fun v82_33 h34 =>
pld h34 (some 2) (fun v83_35 h36 =>
pcal Try.prog 57 84 h36 (fun v84_37 h38 =>
VL (vext 0 v84_37) fun v85_39 =>
VL (vext 1 v84_37) fun v86_40 =>
palloc h38 70 27 [(.int .i64 0), (.int .i64 0)] fun h41 =>
pst h41 2 (cellsV v85_39) (fun u42 h43 =>
VL (lift1 (aun .not) v86_40) fun v88_44 =>
pcond (
VL (vbld (vfill [(.int .i64 0), (.int .i64 0)] [])) fun v89_45 =>
pst h43 2 (cellsV v89_45) (fun u46 h47 =>
VL (pcellV h47 (some 2) (.ptr 68 0)) fun r48 =>
Rt h47 (.tup [r48, (.int .i64 3)])) (.ptr 68 0)) (
pld h43 (some 2) (fun v90_49 h50 =>
pst h50 2 (cellsV v90_49) (fun u51 h52 =>
VL (pcellV h52 (some 2) (.ptr 68 0)) fun r53 =>
Rt h52 (.tup [r53, (.int .i64 0)])) (.ptr 68 0)) (.ptr 70 0)) v88_44) (.ptr 70 0)) [v82_33, v83_35]) (.ptr 67 0)) (.ptr 66 0)) v79_28) g19) g12) v74_7) [v72_3]) (.ptr 66 0)
theorem spec_MoveFraction_f {x0 x1 : V} : Prt Try.prog 17 [x0, x1] (spec_MoveFraction_F x0 x1) := pfun (fn := Try.f17) (m := [.s, .s, .s, .s, .s, .s, .s, .s, .s]) (c := 2 ≤ 27) rfl (fun h0 Rt => by kernel_rfl) (by decide)

def impl_IsMove_F (x0 : V) (hi : Hp) (Rt : Hp → V → Prop) : Prop :=
pbox hi 65 36 (cellsV x0) fun h0 =>
pld h0 none (fun v68_1 h2 =>
VL (lift2 (abin .eql) v68_1 (.int .i64 2)) fun v69_3 =>
pcond (
pld h2 none (fun v71_4 h5 =>
VL (lift2 (abin .geq) v71_4 (.int .i64 1)) fun v72_6 =>
pgk true h5 (fun g7 k8 => k8 (.ptr 65 1) h5) (fun g9 v10_10 h11 =>
pgk true h11 (fun g12 k13 => pld h11 none (fun v75_14 h15 =>
k13 v75_14 h15) v10_10) (fun g16 v11_17 h18 =>
pgk true h18 (fun g19 k20 => VL (lift2 (abin .leq) v11_17 (.int .i64 20)) fun v76_21 =>
k20 v76_21 h18) (fun g22 v12_23 h24 =>
VL (vpick g22 v12_23 (.bool false)) fun v77_25 =>
pgk true h24 (fun g26 k27 => k27 (.ptr 65 2) h24) (fun g28 v15_29 h30 =>
pgk true h30 (fun g31 k32 => pld h30 none (fun v80_33 h34 =>
k32 v80_33 h34) v15_29) (fun g35 v16_36 h37 =>
pgk true h37 (fun g38 k39 => VL (lift2 (abin .geq) v16_36 (.int .i64 1)) fun v81_40 =>
k39 v81_40 h37) (fun g41 v17_42 h43 =>
VL (vpick g41 v17_42 (.bool false)) fun v82_44 =>
pgk true h43 (fun g45 k46 => k46 (.ptr 65 2) h43) (fun g47 v20_48 h49 =>
pgk true h49 (fun g50 k51 => pld h49 none (fun v85_52 h53 =>
k51 v85_52 h53) v20_48) (fun g54 v21_55 h56 =>
pgk true h56 (fun g57 k58 => VL (lift2 (abin .leq) v21_55 (.int .i64 20)) fun v86_59 =>
k58 v86_59 h56) (fun g60 v22_61 h62 =>
VL (vpick g60 v22_61 (.bool false)) fun v87_63 =>
Rt h62 v87_63) g54) g47) v82_44) g35) g28) v77_25) g16) g9) v72_6) (.ptr 65 1)) (
pld h2 none (fun v89_64 h65 =>
VL (lift2 (abin .eql) v89_64 (.int .i64 0)) fun v90_66 =>
pgk false h65 (fun g67 k68 => k68 (.ptr 65 0) h65) (fun g69 v28_70 h71 =>
pgk false h71 (fun g72 k73 => pld h71 none (fun v93_74 h75 =>
k73 v93_74 h75) v28_70) (fun g76 v29_77 h78 =>
pgk false h78 (fun g79 k80 => VL (lift2 (abin .eql) v29_77 (.int .i64 1)) fun v94_81 =>
k80 v94_81 h78) (fun g82 v30_83 h84 =>
VL (vpick g82 (.bool true) v30_83) fun v95_85 =>
pgk true h84 (fun g86 k87 => k87 (.ptr 65 1) h84) (fun g88 v33_89 h90 =>
pgk true h90 (fun g91 k92 => pld h90 none (fun v98_93 h94 =>
k92 v98_93 h94) v33_89) (fun g95 v34_96 h97 =>
pgk true h97 (fun g98 k99 => VL (lift2 (abin .eql) v34_96 (.int .i64 0)) fun v99_100 =>
k99 v99_100 h97) (fun g101 v35_102 h103 =>
VL (vpick g101 v35_102 (.bool false)) fun v100_104 =>
pgk true h103 (fun g105 k106 => k106 (.ptr 65 2) h103) (fun g107 v38_108 h109 =>
pgk true h109 (fun g110 k111 => pld h109 none (fun v103_112 h113 =>
k111 v103_112 h113) v38_108) (fun g114 v39_115 h116 =>
pgk true h116 (fun g117 k118 => VL (lift2 (abin .eql) v39_115 (.int .i64 0)) fun v104_119 =>
k118 v104_119 h116) (fun g120 v40_121 h122 =>
VL (vpick g120 v40_121 (.bool false)) fun v105_123 =>
Rt h122 v105_123) g114) g107) v100_104) g95) g88) v95_85) g76) g69) v90_66) (.ptr 65 0)) v69_3) (.ptr 65 0)
theorem impl_IsMove_f {x0 : V} : Prt Try.prog 18 [x0] (impl_IsMove_F x0) := pfun (fn := Try.f18) (m := [.s, .s, .s, .s, .s]) (c := 1 ≤ 42) rfl (fun h0 Rt => by kernel_rfl) (by decide)

def spec_IsMove_F (x0 : V) (hi : Hp) (Rt : Hp → V → Prop) : Prop :=
pbox hi 65 36 (cellsV x0) fun h0 =>
pld h0 (some 3) (fun v67_1 h2 =>
pcal Try.prog 56 68 h2 (fun v68_3 h4 =>
Rt h4 v68_3) [v67_1]) (.ptr 65 0)
theorem spec_IsMove_f {x0 : V} : Prt Try.prog 19 [x0] (spec_IsMove_F x0) := pfun (fn := Try.f19) (m := [.s, .s]) (c := 1 ≤ 5) rfl (fun h0 Rt => by kernel_rfl) (by decide)

def spec_DrawPassportOfMove_F (x0 : V) (hi : Hp) (Rt : Hp → V → Prop) : Prop :=
palloc hi 66 36 [(.int .i64 0), (.int .i64 0), (.int .i64 0)] fun h0 =>
pcal Try.prog 44 68 h0 (fun v68_1 h2 =>
pcal Try.prog 54 69 h2 (fun v69_3 h4 =>
pst h4 3 (cellsV v69_3) (fun u5 h6 =>
VL (pcellV h6 (some 3) (.ptr 66 0)) fun r7 =>
Rt h6 r7) (.ptr 66 0)) [v68_1]) [x0]
theorem spec_DrawPassportOfMove_f {x0 : V} : Prt Try.prog 20 [x0] (spec_DrawPassportOfMove_F x0) := pfun (fn := Try.f20) (m := [.s, .s]) (c := 1 ≤ 6) rfl (fun h0 Rt => by kernel_rfl) (by decide)

def impl_PassportOfMove_F (x0 : V) (hi : Hp) (Rt : Hp → V → Prop) : Prop :=
pbox hi 65 36 (cellsV x0) fun h0 =>
pld h0 (some 3) (fun v70_1 h2 =>
pcal Try.prog 58 71 h2 (fun v71_3 h4 =>
pld h4 (some 3) (fun v89_5 h6 =>
pcal Try.prog 18 90 h6 (fun v90_7 h8 =>
VL (lift1 (aun .not) v90_7) fun v91_9 =>
pcond (
Rt h8 (.tup [.nils, (.int .i64 1)])) (
VL (lift2 (abin .gtr) v71_3 (.int .i64 16)) fun v94_10 =>
pcond (
Rt h8 (.tup [.nils, (.int .i64 3)])) (
VL (lift2 (abin .eql) v71_3 (.int .i64 1)) fun v97_11 =>
pcond (
pmks h8 98 2 1 1 (fun h12 =>
pmks h12 99 2 1 1 (fun h13 =>
pmks h13 100 2 1 1 (fun h14 =>
pmks h14 101 80 3 3 (fun h15 =>
Rt h15 (.tup [(.rf 101 0 3), (.int .i64 0)])) (vfill [.nils, .nils, .nils] [(0, 1, (.rf 98 0 1)), (1, 1, (.rf 99 0 1)), (2, 1, (.rf 100 0 1))])) (vfill [(.int .i64 0)] [(0, 1, (.int .i64 1))])) (vfill [(.int .i64 0)] [(0, 1, (.int .i64 1))])) (vfill [(.int .i64 0)] [(0, 1, (.int .i64 1))])) (
pmks h8 72 2 1 1 (fun h16 =>
pmks h16 73 2 1 1 (fun h17 =>
VL (lift2 (abin .sub) v71_3 (.int .i64 2)) fun v75_18 =>
pcal Try.prog 59 76 h17 (fun v76_19 h20 =>
papp h20 (fun m23 s24 => papV 2 1 8 77 h20 (fun v77_21 h22 =>
pld h22 none (fun v79_25 h26 =>
pld h26 none (fun v81_27 h28 =>
pmks h28 82 2 2 2 (fun h29 =>
pcal Try.prog 60 83 h29 (fun v83_30 h31 =>
pmks h31 86 2 1 1 (fun h32 =>
pmks h32 87 80 3 3 (fun h33 =>
Rt h33 (.tup [(.rf 87 0 3), (.int .i64 0)])) (vfill [.nils, .nils, .nils] [(0, 1, v83_30), (1, 1, v77_21), (2, 1, (.rf 86 0 1))])) (vfill [(.int .i64 0)] [(0, 1, v71_3)])) [(.rf 82 0 2)]) (vfill [(.int .i64 0), (.int .i64 0)] [(0, 1, v79_25), (1, 1, v81_27)])) (.ptr 65 2)) (.ptr 65 1)) m23 s24 (.rf 72 0 1)) (pavs h20 (.rf 72 0 1) []) (preadS 1 h20 v76_19)) [(.rf 73 0 1), v75_18]) (vfill [(.int .i64 0)] [(0, 1, (.int .i64 1))])) (vfill [(.int .i64 0)] [(0, 1, (.int .i64 2))])) v97_11) v94_10) v91_9) [v89_5]) (.ptr 65 0)) [v70_1]) (.ptr 65 0)
theorem impl_PassportOfMove_f {x0 : V} : Prt Try.prog 21 [x0] (impl_PassportOfMove_F x0) := pfun (fn := Try.f21) (m := [.s, .s, .s, .s, .s, .s, .s, .s, .s, .s]) (c := 1 ≤ 38) rfl (fun h0 Rt => by kernel_rfl) (by decide)

def spec_PassportOfMove_F (x0 : V) (hi : Hp) (Rt : Hp → V → Prop) : Prop :=
pbox hi 65 36 (cellsV x0) fun h0 =>
pld h0 (some 3) (fun v71_1 h2 =>
pcal Try.prog 56 72 h2 (fun v72_3 h4 =>
VL (lift1 (aun .not) v72_3) fun v73_5 =>
pcond (
Rt h4 (.tup [.nils, (.int .i64 1)])) (
pld h4 (some 3) (fun v75_6 h7 =>
pcal Try.prog 61 76 h7 (fun v76_8 h9 =>
VL (lift2 (abin .gtr) v76_8 (.int .i64 16)) fun v77_10 =>
pcond (
Rt h9 (.tup [.nils, (.int .i64 3)])) (
pld h9 none (fun v80_11 h12 =>
VL (lift2 (abin .lss) v80_11 (.int .i64 2)) fun v81_13 =>
pcond (
pmks h12 82 2 1 1 (fun h14 =>
pmks h14 83 2 1 1 (fun h15 =>
pmks h15 84 2 1 1 (fun h16 =>
pmks h16 85 80 3 3 (fun h17 =>
Rt h17 (.tup [(.rf 85 0 3), (.int .i64 0)])) (vfill [.nils, .nils, .nils] [(0, 1, (.rf 82 0 1)), (1, 1, (.rf 83 0 1)), (2, 1, (.rf 84 0 1))])) (vfill [(.int .i64 0)] [(0, 1, (.int .i64 1))])) (vfill [(.int .i64 0)] [(0, 1, (.int .i64 1))])) (vfill [(.int .i64 0)] [(0, 1, (.int .i64 1))])) (
pmks h12 86 2 1 1 (fun h18 =>
pld h18 none (fun v88_19 h20 =>
pld h20 none (fun v90_21 h22 =>
VL (lift2 (abin .add) v88_19 v90_21) fun v91_23 =>
LP [4, 5] [1] (fun w24 l25 h26 N27 =>
VL (lift2 (abin .gtr) (w24.getD 1 .und) (.int .i64 2)) fun v93_28 =>
pcond (
pmks h26 97 2 1 1 (fun h29 =>
papp h29 (fun m32 s33 => papV 2 1 8 98 h29 (fun v98_30 h31 =>
VL (lift2 (abin .sub) (w24.getD 1 .und) (.int .i64 1)) fun v95_34 =>
N27 [v98_30, v95_34] [(l25.getD 0 .und)] h31) m32 s33 (w24.getD 0 .und)) (pavs h29 (w24.getD 0 .und) []) (preadS 1 h29 (.rf 97 0 1))) (vfill [(.int .i64 0)] [(0, 1, (.int .i64 1))])) (
VL (vfa 1 (l25.getD 0 .und)) fun v99_35 =>
pld h26 none (fun v100_36 h37 =>
VL (vfa 2 (l25.getD 0 .und)) fun v101_38 =>
pld h37 none (fun v102_39 h40 =>
VL (lift2 amax v100_36 v102_39) fun v103_41 =>
VL (vfa 1 (l25.getD 0 .und)) fun v104_42 =>
pld h40 none (fun v105_43 h44 =>
VL (vfa 2 (l25.getD 0 .und)) fun v106_45 =>
pld h44 none (fun v107_46 h47 =>
VL (lift2 amin v105_43 v107_46) fun v108_48 =>
pmks h47 109 2 2 2 (fun h49 =>
VL (vfa 1 (l25.getD 0 .und)) fun v111_50 =>
pld h49 none (fun v112_51 h52 =>
VL (vfa 2 (l25.getD 0 .und)) fun v113_53 =>
pld h52 none (fun v114_54 h55 =>
VL (lift2 (abin .add) v112_51 v114_54) fun v115_56 =>
pmks h55 116 2 1 1 (fun h57 =>
pmks h57 117 80 3 3 (fun h58 =>
Rt h58 (.tup [(.rf 117 0 3), (.int .i64 0)])) (vfill [.nils, .nils, .nils] [(0, 1, (.rf 109 0 2)), (1, 1, (w24.getD 0 .und)), (2, 1, (.rf 116 0 1))])) (vfill [(.int .i64 0)] [(0, 1, v115_56)])) v113_53) v111_50) (vfill [(.int .i64 0), (.int .i64 0)] [(0, 1, v103_41), (1, 1, v108_48)])) v106_45) v104_42) v101_38) v99_35) v93_28) [(.rf 86 0 1), v91_23] [(.ptr 65 0)] h22) (.ptr 65 2)) (.ptr 65 1)) (vfill [(.int .i64 0)] [(0, 1, (.int .i64 2))])) v81_13) (.ptr 65 0)) v77_10) [v75_6]) (.ptr 65 0)) v73_5) [v71_1]) (.ptr 65 0)
theorem spec_PassportOfMove_f {x0 : V} : Prt Try.prog 22 [x0] (spec_PassportOfMove_F x0) := pfun (fn := Try.f22) (m := [.s, .s, .s, .s, .s, .s, .s, .s, .s, .s, .s, .l [4, 5] [1], .s, .s, .s, .s]) (c := 1 ≤ 54) rfl (fun h0 Rt => by kernel_rfl) (by decide)

def laws_lists9_F (x0 x1 : V) (hi : Hp) (Rt : Hp → V → Prop) : Prop :=
VL (vlenS x0) fun v71_0 =>
VL (vlenS x1) fun v73_1 =>
VL (lift2 (abin .neq) v71_0 v73_1) fun v74_2 =>
pcond (
Rt hi (.bool false)) (
LP [5] [0, 1] (fun w3 l4 h5 N6 =>
VL (vlenS (l4.getD 0 .und)) fun v77_7 =>
VL (lift2 (abin .lss) (w3.getD 0 .und) v77_7) fun v78_8 =>
pcond (
VL (vixS 1 (l4.getD 0 .und) (w3.getD 0 .und)) fun v83_9 =>
pld h5 none (fun v84_10 h11 =>
VL (vixS 1 (l4.getD 1 .und) (w3.getD 0 .und)) fun v87_12 =>
pld h11 none (fun v88_13 h14 =>
pcal Try.prog 62 89 h14 (fun v89_15 h16 =>
VL (lift1 (aun .not) v89_15) fun v90_17 =>
pcond (
Rt h16 (.bool false)) (
VL (lift2 (abin .add) (w3.getD 0 .und) (.int .i64 1)) fun v80_18 =>
N6 [v80_18] [(l4.getD 0 .und), (l4.getD 1 .und)] h16) v90_17) [v84_10, v88_13]) v87_12) v83_9) (
Rt h5 (.bool true)) v78_8) [(.int .i64 0)] [x0, x1] hi) v74_2
theorem laws_lists9_f {x0 x1 : V} : Prt Try.prog 23 [x0, x1] (laws_lists9_F x0 x1) := pfun (fn := Try.f23) (m := [.s, .s, .s, .s, .s, .s, .l [5] [0, 1], .s, .s, .s, .s, .s, .s]) (c := 2 ≤ 27) rfl (fun h0 Rt => by kernel_rfl) (by decide)

def impl_EulerOfPassport_F (x0 : V) (hi : Hp) (Rt : Hp → V → Prop) : Prop :=
pcal Try.prog 63 70 hi (fun v70_0 h1 =>
VL (lift2 (abin .eql) v70_0 (.int .i64 0)) fun v72_2 =>
pcond (
Rt h1 (.tup [(.int .i64 0), (.int .i64 1)])) (
pcal Try.prog 64 75 h1 (fun v75_3 h4 =>
Rt h4 (.tup [v75_3, (.int .i64 0)])) [x0, v70_0]) v72_2) [x0]
theorem impl_EulerOfPassport_f {x0 : V} : Prt Try.prog 24 [x0] (impl_EulerOfPassport_F x0) := pfun (fn := Try.f24) (m := [.s, .s, .s, .s, .s, .s]) (c := 1 ≤ 12) rfl (fun h0 Rt => by kernel_rfl) (by decide)

def spec_DrawImageOfSet_F (x0 : V) (hi : Hp) (Rt : Hp → V → Prop) : Prop :=
palloc hi 66 36 [(.int .i64 0), (.int .i64 0), (.int .i64 0)] fun h0 =>
pcal Try.prog 44 70 h0 (fun v70_1 h2 =>
pcal Try.prog 54 72 h2 (fun v72_3 h4 =>
pcal Try.prog 65 74 h4 (fun v74_5 h6 =>
pst h6 3 (cellsV v72_3) (fun u7 h8 =>
VL (pcellV h8 (some 3) (.ptr 66 0)) fun r9 =>
Rt h8 (.tup [r9, v74_5])) (.ptr 66 0)) [v70_1]) [v70_1]) [x0]
theorem spec_DrawImageOfSet_f {x0 : V} : Prt Try.prog 25 [x0] (spec_DrawImageOfSet_F x0) := pfun (fn := Try.f25) (m := [.s, .s, .s]) (c := 1 ≤ 11) rfl (fun h0 Rt => by kernel_rfl) (by decide)

def impl_ImageOfSet_F (x0 x1 : V) (hi : Hp) (Rt : Hp → V → Prop) : Prop :=
pbox hi 66 36 (cellsV x0) fun h0 =>
pld h0 (some 3) (fun v70_1 h2 =>
pcal Try.prog 18 71 h2 (fun v71_3 h4 =>
VL (lift1 (aun .not) v71_3) fun v72_5 =>
pgk false h4 (fun g6 k7 => k7 x1 h4) (fun g8 v10_9 h10 =>
pgk false h10 (fun g11 k12 => pcal Try.prog 29 75 h10 (fun v75_13 h14 =>
k12 v75_13 h14) [v10_9]) (fun g15 v11_16 h17 =>
pgk false h17 (fun g18 k19 => VL (lift1 (aun .not) v11_16) fun v76_20 =>
k19 v76_20 h17) (fun g21 v12_22 h23 =>
VL (vpick g21 (.bool true) v12_22) fun v77_24 =>
pcond (
Rt h23 (.tup [.nils, (.int .i64 1)])) (
pld h23 (some 3) (fun v78_25 h26 =>
pcal Try.prog 66 80 h26 (fun v80_27 h28 =>
VL (vext 0 v80_27) fun v81_29 =>
VL (vext 1 v80_27) fun v82_30 =>
Rt h28 (.tup [v81_29, v82_30])) [v78_25, x1]) (.ptr 66 0)) v77_24) g15) g8) v72_5) [v70_1]) (.ptr 66 0)
theorem impl_ImageOfSet_f {x0 x1 : V} : Prt Try.prog 26 [x0, x1] (impl_ImageOfSet_F x0 x1) := pfun (fn := Try.f26) (m := [.s, .s, .s, .s, .s]) (c := 2 ≤ 19) rfl (fun h0 Rt => by kernel_rfl) (by decide)

def spec_ImageOfSet_F (x0 x1 : V) (hi : Hp) (Rt : Hp → V → Prop) : Prop :=
pbox hi 66 36 (cellsV x0) fun h0 =>
pld h0 (some 3) (fun v72_1 h2 =>
pcal Try.prog 56 73 h2 (fun v73_3 h4 =>
VL (lift1 (aun .not) v73_3) fun v74_5 =>
pgk false h4 (fun g6 k7 => k7 x1 h4) (fun g8 v12_9 h10 =>
pgk false h10 (fun g11 k12 => pcal Try.prog 67 77 h10 (fun v77_13 h14 =>
k12 v77_13 h14) [v12_9]) (fun g15 v13_16 h17 =>
pgk false h17 (fun g18 k19 => VL (lift1 (aun .not) v13_16) fun v78_20 =>
k19 v78_20 h17) (fun g21 v14_22 h23 =>
VL (vpick g21 (.bool true) v14_22) fun v79_24 =>
pcond (
Rt h23 (.tup [.nils, (.int .i64 1)])) (
pld h23 (some 3) (fun v81_25 h26 =>
pcal Try.prog 68 83 h26 (fun v83_27 h28 =>
VL (vext 0 v83_27) fun v84_29 =>
VL (vext 1 v83_27) fun v85_30 =>
VL (lift1 (aun .not) v85_30) fun v87_31 =>
pcond (
Rt h28 (.tup [.nils, (.int .i64 3)])) (
Rt h28 (.tup [v84_29, (.int .i64 0)])) v87_31) [v81_25, x1]) (.ptr 66 0)) v79_24) g15) g8) v74_5) [v72_1]) (.ptr 66 0)
theorem spec_ImageOfSet_f {x0 x1 : V} : Prt Try.prog 27 [x0, x1] (spec_ImageOfSet_F x0 x1) := pfun (fn := Try.f27) (m := [.s, .s, .s, .s, .s, .s, .s, .s, .s]) (c := 2 ≤ 25) rfl (fun h0 Rt => by kernel_rfl) (by decide)

def laws_set9_F (x0 x1 : V) (hi : Hp) (Rt : Hp → V → Prop) : Prop :=
VL (vlenS x0) fun v71_0 =>
VL (vlenS x1) fun v73_1 =>
VL (lift2 (abin .neq) v71_0 v73_1) fun v74_2 =>
pcond (
Rt hi (.bool false)) (
LP [5] [0, 1] (fun w3 l4 h5 N6 =>
VL (vlenS (l4.getD 0 .und)) fun v77_7 =>
VL (lift2 (abin .lss) (w3.getD 0 .und) v77_7) fun v78_8 =>
pcond (
VL (vixS 2 (l4.getD 0 .und) (w3.getD 0 .und)) fun v83_9 =>
pld h5 (some 2) (fun v84_10 h11 =>
VL (vixS 2 (l4.getD 1 .und) (w3.getD 0 .und)) fun v87_12 =>
pld h11 (some 2) (fun v88_13 h14 =>
VL (veqa true true [(.i .i64), (.i .i64)] v84_10 v88_13) fun v89_15 =>
pcond (
Rt h14 (.bool false)) (
VL (lift2 (abin .add) (w3.getD 0 .und) (.int .i64 1)) fun v80_16 =>
N6 [v80_16] [(l4.getD 0 .und), (l4.getD 1 .und)] h14) v89_15) v87_12) v83_9) (
Rt h5 (.bool true)) v78_8) [(.int .i64 0)] [x0, x1] hi) v74_2
theorem laws_set9_f {x0 x1 : V} : Prt Try.prog 28 [x0, x1] (laws_set9_F x0 x1) := pfun (fn := Try.f28) (m := [.s, .s, .s, .s, .s, .s, .l [5] [0, 1], .s, .s, .s, .s, .s, .s]) (c := 2 ≤ 26) rfl (fun h0 Rt => by kernel_rfl) (by decide)

def impl_IsSet_F (x0 : V) (hi : Hp) (Rt : Hp → V → Prop) : Prop :=
VL (vlenS x0) fun v70_0 =>
LP [7] [0, 5, 6] (fun w1 l2 h3 N4 =>
VL (lift2 (abin .lss) (w1.getD 0 .und) (l2.getD 2 .und)) fun v72_5 =>
pcond (
VL (vixS 2 (l2.getD 1 .und) (w1.getD 0 .und)) fun v74_6 =>
pld h3 (some 2) (fun v75_7 h8 =>
palloc h8 68 27 [(.int .i64 0), (.int .i64 0)] fun h9 =>
pst h9 2 (cellsV v75_7) (fun u10 h11 =>
pld h11 (some 2) (fun v76_12 h13 =>
pcal Try.prog 10 77 h13 (fun v77_14 h15 =>
VL (lift1 (aun .not) v77_14) fun v78_16 =>
pgk false h15 (fun g17 k18 => k18 (w1.getD 0 .und) h15) (fun g19 v16_20 h21 =>
pgk false h21 (fun g22 k23 => VL (lift2 (abin .gtr) v16_20 (.int .i64 0)) fun v81_24 =>
k23 v81_24 h21) (fun g25 v17_26 h27 =>
pgk false h27 (fun g28 k29 => k29 v17_26 h27) (fun g30 v18_31 h32 =>
pgk true h32 (fun g33 k34 => k34 (l2.getD 0 .und) h32) (fun g35 v19_36 h37 =>
pgk true h37 (fun g38 k39 => k39 (w1.getD 0 .und) h37) (fun g40 v20_41 h42 =>
pgk true h42 (fun g43 k44 => VL (lift2 (abin .sub) v20_41 (.int .i64 1)) fun v85_45 =>
k44 v85_45 h42) (fun g46 v21_47 h48 =>
pgk true h48 (fun g49 k50 => VL (vixS 2 v19_36 v21_47) fun v86_51 =>
k50 v86_51 h48) (fun g52 v22_53 h54 =>
pgk true h54 (fun g55 k56 => pld h54 (some 2) (fun v87_57 h58 =>
k56 v87_57 h58) v22_53) (fun g59 v23_60 h61 =>
pgk true h61 (fun g62 k63 => pld h61 (some 2) (fun v88_64 h65 =>
k63 v88_64 h65) (.ptr 68 0)) (fun g66 v24_67 h68 =>
pgk true h68 (fun g69 k70 => pcal Try.prog 52 89 h68 (fun v89_71 h72 =>
k70 v89_71 h72) [v23_60, v24_67]) (fun g73 v25_74 h75 =>
pgk true h75 (fun g76 k77 => VL (lift2 (abin .geq) v25_74 (.int .i64 0)) fun v90_78 =>
k77 v90_78 h75) (fun g79 v26_80 h81 =>
pgk false h81 (fun g82 k83 => VL (vpick g79 v26_80 (.bool false)) fun v91_84 =>
k83 v91_84 h81) (fun g85 v27_86 h87 =>
VL (vpick g85 (.bool true) v27_86) fun v92_88 =>
pcond (
Rt h87 (.bool false)) (
VL (lift2 (abin .add) (w1.getD 0 .und) (.int .i64 1)) fun v93_89 =>
N4 [v93_89] [(l2.getD 0 .und), (l2.getD 1 .und), (l2.getD 2 .und)] h87) v92_88) g30) g73) g66) g59) g52) g46) g40) g35) v18_31) g25) g19) v78_16) [v76_12]) (.ptr 68 0)) (.ptr 68 0)) v74_6) (
VL (vlenS (l2.getD 0 .und)) fun v95_90 =>
VL (lift2 (abin .leq) v95_90 (.int .i64 12)) fun v96_91 =>
Rt h3 v96_91) v72_5) [(.int .i64 0)] [x0, x0, v70_0] hi
theorem impl_IsSet_f {x0 : V} : Prt Try.prog 29 [x0] (impl_IsSet_F x0) := pfun (fn := Try.f29) (m := [.s, .s, .s, .l [7] [0, 5, 6], .s, .s, .s, .s, .s, .s, .s]) (c := 1 ≤ 33) rfl (fun h0 Rt => by kernel_rfl) (by decide)

def spec_IsSet_F (x0 : V) (hi : Hp) (Rt : Hp → V → Prop) : Prop :=
pcal Try.prog 67 68 hi (fun v68_0 h1 =>
Rt h1 v68_0) [x0]
theorem spec_IsSet_f {x0 : V} : Prt Try.prog 30 [x0] (spec_IsSet_F x0) := pfun (fn := Try.f30) (m := [.s, .s]) (c := 1 ≤ 5) rfl (fun h0 Rt => by kernel_rfl) (by decide)

def spec_DrawNextMove_F (x0 : V) (hi : Hp) (Rt : Hp → V → Prop) : Prop :=
pcal Try.prog 44 68 hi (fun v68_0 h1 =>
pcal Try.prog 65 69 h1 (fun v69_2 h3 =>
Rt h3 v69_2) [v68_0]) [x0]
theorem spec_DrawNextMove_f {x0 : V} : Prt Try.prog 31 [x0] (spec_DrawNextMove_F x0) := pfun (fn := Try.f31) (m := [.s, .s]) (c := 1 ≤ 6) rfl (fun h0 Rt => by kernel_rfl) (by decide)

def impl_NextMove_F (x0 : V) (hi : Hp) (Rt : Hp → V → Prop) : Prop :=
palloc hi 66 36 [(.int .i64 0), (.int .i64 0), (.int .i64 0)] fun h0 =>
pcal Try.prog 29 69 h0 (fun v69_1 h2 =>
VL (lift1 (aun .not) v69_1) fun v70_3 =>
pcond (
VL (vbld (vfill [(.int .i64 0), (.int .i64 0), (.int .i64 0)] [])) fun v71_4 =>
pst h2 3 (cellsV v71_4) (fun u5 h6 =>
VL (pcellV h6 (some 3) (.ptr 66 0)) fun r7 =>
Rt h6 (.tup [r7, (.int .i64 1)])) (.ptr 66 0)) (
pcal Try.prog 69 73 h2 (fun v73_8 h9 =>
VL (vext 0 v73_8) fun v74_10 =>
VL (vext 1 v73_8) fun v75_11 =>
pst h9 3 (cellsV v74_10) (fun u12 h13 =>
VL (pcellV h13 (some 3) (.ptr 66 0)) fun r14 =>
Rt h13 (.tup [r14, v75_11])) (.ptr 66 0)) [x0]) v70_3) [x0]
theorem impl_NextMove_f {x0 : V} : Prt Try.prog 32 [x0] (impl_NextMove_F x0) := pfun (fn := Try.f32) (m := [.s, .s, .s, .s, .s]) (c := 1 ≤ 12) rfl (fun h0 Rt => by kernel_rfl) (by decide)

def spec_NextMove_F (x0 : V) (hi : Hp) (Rt : Hp → V → Prop) : Prop :=
palloc hi 66 36 [(.int .i64 0), (.int .i64 0), (.int .i64 0)] fun h0 =>
pcal Try.prog 67 72 h0 (fun v72_1 h2 =>
VL (lift1 (aun .not) v72_1) fun v73_3 =>
pcond (
VL (vbld (vfill [(.int .i64 0), (.int .i64 0), (.int .i64 0)] [])) fun v74_4 =>
pst h2 3 (cellsV v74_4) (fun u5 h6 =>
VL (pcellV h6 (some 3) (.ptr 66 0)) fun r7 =>
Rt h6 (.tup [r7, (.int .i64 1)])) (.ptr 66 0)) (
pcal Try.prog 70 77 h2 (fun v77_8 h9 =>
VL (vext 0 v77_8) fun v78_10 =>
VL (vext 1 v77_8) fun v79_11 =>
VL (vext 2 v77_8) fun v80_12 =>
palloc h9 68 36 [(.int .i64 0), (.int .i64 0), (.int .i64 0)] fun h13 =>
pst h13 3 (cellsV v78_10) (fun u14 h15 =>
pcond (
VL (vbld (vfill [(.int .i64 0), (.int .i64 0), (.int .i64 0)] [])) fun v83_16 =>
pst h15 3 (cellsV v83_16) (fun u17 h18 =>
VL (pcellV h18 (some 3) (.ptr 66 0)) fun r19 =>
Rt h18 (.tup [r19, (.int .i64 5)])) (.ptr 66 0)) (
VL (lift1 (aun .not) v79_11) fun v86_20 =>
pcond (
VL (vbld (vfill [(.int .i64 0), (.int .i64 0), (.int .i64 0)] [])) fun v87_21 =>
pst h15 3 (cellsV v87_21) (fun u22 h23 =>
VL (pcellV h23 (some 3) (.ptr 66 0)) fun r24 =>
Rt h23 (.tup [r24, (.int .i64 3)])) (.ptr 66 0)) (
pld h15 (some 3) (fun v88_25 h26 =>
pst h26 3 (cellsV v88_25) (fun u27 h28 =>
VL (pcellV h28 (some 3) (.ptr 66 0)) fun r29 =>
Rt h28 (.tup [r29, (.int .i64 0)])) (.ptr 66 0)) (.ptr 68 0)) v86_20) v80_12) (.ptr 68 0)) [x0]) v73_3) [x0]
theorem spec_NextMove_f {x0 : V} : Prt Try.prog 33 [x0] (spec_NextMove_F x0) := pfun (fn := Try.f33) (m := [.s, .s, .s, .s, .s, .s, .s, .s, .s, .s, .s]) (c := 1 ≤ 25) rfl (fun h0 Rt => by kernel_rfl) (by decide)

def spec_DrawChainOfSet_F (x0 : V) (hi : Hp) (Rt : Hp → V → Prop) : Prop :=
pcal Try.prog 44 68 hi (fun v68_0 h1 =>
pcal Try.prog 65 69 h1 (fun v69_2 h3 =>
Rt h3 v69_2) [v68_0]) [x0]
theorem spec_DrawChainOfSet_f {x0 : V} : Prt Try.prog 34 [x0] (spec_DrawChainOfSet_F x0) := pfun (fn := Try.f34) (m := [.s, .s]) (c := 1 ≤ 6) rfl (fun h0 Rt => by kernel_rfl) (by decide)

def impl_ChainOfSet_F (x0 : V) (hi : Hp) (Rt : Hp → V → Prop) : Prop :=
pcal Try.prog 29 74 hi (fun v74_0 h1 =>
VL (lift1 (aun .not) v74_0) fun v75_2 =>
pcond (
Rt h1 (.tup [.nils, (.int .i64 1)])) (
pmks h1 76 36 0 0 (fun h3 =>
LP [0, 4] [] (fun w4 l5 h6 N7 =>
pcal Try.prog 69 79 h6 (fun v79_8 h9 =>
VL (vext 0 v79_8) fun v80_10 =>
VL (vext 1 v79_8) fun v81_11 =>
palloc h9 69 36 [(.int .i64 0), (.int .i64 0), (.int .i64 0)] fun h12 =>
pst h12 3 (cellsV v80_10) (fun u13 h14 =>
VL (lift2 (abin .eql) v81_11 (.int .i64 5)) fun v83_15 =>
pcond (
Rt h14 (.tup [(w4.getD 1 .und), (.int .i64 0)])) (
VL (lift2 (abin .neq) v81_11 (.int .i64 0)) fun v86_16 =>
pgk false h14 (fun g17 k18 => k18 (w4.getD 1 .und) h14) (fun g19 v24_20 h21 =>
pgk false h21 (fun g22 k23 => VL (vlenS v24_20) fun v89_24 =>
k23 v89_24 h21) (fun g25 v25_26 h27 =>
pgk false h27 (fun g28 k29 => VL (lift2 (abin .eql) v25_26 (.int .i64 20)) fun v90_30 =>
k29 v90_30 h27) (fun g31 v26_32 h33 =>
VL (vpick g31 (.bool true) v26_32) fun v91_34 =>
pcond (
Rt h33 (.tup [.nils, (.int .i64 3)])) (
pld h33 (some 3) (fun v93_35 h36 =>
pmks h36 94 36 3 1 (fun h37 =>
papp h37 (fun m40 s41 => papV 36 3 24 95 h37 (fun v95_38 h39 =>
pld h39 (some 3) (fun v97_42 h43 =>
pcal Try.prog 66 99 h43 (fun v99_44 h45 =>
VL (vext 0 v99_44) fun v100_46 =>
VL (vext 1 v99_44) fun v101_47 =>
VL (lift2 (abin .neq) v101_47 (.int .i64 0)) fun v103_48 =>
pcond (
Rt h45 (.tup [.nils, v101_47])) (
N7 [v100_46, v95_38] [] h45) v103_48) [v97_42, (w4.getD 0 .und)]) (.ptr 69 0)) m40 s41 (w4.getD 1 .und)) (pavs h37 (w4.getD 1 .und) []) (preadS 3 h37 (.rf 94 0 1))) (vfill [(.int .i64 0), (.int .i64 0), (.int .i64 0)] [(0, 3, v93_35)])) (.ptr 69 0)) v91_34) g25) g19) v86_16) v83_15) (.ptr 69 0)) [(w4.getD 0 .und)]) [x0, (.rf 76 0 0)] [] h3) (vfill [] [])) v75_2) [x0]
theorem impl_ChainOfSet_f {x0 : V} : Prt Try.prog 35 [x0] (impl_ChainOfSet_F x0) := pfun (fn := Try.f35) (m := [.s, .s, .s, .s, .s, .l [0, 4] [], .s, .s, .s, .s, .s, .s, .s, .s, .s, .s, .s, .s]) (c := 1 ≤ 42) rfl (fun h0 Rt => by kernel_rfl) (by decide)

def spec_ChainOfSet_F (x0 : V) (hi : Hp) (Rt : Hp → V → Prop) : Prop :=
pcal Try.prog 67 71 hi (fun v71_0 h1 =>
VL (lift1 (aun .not) v71_0) fun v72_2 =>
pcond (
Rt h1 (.tup [.nils, (.int .i64 1)])) (
pcal Try.prog 71 75 h1 (fun v75_3 h4 =>
VL (vext 0 v75_3) fun v76_5 =>
VL (vext 1 v75_3) fun v77_6 =>
VL (lift1 (aun .not) v77_6) fun v79_7 =>
pcond (
Rt h4 (.tup [.nils, (.int .i64 3)])) (
Rt h4 (.tup [v76_5, (.int .i64 0)])) v79_7) [x0]) v72_2) [x0]
theorem spec_ChainOfSet_f {x0 : V} : Prt Try.prog 36 [x0] (spec_ChainOfSet_F x0) := pfun (fn := Try.f36) (m := [.s, .s, .s, .s, .s, .s, .s, .s, .s]) (c := 1 ≤ 17) rfl (fun h0 Rt => by kernel_rfl) (by decide)

def laws_moves9_F (x0 x1 : V) (hi : Hp) (Rt : Hp → V → Prop) : Prop :=
VL (vlenS x0) fun v71_0 =>
VL (vlenS x1) fun v73_1 =>
VL (lift2 (abin .neq) v71_0 v73_1) fun v74_2 =>
pcond (
Rt hi (.bool false)) (
LP [5] [0, 1] (fun w3 l4 h5 N6 =>
VL (vlenS (l4.getD 0 .und)) fun v77_7 =>
VL (lift2 (abin .lss) (w3.getD 0 .und) v77_7) fun v78_8 =>
pcond (
VL (vixS 3 (l4.getD 0 .und) (w3.getD 0 .und)) fun v83_9 =>
pld h5 (some 3) (fun v84_10 h11 =>
VL (vixS 3 (l4.getD 1 .und) (w3.getD 0 .und)) fun v87_12 =>
pld h11 (some 3) (fun v88_13 h14 =>
VL (veqa true true [(.i .i64), (.i .i64), (.i .i64)] v84_10 v88_13) fun v89_15 =>
pcond (
Rt h14 (.bool false)) (
VL (lift2 (abin .add) (w3.getD 0 .und) (.int .i64 1)) fun v80_16 =>
N6 [v80_16] [(l4.getD 0 .und), (l4.getD 1 .und)] h14) v89_15) v87_12) v83_9) (
Rt h5 (.bool true)) v78_8) [(.int .i64 0)] [x0, x1] hi) v74_2
theorem laws_moves9_f {x0 x1 : V} : Prt Try.prog 37 [x0, x1] (laws_moves9_F x0 x1) := pfun (fn := Try.f37) (m := [.s, .s, .s, .s, .s, .s, .l [5] [0, 1], .s, .s, .s, .s, .s, .s]) (c := 2 ≤ 26) rfl (fun h0 Rt => by kernel_rfl) (by decide)

def spec_DrawDegreeOfMoves_F (x0 : V) (hi : Hp) (Rt : Hp → V → Prop) : Prop :=
pcal Try.prog 44 68 hi (fun v68_0 h1 =>
pcal Try.prog 72 69 h1 (fun v69_2 h3 =>
Rt h3 v69_2) [v68_0]) [x0]
theorem spec_DrawDegreeOfMoves_f {x0 : V} : Prt Try.prog 38 [x0] (spec_DrawDegreeOfMoves_F x0) := pfun (fn := Try.f38) (m := [.s, .s]) (c := 1 ≤ 6) rfl (fun h0 Rt => by kernel_rfl) (by decide)

def impl_DegreeOfMoves_F (x0 : V) (hi : Hp) (Rt : Hp → V → Prop) : Prop :=
pcal Try.prog 73 73 hi (fun v73_0 h1 =>
VL (lift2 (abin .neq) v73_0 (.int .i64 0)) fun v75_2 =>
pcond (
Rt h1 (.tup [(.int .i64 0), v73_0])) (
VL (vlenS x0) fun v78_3 =>
LP [5, 15] [13, 14] (fun w4 l5 h6 N7 =>
VL (lift2 (abin .lss) (w4.getD 1 .und) (l5.getD 1 .und)) fun v80_8 =>
pcond (
VL (vixS 3 (l5.getD 0 .und) (w4.getD 1 .und)) fun v81_9 =>
pld h6 (some 3) (fun v82_10 h11 =>
palloc h11 71 36 [(.int .i64 0), (.int .i64 0), (.int .i64 0)] fun h12 =>
pst h12 3 (cellsV v82_10) (fun u13 h14 =>
pld h14 (some 3) (fun v84_15 h16 =>
pcal Try.prog 58 85 h16 (fun v85_17 h18 =>
VL (lift2 (abin .mul) (w4.getD 0 .und) v85_17) fun v86_19 =>
VL (lift2 (abin .gtr) v86_19 (.int .i64 1000000000)) fun v88_20 =>
pcond (
Rt h18 (.tup [(.int .i64 0), (.int .i64 3)])) (
VL (lift2 (abin .add) (w4.getD 1 .und) (.int .i64 1)) fun v89_21 =>
N7 [v86_19, v89_21] [(l5.getD 0 .und), (l5.getD 1 .und)] h18) v88_20) [v84_15]) (.ptr 71 0)) (.ptr 71 0)) v81_9) (
Rt h6 (.tup [(w4.getD 0 .und), (.int .i64 0)])) v80_8) [(.int .i64 1), (.int .i64 0)] [x0, v78_3] h1) v75_2) [x0]
theorem impl_DegreeOfMoves_f {x0 : V} : Prt Try.prog 39 [x0] (impl_DegreeOfMoves_F x0) := pfun (fn := Try.f39) (m := [.s, .s, .s, .s, .s, .s, .s, .s, .l [5, 15] [13, 14], .s, .s, .s, .s, .s, .s, .s, .s]) (c := 1 ≤ 27) rfl (fun h0 Rt => by kernel_rfl) (by decide)

def spec_DegreeOfMoves_F (x0 : V) (hi : Hp) (Rt : Hp → V → Prop) : Prop :=
pcal Try.prog 74 72 hi (fun v72_0 h1 =>
VL (lift2 (abin .neq) v72_0 (.int .i64 0)) fun v74_2 =>
pcond (
Rt h1 (.tup [(.int .i64 0), v72_0])) (
LP [5, 6] [0] (fun w3 l4 h5 N6 =>
VL (vlenS (l4.getD 0 .und)) fun v78_7 =>
VL (lift2 (abin .lss) (w3.getD 1 .und) v78_7) fun v79_8 =>
pcond (
VL (vixS 3 (l4.getD 0 .und) (w3.getD 1 .und)) fun v85_9 =>
pld h5 (some 3) (fun v86_10 h11 =>
pcal Try.prog 61 87 h11 (fun v87_12 h13 =>
VL (lift2 (abin .mul) (w3.getD 0 .und) v87_12) fun v88_14 =>
VL (lift2 (abin .gtr) v88_14 (.int .i64 1000000000)) fun v90_15 =>
pcond (
Rt h13 (.tup [(.int .i64 0), (.int .i64 3)])) (
VL (lift2 (abin .add) (w3.getD 1 .und) (.int .i64 1)) fun v81_16 =>
N6 [v88_14, v81_16] [(l4.getD 0 .und)] h13) v90_15) [v86_10]) v85_9) (
Rt h5 (.tup [(w3.getD 0 .und), (.int .i64 0)])) v79_8) [(.int .i64 1), (.int .i64 0)] [x0] h1) v74_2) [x0]
theorem spec_DegreeOfMoves_f {x0 : V} : Prt Try.prog 40 [x0] (spec_DegreeOfMoves_F x0) := pfun (fn := Try.f40) (m := [.s, .s, .s, .s, .s, .s, .s, .s, .l [5, 6] [0], .s, .s, .s, .s, .s, .s, .s]) (c := 1 ≤ 28) rfl (fun h0 Rt => by kernel_rfl) (by decide)

def spec_DrawRunMoves_F (x0 : V) (hi : Hp) (Rt : Hp → V → Prop) : Prop :=
palloc hi 67 27 [(.int .i64 0), (.int .i64 0)] fun h0 =>
pcal Try.prog 44 70 h0 (fun v70_1 h2 =>
pcal Try.prog 72 72 h2 (fun v72_3 h4 =>
pcal Try.prog 50 74 h4 (fun v74_5 h6 =>
pst h6 2 (cellsV v74_5) (fun u7 h8 =>
VL (pcellV h8 (some 2) (.ptr 67 0)) fun r9 =>
Rt h8 (.tup [v72_3, r9])) (.ptr 67 0)) [v70_1]) [v70_1]) [x0]
theorem spec_DrawRunMoves_f {x0 : V} : Prt Try.prog 41 [x0] (spec_DrawRunMoves_F x0) := pfun (fn := Try.f41) (m := [.s, .s, .s]) (c := 1 ≤ 11) rfl (fun h0 Rt => by kernel_rfl) (by decide)

def impl_RunMoves_F (x0 x1 : V) (hi : Hp) (Rt : Hp → V → Prop) : Prop :=
pbox hi 67 27 (cellsV x1) fun h0 =>
palloc h0 68 27 [(.int .i64 0), (.int .i64 0)] fun h1 =>
pld h1 (some 2) (fun v75_2 h3 =>
pcal Try.prog 10 76 h3 (fun v76_4 h5 =>
VL (lift1 (aun .not) v76_4) fun v77_6 =>
pcond (
VL (vbld (vfill [(.int .i64 0), (.int .i64 0)] [])) fun v78_7 =>
pst h5 2 (cellsV v78_7) (fun u8 h9 =>
VL (pcellV h9 (some 2) (.ptr 68 0)) fun r10 =>
Rt h9 (.tup [r10, (.int .i64 1)])) (.ptr 68 0)) (
pcal Try.prog 73 80 h5 (fun v80_11 h12 =>
VL (lift2 (abin .neq) v80_11 (.int .i64 0)) fun v82_13 =>
pcond (
VL (vbld (vfill [(.int .i64 0), (.int .i64 0)] [])) fun v83_14 =>
pst h12 2 (cellsV v83_14) (fun u15 h16 =>
VL (pcellV h16 (some 2) (.ptr 68 0)) fun r17 =>
Rt h16 (.tup [r17, v80_11])) (.ptr 68 0)) (
VL (vlenS x0) fun v86_18 =>
LP [23] [3, 4, 21, 22] (fun w19 l20 h21 N22 =>
VL (lift2 (abin .lss) (w19.getD 0 .und) (l20.getD 3 .und)) fun v88_23 =>
pcond (
VL (vixS 3 (l20.getD 2 .und) (w19.getD 0 .und)) fun v89_24 =>
pld h21 (some 3) (fun v90_25 h26 =>
palloc h26 72 36 [(.int .i64 0), (.int .i64 0), (.int .i64 0)] fun h27 =>
pst h27 3 (cellsV v90_25) (fun u28 h29 =>
pld h29 (some 3) (fun v92_30 h31 =>
pld h31 (some 2) (fun v93_32 h33 =>
pcal Try.prog 55 94 h33 (fun v94_34 h35 =>
VL (vext 0 v94_34) fun v95_36 =>
VL (vext 1 v94_34) fun v96_37 =>
palloc h35 73 27 [(.int .i64 0), (.int .i64 0)] fun h38 =>
pst h38 2 (cellsV v95_36) (fun u39 h40 =>
VL (lift2 (abin .neq) v96_37 (.int .i64 0)) fun v98_41 =>
pcond (
VL (vbld (vfill [(.int .i64 0), (.int .i64 0)] [])) fun v99_42 =>
pst h40 2 (cellsV v99_42) (fun u43 h44 =>
VL (pcellV h44 (some 2) (l20.getD 1 .und)) fun r45 =>
Rt h44 (.tup [r45, v96_37])) (l20.getD 1 .und)) (
pld h40 (some 2) (fun v101_46 h47 =>
pst h47 2 (cellsV v101_46) (fun u48 h49 =>
VL (lift2 (abin .add) (w19.getD 0 .und) (.int .i64 1)) fun v102_50 =>
N22 [v102_50] [(l20.getD 0 .und), (l20.getD 1 .und), (l20.getD 2 .und), (l20.getD 3 .und)] h49) (l20.getD 0 .und)) (.ptr 73 0)) v98_41) (.ptr 73 0)) [v92_30, v93_32]) (l20.getD 0 .und)) (.ptr 72 0)) (.ptr 72 0)) v89_24) (
pld h21 (some 2) (fun v103_51 h52 =>
pst h52 2 (cellsV v103_51) (fun u53 h54 =>
VL (pcellV h54 (some 2) (l20.getD 1 .und)) fun r55 =>
Rt h54 (.tup [r55, (.int .i64 0)])) (l20.getD 1 .und)) (l20.getD 0 .und)) v88_23) [(.int .i64 0)] [(.ptr 67 0), (.ptr 68 0), x0, v86_18] h12) v82_13) [x0]) v77_6) [v75_2]) (.ptr 67 0)
theorem impl_RunMoves_f {x0 x1 : V} : Prt Try.prog 42 [x0, x1] (impl_RunMoves_F x0 x1) := pfun (fn := Try.f42) (m := [.s, .s, .s, .s, .s, .s, .s, .s, .s, .s, .l [23] [3, 4, 21, 22], .s, .s, .s, .s, .s, .s, .s, .s, .s]) (c := 2 ≤ 40) rfl (fun h0 Rt => by kernel_rfl) (by decide)

def spec_RunMoves_F (x0 x1 : V) (hi : Hp) (Rt : Hp → V → Prop) : Prop :=
pbox hi 67 27 (cellsV x1) fun h0 =>
palloc h0 68 27 [(.int .i64 0), (.int .i64 0)] fun h1 =>
pld h1 (some 2) (fun v74_2 h3 =>
pcal Try.prog 51 75 h3 (fun v75_4 h5 =>
VL (lift1 (aun .not) v75_4) fun v76_6 =>
pcond (
VL (vbld (vfill [(.int .i64 0), (.int .i64 0)] [])) fun v77_7 =>
pst h5 2 (cellsV v77_7) (fun u8 h9 =>
VL (pcellV h9 (some 2) (.ptr 68 0)) fun r10 =>
Rt h9 (.tup [r10, (.int .i64 1)])) (.ptr 68 0)) (
pcal Try.prog 74 79 h5 (fun v79_11 h12 =>
VL (lift2 (abin .neq) v79_11 (.int .i64 0)) fun v81_13 =>
pcond (
VL (vbld (vfill [(.int .i64 0), (.int .i64 0)] [])) fun v82_14 =>
pst h12 2 (cellsV v82_14) (fun u15 h16 =>
VL (pcellV h16 (some 2) (.ptr 68 0)) fun r17 =>
Rt h16 (.tup [r17, v79_11])) (.ptr 68 0)) (
LP [7] [0, 3, 4] (fun w18 l19 h20 N21 =>
VL (vlenS (l19.getD 0 .und)) fun v86_22 =>
VL (lift2 (abin .lss) (w18.getD 0 .und) v86_22) fun v87_23 =>
pcond (
VL (vixS 3 (l19.getD 0 .und) (w18.getD 0 .und)) fun v93_24 =>
pld h20 (some 3) (fun v94_25 h26 =>
pld h26 (some 2) (fun v95_27 h28 =>
pcalp Try.prog 57 96 h28 (fun v96_29 h30 =>
VL (vext 0 v96_29) fun v97_31 =>
VL (vext 1 v96_29) fun v98_32 =>
palloc h30 72 27 [(.int .i64 0), (.int .i64 0)] fun h33 =>
pst h33 2 (cellsV v97_31) (fun u34 h35 =>
VL (lift1 (aun .not) v98_32) fun v100_36 =>
pcond (
VL (vbld (vfill [(.int .i64 0), (.int .i64 0)] [])) fun v101_37 =>
pst h35 2 (cellsV v101_37) (fun u38 h39 =>
VL (pcellV h39 (some 2) (l19.getD 2 .und)) fun r40 =>
Rt h39 (.tup [r40, (.int .i64 3)])) (l19.getD 2 .und)) (
pld h35 (some 2) (fun v102_41 h42 =>
pst h42 2 (cellsV v102_41) (fun u43 h44 =>
VL (lift2 (abin .add) (w18.getD 0 .und) (.int .i64 1)) fun v89_45 =>
N21 [v89_45] [(l19.getD 0 .und), (l19.getD 1 .und), (l19.getD 2 .und)] h44) (l19.getD 1 .und)) (.ptr 72 0)) v100_36) (.ptr 72 0)) [v94_25, v95_27]) (l19.getD 1 .und)) v93_24) (
pld h20 (some 2) (fun v103_46 h47 =>
pst h47 2 (cellsV v103_46) (fun u48 h49 =>
VL (pcellV h49 (some 2) (l19.getD 2 .und)) fun r50 =>
Rt h49 (.tup [r50, (.int .i64 0)])) (l19.getD 2 .und)) (l19.getD 1 .und)) v87_23) [(.int .i64 0)] [x0, (.ptr 67 0), (.ptr 68 0)] h12) v81_13) [x0]) v76_6) [v74_2]) (.ptr 67 0)
theorem spec_RunMoves_f {x0 x1 : V} : Prt Try.prog 43 [x0, x1] (spec_RunMoves_F x0 x1) := pfun (fn := Try.f43) (m := [.s, .s, .s, .s, .s, .s, .s, .s, .s, .s, .l [7] [0, 3, 4], .s, .s, .s, .s, .s, .s, .s, .s]) (c := 2 ≤ 40) rfl (fun h0 Rt => by kernel_rfl) (by decide)

def spec_l01From_F (x0 : V) (hi : Hp) (Rt : Hp → V → Prop) : Prop :=
VL (vlenS x0) fun v71_0 =>
VL (lift1 (acvi .u64) v71_0) fun v72_1 =>
VL (lift2 (abin .add) (.int .u64 8117) v72_1) fun v73_2 =>
VL (vbld (vfill [.nils, (.int .i64 0), (.int .u64 0)] [(0, 1, x0), (2, 1, v73_2)])) fun v74_3 =>
pbox hi 75 97 (cellsV v74_3) fun h4 =>
LP [4] [0, 3] (fun w5 l6 h7 N8 =>
VL (vlenS (l6.getD 0 .und)) fun v78_9 =>
VL (lift2 (abin .lss) (w5.getD 0 .und) v78_9) fun v79_10 =>
pgk true h7 (fun g11 k12 => k12 (w5.getD 0 .und) h7) (fun g13 v17_14 h15 =>
pgk true h15 (fun g16 k17 => VL (lift2 (abin .lss) v17_14 (.int .i64 4096)) fun v82_18 =>
k17 v82_18 h15) (fun g19 v18_20 h21 =>
VL (vpick g19 v18_20 (.bool false)) fun v83_22 =>
pcond (
VL (vfa 0 (l6.getD 1 .und)) fun v88_23 =>
VL (vfa 2 v88_23) fun v89_24 =>
pld h21 none (fun v90_25 h26 =>
VL (lift2 (abin .mul) v90_25 (.int .u64 1099511628211)) fun v91_27 =>
VL (vixS 1 (l6.getD 0 .und) (w5.getD 0 .und)) fun v94_28 =>
pld h26 none (fun v95_29 h30 =>
VL (lift1 (acvi .u64) v95_29) fun v96_31 =>
VL (lift2 (abin .add) v91_27 v96_31) fun v97_32 =>
VL (lift2 (abin .add) v97_32 (.int .u64 23)) fun v98_33 =>
VL (vfa 0 (l6.getD 1 .und)) fun v99_34 =>
VL (vfa 2 v99_34) fun v100_35 =>
pst h30 1 (cellsV v98_33) (fun u36 h37 =>
VL (lift2 (abin .add) (w5.getD 0 .und) (.int .i64 1)) fun v85_38 =>
N8 [v85_38] [(l6.getD 0 .und), (l6.getD 1 .und)] h37) v100_35) v94_28) v89_24) (
Rt h21 (l6.getD 1 .und)) v83_22) g13) v79_10) [(.int .i64 0)] [x0, (.ptr 75 0)] h4
theorem spec_l01From_f {x0 : V} : Prt Try.prog 44 [x0] (spec_l01From_F x0) := pfun (fn := Try.f44) (m := [.s, .s, .s, .s, .l [4] [0, 3], .s, .s, .s, .s]) (c := 1 ≤ 38) rfl (fun h0 Rt => by kernel_rfl) (by decide)

def spec_l01Next_F (x0 x1 : V) (hi : Hp) (Rt : Hp → V → Prop) : Prop :=
VL (lift2 (abin .lss) x1 (.int .i64 1)) fun v71_0 =>
pcond (
Rt hi (.int .i64 0)) (
VL (vfa 0 x0) fun v74_1 =>
VL (vfa 2 v74_1) fun v75_2 =>
pld hi none (fun v76_3 h4 =>
VL (lift2 (abin .mul) v76_3 (.int .u64 6364136223846793005)) fun v77_5 =>
VL (lift2 (abin .add) v77_5 (.int .u64 1442695040888963407)) fun v78_6 =>
VL (vfa 0 x0) fun v79_7 =>
VL (vfa 2 v79_7) fun v80_8 =>
pst h4 1 (cellsV v78_6) (fun u9 h10 =>
VL (vfa 0 x0) fun v82_11 =>
VL (vfa 2 v82_11) fun v83_12 =>
pld h10 none (fun v84_13 h14 =>
VL (lift2 (abin .shr) v84_13 (.int .u64 33)) fun v85_15 =>
VL (lift2 (abin .and) v85_15 (.int .u64 16777215)) fun v86_16 =>
VL (lift1 (acvi .i64) v86_16) fun v87_17 =>
JN (fun k18 =>
VL (vfa 0 x0) fun v89_21 =>
VL (vfa 1 v89_21) fun v90_22 =>
pld h14 none (fun v91_23 h24 =>
VL (vfa 0 x0) fun v93_25 =>
VL (vfa 0 v93_25) fun v94_26 =>
pld h24 none (fun v95_27 h28 =>
VL (vlenS v95_27) fun v96_29 =>
VL (lift2 (abin .lss) v91_23 v96_29) fun v97_30 =>
pcond (
VL (vfa 0 x0) fun v100_31 =>
VL (vfa 0 v100_31) fun v101_32 =>
pld h28 none (fun v102_33 h34 =>
VL (vfa 0 x0) fun v104_35 =>
VL (vfa 1 v104_35) fun v105_36 =>
pld h34 none (fun v106_37 h38 =>
VL (vixS 1 v102_33 v106_37) fun v107_39 =>
pld h38 none (fun v108_40 h41 =>
VL (lift1 (acvi .i64) v108_40) fun v109_42 =>
VL (lift2 (abin .add) v87_17 v109_42) fun v110_43 =>
VL (vfa 0 x0) fun v113_44 =>
VL (vfa 1 v113_44) fun v114_45 =>
pld h41 none (fun v115_46 h47 =>
VL (lift2 (abin .add) v115_46 (.int .i64 1)) fun v116_48 =>
VL (vfa 0 x0) fun v117_49 =>
VL (vfa 1 v117_49) fun v118_50 =>
pst h47 1 (cellsV v116_48) (fun u51 h52 =>
k18 [x1, v110_43] h52) v118_50) v114_45) v107_39) v105_36) v101_32) (
k18 [x1, v87_17] h28) v97_30) v94_26) v90_22) fun o19 h20 =>
VL (lift2 (abin .rem) (o19.getD 1 .und) (o19.getD 0 .und)) fun v121_53 =>
Rt h20 v121_53) v83_12) v80_8) v75_2) v71_0
theorem spec_l01Next_f {x0 x1 : V} : Prt Try.prog 45 [x0, x1] (spec_l01Next_F x0 x1) := pfun (fn := Try.f45) (m := [.s, .s, .s, .s, .s, .s, .j [1, 5], .s, .s, .s]) (c := 2 ≤ 58) rfl (fun h0 Rt => by kernel_rfl) (by decide)

def spec_l01Pick_F (x0 x1 : V) (hi : Hp) (Rt : Hp → V → Prop) : Prop :=
VL (vlenS x1) fun v72_0 =>
pcal Try.prog 45 73 hi (fun v73_1 h2 =>
VL (vixS 1 x1 v73_1) fun v74_3 =>
pld h2 none (fun v75_4 h5 =>
Rt h5 v75_4) v74_3) [x0, v72_0]
theorem spec_l01Pick_f {x0 x1 : V} : Prt Try.prog 46 [x0, x1] (spec_l01Pick_F x0 x1) := pfun (fn := Try.f46) (m := [.s, .s]) (c := 2 ≤ 12) rfl (fun h0 Rt => by kernel_rfl) (by decide)

def impl_gcd_F (x0 x1 : V) (hi : Hp) (Rt : Hp → V → Prop) : Prop :=
LP [0, 1] [] (fun w0 l1 h2 N3 =>
VL (lift2 (abin .neq) (w0.getD 1 .und) (.int .i64 0)) fun v70_4 =>
pcond (
VL (lift2 (abin .rem) (w0.getD 0 .und) (w0.getD 1 .und)) fun v74_5 =>
N3 [(w0.getD 1 .und), v74_5] [] h2) (
VL (lift1 (aun .neg) (w0.getD 0 .und)) fun v77_6 =>
VL (lift2 amax (w0.getD 0 .und) v77_6) fun v78_7 =>
Rt h2 v78_7) v70_4) [x0, x1] [] hi
theorem impl_gcd_f {x0 x1 : V} : Prt Try.prog 47 [x0, x1] (impl_gcd_F x0 x1) := pfun (fn := Try.f47) (m := [.s, .s, .l [0, 1] [], .s, .s, .s]) (c := 2 ≤ 15) rfl (fun h0 Rt => by kernel_rfl) (by decide)

def spec_l01In_F (x0 x1 x2 : V) (hi : Hp) (Rt : Hp → V → Prop) : Prop :=
VL (lift2 (abin .geq) x0 x1) fun v73_0 =>
pgk true hi (fun g1 k2 => k2 x0 hi) (fun g3 v11_4 h5 =>
pgk true h5 (fun g6 k7 => k7 x2 h5) (fun g8 v12_9 h10 =>
pgk true h10 (fun g11 k12 => VL (lift2 (abin .leq) v11_4 v12_9) fun v77_13 =>
k12 v77_13 h10) (fun g14 v13_15 h16 =>
VL (vpick g14 v13_15 (.bool false)) fun v78_17 =>
Rt h16 v78_17) g8) g3) v73_0
theorem spec_l01In_f {x0 x1 x2 : V} : Prt Try.prog 48 [x0, x1, x2] (spec_l01In_F x0 x1 x2) := pfun (fn := Try.f48) (m := [.s, .s]) (c := 3 ≤ 15) rfl (fun h0 Rt => by kernel_rfl) (by decide)

def spec_l10Make_F (x0 x1 : V) (hi : Hp) (Rt : Hp → V → Prop) : Prop :=
palloc hi 68 27 [(.int .i64 0), (.int .i64 0)] fun h0 =>
pcal Try.prog 75 74 h0 (fun v74_1 h2 =>
JN (fun k3 =>
VL (lift2 (abin .lss) x1 (.int .i64 0)) fun v76_6 =>
pgk false h2 (fun g7 k8 => k8 x1 h2) (fun g9 v14_10 h11 =>
pgk false h11 (fun g12 k13 => VL (lift2 (abin .eql) v14_10 (.int .i64 0)) fun v79_14 =>
k13 v79_14 h11) (fun g15 v15_16 h17 =>
pgk false h17 (fun g18 k19 => k19 v15_16 h17) (fun g20 v16_21 h22 =>
pgk true h22 (fun g23 k24 => k24 x0 h22) (fun g25 v17_26 h27 =>
pgk true h27 (fun g28 k29 => VL (lift2 (abin .lss) v17_26 (.int .i64 0)) fun v82_30 =>
k29 v82_30 h27) (fun g31 v18_32 h33 =>
pgk false h33 (fun g34 k35 => VL (vpick g31 v18_32 (.bool false)) fun v83_36 =>
k35 v83_36 h33) (fun g37 v19_38 h39 =>
VL (vpick g37 (.bool true) v19_38) fun v84_40 =>
pcond (
VL (lift1 (aun .neg) v74_1) fun v86_41 =>
k3 [x0, x1, (.ptr 68 0), v86_41] h39) (
k3 [x0, x1, (.ptr 68 0), v74_1] h39) v84_40) g20) g25) v16_21) g15) g9) v76_6) fun o4 h5 =>
VL (lift2 (abin .quo) (o4.getD 0 .und) (o4.getD 3 .und)) fun v89_42 =>
VL (lift2 (abin .quo) (o4.getD 1 .und) (o4.getD 3 .und)) fun v92_43 =>
VL (vbld (vfill [(.int .i64 0), (.int .i64 0)] [(0, 1, v89_42), (1, 1, v92_43)])) fun v93_44 =>
palloc h5 71 27 [(.int .i64 0), (.int .i64 0)] fun h45 =>
pst h45 2 (cellsV v93_44) (fun u46 h47 =>
pld h47 (some 2) (fun v94_48 h49 =>
pld h49 (some 2) (fun v95_50 h51 =>
pcalp Try.prog 51 96 h51 (fun v96_52 h53 =>
pst h53 2 (cellsV v94_48) (fun u54 h55 =>
VL (pcellV h55 (some 2) (o4.getD 2 .und)) fun r56 =>
Rt h55 (.tup [r56, v96_52])) (o4.getD 2 .und)) [v95_50]) (.ptr 71 0)) (.ptr 71 0)) (.ptr 71 0)) [x0, x1]
theorem spec_l10Make_f {x0 x1 : V} : Prt Try.prog 49 [x0, x1] (spec_l10Make_F x0 x1) := pfun (fn := Try.f49) (m := [.s, .s, .j [0, 1, 4, 6], .s, .s, .s]) (c := 2 ≤ 33) rfl (fun h0 Rt => by kernel_rfl) (by decide)

def spec_l10Draw_F (x0 : V) (hi : Hp) (Rt : Hp → V → Prop) : Prop :=
palloc hi 66 27 [(.int .i64 0), (.int .i64 0)] fun h0 =>
pcal Try.prog 45 73 h0 (fun v73_1 h2 =>
pcal Try.prog 45 75 h2 (fun v75_3 h4 =>
VL (lift2 (abin .sub) v75_3 (.int .i64 10)) fun v76_5 =>
pcal Try.prog 45 78 h4 (fun v78_6 h7 =>
pmks h7 79 2 5 5 (fun h8 =>
pcal Try.prog 46 80 h8 (fun v80_9 h10 =>
pcal Try.prog 45 83 h10 (fun v83_11 h12 =>
VL (lift2 (abin .add) (.int .i64 1) v83_11) fun v84_13 =>
pcal Try.prog 45 86 h12 (fun v86_14 h15 =>
VL (lift2 (abin .add) (.int .i64 1) v86_14) fun v87_16 =>
pmks h15 88 2 4 4 (fun h17 =>
pcal Try.prog 46 89 h17 (fun v89_18 h19 =>
pcal Try.prog 45 91 h19 (fun v91_20 h21 =>
VL (lift2 (abin .eql) v91_20 (.int .i64 0)) fun v92_22 =>
pcond (
VL (vbld (vfill [(.int .i64 0), (.int .i64 0)] [(0, 1, (.int .i64 1))])) fun v93_23 =>
pst h21 2 (cellsV v93_23) (fun u24 h25 =>
VL (pcellV h25 (some 2) (.ptr 66 0)) fun r26 =>
Rt h25 r26) (.ptr 66 0)) (
pcal Try.prog 49 97 h21 (fun v97_27 h28 =>
VL (vext 0 v97_27) fun v98_29 =>
VL (vext 1 v97_27) fun v99_30 =>
palloc h28 69 27 [(.int .i64 0), (.int .i64 0)] fun h31 =>
pst h31 2 (cellsV v98_29) (fun u32 h33 =>
JN (fun k34 =>
pcal Try.prog 45 101 h33 (fun v101_37 h38 =>
VL (lift2 (abin .eql) v101_37 (.int .i64 0)) fun v103_39 =>
pcond (
pld h38 none (fun v105_40 h41 =>
VL (lift1 (aun .neg) v105_40) fun v106_42 =>
pst h41 1 (cellsV v106_42) (fun u43 h44 =>
k34 [(.ptr 66 0), (.ptr 69 0)] h44) (.ptr 69 1)) (.ptr 69 1)) (
VL (lift2 (abin .eql) v101_37 (.int .i64 1)) fun v109_45 =>
pcond (
pld h38 none (fun v111_46 h47 =>
VL (lift2 (abin .mul) v111_46 (.int .i64 2)) fun v112_48 =>
pst h47 1 (cellsV v112_48) (fun u49 h50 =>
pld h50 none (fun v115_51 h52 =>
VL (lift2 (abin .mul) v115_51 (.int .i64 2)) fun v116_53 =>
pst h52 1 (cellsV v116_53) (fun u54 h55 =>
k34 [(.ptr 66 0), (.ptr 69 0)] h55) (.ptr 69 1)) (.ptr 69 1)) (.ptr 69 0)) (.ptr 69 0)) (
VL (lift2 (abin .eql) v101_37 (.int .i64 2)) fun v119_56 =>
pcond (
pcal Try.prog 45 121 h38 (fun v121_57 h58 =>
VL (lift2 (abin .sub) (.int .i64 1000000000) v121_57) fun v122_59 =>
VL (lift2 (abin .add) v122_59 (.int .i64 1)) fun v123_60 =>
pst h58 1 (cellsV v123_60) (fun u61 h62 =>
k34 [(.ptr 66 0), (.ptr 69 0)] h62) (.ptr 69 0)) [x0, (.int .i64 3)]) (
k34 [(.ptr 66 0), (.ptr 69 0)] h38) v119_56) v109_45) v103_39) [x0, (.int .i64 50)]) fun o35 h36 =>
pld h36 (some 2) (fun v125_63 h64 =>
pst h64 2 (cellsV v125_63) (fun u65 h66 =>
VL (pcellV h66 (some 2) (o35.getD 0 .und)) fun r67 =>
Rt h66 r67) (o35.getD 0 .und)) (o35.getD 1 .und)) (.ptr 69 0)) [v80_9, v89_18]) v92_22) [x0, (.int .i64 12)]) [x0, (.rf 88 0 4)]) (vfill (vi .i64 (List.replicate 4 0)) [(0, 1, (.int .i64 1)), (1, 1, (.int .i64 2)), (2, 1, v84_13), (3, 1, v87_16)])) [x0, (.int .i64 12)]) [x0, (.int .i64 6)]) [x0, (.rf 79 0 5)]) (vfill (vi .i64 (List.replicate 5 0)) [(0, 1, (.int .i64 0)), (1, 1, (.int .i64 1)), (2, 1, v73_1), (3, 1, v76_5), (4, 1, v78_6)])) [x0, (.int .i64 12)]) [x0, (.int .i64 30)]) [x0, (.int .i64 8)]
theorem spec_l10Draw_f {x0 : V} : Prt Try.prog 50 [x0] (spec_l10Draw_F x0) := pfun (fn := Try.f50) (m := [.s, .s, .s, .s, .s, .s, .j [2, 5], .s, .s, .s, .s, .s, .s]) (c := 1 ≤ 62) rfl (fun h0 Rt => by kernel_rfl) (by decide)

def spec_l10Is_F (x0 : V) (hi : Hp) (Rt : Hp → V → Prop) : Prop :=
pbox hi 65 27 (cellsV x0) fun h0 =>
pld h0 none (fun v68_1 h2 =>
pcal Try.prog 48 69 h2 (fun v69_3 h4 =>
VL (lift1 (aun .not) v69_3) fun v70_5 =>
pgk false h4 (fun g6 k7 => k7 (.ptr 65 1) h4) (fun g8 v8_9 h10 =>
pgk false h10 (fun g11 k12 => pld h10 none (fun v73_13 h14 =>
k12 v73_13 h14) v8_9) (fun g15 v9_16 h17 =>
pgk false h17 (fun g18 k19 => pcal Try.prog 48 74 h17 (fun v74_20 h21 =>
k19 v74_20 h21) [v9_16, (.int .i64 0), (.int .i64 1000000000)]) (fun g22 v10_23 h24 =>
pgk false h24 (fun g25 k26 => VL (lift1 (aun .not) v10_23) fun v75_27 =>
k26 v75_27 h24) (fun g28 v11_29 h30 =>
VL (vpick g28 (.bool true) v11_29) fun v76_31 =>
pcond (
Rt h30 (.bool false)) (
pld h30 none (fun v78_32 h33 =>
pld h33 none (fun v80_34 h35 =>
pcal Try.prog 75 81 h35 (fun v81_36 h37 =>
VL (lift2 (abin .eql) v81_36 (.int .i64 1)) fun v82_38 =>
pgk true h37 (fun g39 k40 => k40 (.ptr 65 1) h37) (fun g41 v20_42 h43 =>
pgk true h43 (fun g44 k45 => pld h43 none (fun v85_46 h47 =>
k45 v85_46 h47) v20_42) (fun g48 v21_49 h50 =>
pgk true h50 (fun g51 k52 => VL (lift2 (abin .gtr) v21_49 (.int .i64 0)) fun v86_53 =>
k52 v86_53 h50) (fun g54 v22_55 h56 =>
pgk true h56 (fun g57 k58 => k58 v22_55 h56) (fun g59 v23_60 h61 =>
pgk false h61 (fun g62 k63 => k63 (.ptr 65 0) h61) (fun g64 v24_65 h66 =>
pgk false h66 (fun g67 k68 => pld h66 none (fun v89_69 h70 =>
k68 v89_69 h70) v24_65) (fun g71 v25_72 h73 =>
pgk false h73 (fun g74 k75 => VL (lift2 (abin .eql) v25_72 (.int .i64 1)) fun v90_76 =>
k75 v90_76 h73) (fun g77 v26_78 h79 =>
pgk true h79 (fun g80 k81 => VL (vpick g77 (.bool true) v26_78) fun v91_82 =>
k81 v91_82 h79) (fun g83 v27_84 h85 =>
VL (vpick g83 v27_84 (.bool false)) fun v92_86 =>
Rt h85 v92_86) g59) g71) g64) v23_60) g54) g48) g41) v82_38) [v78_32, v80_34]) (.ptr 65 1)) (.ptr 65 0)) v76_31) g22) g15) g8) v70_5) [v68_1, (.int .i64 (-1000000000)), (.int .i64 1000000000)]) (.ptr 65 0)
theorem spec_l10Is_f {x0 : V} : Prt Try.prog 51 [x0] (spec_l10Is_F x0) := pfun (fn := Try.f51) (m := [.s, .s, .s, .s, .s]) (c := 1 ≤ 29) rfl (fun h0 Rt => by kernel_rfl) (by decide)

def impl_compareFractions_F (x0 x1 : V) (hi : Hp) (Rt : Hp → V → Prop) : Prop :=
pbox hi 66 27 (cellsV x0) fun h0 =>
pbox h0 67 27 (cellsV x1) fun h1 =>
pld h1 (some 2) (fun v70_2 h3 =>
pld h3 (some 2) (fun v71_4 h5 =>
VL (veqa false true [(.i .i64), (.i .i64)] v70_2 v71_4) fun v72_6 =>
pcond (
Rt h5 (.int .i64 0)) (
pld h5 none (fun v75_7 h8 =>
VL (lift2 (abin .eql) v75_7 (.int .i64 0)) fun v76_9 =>
pcond (
Rt h8 (.int .i64 1)) (
pld h8 none (fun v79_10 h11 =>
VL (lift2 (abin .eql) v79_10 (.int .i64 0)) fun v80_12 =>
pgk false h11 (fun g13 k14 => k14 (.ptr 66 0) h11) (fun g15 v18_16 h17 =>
pgk false h17 (fun g18 k19 => pld h17 none (fun v83_20 h21 =>
k19 v83_20 h21) v18_16) (fun g22 v19_23 h24 =>
pgk false h24 (fun g25 k26 => k26 (.ptr 67 1) h24) (fun g27 v20_28 h29 =>
pgk false h29 (fun g30 k31 => pld h29 none (fun v85_32 h33 =>
k31 v85_32 h33) v20_28) (fun g34 v21_35 h36 =>
pgk false h36 (fun g37 k38 => VL (lift2 (abin .mul) v19_23 v21_35) fun v86_39 =>
k38 v86_39 h36) (fun g40 v22_41 h42 =>
pgk false h42 (fun g43 k44 => k44 (.ptr 67 0) h42) (fun g45 v23_46 h47 =>
pgk false h47 (fun g48 k49 => pld h47 none (fun v88_50 h51 =>
k49 v88_50 h51) v23_46) (fun g52 v24_53 h54 =>
pgk false h54 (fun g55 k56 => k56 (.ptr 66 1) h54) (fun g57 v25_58 h59 =>
pgk false h59 (fun g60 k61 => pld h59 none (fun v90_62 h63 =>
k61 v90_62 h63) v25_58) (fun g64 v26_65 h66 =>
pgk false h66 (fun g67 k68 => VL (lift2 (abin .mul) v24_53 v26_65) fun v91_69 =>
k68 v91_69 h66) (fun g70 v27_71 h72 =>
pgk false h72 (fun g73 k74 => VL (lift2 (abin .lss) v22_41 v27_71) fun v92_75 =>
k74 v92_75 h72) (fun g76 v28_77 h78 =>
VL (vpick g76 (.bool true) v28_77) fun v93_79 =>
pcond (
Rt h78 (.int .i64 (-1))) (
Rt h78 (.int .i64 1)) v93_79) g70) g64) g57) g52) g45) g40) g34) g27) g22) g15) v80_12) (.ptr 67 1)) v76_9) (.ptr 66 1)) v72_6) (.ptr 67 0)) (.ptr 66 0)
theorem impl_compareFractions_f {x0 x1 : V} : Prt Try.prog 52 [x0, x1] (impl_compareFractions_F x0 x1) := pfun (fn := Try.f52) (m := [.s, .s, .s, .s, .s, .s, .s, .s, .s]) (c := 2 ≤ 30) rfl (fun h0 Rt => by kernel_rfl) (by decide)

def spec_l10Compare_F (x0 x1 : V) (hi : Hp) (Rt : Hp → V → Prop) : Prop :=
pbox hi 66 27 (cellsV x0) fun h0 =>
pbox h0 67 27 (cellsV x1) fun h1 =>
pld h1 (some 2) (fun v70_2 h3 =>
pld h3 (some 2) (fun v71_4 h5 =>
VL (veqa false true [(.i .i64), (.i .i64)] v70_2 v71_4) fun v72_6 =>
pcond (
Rt h5 (.int .i64 0)) (
pld h5 none (fun v75_7 h8 =>
VL (lift2 (abin .eql) v75_7 (.int .i64 0)) fun v76_9 =>
pcond (
Rt h8 (.int .i64 1)) (
pld h8 none (fun v79_10 h11 =>
VL (lift2 (abin .eql) v79_10 (.int .i64 0)) fun v80_12 =>
pcond (
Rt h11 (.int .i64 (-1))) (
pld h11 none (fun v83_13 h14 =>
pld h14 none (fun v85_15 h16 =>
VL (lift2 (abin .mul) v83_13 v85_15) fun v86_17 =>
pld h16 none (fun v88_18 h19 =>
pld h19 none (fun v90_20 h21 =>
VL (lift2 (abin .mul) v88_18 v90_20) fun v91_22 =>
VL (lift2 (abin .lss) v86_17 v91_22) fun v92_23 =>
pcond (
Rt h21 (.int .i64 (-1))) (
Rt h21 (.int .i64 1)) v92_23) (.ptr 66 1)) (.ptr 67 0)) (.ptr 67 1)) (.ptr 66 0)) v80_12) (.ptr 67 1)) v76_9) (.ptr 66 1)) v72_6) (.ptr 67 0)) (.ptr 66 0)
theorem spec_l10Compare_f {x0 x1 : V} : Prt Try.prog 53 [x0, x1] (spec_l10Compare_F x0 x1) := pfun (fn := Try.f53) (m := [.s, .s, .s, .s, .s, .s, .s, .s, .s, .s, .s]) (c := 2 ≤ 29) rfl (fun h0 Rt => by kernel_rfl) (by decide)

def spec_l10DrawMove_F (x0 : V) (hi : Hp) (Rt : Hp → V → Prop) : Prop :=
palloc hi 66 36 [(.int .i64 0), (.int .i64 0), (.int .i64 0)] fun h0 =>
pcal Try.prog 45 68 h0 (fun v68_1 h2 =>
VL (lift2 (abin .eql) v68_1 (.int .i64 0)) fun v70_3 =>
pcond (
pmks h2 72 2 3 3 (fun h4 =>
pcal Try.prog 46 73 h4 (fun v73_5 h6 =>
pcal Try.prog 45 75 h6 (fun v75_7 h8 =>
VL (vbld (vfill [(.int .i64 0), (.int .i64 0), (.int .i64 0)] [(0, 1, v73_5), (1, 1, v75_7)])) fun v76_9 =>
pst h8 3 (cellsV v76_9) (fun u10 h11 =>
VL (pcellV h11 (some 3) (.ptr 66 0)) fun r12 =>
Rt h11 r12) (.ptr 66 0)) [x0, (.int .i64 2)]) [x0, (.rf 72 0 3)]) (vfill [(.int .i64 0), (.int .i64 0), (.int .i64 0)] [(0, 1, (.int .i64 3)), (1, 1, (.int .i64 (-1))), (2, 1, (.int .i64 1))])) (
VL (lift2 (abin .eql) v68_1 (.int .i64 1)) fun v78_13 =>
pcond (
pmks h2 80 2 3 3 (fun h14 =>
pcal Try.prog 46 81 h14 (fun v81_15 h16 =>
VL (vbld (vfill [(.int .i64 0), (.int .i64 0), (.int .i64 0)] [(0, 1, (.int .i64 2)), (1, 1, v81_15), (2, 1, (.int .i64 20))])) fun v82_17 =>
pst h16 3 (cellsV v82_17) (fun u18 h19 =>
VL (pcellV h19 (some 3) (.ptr 66 0)) fun r20 =>
Rt h19 r20) (.ptr 66 0)) [x0, (.rf 80 0 3)]) (vfill [(.int .i64 0), (.int .i64 0), (.int .i64 0)] [(0, 1, (.int .i64 0)), (1, 1, (.int .i64 21)), (2, 1, (.int .i64 20))])) (
pcal Try.prog 45 84 h2 (fun v84_21 h22 =>
VL (lift2 (abin .eql) v84_21 (.int .i64 0)) fun v85_23 =>
pcond (
pcal Try.prog 45 87 h22 (fun v87_24 h25 =>
VL (vbld (vfill [(.int .i64 0), (.int .i64 0), (.int .i64 0)] [(0, 1, v87_24)])) fun v88_26 =>
pst h25 3 (cellsV v88_26) (fun u27 h28 =>
VL (pcellV h28 (some 3) (.ptr 66 0)) fun r29 =>
Rt h28 r29) (.ptr 66 0)) [x0, (.int .i64 2)]) (
pcal Try.prog 45 90 h22 (fun v90_30 h31 =>
VL (lift2 (abin .add) (.int .i64 1) v90_30) fun v91_32 =>
pcal Try.prog 45 93 h31 (fun v93_33 h34 =>
VL (lift2 (abin .add) (.int .i64 1) v93_33) fun v94_35 =>
VL (vbld (vfill [(.int .i64 0), (.int .i64 0), (.int .i64 0)] [(0, 1, (.int .i64 2)), (1, 1, v91_32), (2, 1, v94_35)])) fun v95_36 =>
pst h34 3 (cellsV v95_36) (fun u37 h38 =>
VL (pcellV h38 (some 3) (.ptr 66 0)) fun r39 =>
Rt h38 r39) (.ptr 66 0)) [x0, (.int .i64 4)]) [x0, (.int .i64 4)]) v85_23) [x0, (.int .i64 3)]) v78_13) v70_3) [x0, (.int .i64 20)]
theorem spec_l10DrawMove_f {x0 : V} : Prt Try.prog 54 [x0] (spec_l10DrawMove_F x0) := pfun (fn := Try.f54) (m := [.s, .s, .s, .s, .s, .s, .s, .s, .s, .s, .s]) (c := 1 ≤ 32) rfl (fun h0 Rt => by kernel_rfl) (by decide)

def impl_move_F (x0 x1 : V) (hi : Hp) (Rt : Hp → V → Prop) : Prop :=
pbox hi 66 36 (cellsV x0) fun h0 =>
pbox h0 67 27 (cellsV x1) fun h1 =>
palloc h1 68 27 [(.int .i64 0), (.int .i64 0)] fun h2 =>
VL (vbld (vfill [(.int .i64 0), (.int .i64 0)] [(0, 1, (.int .i64 1))])) fun v75_3 =>
palloc h2 70 27 [(.int .i64 0), (.int .i64 0)] fun h4 =>
pst h4 2 (cellsV v75_3) (fun u5 h6 =>
pld h6 none (fun v78_7 h8 =>
VL (lift2 (abin .eql) v78_7 (.int .i64 1)) fun v79_9 =>
pgk true h8 (fun g10 k11 => k11 (.ptr 67 1) h8) (fun g12 v17_13 h14 =>
pgk true h14 (fun g15 k16 => pld h14 none (fun v82_17 h18 =>
k16 v82_17 h18) v17_13) (fun g19 v18_20 h21 =>
pgk true h21 (fun g22 k23 => VL (lift2 (abin .eql) v18_20 (.int .i64 0)) fun v83_24 =>
k23 v83_24 h21) (fun g25 v19_26 h27 =>
VL (vpick g25 v19_26 (.bool false)) fun v84_28 =>
pcond (
VL (vbld (vfill [(.int .i64 0), (.int .i64 0)] [(1, 1, (.int .i64 1))])) fun v85_29 =>
pst h27 2 (cellsV v85_29) (fun u30 h31 =>
VL (pcellV h31 (some 2) (.ptr 68 0)) fun r32 =>
Rt h31 (.tup [r32, (.int .i64 0)])) (.ptr 68 0)) (
pld h27 none (fun v88_33 h34 =>
VL (lift2 (abin .eql) v88_33 (.int .i64 0)) fun v89_35 =>
pgk false h34 (fun g36 k37 => k37 (.ptr 66 0) h34) (fun g38 v27_39 h40 =>
pgk false h40 (fun g41 k42 => pld h40 none (fun v92_43 h44 =>
k42 v92_43 h44) v27_39) (fun g45 v28_46 h47 =>
pgk false h47 (fun g48 k49 => VL (lift2 (abin .eql) v28_46 (.int .i64 1)) fun v93_50 =>
k49 v93_50 h47) (fun g51 v29_52 h53 =>
pgk false h53 (fun g54 k55 => k55 v29_52 h53) (fun g56 v30_57 h58 =>
pgk true h58 (fun g59 k60 => k60 (.ptr 67 0) h58) (fun g61 v31_62 h63 =>
pgk true h63 (fun g64 k65 => pld h63 none (fun v96_66 h67 =>
k65 v96_66 h67) v31_62) (fun g68 v32_69 h70 =>
pgk true h70 (fun g71 k72 => VL (lift2 (abin .eql) v32_69 (.int .i64 0)) fun v97_73 =>
k72 v97_73 h70) (fun g74 v33_75 h76 =>
pgk false h76 (fun g77 k78 => VL (vpick g74 v33_75 (.bool false)) fun v98_79 =>
k78 v98_79 h76) (fun g80 v34_81 h82 =>
VL (vpick g80 (.bool true) v34_81) fun v99_83 =>
pcond (
pld h82 (some 2) (fun v100_84 h85 =>
pst h85 2 (cellsV v100_84) (fun u86 h87 =>
VL (pcellV h87 (some 2) (.ptr 68 0)) fun r88 =>
Rt h87 (.tup [r88, (.int .i64 0)])) (.ptr 68 0)) (.ptr 70 0)) (
pld h82 none (fun v103_89 h90 =>
VL (lift2 (abin .eql) v103_89 (.int .i64 0)) fun v104_91 =>
pcond (
pld h90 none (fun v106_92 h93 =>
pld h93 none (fun v108_94 h95 =>
VL (lift2 (abin .sub) v106_92 v108_94) fun v109_96 =>
pmks h95 110 2 1 1 (fun h97 =>
pld h97 none (fun v112_98 h99 =>
pmks h99 113 2 1 1 (fun h100 =>
pcal Try.prog 76 114 h100 (fun v114_101 h102 =>
VL (vext 0 v114_101) fun v115_103 =>
VL (vext 1 v114_101) fun v116_104 =>
pst h102 2 (cellsV v115_103) (fun u105 h106 =>
VL (pcellV h106 (some 2) (.ptr 68 0)) fun r107 =>
Rt h106 (.tup [r107, v116_104])) (.ptr 68 0)) [(.rf 110 0 1), (.rf 113 0 1)]) (vfill [(.int .i64 0)] [(0, 1, v112_98)])) (.ptr 67 1)) (vfill [(.int .i64 0)] [(0, 1, v109_96)])) (.ptr 67 0)) (.ptr 67 1)) (
pld h90 none (fun v119_108 h109 =>
VL (lift2 (abin .eql) v119_108 (.int .i64 1)) fun v120_110 =>
pcond (
pld h109 none (fun v122_111 h112 =>
pmks h112 123 2 1 1 (fun h113 =>
pld h113 none (fun v125_114 h115 =>
pmks h115 126 2 1 1 (fun h116 =>
pcal Try.prog 76 127 h116 (fun v127_117 h118 =>
VL (vext 0 v127_117) fun v128_119 =>
VL (vext 1 v127_117) fun v129_120 =>
pst h118 2 (cellsV v128_119) (fun u121 h122 =>
VL (pcellV h122 (some 2) (.ptr 68 0)) fun r123 =>
Rt h122 (.tup [r123, v129_120])) (.ptr 68 0)) [(.rf 123 0 1), (.rf 126 0 1)]) (vfill [(.int .i64 0)] [(0, 1, v125_114)])) (.ptr 67 0)) (vfill [(.int .i64 0)] [(0, 1, v122_111)])) (.ptr 67 1)) (
pld h109 none (fun v131_124 h125 =>
pld h125 none (fun v133_126 h127 =>
pmks h127 134 2 0 0 (fun h128 =>
pmks h128 135 2 0 0 (fun h129 =>
LP [9, 10, 73] [3, 4, 7, 8, 72] (fun w130 l131 h132 N133 =>
VL (lift2 (abin .lss) (w130.getD 2 .und) (l131.getD 4 .und)) fun v138_134 =>
pcond (
VL (vfa 0 (l131.getD 0 .und)) fun v140_135 =>
pld h132 none (fun v141_136 h137 =>
VL (lift2 (abin .add) (l131.getD 2 .und) (l131.getD 3 .und)) fun v144_138 =>
pmks h137 145 2 2 2 (fun h139 =>
papp h139 (fun m142 s143 => papV 2 1 8 146 h139 (fun v146_140 h141 =>
VL (vfa 1 (l131.getD 0 .und)) fun v148_144 =>
pld h141 none (fun v149_145 h146 =>
pmks h146 151 2 2 2 (fun h147 =>
papp h147 (fun m150 s151 => papV 2 1 8 152 h147 (fun v152_148 h149 =>
VL (lift2 (abin .add) (w130.getD 2 .und) (.int .i64 1)) fun v153_152 =>
N133 [v146_140, v152_148, v153_152] [(l131.getD 0 .und), (l131.getD 1 .und), (l131.getD 2 .und), (l131.getD 3 .und), (l131.getD 4 .und)] h149) m150 s151 (w130.getD 1 .und)) (pavs h147 (w130.getD 1 .und) []) (preadS 1 h147 (.rf 151 0 2))) (vfill [(.int .i64 0), (.int .i64 0)] [(0, 1, v149_145), (1, 1, (l131.getD 2 .und))])) v148_144) m142 s143 (w130.getD 0 .und)) (pavs h139 (w130.getD 0 .und) []) (preadS 1 h139 (.rf 145 0 2))) (vfill [(.int .i64 0), (.int .i64 0)] [(0, 1, v141_136), (1, 1, v144_138)])) v140_135) (
LP [9, 10, 91] [3, 4, 7, 8, 90] (fun w153 l154 h155 N156 =>
VL (lift2 (abin .lss) (w153.getD 2 .und) (l154.getD 4 .und)) fun v156_157 =>
pcond (
VL (vfa 1 (l154.getD 0 .und)) fun v158_158 =>
pld h155 none (fun v159_159 h160 =>
VL (vfa 0 (l154.getD 0 .und)) fun v160_161 =>
pld h160 none (fun v161_162 h163 =>
VL (lift2 (abin .sub) v159_159 v161_162) fun v162_164 =>
VL (lift2 (abin .add) (l154.getD 2 .und) (l154.getD 3 .und)) fun v165_165 =>
pmks h163 166 2 2 2 (fun h166 =>
papp h166 (fun m169 s170 => papV 2 1 8 167 h166 (fun v167_167 h168 =>
VL (vfa 1 (l154.getD 0 .und)) fun v169_171 =>
pld h168 none (fun v170_172 h173 =>
pmks h173 172 2 2 2 (fun h174 =>
papp h174 (fun m177 s178 => papV 2 1 8 173 h174 (fun v173_175 h176 =>
VL (lift2 (abin .add) (w153.getD 2 .und) (.int .i64 1)) fun v174_179 =>
N156 [v167_167, v173_175, v174_179] [(l154.getD 0 .und), (l154.getD 1 .und), (l154.getD 2 .und), (l154.getD 3 .und), (l154.getD 4 .und)] h176) m177 s178 (w153.getD 1 .und)) (pavs h174 (w153.getD 1 .und) []) (preadS 1 h174 (.rf 172 0 2))) (vfill [(.int .i64 0), (.int .i64 0)] [(0, 1, v170_172), (1, 1, (l154.getD 3 .und))])) v169_171) m169 s170 (w153.getD 0 .und)) (pavs h166 (w153.getD 0 .und) []) (preadS 1 h166 (.rf 166 0 2))) (vfill [(.int .i64 0), (.int .i64 0)] [(0, 1, v162_164), (1, 1, v165_165)])) v160_161) v158_158) (
pcal Try.prog 76 177 h155 (fun v177_180 h181 =>
VL (vext 0 v177_180) fun v178_182 =>
VL (vext 1 v177_180) fun v179_183 =>
pst h181 2 (cellsV v178_182) (fun u184 h185 =>
VL (pcellV h185 (some 2) (l154.getD 1 .und)) fun r186 =>
Rt h185 (.tup [r186, v179_183])) (l154.getD 1 .und)) [(w153.getD 0 .und), (w153.getD 1 .und)]) v156_157) [(w130.getD 0 .und), (w130.getD 1 .und), (.int .i64 0)] [(l131.getD 0 .und), (l131.getD 1 .und), (l131.getD 2 .und), (l131.getD 3 .und), (l131.getD 3 .und)] h132) v138_134) [(.rf 134 0 0), (.rf 135 0 0), (.int .i64 0)] [(.ptr 67 0), (.ptr 68 0), v131_124, v133_126, v131_124] h129) (vfill [] [])) (vfill [] [])) (.ptr 66 2)) (.ptr 66 1)) v120_110) (.ptr 66 0)) v104_91) (.ptr 66 0)) v99_83) g56) g68) g61) v30_57) g51) g45) g38) v89_35) (.ptr 67 1)) v84_28) g19) g12) v79_9) (.ptr 66 0)) (.ptr 70 0)
theorem impl_move_f {x0 x1 : V} : Prt Try.prog 55 [x0, x1] (impl_move_F x0 x1) := pfun (fn := Try.f55) (m := [.s, .s, .s, .s, .s, .s, .s, .s, .s, .s, .s, .s, .s, .s, .s, .l [9, 10, 73] [3, 4, 7, 8, 72], .s, .s, .s, .s, .s, .s, .l [9, 10, 91] [3, 4, 7, 8, 90], .s, .s, .s, .s, .s]) (c := 2 ≤ 116) rfl (fun h0 Rt => by kernel_rfl) (by decide)

def spec_l10Move_F (x0 : V) (hi : Hp) (Rt : Hp → V → Prop) : Prop :=
pbox hi 65 36 (cellsV x0) fun h0 =>
pld h0 none (fun v68_1 h2 =>
JN (fun k3 =>
VL (lift2 (abin .eql) v68_1 (.int .i64 0)) fun v70_6 =>
pcond (
k3 [(.ptr 65 0), v68_1, v70_6] h2) (
VL (lift2 (abin .eql) v68_1 (.int .i64 1)) fun v71_7 =>
k3 [(.ptr 65 0), v68_1, v71_7] h2) v70_6) fun o4 h5 =>
pcond (
VL (vfa 1 (o4.getD 0 .und)) fun v72_8 =>
pld h5 none (fun v73_9 h10 =>
VL (lift2 (abin .eql) v73_9 (.int .i64 0)) fun v74_11 =>
pgk true h10 (fun g12 k13 => VL (vfa 2 (o4.getD 0 .und)) fun v76_14 =>
k13 v76_14 h10) (fun g15 v12_16 h17 =>
pgk true h17 (fun g18 k19 => pld h17 none (fun v77_20 h21 =>
k19 v77_20 h21) v12_16) (fun g22 v13_23 h24 =>
pgk true h24 (fun g25 k26 => VL (lift2 (abin .eql) v13_23 (.int .i64 0)) fun v78_27 =>
k26 v78_27 h24) (fun g28 v14_29 h30 =>
VL (vpick g28 v14_29 (.bool false)) fun v79_31 =>
Rt h30 v79_31) g22) g15) v74_11) v72_8) (
VL (lift2 (abin .eql) (o4.getD 1 .und) (.int .i64 2)) fun v81_32 =>
pcond (
VL (vfa 1 (o4.getD 0 .und)) fun v82_33 =>
pld h5 none (fun v83_34 h35 =>
pcal Try.prog 48 84 h35 (fun v84_36 h37 =>
pgk true h37 (fun g38 k39 => VL (vfa 2 (o4.getD 0 .und)) fun v86_40 =>
k39 v86_40 h37) (fun g41 v22_42 h43 =>
pgk true h43 (fun g44 k45 => pld h43 none (fun v87_46 h47 =>
k45 v87_46 h47) v22_42) (fun g48 v23_49 h50 =>
pgk true h50 (fun g51 k52 => pcal Try.prog 48 88 h50 (fun v88_53 h54 =>
k52 v88_53 h54) [v23_49, (.int .i64 1), (.int .i64 20)]) (fun g55 v24_56 h57 =>
VL (vpick g55 v24_56 (.bool false)) fun v89_58 =>
Rt h57 v89_58) g48) g41) v84_36) [v83_34, (.int .i64 1), (.int .i64 20)]) v82_33) (
Rt h5 (.bool false)) v81_32) (o4.getD 2 .und)) (.ptr 65 0)
theorem spec_l10Move_f {x0 : V} : Prt Try.prog 56 [x0] (spec_l10Move_F x0) := pfun (fn := Try.f56) (m := [.s, .s, .s, .j [1, 4, 5], .s, .s, .s, .s, .s]) (c := 1 ≤ 26) rfl (fun h0 Rt => by kernel_rfl) (by decide)

def spec_l10At_F (x0 x1 : V) (hi : Hp) (Rt : Hp → V → Prop) : Prop :=
pbox hi 66 36 (cellsV x0) fun h0 =>
pbox h0 67 27 (cellsV x1) fun h1 =>
palloc h1 68 27 [(.int .i64 0), (.int .i64 0)] fun h2 =>
pld h2 none (fun v78_3 h4 =>
VL (lift2 (abin .eql) v78_3 (.int .i64 2)) fun v79_5 =>
pcond (
pld h4 none (fun v82_6 h7 =>
pld h7 none (fun v84_8 h9 =>
pld h9 (some 2) (fun v85_10 h11 =>
pcal Try.prog 77 86 h11 (fun v86_12 h13 =>
VL (vext 0 v86_12) fun v87_14 =>
VL (vext 1 v86_12) fun v88_15 =>
palloc h13 70 27 [(.int .i64 0), (.int .i64 0)] fun h16 =>
pst h16 2 (cellsV v87_14) (fun u17 h18 =>
pld h18 (some 2) (fun v89_19 h20 =>
pst h20 2 (cellsV v89_19) (fun u21 h22 =>
VL (pcellV h22 (some 2) (.ptr 68 0)) fun r23 =>
Rt h22 (.tup [r23, v88_15])) (.ptr 68 0)) (.ptr 70 0)) (.ptr 70 0)) [v82_6, v84_8, v85_10]) (.ptr 67 0)) (.ptr 66 2)) (.ptr 66 1)) (
pld h4 none (fun v93_24 h25 =>
VL (lift2 (abin .eql) v93_24 (.int .i64 1)) fun v94_26 =>
pcond (
pld h25 none (fun v97_27 h28 =>
pld h28 none (fun v99_29 h30 =>
pcal Try.prog 49 100 h30 (fun v100_31 h32 =>
VL (vext 0 v100_31) fun v101_33 =>
VL (vext 1 v100_31) fun v102_34 =>
palloc h32 72 27 [(.int .i64 0), (.int .i64 0)] fun h35 =>
pst h35 2 (cellsV v101_33) (fun u36 h37 =>
pld h37 (some 2) (fun v103_38 h39 =>
pst h39 2 (cellsV v103_38) (fun u40 h41 =>
VL (pcellV h41 (some 2) (.ptr 68 0)) fun r42 =>
Rt h41 (.tup [r42, v102_34])) (.ptr 68 0)) (.ptr 72 0)) (.ptr 72 0)) [v97_27, v99_29]) (.ptr 67 0)) (.ptr 67 1)) (
pld h25 none (fun v107_43 h44 =>
VL (lift2 (abin .eql) v107_43 (.int .i64 0)) fun v108_45 =>
pcond (
pld h44 (some 2) (fun v109_46 h47 =>
pst h47 2 (cellsV v109_46) (fun u48 h49 =>
VL (pcellV h49 (some 2) (.ptr 68 0)) fun r50 =>
Rt h49 (.tup [r50, (.bool true)])) (.ptr 68 0)) (.ptr 67 0)) (
pld h44 none (fun v112_51 h52 =>
pld h52 none (fun v114_53 h54 =>
VL (lift2 (abin .sub) v112_51 v114_53) fun v115_55 =>
pld h54 none (fun v117_56 h57 =>
pcal Try.prog 49 118 h57 (fun v118_58 h59 =>
VL (vext 0 v118_58) fun v119_60 =>
VL (vext 1 v118_58) fun v120_61 =>
palloc h59 74 27 [(.int .i64 0), (.int .i64 0)] fun h62 =>
pst h62 2 (cellsV v119_60) (fun u63 h64 =>
pld h64 (some 2) (fun v121_65 h66 =>
pst h66 2 (cellsV v121_65) (fun u67 h68 =>
VL (pcellV h68 (some 2) (.ptr 68 0)) fun r69 =>
Rt h68 (.tup [r69, v120_61])) (.ptr 68 0)) (.ptr 74 0)) (.ptr 74 0)) [v115_55, v117_56]) (.ptr 67 1)) (.ptr 67 0)) (.ptr 67 1)) v108_45) (.ptr 67 1)) v94_26) (.ptr 66 0)) v79_5) (.ptr 66 0)
theorem spec_l10At_f {x0 x1 : V} : Prt Try.prog 57 [x0, x1] (spec_l10At_F x0 x1) := pfun (fn := Try.f57) (m := [.s, .s, .s, .s, .s, .s, .s, .s, .s, .s, .s, .s]) (c := 2 ≤ 59) rfl (fun h0 Rt => by kernel_rfl) (by decide)

def impl_degree_F (x0 : V) (hi : Hp) (Rt : Hp → V → Prop) : Prop :=
pbox hi 65 36 (cellsV x0) fun h0 =>
pld h0 none (fun v68_1 h2 =>
pld h2 none (fun v70_3 h4 =>
VL (lift2 (abin .add) v68_1 v70_3) fun v71_5 =>
VL (lift2 amax v71_5 (.int .i64 1)) fun v72_6 =>
Rt h4 v72_6) (.ptr 65 2)) (.ptr 65 1)
theorem impl_degree_f {x0 : V} : Prt Try.prog 58 [x0] (impl_degree_F x0) := pfun (fn := Try.f58) (m := [.s, .s]) (c := 1 ≤ 9) rfl (fun h0 Rt => by kernel_rfl) (by decide)

def slices_Repeat_int64_int64_i_F (x0 x1 : V) (hi : Hp) (Rt : Hp → V → Prop) : Prop :=
JN (fun k0 =>
VL (lift2 (abin .lss) x1 (.int .i64 0)) fun v74_3 =>
pcond (
False) (
k0 [x0, x1] hi) v74_3) fun o1 h2 =>
VL (vlenS (o1.getD 0 .und)) fun v78_4 =>
VL (lift1 (acvi .u64) v78_4) fun v79_5 =>
VL (lift1 (acvi .u64) (o1.getD 1 .und)) fun v81_6 =>
pcal Try.prog 78 82 h2 (fun v82_7 h8 =>
VL (vext 0 v82_7) fun v83_9 =>
VL (vext 1 v82_7) fun v84_10 =>
JN (fun k11 =>
VL (lift2 (abin .gtr) v83_9 (.int .u64 0)) fun v86_14 =>
pgk false h8 (fun g15 k16 => k16 v84_10 h8) (fun g17 v24_18 h19 =>
pgk false h19 (fun g20 k21 => VL (lift2 (abin .gtr) v24_18 (.int .u64 9223372036854775807)) fun v89_22 =>
k21 v89_22 h19) (fun g23 v25_24 h25 =>
VL (vpick g23 (.bool true) v25_24) fun v90_26 =>
pcond (
False) (
k11 [(o1.getD 0 .und), v84_10] h25) v90_26) g17) v86_14) fun o12 h13 =>
VL (lift1 (acvi .i64) (o12.getD 1 .und)) fun v93_27 =>
pmk h13 94 2 8 [(.int .i64 0)] (fun v94_28 h29 =>
pcp (fun m32 s33 => pcpyV 1 h29 (fun v97_30 h31 =>
LP [8] [7] (fun w34 l35 h36 N37 =>
VL (vlenS (l35.getD 0 .und)) fun v100_38 =>
VL (lift2 (abin .lss) (w34.getD 0 .und) v100_38) fun v101_39 =>
pcond (
VL (vslS 1 (l35.getD 0 .und) (some (w34.getD 0 .und)) none) fun v105_40 =>
VL (vslS 1 (l35.getD 0 .und) none (some (w34.getD 0 .und))) fun v108_41 =>
pcp (fun m44 s45 => pcpyV 1 h36 (fun v109_42 h43 =>
VL (lift2 (abin .add) (w34.getD 0 .und) v109_42) fun v110_46 =>
N37 [v110_46] [(l35.getD 0 .und)] h43) m44 s45 v105_40) (preadS 1 h36 v108_41)) (
Rt h36 (l35.getD 0 .und)) v101_39) [v97_30] [v94_28] h31) m32 s33 v94_28) (preadS 1 h29 (o12.getD 0 .und))) v93_27 v93_27) [v79_5, v81_6]
theorem slices_Repeat_int64_int64_i_f {x0 x1 : V} : Prt Try.prog 59 [x0, x1] (slices_Repeat_int64_int64_i_F x0 x1) := pfun (fn := Try.f59) (m := [.s, .j [0, 1], .s, .s, .j [0, 6], .s, .s, .s, .s, .l [8] [7], .s, .s, .s]) (c := 2 ≤ 48) rfl (fun h0 Rt => by kernel_rfl) (by decide)

def impl_descending_F (x0 : V) (hi : Hp) (Rt : Hp → V → Prop) : Prop :=
pcal Try.prog 79 68 hi (fun v68_0 h1 =>
pcal Try.prog 80 70 h1 (fun v70_2 h3 =>
Rt h3 x0) [x0]) [x0]
theorem impl_descending_f {x0 : V} : Prt Try.prog 60 [x0] (impl_descending_F x0) := pfun (fn := Try.f60) (m := [.s, .s, .s, .s]) (c := 1 ≤ 8) rfl (fun h0 Rt => by kernel_rfl) (by decide)

def spec_l10Degree_F (x0 : V) (hi : Hp) (Rt : Hp → V → Prop) : Prop :=
pbox hi 65 36 (cellsV x0) fun h0 =>
pld h0 none (fun v68_1 h2 =>
pld h2 none (fun v70_3 h4 =>
VL (lift2 (abin .add) v68_1 v70_3) fun v71_5 =>
VL (lift2 amax (.int .i64 1) v71_5) fun v72_6 =>
Rt h4 v72_6) (.ptr 65 2)) (.ptr 65 1)
theorem spec_l10Degree_f {x0 : V} : Prt Try.prog 61 [x0] (spec_l10Degree_F x0) := pfun (fn := Try.f61) (m := [.s, .s]) (c := 1 ≤ 9) rfl (fun h0 Rt => by kernel_rfl) (by decide)

def laws_likeInts_F (x0 x1 : V) (hi : Hp) (Rt : Hp → V → Prop) : Prop :=
VL (vlenS x0) fun v71_0 =>
VL (vlenS x1) fun v73_1 =>
VL (lift2 (abin .neq) v71_0 v73_1) fun v74_2 =>
pcond (
Rt hi (.bool false)) (
LP [5] [0, 1] (fun w3 l4 h5 N6 =>
VL (vlenS (l4.getD 0 .und)) fun v77_7 =>
VL (lift2 (abin .lss) (w3.getD 0 .und) v77_7) fun v78_8 =>
pcond (
VL (vixS 1 (l4.getD 0 .und) (w3.getD 0 .und)) fun v83_9 =>
pld h5 none (fun v84_10 h11 =>
VL (vixS 1 (l4.getD 1 .und) (w3.getD 0 .und)) fun v87_12 =>
pld h11 none (fun v88_13 h14 =>
VL (lift2 (abin .neq) v84_10 v88_13) fun v89_15 =>
pcond (
Rt h14 (.bool false)) (
VL (lift2 (abin .add) (w3.getD 0 .und) (.int .i64 1)) fun v80_16 =>
N6 [v80_16] [(l4.getD 0 .und), (l4.getD 1 .und)] h14) v89_15) v87_12) v83_9) (
Rt h5 (.bool true)) v78_8) [(.int .i64 0)] [x0, x1] hi) v74_2
theorem laws_likeInts_f {x0 x1 : V} : Prt Try.prog 62 [x0, x1] (laws_likeInts_F x0 x1) := pfun (fn := Try.f62) (m := [.s, .s, .s, .s, .s, .s, .l [5] [0, 1], .s, .s, .s, .s, .s, .s]) (c := 2 ≤ 26) rfl (fun h0 Rt => by kernel_rfl) (by decide)

def impl_sumOfPassport_F (x0 : V) (hi : Hp) (Rt : Hp → V → Prop) : Prop :=
VL (vlenS x0) fun v69_0 =>
VL (lift2 (abin .neq) v69_0 (.int .i64 3)) fun v70_1 =>
pcond (
Rt hi (.int .i64 0)) (
VL (vixS 1 x0 (.int .i64 0)) fun v72_2 =>
pld hi none (fun v73_3 h4 =>
pcal Try.prog 81 74 h4 (fun v74_5 h6 =>
VL (vixS 1 x0 (.int .i64 1)) fun v76_7 =>
pld h6 none (fun v77_8 h9 =>
pcal Try.prog 81 78 h9 (fun v78_10 h11 =>
VL (lift2 (abin .neq) v78_10 v74_5) fun v80_12 =>
pgk false h11 (fun g13 k14 => k14 x0 h11) (fun g15 v18_16 h17 =>
pgk false h17 (fun g18 k19 => VL (vixS 1 v18_16 (.int .i64 2)) fun v83_20 =>
k19 v83_20 h17) (fun g21 v19_22 h23 =>
pgk false h23 (fun g24 k25 => pld h23 none (fun v84_26 h27 =>
k25 v84_26 h27) v19_22) (fun g28 v20_29 h30 =>
pgk false h30 (fun g31 k32 => pcal Try.prog 81 85 h30 (fun v85_33 h34 =>
k32 v85_33 h34) [v20_29]) (fun g35 v21_36 h37 =>
pgk false h37 (fun g38 k39 => k39 v74_5 h37) (fun g40 v22_41 h42 =>
pgk false h42 (fun g43 k44 => VL (lift2 (abin .neq) v21_36 v22_41) fun v87_45 =>
k44 v87_45 h42) (fun g46 v23_47 h48 =>
VL (vpick g46 (.bool true) v23_47) fun v88_49 =>
pcond (
Rt h48 (.int .i64 0)) (
Rt h48 v74_5) v88_49) g40) g35) g28) g21) g15) v80_12) [v77_8]) v76_7) [v73_3]) v72_2) v70_1
theorem impl_sumOfPassport_f {x0 : V} : Prt Try.prog 63 [x0] (impl_sumOfPassport_F x0) := pfun (fn := Try.f63) (m := [.s, .s, .s, .s, .s, .s, .s, .s, .s]) (c := 1 ≤ 26) rfl (fun h0 Rt => by kernel_rfl) (by decide)

def impl_eulerOf_F (x0 x1 : V) (hi : Hp) (Rt : Hp → V → Prop) : Prop :=
VL (vixS 1 x0 (.int .i64 0)) fun v70_0 =>
pld hi none (fun v71_1 h2 =>
VL (vlenS v71_1) fun v72_3 =>
VL (vixS 1 x0 (.int .i64 1)) fun v74_4 =>
pld h2 none (fun v75_5 h6 =>
VL (vlenS v75_5) fun v76_7 =>
VL (lift2 (abin .add) v72_3 v76_7) fun v77_8 =>
VL (vixS 1 x0 (.int .i64 2)) fun v79_9 =>
pld h6 none (fun v80_10 h11 =>
VL (vlenS v80_10) fun v81_12 =>
VL (lift2 (abin .add) v77_8 v81_12) fun v82_13 =>
VL (lift2 (abin .sub) v82_13 x1) fun v84_14 =>
Rt h11 v84_14) v79_9) v74_4) v70_0
theorem impl_eulerOf_f {x0 x1 : V} : Prt Try.prog 64 [x0, x1] (impl_eulerOf_F x0 x1) := pfun (fn := Try.f64) (m := [.s, .s]) (c := 2 ≤ 21) rfl (fun h0 Rt => by kernel_rfl) (by decide)

def spec_l10DrawSet_F (x0 : V) (hi : Hp) (Rt : Hp → V → Prop) : Prop :=
pmks hi 73 27 0 0 (fun h0 =>
pcal Try.prog 45 76 h0 (fun v76_1 h2 =>
pmks h2 77 2 6 6 (fun h3 =>
pcal Try.prog 46 78 h3 (fun v78_4 h5 =>
LP [3, 4] [0] (fun w6 l7 h8 N9 =>
VL (lift2 (abin .gtr) (w6.getD 1 .und) (.int .i64 0)) fun v80_10 =>
pcond (
JN (fun k11 =>
pcal Try.prog 45 85 h8 (fun v85_14 h15 =>
pcal Try.prog 45 87 h15 (fun v87_16 h17 =>
VL (lift2 (abin .add) (.int .i64 1) v87_16) fun v88_18 =>
pcal Try.prog 49 89 h17 (fun v89_19 h20 =>
VL (vext 0 v89_19) fun v90_21 =>
VL (vext 1 v89_19) fun v91_22 =>
palloc h20 69 27 [(.int .i64 0), (.int .i64 0)] fun h23 =>
pst h23 2 (cellsV v90_21) (fun u24 h25 =>
JN (fun k26 =>
pcal Try.prog 45 93 h25 (fun v93_29 h30 =>
VL (lift2 (abin .eql) v93_29 (.int .i64 0)) fun v94_31 =>
pcond (
pcal Try.prog 50 96 h30 (fun v96_32 h33 =>
pst h33 2 (cellsV v96_32) (fun u34 h35 =>
k26 [(l7.getD 0 .und), (w6.getD 0 .und), (w6.getD 1 .und), (.ptr 69 0)] h35) (.ptr 69 0)) [(l7.getD 0 .und)]) (
k26 [(l7.getD 0 .und), (w6.getD 0 .und), (w6.getD 1 .und), (.ptr 69 0)] h30) v94_31) [(l7.getD 0 .und), (.int .i64 3)]) fun o27 h28 =>
pld h28 (some 2) (fun v97_36 h37 =>
pcal Try.prog 51 98 h37 (fun v98_38 h39 =>
VL (lift1 (aun .not) v98_38) fun v99_40 =>
pcond (
k11 [(o27.getD 0 .und), (o27.getD 1 .und), (o27.getD 2 .und)] h39) (
LP [7] [0, 3, 4, 5] (fun w41 l42 h43 N44 =>
VL (vlenS (l42.getD 1 .und)) fun v102_45 =>
VL (lift2 (abin .lss) (w41.getD 0 .und) v102_45) fun v103_46 =>
pgk true h43 (fun g47 k48 => k48 (l42.getD 1 .und) h43) (fun g49 v41_50 h51 =>
pgk true h51 (fun g52 k53 => k53 (w41.getD 0 .und) h51) (fun g54 v42_55 h56 =>
pgk true h56 (fun g57 k58 => VL (vixS 2 v41_50 v42_55) fun v107_59 =>
k58 v107_59 h56) (fun g60 v43_61 h62 =>
pgk true h62 (fun g63 k64 => pld h62 (some 2) (fun v108_65 h66 =>
k64 v108_65 h66) v43_61) (fun g67 v44_68 h69 =>
pgk true h69 (fun g70 k71 => pld h69 (some 2) (fun v109_72 h73 =>
k71 v109_72 h73) (l42.getD 3 .und)) (fun g74 v45_75 h76 =>
pgk true h76 (fun g77 k78 => pcal Try.prog 53 110 h76 (fun v110_79 h80 =>
k78 v110_79 h80) [v44_68, v45_75]) (fun g81 v46_82 h83 =>
pgk true h83 (fun g84 k85 => VL (lift2 (abin .lss) v46_82 (.int .i64 0)) fun v111_86 =>
k85 v111_86 h83) (fun g87 v47_88 h89 =>
VL (vpick g87 v47_88 (.bool false)) fun v112_90 =>
pcond (
VL (lift2 (abin .add) (w41.getD 0 .und) (.int .i64 1)) fun v114_91 =>
N44 [v114_91] [(l42.getD 0 .und), (l42.getD 1 .und), (l42.getD 2 .und), (l42.getD 3 .und)] h89) (
VL (vlenS (l42.getD 1 .und)) fun v117_92 =>
VL (lift2 (abin .eql) (w41.getD 0 .und) v117_92) fun v118_93 =>
pgk false h89 (fun g94 k95 => k95 (l42.getD 1 .und) h89) (fun g96 v56_97 h98 =>
pgk false h98 (fun g99 k100 => k100 (w41.getD 0 .und) h98) (fun g101 v57_102 h103 =>
pgk false h103 (fun g104 k105 => VL (vixS 2 v56_97 v57_102) fun v122_106 =>
k105 v122_106 h103) (fun g107 v58_108 h109 =>
pgk false h109 (fun g110 k111 => pld h109 (some 2) (fun v123_112 h113 =>
k111 v123_112 h113) v58_108) (fun g114 v59_115 h116 =>
pgk false h116 (fun g117 k118 => pld h116 (some 2) (fun v124_119 h120 =>
k118 v124_119 h120) (l42.getD 3 .und)) (fun g121 v60_122 h123 =>
pgk false h123 (fun g124 k125 => VL (veqa true true [(.i .i64), (.i .i64)] v59_115 v60_122) fun v125_126 =>
k125 v125_126 h123) (fun g127 v61_128 h129 =>
VL (vpick g127 (.bool true) v61_128) fun v126_130 =>
pcond (
pld h129 (some 2) (fun v127_131 h132 =>
VL (vslS 2 (l42.getD 1 .und) (some (w41.getD 0 .und)) none) fun v131_133 =>
pmks h132 128 27 2 1 (fun h134 =>
papp h134 (fun m137 s138 => papV 27 2 16 132 h134 (fun v132_135 h136 =>
pmks h136 133 27 0 0 (fun h139 =>
VL (vslS 2 (l42.getD 1 .und) none (some (w41.getD 0 .und))) fun v136_140 =>
papp h139 (fun m143 s144 => papV 27 2 16 137 h139 (fun v137_141 h142 =>
papp h142 (fun m147 s148 => papV 27 2 16 139 h142 (fun v139_145 h146 =>
k11 [(l42.getD 0 .und), v139_145, (l42.getD 2 .und)] h146) m147 s148 v137_141) (pavs h142 v137_141 []) (preadS 2 h142 v132_135)) m143 s144 (.rf 133 0 0)) (pavs h139 (.rf 133 0 0) []) (preadS 2 h139 v136_140)) (vfill [] [])) m137 s138 (.rf 128 0 1)) (pavs h134 (.rf 128 0 1) []) (preadS 2 h134 v131_133)) (vfill [(.int .i64 0), (.int .i64 0)] [(0, 2, v127_131)])) (l42.getD 3 .und)) (
k11 [(l42.getD 0 .und), (l42.getD 1 .und), (l42.getD 2 .und)] h129) v126_130) g121) g114) g107) g101) g96) v118_93) v112_90) g81) g74) g67) g60) g54) g49) v103_46) [(.int .i64 0)] [(o27.getD 0 .und), (o27.getD 1 .und), (o27.getD 2 .und), (o27.getD 3 .und)] h39) v99_40) [v97_36]) (o27.getD 3 .und)) (.ptr 69 0)) [v85_14, v88_18]) [(l7.getD 0 .und), (.int .i64 5)]) [(l7.getD 0 .und), (.int .i64 5)]) fun o12 h13 =>
VL (lift2 (abin .sub) (o12.getD 2 .und) (.int .i64 1)) fun v82_149 =>
N9 [(o12.getD 1 .und), v82_149] [(o12.getD 0 .und)] h13) (
JN (fun k150 =>
VL (vlenS (w6.getD 0 .und)) fun v141_153 =>
VL (lift2 (abin .gtr) v141_153 (.int .i64 0)) fun v142_154 =>
pgk true h8 (fun g155 k156 => k156 (l7.getD 0 .und) h8) (fun g157 v80_158 h159 =>
pgk true h159 (fun g160 k161 => pcal Try.prog 45 145 h159 (fun v145_162 h163 =>
k161 v145_162 h163) [v80_158, (.int .i64 24)]) (fun g164 v81_165 h166 =>
pgk true h166 (fun g167 k168 => VL (lift2 (abin .eql) v81_165 (.int .i64 0)) fun v146_169 =>
k168 v146_169 h166) (fun g170 v82_171 h172 =>
VL (vpick g170 v82_171 (.bool false)) fun v147_173 =>
pcond (
VL (vixS 2 (w6.getD 0 .und) (.int .i64 0)) fun v150_174 =>
pld h172 (some 2) (fun v151_175 h176 =>
pmks h176 152 27 2 1 (fun h177 =>
papp h177 (fun m180 s181 => papV 27 2 16 153 h177 (fun v153_178 h179 =>
k150 [v153_178] h179) m180 s181 (w6.getD 0 .und)) (pavs h177 (w6.getD 0 .und) []) (preadS 2 h177 (.rf 152 0 1))) (vfill [(.int .i64 0), (.int .i64 0)] [(0, 2, v151_175)])) v150_174) (
k150 [(w6.getD 0 .und)] h172) v147_173) g164) g157) v142_154) fun o151 h152 =>
Rt h152 (o151.getD 0 .und)) v80_10) [(.rf 73 0 0), v78_4] [x0] h5) [x0, (.rf 77 0 6)]) (vfill (vi .i64 (List.replicate 6 0)) [(0, 1, (.int .i64 1)), (1, 1, (.int .i64 1)), (2, 1, (.int .i64 2)), (3, 1, (.int .i64 2)), (4, 1, (.int .i64 3)), (5, 1, v76_1)])) [x0, (.int .i64 6)]) (vfill [] [])
theorem spec_l10DrawSet_f {x0 : V} : Prt Try.prog 65 [x0] (spec_l10DrawSet_F x0) := pfun (fn := Try.f65) (m := [.s, .s, .s, .s, .l [3, 4] [0], .s, .s, .j [0, 3, 4], .s, .j [0, 3, 4, 5], .s, .s, .s, .s, .s, .l [7] [0, 3, 4, 5], .s, .s, .s, .s, .j [3], .s, .s]) (c := 1 ≤ 91) rfl (fun h0 Rt => by kernel_rfl) (by decide)

def impl_image_F (x0 x1 : V) (hi : Hp) (Rt : Hp → V → Prop) : Prop :=
pbox hi 66 36 (cellsV x0) fun h0 =>
pmks h0 75 27 0 0 (fun h1 =>
VL (vlenS x1) fun v77_2 =>
LP [6, 14] [2, 12, 13] (fun w3 l4 h5 N6 =>
VL (lift2 (abin .lss) (w3.getD 1 .und) (l4.getD 2 .und)) fun v79_7 =>
pcond (
VL (vixS 2 (l4.getD 1 .und) (w3.getD 1 .und)) fun v80_8 =>
pld h5 (some 2) (fun v81_9 h10 =>
palloc h10 72 27 [(.int .i64 0), (.int .i64 0)] fun h11 =>
pst h11 2 (cellsV v81_9) (fun u12 h13 =>
pld h13 (some 3) (fun v83_14 h15 =>
pld h15 (some 2) (fun v84_16 h17 =>
pcal Try.prog 55 85 h17 (fun v85_18 h19 =>
VL (vext 0 v85_18) fun v86_20 =>
VL (vext 1 v85_18) fun v87_21 =>
palloc h19 73 27 [(.int .i64 0), (.int .i64 0)] fun h22 =>
pst h22 2 (cellsV v86_20) (fun u23 h24 =>
VL (lift2 (abin .neq) v87_21 (.int .i64 0)) fun v89_25 =>
pcond (
Rt h24 (.tup [.nils, v87_21])) (
pld h24 (some 2) (fun v92_26 h27 =>
pmks h27 93 27 2 1 (fun h28 =>
papp h28 (fun m31 s32 => papV 27 2 16 94 h28 (fun v94_29 h30 =>
VL (lift2 (abin .add) (w3.getD 1 .und) (.int .i64 1)) fun v95_33 =>
N6 [v94_29, v95_33] [(l4.getD 0 .und), (l4.getD 1 .und), (l4.getD 2 .und)] h30) m31 s32 (w3.getD 0 .und)) (pavs h28 (w3.getD 0 .und) []) (preadS 2 h28 (.rf 93 0 1))) (vfill [(.int .i64 0), (.int .i64 0)] [(0, 2, v92_26)])) (.ptr 73 0)) v89_25) (.ptr 73 0)) [v83_14, v84_16]) (.ptr 72 0)) (l4.getD 0 .und)) (.ptr 72 0)) v80_8) (
pcal Try.prog 82 97 h5 (fun v97_34 h35 =>
pcal Try.prog 83 99 h35 (fun v99_36 h37 =>
Rt h37 (.tup [v99_36, (.int .i64 0)])) [(w3.getD 0 .und)]) [(w3.getD 0 .und), (.fn 52 [])]) v79_7) [(.rf 75 0 0), (.int .i64 0)] [(.ptr 66 0), x1, v77_2] h1) (vfill [] [])
theorem impl_image_f {x0 x1 : V} : Prt Try.prog 66 [x0, x1] (impl_image_F x0 x1) := pfun (fn := Try.f66) (m := [.s, .s, .s, .s, .l [6, 14] [2, 12, 13], .s, .s, .s, .s, .s, .s, .s, .s, .s, .s]) (c := 2 ≤ 36) rfl (fun h0 Rt => by kernel_rfl) (by decide)

def spec_l10Set_F (x0 : V) (hi : Hp) (Rt : Hp → V → Prop) : Prop :=
LP [3] [0] (fun w0 l1 h2 N3 =>
VL (vlenS (l1.getD 0 .und)) fun v70_4 =>
VL (lift2 (abin .lss) (w0.getD 0 .und) v70_4) fun v71_5 =>
pcond (
VL (vixS 2 (l1.getD 0 .und) (w0.getD 0 .und)) fun v76_6 =>
pld h2 (some 2) (fun v77_7 h8 =>
pcal Try.prog 51 78 h8 (fun v78_9 h10 =>
VL (lift1 (aun .not) v78_9) fun v79_11 =>
pgk false h10 (fun g12 k13 => k13 (w0.getD 0 .und) h10) (fun g14 v17_15 h16 =>
pgk false h16 (fun g17 k18 => VL (lift2 (abin .gtr) v17_15 (.int .i64 0)) fun v82_19 =>
k18 v82_19 h16) (fun g20 v18_21 h22 =>
pgk false h22 (fun g23 k24 => k24 v18_21 h22) (fun g25 v19_26 h27 =>
pgk true h27 (fun g28 k29 => k29 (l1.getD 0 .und) h27) (fun g30 v20_31 h32 =>
pgk true h32 (fun g33 k34 => k34 (w0.getD 0 .und) h32) (fun g35 v21_36 h37 =>
pgk true h37 (fun g38 k39 => VL (lift2 (abin .sub) v21_36 (.int .i64 1)) fun v86_40 =>
k39 v86_40 h37) (fun g41 v22_42 h43 =>
pgk true h43 (fun g44 k45 => VL (vixS 2 v20_31 v22_42) fun v87_46 =>
k45 v87_46 h43) (fun g47 v23_48 h49 =>
pgk true h49 (fun g50 k51 => pld h49 (some 2) (fun v88_52 h53 =>
k51 v88_52 h53) v23_48) (fun g54 v24_55 h56 =>
pgk true h56 (fun g57 k58 => k58 (l1.getD 0 .und) h56) (fun g59 v25_60 h61 =>
pgk true h61 (fun g62 k63 => k63 (w0.getD 0 .und) h61) (fun g64 v26_65 h66 =>
pgk true h66 (fun g67 k68 => VL (vixS 2 v25_60 v26_65) fun v91_69 =>
k68 v91_69 h66) (fun g70 v27_71 h72 =>
pgk true h72 (fun g73 k74 => pld h72 (some 2) (fun v92_75 h76 =>
k74 v92_75 h76) v27_71) (fun g77 v28_78 h79 =>
pgk true h79 (fun g80 k81 => pcal Try.prog 53 93 h79 (fun v93_82 h83 =>
k81 v93_82 h83) [v24_55, v28_78]) (fun g84 v29_85 h86 =>
pgk true h86 (fun g87 k88 => VL (lift2 (abin .geq) v29_85 (.int .i64 0)) fun v94_89 =>
k88 v94_89 h86) (fun g90 v30_91 h92 =>
pgk false h92 (fun g93 k94 => VL (vpick g90 v30_91 (.bool false)) fun v95_95 =>
k94 v95_95 h92) (fun g96 v31_97 h98 =>
VL (vpick g96 (.bool true) v31_97) fun v96_99 =>
pcond (
Rt h98 (.bool false)) (
VL (lift2 (abin .add) (w0.getD 0 .und) (.int .i64 1)) fun v73_100 =>
N3 [v73_100] [(l1.getD 0 .und)] h98) v96_99) g25) g84) g77) g70) g64) g59) g54) g47) g41) g35) g30) v19_26) g20) g14) v79_11) [v77_7]) v76_6) (
VL (vlenS (l1.getD 0 .und)) fun v98_101 =>
VL (lift2 (abin .leq) v98_101 (.int .i64 12)) fun v99_102 =>
Rt h2 v99_102) v71_5) [(.int .i64 0)] [x0] hi
theorem spec_l10Set_f {x0 : V} : Prt Try.prog 67 [x0] (spec_l10Set_F x0) := pfun (fn := Try.f67) (m := [.s, .s, .s, .l [3] [0], .s, .s, .s, .s, .s, .s]) (c := 1 ≤ 36) rfl (fun h0 Rt => by kernel_rfl) (by decide)

def spec_l10Image_F (x0 x1 : V) (hi : Hp) (Rt : Hp → V → Prop) : Prop :=
pbox hi 66 36 (cellsV x0) fun h0 =>
pmks h0 76 27 0 0 (fun h1 =>
LP [6, 7] [1, 2] (fun w2 l3 h4 N5 =>
VL (vlenS (l3.getD 0 .und)) fun v79_6 =>
VL (lift2 (abin .lss) (w2.getD 1 .und) v79_6) fun v80_7 =>
pcond (
JN (fun k8 =>
pld h4 (some 3) (fun v84_11 h12 =>
VL (vixS 2 (l3.getD 0 .und) (w2.getD 1 .und)) fun v87_13 =>
pld h12 (some 2) (fun v88_14 h15 =>
pcalp Try.prog 57 89 h15 (fun v89_16 h17 =>
VL (vext 0 v89_16) fun v90_18 =>
VL (vext 1 v89_16) fun v91_19 =>
palloc h17 72 27 [(.int .i64 0), (.int .i64 0)] fun h20 =>
pst h20 2 (cellsV v90_18) (fun u21 h22 =>
VL (lift1 (aun .not) v91_19) fun v93_23 =>
pcond (
Rt h22 (.tup [.nils, (.bool false)])) (
LP [10] [1, 2, 6, 7, 8] (fun w24 l25 h26 N27 =>
VL (vlenS (l25.getD 2 .und)) fun v96_28 =>
VL (lift2 (abin .lss) (w24.getD 0 .und) v96_28) fun v97_29 =>
pgk true h26 (fun g30 k31 => k31 (l25.getD 2 .und) h26) (fun g32 v35_33 h34 =>
pgk true h34 (fun g35 k36 => k36 (w24.getD 0 .und) h34) (fun g37 v36_38 h39 =>
pgk true h39 (fun g40 k41 => VL (vixS 2 v35_33 v36_38) fun v101_42 =>
k41 v101_42 h39) (fun g43 v37_44 h45 =>
pgk true h45 (fun g46 k47 => pld h45 (some 2) (fun v102_48 h49 =>
k47 v102_48 h49) v37_44) (fun g50 v38_51 h52 =>
pgk true h52 (fun g53 k54 => pld h52 (some 2) (fun v103_55 h56 =>
k54 v103_55 h56) (l25.getD 4 .und)) (fun g57 v39_58 h59 =>
pgk true h59 (fun g60 k61 => pcal Try.prog 53 104 h59 (fun v104_62 h63 =>
k61 v104_62 h63) [v38_51, v39_58]) (fun g64 v40_65 h66 =>
pgk true h66 (fun g67 k68 => VL (lift2 (abin .lss) v40_65 (.int .i64 0)) fun v105_69 =>
k68 v105_69 h66) (fun g70 v41_71 h72 =>
VL (vpick g70 v41_71 (.bool false)) fun v106_73 =>
pcond (
VL (lift2 (abin .add) (w24.getD 0 .und) (.int .i64 1)) fun v108_74 =>
N27 [v108_74] [(l25.getD 0 .und), (l25.getD 1 .und), (l25.getD 2 .und), (l25.getD 3 .und), (l25.getD 4 .und)] h72) (
VL (vlenS (l25.getD 2 .und)) fun v111_75 =>
VL (lift2 (abin .eql) (w24.getD 0 .und) v111_75) fun v112_76 =>
pgk false h72 (fun g77 k78 => k78 (l25.getD 2 .und) h72) (fun g79 v50_80 h81 =>
pgk false h81 (fun g82 k83 => k83 (w24.getD 0 .und) h81) (fun g84 v51_85 h86 =>
pgk false h86 (fun g87 k88 => VL (vixS 2 v50_80 v51_85) fun v116_89 =>
k88 v116_89 h86) (fun g90 v52_91 h92 =>
pgk false h92 (fun g93 k94 => pld h92 (some 2) (fun v117_95 h96 =>
k94 v117_95 h96) v52_91) (fun g97 v53_98 h99 =>
pgk false h99 (fun g100 k101 => pld h99 (some 2) (fun v118_102 h103 =>
k101 v118_102 h103) (l25.getD 4 .und)) (fun g104 v54_105 h106 =>
pgk false h106 (fun g107 k108 => VL (veqa true true [(.i .i64), (.i .i64)] v53_98 v54_105) fun v119_109 =>
k108 v119_109 h106) (fun g110 v55_111 h112 =>
VL (vpick g110 (.bool true) v55_111) fun v120_113 =>
pcond (
pld h112 (some 2) (fun v121_114 h115 =>
VL (vslS 2 (l25.getD 2 .und) (some (w24.getD 0 .und)) none) fun v125_116 =>
pmks h115 122 27 2 1 (fun h117 =>
papp h117 (fun m120 s121 => papV 27 2 16 126 h117 (fun v126_118 h119 =>
pmks h119 127 27 0 0 (fun h122 =>
VL (vslS 2 (l25.getD 2 .und) none (some (w24.getD 0 .und))) fun v130_123 =>
papp h122 (fun m126 s127 => papV 27 2 16 131 h122 (fun v131_124 h125 =>
papp h125 (fun m130 s131 => papV 27 2 16 133 h125 (fun v133_128 h129 =>
k8 [(l25.getD 0 .und), (l25.getD 1 .und), v133_128, (l25.getD 3 .und)] h129) m130 s131 v131_124) (pavs h125 v131_124 []) (preadS 2 h125 v126_118)) m126 s127 (.rf 127 0 0)) (pavs h122 (.rf 127 0 0) []) (preadS 2 h122 v130_123)) (vfill [] [])) m120 s121 (.rf 122 0 1)) (pavs h117 (.rf 122 0 1) []) (preadS 2 h117 v125_116)) (vfill [(.int .i64 0), (.int .i64 0)] [(0, 2, v121_114)])) (l25.getD 4 .und)) (
k8 [(l25.getD 0 .und), (l25.getD 1 .und), (l25.getD 2 .und), (l25.getD 3 .und)] h112) v120_113) g104) g97) g90) g84) g79) v112_76) v106_73) g64) g57) g50) g43) g37) g32) v97_29) [(.int .i64 0)] [(l3.getD 0 .und), (l3.getD 1 .und), (w2.getD 0 .und), (w2.getD 1 .und), (.ptr 72 0)] h22) v93_23) (.ptr 72 0)) [v84_11, v88_14]) v87_13) (l3.getD 1 .und)) fun o9 h10 =>
VL (lift2 (abin .add) (o9.getD 3 .und) (.int .i64 1)) fun v82_132 =>
N5 [(o9.getD 2 .und), v82_132] [(o9.getD 0 .und), (o9.getD 1 .und)] h10) (
Rt h4 (.tup [(w2.getD 0 .und), (.bool true)])) v80_7) [(.rf 76 0 0), (.int .i64 0)] [x1, (.ptr 66 0)] h1) (vfill [] [])
theorem spec_l10Image_f {x0 x1 : V} : Prt Try.prog 68 [x0, x1] (spec_l10Image_F x0 x1) := pfun (fn := Try.f68) (m := [.s, .s, .s, .s, .l [6, 7] [1, 2], .s, .s, .j [1, 2, 6, 7], .s, .s, .s, .s, .s, .s, .l [10] [1, 2, 6, 7, 8], .s, .s, .s, .s, .s]) (c := 2 ≤ 71) rfl (fun h0 Rt => by kernel_rfl) (by decide)

def impl_nextMove_F (x0 : V) (hi : Hp) (Rt : Hp → V → Prop) : Prop :=
palloc hi 66 36 [(.int .i64 0), (.int .i64 0), (.int .i64 0)] fun h0 =>
pcal Try.prog 84 73 h0 (fun v73_1 h2 =>
VL (vext 0 v73_1) fun v74_3 =>
VL (vext 1 v73_1) fun v75_4 =>
palloc h2 68 27 [(.int .i64 0), (.int .i64 0)] fun h5 =>
pst h5 2 (cellsV v74_3) (fun u6 h7 =>
VL (lift1 (aun .not) v75_4) fun v78_8 =>
pcond (
VL (vbld (vfill [(.int .i64 0), (.int .i64 0), (.int .i64 0)] [])) fun v79_9 =>
pst h7 3 (cellsV v79_9) (fun u10 h11 =>
VL (pcellV h11 (some 3) (.ptr 66 0)) fun r12 =>
Rt h11 (.tup [r12, (.int .i64 5)])) (.ptr 66 0)) (
pld h7 none (fun v82_13 h14 =>
VL (lift2 (abin .lss) v82_13 (.int .i64 0)) fun v83_15 =>
pcond (
VL (vbld (vfill [(.int .i64 0), (.int .i64 0), (.int .i64 0)] [])) fun v84_16 =>
pst h14 3 (cellsV v84_16) (fun u17 h18 =>
VL (pcellV h18 (some 3) (.ptr 66 0)) fun r19 =>
Rt h18 (.tup [r19, (.int .i64 0)])) (.ptr 66 0)) (
pld h14 none (fun v87_20 h21 =>
pld h21 none (fun v89_22 h23 =>
VL (lift2 (abin .gtr) v87_20 v89_22) fun v90_24 =>
pcond (
VL (vbld (vfill [(.int .i64 0), (.int .i64 0), (.int .i64 0)] [(0, 1, (.int .i64 1))])) fun v91_25 =>
pst h23 3 (cellsV v91_25) (fun u26 h27 =>
VL (pcellV h27 (some 3) (.ptr 66 0)) fun r28 =>
Rt h27 (.tup [r28, (.int .i64 0)])) (.ptr 66 0)) (
pld h23 none (fun v93_29 h30 =>
pld h30 none (fun v95_31 h32 =>
pld h32 none (fun v97_33 h34 =>
VL (lift2 (abin .sub) v95_31 v97_33) fun v98_35 =>
VL (vbld (vfill [(.int .i64 0), (.int .i64 0), (.int .i64 0)] [(0, 1, (.int .i64 2)), (1, 1, v93_29), (2, 1, v98_35)])) fun v99_36 =>
palloc h34 70 36 [(.int .i64 0), (.int .i64 0), (.int .i64 0)] fun h37 =>
pst h37 3 (cellsV v99_36) (fun u38 h39 =>
pld h39 (some 3) (fun v100_40 h41 =>
pcal Try.prog 18 101 h41 (fun v101_42 h43 =>
VL (lift1 (aun .not) v101_42) fun v102_44 =>
pcond (
VL (vbld (vfill [(.int .i64 0), (.int .i64 0), (.int .i64 0)] [])) fun v103_45 =>
pst h43 3 (cellsV v103_45) (fun u46 h47 =>
VL (pcellV h47 (some 3) (.ptr 66 0)) fun r48 =>
Rt h47 (.tup [r48, (.int .i64 3)])) (.ptr 66 0)) (
pld h43 (some 3) (fun v104_49 h50 =>
pst h50 3 (cellsV v104_49) (fun u51 h52 =>
VL (pcellV h52 (some 3) (.ptr 66 0)) fun r53 =>
Rt h52 (.tup [r53, (.int .i64 0)])) (.ptr 66 0)) (.ptr 70 0)) v102_44) [v100_40]) (.ptr 70 0)) (.ptr 70 0)) (.ptr 68 0)) (.ptr 68 1)) (.ptr 68 0)) v90_24) (.ptr 68 1)) (.ptr 68 0)) v83_15) (.ptr 68 0)) v78_8) (.ptr 68 0)) [x0]
theorem impl_nextMove_f {x0 : V} : Prt Try.prog 69 [x0] (impl_nextMove_F x0) := pfun (fn := Try.f69) (m := [.s, .s, .s, .s, .s, .s, .s, .s, .s, .s, .s, .s, .s, .s]) (c := 1 ≤ 41) rfl (fun h0 Rt => by kernel_rfl) (by decide)

def spec_l10Next_F (x0 : V) (hi : Hp) (Rt : Hp → V → Prop) : Prop :=
palloc hi 66 36 [(.int .i64 0), (.int .i64 0), (.int .i64 0)] fun h0 =>
LP [5] [0, 2] (fun w1 l2 h3 N4 =>
VL (vlenS (l2.getD 0 .und)) fun v74_5 =>
VL (lift2 (abin .lss) (w1.getD 0 .und) v74_5) fun v75_6 =>
pcond (
VL (vixS 2 (l2.getD 0 .und) (w1.getD 0 .und)) fun v80_7 =>
pld h3 (some 2) (fun v81_8 h9 =>
palloc h9 70 27 [(.int .i64 0), (.int .i64 0)] fun h10 =>
pst h10 2 (cellsV v81_8) (fun u11 h12 =>
pld h12 none (fun v84_13 h14 =>
VL (lift2 (abin .eql) v84_13 (.int .i64 0)) fun v85_15 =>
pgk false h14 (fun g16 k17 => k17 (.ptr 70 0) h14) (fun g18 v23_19 h20 =>
pgk false h20 (fun g21 k22 => pld h20 none (fun v88_23 h24 =>
k22 v88_23 h24) v23_19) (fun g25 v24_26 h27 =>
pgk false h27 (fun g28 k29 => VL (lift2 (abin .eql) v24_26 (.int .i64 0)) fun v89_30 =>
k29 v89_30 h27) (fun g31 v25_32 h33 =>
VL (vpick g31 (.bool true) v25_32) fun v90_34 =>
pgk false h33 (fun g35 k36 => k36 (.ptr 70 0) h33) (fun g37 v28_38 h39 =>
pgk false h39 (fun g40 k41 => pld h39 none (fun v93_42 h43 =>
k41 v93_42 h43) v28_38) (fun g44 v29_45 h46 =>
pgk false h46 (fun g47 k48 => k48 (.ptr 70 1) h46) (fun g49 v30_50 h51 =>
pgk false h51 (fun g52 k53 => pld h51 none (fun v95_54 h55 =>
k53 v95_54 h55) v30_50) (fun g56 v31_57 h58 =>
pgk false h58 (fun g59 k60 => VL (lift2 (abin .eql) v29_45 v31_57) fun v96_61 =>
k60 v96_61 h58) (fun g62 v32_63 h64 =>
VL (vpick g62 (.bool true) v32_63) fun v97_65 =>
pcond (
VL (lift2 (abin .add) (w1.getD 0 .und) (.int .i64 1)) fun v77_66 =>
N4 [v77_66] [(l2.getD 0 .und), (l2.getD 1 .und)] h64) (
pld h64 none (fun v100_67 h68 =>
VL (lift2 (abin .lss) v100_67 (.int .i64 0)) fun v101_69 =>
pcond (
VL (vbld (vfill [(.int .i64 0), (.int .i64 0), (.int .i64 0)] [])) fun v102_70 =>
pst h68 3 (cellsV v102_70) (fun u71 h72 =>
VL (pcellV h72 (some 3) (l2.getD 1 .und)) fun r73 =>
Rt h72 (.tup [r73, (.bool true), (.bool false)])) (l2.getD 1 .und)) (
pld h68 none (fun v105_74 h75 =>
pld h75 none (fun v107_76 h77 =>
VL (lift2 (abin .gtr) v105_74 v107_76) fun v108_78 =>
pcond (
VL (vbld (vfill [(.int .i64 0), (.int .i64 0), (.int .i64 0)] [(0, 1, (.int .i64 1))])) fun v109_79 =>
pst h77 3 (cellsV v109_79) (fun u80 h81 =>
VL (pcellV h81 (some 3) (l2.getD 1 .und)) fun r82 =>
Rt h81 (.tup [r82, (.bool true), (.bool false)])) (l2.getD 1 .und)) (
pld h77 none (fun v111_83 h84 =>
pld h84 none (fun v113_85 h86 =>
pld h86 none (fun v115_87 h88 =>
VL (lift2 (abin .sub) v113_85 v115_87) fun v116_89 =>
VL (vbld (vfill [(.int .i64 0), (.int .i64 0), (.int .i64 0)] [(0, 1, (.int .i64 2)), (1, 1, v111_83), (2, 1, v116_89)])) fun v117_90 =>
palloc h88 71 36 [(.int .i64 0), (.int .i64 0), (.int .i64 0)] fun h91 =>
pst h91 3 (cellsV v117_90) (fun u92 h93 =>
pld h93 (some 3) (fun v118_94 h95 =>
pld h95 (some 3) (fun v119_96 h97 =>
pcalp Try.prog 56 120 h97 (fun v120_98 h99 =>
pst h99 3 (cellsV v118_94) (fun u100 h101 =>
VL (pcellV h101 (some 3) (l2.getD 1 .und)) fun r102 =>
Rt h101 (.tup [r102, v120_98, (.bool false)])) (l2.getD 1 .und)) [v119_96]) (.ptr 71 0)) (.ptr 71 0)) (.ptr 71 0)) (.ptr 70 0)) (.ptr 70 1)) (.ptr 70 0)) v108_78) (.ptr 70 1)) (.ptr 70 0)) v101_69) (.ptr 70 0)) v97_65) g56) g49) g44) g37) v90_34) g25) g18) v85_15) (.ptr 70 1)) (.ptr 70 0)) v80_7) (
VL (vbld (vfill [(.int .i64 0), (.int .i64 0), (.int .i64 0)] [])) fun v121_103 =>
pst h3 3 (cellsV v121_103) (fun u104 h105 =>
VL (pcellV h105 (some 3) (l2.getD 1 .und)) fun r106 =>
Rt h105 (.tup [r106, (.bool true), (.bool true)])) (l2.getD 1 .und)) v75_6) [(.int .i64 0)] [x0, (.ptr 66 0)] h0
theorem spec_l10Next_f {x0 : V} : Prt Try.prog 70 [x0] (spec_l10Next_F x0) := pfun (fn := Try.f70) (m := [.s, .s, .s, .l [5] [0, 2], .s, .s, .s, .s, .s, .s, .s, .s, .s, .s, .s, .s, .s]) (c := 1 ≤ 58) rfl (fun h0 Rt => by kernel_rfl) (by decide)

def spec_l10Chain_F (x0 : V) (hi : Hp) (Rt : Hp → V → Prop) : Prop :=
pmks hi 74 36 0 0 (fun h0 =>
LP [0, 4] [] (fun w1 l2 h3 N4 =>
pcal Try.prog 70 77 h3 (fun v77_5 h6 =>
VL (vext 0 v77_5) fun v78_7 =>
VL (vext 1 v77_5) fun v79_8 =>
VL (vext 2 v77_5) fun v80_9 =>
palloc h6 69 36 [(.int .i64 0), (.int .i64 0), (.int .i64 0)] fun h10 =>
pst h10 3 (cellsV v78_7) (fun u11 h12 =>
pcond (
Rt h12 (.tup [(w1.getD 1 .und), (.bool true)])) (
VL (lift1 (aun .not) v79_8) fun v84_13 =>
pgk false h12 (fun g14 k15 => k15 (w1.getD 1 .und) h12) (fun g16 v22_17 h18 =>
pgk false h18 (fun g19 k20 => VL (vlenS v22_17) fun v87_21 =>
k20 v87_21 h18) (fun g22 v23_23 h24 =>
pgk false h24 (fun g25 k26 => VL (lift2 (abin .eql) v23_23 (.int .i64 20)) fun v88_27 =>
k26 v88_27 h24) (fun g28 v24_29 h30 =>
VL (vpick g28 (.bool true) v24_29) fun v89_31 =>
pcond (
Rt h30 (.tup [.nils, (.bool false)])) (
pld h30 (some 3) (fun v91_32 h33 =>
pcal Try.prog 68 93 h33 (fun v93_34 h35 =>
VL (vext 0 v93_34) fun v94_36 =>
VL (vext 1 v93_34) fun v95_37 =>
VL (lift1 (aun .not) v95_37) fun v97_38 =>
pcond (
Rt h35 (.tup [.nils, (.bool false)])) (
pld h35 (some 3) (fun v99_39 h40 =>
pmks h40 100 36 3 1 (fun h41 =>
papp h41 (fun m44 s45 => papV 36 3 24 101 h41 (fun v101_42 h43 =>
N4 [v94_36, v101_42] [] h43) m44 s45 (w1.getD 1 .und)) (pavs h41 (w1.getD 1 .und) []) (preadS 3 h41 (.rf 100 0 1))) (vfill [(.int .i64 0), (.int .i64 0), (.int .i64 0)] [(0, 3, v99_39)])) (.ptr 69 0)) v97_38) [v91_32, (w1.getD 0 .und)]) (.ptr 69 0)) v89_31) g22) g16) v84_13) v80_9) (.ptr 69 0)) [(w1.getD 0 .und)]) [x0, (.rf 74 0 0)] [] h0) (vfill [] [])
theorem spec_l10Chain_f {x0 : V} : Prt Try.prog 71 [x0] (spec_l10Chain_F x0) := pfun (fn := Try.f71) (m := [.s, .s, .l [0, 4] [], .s, .s, .s, .s, .s, .s, .s, .s, .s, .s, .s, .s]) (c := 1 ≤ 39) rfl (fun h0 Rt => by kernel_rfl) (by decide)

def spec_l10DrawMoves_F (x0 : V) (hi : Hp) (Rt : Hp → V → Prop) : Prop :=
pmks hi 69 36 0 0 (fun h0 =>
pcal Try.prog 45 71 h0 (fun v71_1 h2 =>
LP [3, 4] [0] (fun w3 l4 h5 N6 =>
VL (lift2 (abin .gtr) (w3.getD 1 .und) (.int .i64 0)) fun v73_7 =>
pcond (
pcal Try.prog 54 78 h5 (fun v78_8 h9 =>
pmks h9 79 36 3 1 (fun h10 =>
papp h10 (fun m13 s14 => papV 36 3 24 80 h10 (fun v80_11 h12 =>
VL (lift2 (abin .sub) (w3.getD 1 .und) (.int .i64 1)) fun v75_15 =>
N6 [v80_11, v75_15] [(l4.getD 0 .und)] h12) m13 s14 (w3.getD 0 .und)) (pavs h10 (w3.getD 0 .und) []) (preadS 3 h10 (.rf 79 0 1))) (vfill [(.int .i64 0), (.int .i64 0), (.int .i64 0)] [(0, 3, v78_8)])) [(l4.getD 0 .und)]) (
JN (fun k16 =>
pcal Try.prog 45 82 h5 (fun v82_19 h20 =>
VL (lift2 (abin .eql) v82_19 (.int .i64 0)) fun v83_21 =>
pcond (
LP [3] [] (fun w22 l23 h24 N25 =>
VL (vlenS (w22.getD 0 .und)) fun v85_26 =>
VL (lift2 (abin .leq) v85_26 (.int .i64 20)) fun v86_27 =>
pcond (
VL (vbld (vfill [(.int .i64 0), (.int .i64 0), (.int .i64 0)] [])) fun v88_28 =>
pmks h24 89 36 3 1 (fun h29 =>
papp h29 (fun m32 s33 => papV 36 3 24 90 h29 (fun v90_30 h31 =>
N25 [v90_30] [] h31) m32 s33 (w22.getD 0 .und)) (pavs h29 (w22.getD 0 .und) []) (preadS 3 h29 (.rf 89 0 1))) (vfill [(.int .i64 0), (.int .i64 0), (.int .i64 0)] [(0, 3, v88_28)])) (
k16 [(w22.getD 0 .und)] h24) v86_27) [(w3.getD 0 .und)] [] h20) (
k16 [(w3.getD 0 .und)] h20) v83_21) [(l4.getD 0 .und), (.int .i64 30)]) fun o17 h18 =>
Rt h18 (o17.getD 0 .und)) v73_7) [(.rf 69 0 0), v71_1] [x0] h2) [x0, (.int .i64 5)]) (vfill [] [])
theorem spec_l10DrawMoves_f {x0 : V} : Prt Try.prog 72 [x0] (spec_l10DrawMoves_F x0) := pfun (fn := Try.f72) (m := [.s, .s, .s, .s, .l [3, 4] [0], .s, .s, .s, .j [3], .s, .l [3] [], .s, .s, .s]) (c := 1 ≤ 28) rfl (fun h0 Rt => by kernel_rfl) (by decide)

def impl_movesCode_F (x0 : V) (hi : Hp) (Rt : Hp → V → Prop) : Prop :=
VL (vlenS x0) fun v70_0 =>
LP [7] [0, 5, 6] (fun w1 l2 h3 N4 =>
VL (lift2 (abin .lss) (w1.getD 0 .und) (l2.getD 2 .und)) fun v72_5 =>
pcond (
VL (vixS 3 (l2.getD 1 .und) (w1.getD 0 .und)) fun v73_6 =>
pld h3 (some 3) (fun v74_7 h8 =>
palloc h8 68 36 [(.int .i64 0), (.int .i64 0), (.int .i64 0)] fun h9 =>
pst h9 3 (cellsV v74_7) (fun u10 h11 =>
pld h11 (some 3) (fun v75_12 h13 =>
pcal Try.prog 18 76 h13 (fun v76_14 h15 =>
VL (lift1 (aun .not) v76_14) fun v77_16 =>
pcond (
Rt h15 (.int .i64 1)) (
VL (lift2 (abin .add) (w1.getD 0 .und) (.int .i64 1)) fun v78_17 =>
N4 [v78_17] [(l2.getD 0 .und), (l2.getD 1 .und), (l2.getD 2 .und)] h15) v77_16) [v75_12]) (.ptr 68 0)) (.ptr 68 0)) v73_6) (
VL (vlenS (l2.getD 0 .und)) fun v80_18 =>
VL (lift2 (abin .gtr) v80_18 (.int .i64 20)) fun v81_19 =>
pcond (
Rt h3 (.int .i64 2)) (
Rt h3 (.int .i64 0)) v81_19) v72_5) [(.int .i64 0)] [x0, x0, v70_0] hi
theorem impl_movesCode_f {x0 : V} : Prt Try.prog 73 [x0] (impl_movesCode_F x0) := pfun (fn := Try.f73) (m := [.s, .s, .s, .l [7] [0, 5, 6], .s, .s, .s, .s, .s, .s, .s, .s, .s, .s]) (c := 1 ≤ 18) rfl (fun h0 Rt => by kernel_rfl) (by decide)

def spec_l10Moves_F (x0 : V) (hi : Hp) (Rt : Hp → V → Prop) : Prop :=
LP [3] [0] (fun w0 l1 h2 N3 =>
VL (vlenS (l1.getD 0 .und)) fun v70_4 =>
VL (lift2 (abin .lss) (w0.getD 0 .und) v70_4) fun v71_5 =>
pcond (
VL (vixS 3 (l1.getD 0 .und) (w0.getD 0 .und)) fun v76_6 =>
pld h2 (some 3) (fun v77_7 h8 =>
pcal Try.prog 56 78 h8 (fun v78_9 h10 =>
VL (lift1 (aun .not) v78_9) fun v79_11 =>
pcond (
Rt h10 (.int .i64 1)) (
VL (lift2 (abin .add) (w0.getD 0 .und) (.int .i64 1)) fun v73_12 =>
N3 [v73_12] [(l1.getD 0 .und)] h10) v79_11) [v77_7]) v76_6) (
VL (vlenS (l1.getD 0 .und)) fun v81_13 =>
VL (lift2 (abin .gtr) v81_13 (.int .i64 20)) fun v82_14 =>
pcond (
Rt h2 (.int .i64 2)) (
Rt h2 (.int .i64 0)) v82_14) v71_5) [(.int .i64 0)] [x0] hi
theorem spec_l10Moves_f {x0 : V} : Prt Try.prog 74 [x0] (spec_l10Moves_F x0) := pfun (fn := Try.f74) (m := [.s, .s, .s, .l [3] [0], .s, .s, .s, .s, .s, .s, .s, .s, .s]) (c := 1 ≤ 19) rfl (fun h0 Rt => by kernel_rfl) (by decide)

def spec_l10Common_F (x0 x1 : V) (hi : Hp) (Rt : Hp → V → Prop) : Prop :=
LP [0, 1] [] (fun w0 l1 h2 N3 =>
VL (lift2 (abin .neq) (w0.getD 1 .und) (.int .i64 0)) fun v71_4 =>
pcond (
VL (lift2 (abin .rem) (w0.getD 0 .und) (w0.getD 1 .und)) fun v74_5 =>
N3 [(w0.getD 1 .und), v74_5] [] h2) (
VL (lift1 (aun .neg) (w0.getD 0 .und)) fun v79_6 =>
VL (lift2 amax (w0.getD 0 .und) v79_6) fun v80_7 =>
Rt h2 v80_7) v71_4) [x0, x1] [] hi
theorem spec_l10Common_f {x0 x1 : V} : Prt Try.prog 75 [x0, x1] (spec_l10Common_F x0 x1) := pfun (fn := Try.f75) (m := [.s, .s, .l [0, 1] [], .s, .s, .s, .s, .s]) (c := 2 ≤ 17) rfl (fun h0 Rt => by kernel_rfl) (by decide)

def impl_lowest_F (x0 x1 : V) (hi : Hp) (Rt : Hp → V → Prop) : Prop :=
palloc hi 68 27 [(.int .i64 0), (.int .i64 0)] fun h0 =>
VL (vlenS x0) fun v78_1 =>
LP [15] [0, 1, 4, 14] (fun w2 l3 h4 N5 =>
VL (lift2 (abin .lss) (w2.getD 0 .und) (l3.getD 3 .und)) fun v80_6 =>
pcond (
VL (vlenS (l3.getD 1 .und)) fun v83_7 =>
LP [20] [0, 1, 4, 6, 14, 15, 19] (fun w8 l9 h10 N11 =>
VL (lift2 (abin .lss) (w8.getD 0 .und) (l9.getD 6 .und)) fun v85_12 =>
pcond (
JN (fun k13 =>
VL (vixS 1 (l9.getD 0 .und) (l9.getD 3 .und)) fun v89_16 =>
pld h10 none (fun v90_17 h18 =>
VL (vixS 1 (l9.getD 1 .und) (w8.getD 0 .und)) fun v93_19 =>
pld h18 none (fun v94_20 h21 =>
pcal Try.prog 47 95 h21 (fun v95_22 h23 =>
VL (lift2 (abin .neq) v95_22 (.int .i64 0)) fun v97_24 =>
pcond (
VL (vixS 1 (l9.getD 0 .und) (l9.getD 3 .und)) fun v100_25 =>
pld h23 none (fun v101_26 h27 =>
VL (lift2 (abin .quo) v101_26 v95_22) fun v103_28 =>
VL (vixS 1 (l9.getD 0 .und) (l9.getD 3 .und)) fun v104_29 =>
pst h27 1 (cellsV v103_28) (fun u30 h31 =>
VL (vixS 1 (l9.getD 1 .und) (w8.getD 0 .und)) fun v107_32 =>
pld h31 none (fun v108_33 h34 =>
VL (lift2 (abin .quo) v108_33 v95_22) fun v110_35 =>
VL (vixS 1 (l9.getD 1 .und) (w8.getD 0 .und)) fun v111_36 =>
pst h34 1 (cellsV v110_35) (fun u37 h38 =>
k13 [(l9.getD 0 .und), (l9.getD 1 .und), (l9.getD 2 .und), (l9.getD 3 .und), (l9.getD 4 .und), (l9.getD 5 .und), (l9.getD 6 .und), (w8.getD 0 .und)] h38) v111_36) v107_32) v104_29) v100_25) (
k13 [(l9.getD 0 .und), (l9.getD 1 .und), (l9.getD 2 .und), (l9.getD 3 .und), (l9.getD 4 .und), (l9.getD 5 .und), (l9.getD 6 .und), (w8.getD 0 .und)] h23) v97_24) [v90_17, v94_20]) v93_19) v89_16) fun o14 h15 =>
VL (lift2 (abin .add) (o14.getD 7 .und) (.int .i64 1)) fun v112_39 =>
N11 [v112_39] [(o14.getD 0 .und), (o14.getD 1 .und), (o14.getD 2 .und), (o14.getD 3 .und), (o14.getD 4 .und), (o14.getD 5 .und), (o14.getD 6 .und)] h15) (
VL (lift2 (abin .add) (l9.getD 5 .und) (.int .i64 1)) fun v113_40 =>
N5 [v113_40] [(l9.getD 0 .und), (l9.getD 1 .und), (l9.getD 2 .und), (l9.getD 4 .und)] h10) v85_12) [(.int .i64 0)] [(l3.getD 0 .und), (l3.getD 1 .und), (l3.getD 2 .und), (w2.getD 0 .und), (l3.getD 3 .und), (w2.getD 0 .und), v83_7] h4) (
pcal Try.prog 85 115 h4 (fun v115_41 h42 =>
pcond (
VL (vbld (vfill [(.int .i64 0), (.int .i64 0)] [(1, 1, (.int .i64 1))])) fun v116_43 =>
pst h42 2 (cellsV v116_43) (fun u44 h45 =>
VL (pcellV h45 (some 2) (l3.getD 2 .und)) fun r46 =>
Rt h45 (.tup [r46, (.int .i64 0)])) (l3.getD 2 .und)) (
pcal Try.prog 86 119 h42 (fun v119_47 h48 =>
VL (vext 0 v119_47) fun v120_49 =>
VL (vext 1 v119_47) fun v121_50 =>
pcal Try.prog 86 124 h48 (fun v124_51 h52 =>
VL (vext 0 v124_51) fun v125_53 =>
VL (vext 1 v124_51) fun v126_54 =>
VL (lift1 (aun .not) v121_50) fun v128_55 =>
pgk false h52 (fun g56 k57 => k57 v126_54 h52) (fun g58 v66_59 h60 =>
pgk false h60 (fun g61 k62 => VL (lift1 (aun .not) v66_59) fun v131_63 =>
k62 v131_63 h60) (fun g64 v67_65 h66 =>
VL (vpick g64 (.bool true) v67_65) fun v132_67 =>
pcond (
VL (vbld (vfill [(.int .i64 0), (.int .i64 0)] [])) fun v133_68 =>
pst h66 2 (cellsV v133_68) (fun u69 h70 =>
VL (pcellV h70 (some 2) (l3.getD 2 .und)) fun r71 =>
Rt h70 (.tup [r71, (.int .i64 3)])) (l3.getD 2 .und)) (
JN (fun k72 =>
VL (lift2 (abin .lss) v125_53 (.int .i64 0)) fun v135_75 =>
pcond (
VL (lift1 (aun .neg) v120_49) fun v137_76 =>
VL (lift1 (aun .neg) v125_53) fun v139_77 =>
k72 [(l3.getD 2 .und), v137_76, v139_77] h66) (
k72 [(l3.getD 2 .und), v120_49, v125_53] h66) v135_75) fun o73 h74 =>
VL (vbld (vfill [(.int .i64 0), (.int .i64 0)] [(0, 1, (o73.getD 1 .und)), (1, 1, (o73.getD 2 .und))])) fun v142_78 =>
pst h74 2 (cellsV v142_78) (fun u79 h80 =>
VL (pcellV h80 (some 2) (o73.getD 0 .und)) fun r81 =>
Rt h80 (.tup [r81, (.int .i64 0)])) (o73.getD 0 .und)) v132_67) g58) v128_55) [(l3.getD 1 .und)]) [(l3.getD 0 .und)]) v115_41) [(l3.getD 0 .und), (.int .i64 0)]) v80_6) [(.int .i64 0)] [x0, x1, (.ptr 68 0), v78_1] h0
theorem impl_lowest_f {x0 x1 : V} : Prt Try.prog 76 [x0, x1] (impl_lowest_F x0 x1) := pfun (fn := Try.f76) (m := [.s, .s, .s, .l [15] [0, 1, 4, 14], .s, .s, .s, .s, .s, .l [20] [0, 1, 4, 6, 14, 15, 19], .s, .s, .j [0, 1, 4, 6, 14, 15, 19, 20], .s, .s, .s, .s, .s, .s, .s, .s, .s, .s, .s, .s, .j [4, 9, 11], .s, .s]) (c := 2 ≤ 79) rfl (fun h0 Rt => by kernel_rfl) (by decide)

def spec_l10Value_F (x0 x1 x2 : V) (hi : Hp) (Rt : Hp → V → Prop) : Prop :=
pbox hi 69 27 (cellsV x2) fun h0 =>
palloc h0 70 27 [(.int .i64 0), (.int .i64 0)] fun h1 =>
pld h1 none (fun v83_2 h3 =>
VL (lift2 (abin .eql) v83_2 (.int .i64 0)) fun v84_4 =>
pcond (
pld h3 (some 2) (fun v85_5 h6 =>
pst h6 2 (cellsV v85_5) (fun u7 h8 =>
VL (pcellV h8 (some 2) (.ptr 70 0)) fun r9 =>
Rt h8 (.tup [r9, (.bool true)])) (.ptr 70 0)) (.ptr 69 0)) (
pld h3 none (fun v88_10 h11 =>
pld h11 none (fun v90_12 h13 =>
VL (lift2 (abin .sub) v88_10 v90_12) fun v91_14 =>
pld h13 none (fun v93_15 h16 =>
pcal Try.prog 49 94 h16 (fun v94_17 h18 =>
VL (vext 0 v94_17) fun v95_19 =>
VL (vext 1 v94_17) fun v96_20 =>
palloc h18 72 27 [(.int .i64 0), (.int .i64 0)] fun h21 =>
pst h21 2 (cellsV v95_19) (fun u22 h23 =>
VL (lift2 (abin .add) x0 x1) fun v100_24 =>
pcal Try.prog 49 102 h23 (fun v102_25 h26 =>
VL (vext 0 v102_25) fun v103_27 =>
VL (vext 1 v102_25) fun v104_28 =>
palloc h26 74 27 [(.int .i64 0), (.int .i64 0)] fun h29 =>
pst h29 2 (cellsV v103_27) (fun u30 h31 =>
VL (lift2 (abin .add) x0 x1) fun v108_32 =>
pcal Try.prog 49 110 h31 (fun v110_33 h34 =>
VL (vext 0 v110_33) fun v111_35 =>
VL (vext 1 v110_33) fun v112_36 =>
palloc h34 76 27 [(.int .i64 0), (.int .i64 0)] fun h37 =>
pst h37 2 (cellsV v111_35) (fun u38 h39 =>
pld h39 (some 2) (fun v114_40 h41 =>
pld h41 (some 2) (fun v115_42 h43 =>
pcal Try.prog 87 116 h43 (fun v116_44 h45 =>
VL (vext 0 v116_44) fun v117_46 =>
VL (vext 1 v116_44) fun v118_47 =>
palloc h45 78 27 [(.int .i64 0), (.int .i64 0)] fun h48 =>
pst h48 2 (cellsV v117_46) (fun u49 h50 =>
VL (lift1 (aun .not) v96_20) fun v120_51 =>
pgk false h50 (fun g52 k53 => k53 v118_47 h50) (fun g54 v58_55 h56 =>
pgk false h56 (fun g57 k58 => VL (lift1 (aun .not) v58_55) fun v123_59 =>
k58 v123_59 h56) (fun g60 v59_61 h62 =>
VL (vpick g60 (.bool true) v59_61) fun v124_63 =>
pcond (
VL (vbld (vfill [(.int .i64 0), (.int .i64 0)] [])) fun v125_64 =>
pst h62 2 (cellsV v125_64) (fun u65 h66 =>
VL (pcellV h66 (some 2) (.ptr 70 0)) fun r67 =>
Rt h66 (.tup [r67, (.bool false)])) (.ptr 70 0)) (
pld h62 (some 2) (fun v127_68 h69 =>
pld h69 (some 2) (fun v128_70 h71 =>
pcal Try.prog 87 129 h71 (fun v129_72 h73 =>
VL (vext 0 v129_72) fun v130_74 =>
VL (vext 1 v129_72) fun v131_75 =>
palloc h73 80 27 [(.int .i64 0), (.int .i64 0)] fun h76 =>
pst h76 2 (cellsV v130_74) (fun u77 h78 =>
VL (lift1 (aun .not) v131_75) fun v133_79 =>
pcond (
VL (vbld (vfill [(.int .i64 0), (.int .i64 0)] [])) fun v134_80 =>
pst h78 2 (cellsV v134_80) (fun u81 h82 =>
VL (pcellV h82 (some 2) (.ptr 70 0)) fun r83 =>
Rt h82 (.tup [r83, (.bool false)])) (.ptr 70 0)) (
pld h78 (some 2) (fun v135_84 h85 =>
pld h85 (some 2) (fun v137_86 h87 =>
pcal Try.prog 88 139 h87 (fun v139_88 h89 =>
VL (vext 0 v139_88) fun v140_90 =>
VL (vext 1 v139_88) fun v141_91 =>
pst h89 2 (cellsV v140_90) (fun u92 h93 =>
VL (pcellV h93 (some 2) (.ptr 70 0)) fun r94 =>
Rt h93 (.tup [r94, v141_91])) (.ptr 70 0)) [v135_84, x0, v137_86, x1]) (.ptr 80 0)) (.ptr 78 0)) v133_79) (.ptr 80 0)) [v127_68, v128_70]) (.ptr 76 0)) (.ptr 72 0)) v124_63) g54) v120_51) (.ptr 78 0)) [v114_40, v115_42]) (.ptr 74 0)) (.ptr 69 0)) (.ptr 76 0)) [v108_32, x1]) (.ptr 74 0)) [v100_24, x0]) (.ptr 72 0)) [v91_14, v93_15]) (.ptr 69 1)) (.ptr 69 0)) (.ptr 69 1)) v84_4) (.ptr 69 1)
theorem spec_l10Value_f {x0 x1 x2 : V} : Prt Try.prog 77 [x0, x1, x2] (spec_l10Value_F x0 x1 x2) := pfun (fn := Try.f77) (m := [.s, .s, .s, .s, .s, .s, .s, .s, .s, .s, .s, .s, .s, .s, .s, .s]) (c := 3 ≤ 78) rfl (fun h0 Rt => by kernel_rfl) (by decide)

def math_bits_Mul_F (x0 x1 : V) (hi : Hp) (Rt : Hp → V → Prop) : Prop :=
pcond (
VL (lift1 (acvi .u32) x0) fun v76_0 =>
VL (lift1 (acvi .u32) x1) fun v78_1 =>
pcal Try.prog 89 79 hi (fun v79_2 h3 =>
VL (vext 0 v79_2) fun v80_4 =>
VL (vext 1 v79_2) fun v81_5 =>
VL (lift1 (acvi .u64) v80_4) fun v83_6 =>
VL (lift1 (acvi .u64) v81_5) fun v85_7 =>
Rt h3 (.tup [v83_6, v85_7])) [v76_0, v78_1]) (
pcal Try.prog 90 89 hi (fun v89_8 h9 =>
VL (vext 0 v89_8) fun v90_10 =>
VL (vext 1 v89_8) fun v91_11 =>
Rt h9 (.tup [v90_10, v91_11])) [x0, x1]) (.bool false)
theorem math_bits_Mul_f {x0 x1 : V} : Prt Try.prog 78 [x0, x1] (math_bits_Mul_F x0 x1) := pfun (fn := Try.f78) (m := [.s, .s, .s, .s, .s, .s]) (c := 2 ≤ 30) rfl (fun h0 Rt => by kernel_rfl) (by decide)

def slices_Sort_int64_int64_i_F (x0 : V) (hi : Hp) (Rt : Hp → V → Prop) : Prop :=
VL (vlenS x0) fun v68_0 =>
VL (lift1 (acvi .u64) v68_0) fun v72_1 =>
pcal Try.prog 92 73 hi (fun v73_2 h3 =>
pcal Try.prog 91 74 h3 (fun v74_4 h5 =>
Rt h5 (.tup [])) [x0, (.int .i64 0), v68_0, v73_2]) [v72_1]
theorem slices_Sort_int64_int64_i_f {x0 : V} : Prt Try.prog 79 [x0] (slices_Sort_int64_int64_i_F x0) := pfun (fn := Try.f79) (m := [.s]) (c := 1 ≤ 11) rfl (fun h0 Rt => by kernel_rfl) (by decide)

def slices_Reverse_int64_int64_i_F (x0 : V) (hi : Hp) (Rt : Hp → V → Prop) : Prop :=
VL (vlenS x0) fun v69_0 =>
VL (lift2 (abin .sub) v69_0 (.int .i64 1)) fun v70_1 =>
LP [2, 3] [0] (fun w2 l3 h4 N5 =>
VL (lift2 (abin .lss) (w2.getD 0 .und) (w2.getD 1 .und)) fun v73_6 =>
pcond (
VL (vixS 1 (l3.getD 0 .und) (w2.getD 1 .und)) fun v84_7 =>
pld h4 none (fun v85_8 h9 =>
VL (vixS 1 (l3.getD 0 .und) (w2.getD 0 .und)) fun v88_10 =>
pld h9 none (fun v89_11 h12 =>
VL (vixS 1 (l3.getD 0 .und) (w2.getD 0 .und)) fun v90_13 =>
pst h12 1 (cellsV v85_8) (fun u14 h15 =>
VL (vixS 1 (l3.getD 0 .und) (w2.getD 1 .und)) fun v91_16 =>
pst h15 1 (cellsV v89_11) (fun u17 h18 =>
VL (lift2 (abin .add) (w2.getD 0 .und) (.int .i64 1)) fun v75_19 =>
VL (lift2 (abin .sub) (w2.getD 1 .und) (.int .i64 1)) fun v77_20 =>
N5 [v75_19, v77_20] [(l3.getD 0 .und)] h18) v91_16) v90_13) v88_10) v84_7) (
Rt h4 (.tup [])) v73_6) [(.int .i64 0), v70_1] [x0] hi
theorem slices_Reverse_int64_int64_i_f {x0 : V} : Prt Try.prog 80 [x0] (slices_Reverse_int64_int64_i_F x0) := pfun (fn := Try.f80) (m := [.s, .l [2, 3] [0], .s, .s, .s]) (c := 1 ≤ 28) rfl (fun h0 Rt => by kernel_rfl) (by decide)

def impl_sumOfType_F (x0 : V) (hi : Hp) (Rt : Hp → V → Prop) : Prop :=
VL (vlenS x0) fun v71_0 =>
LP [3, 8] [0, 6, 7] (fun w1 l2 h3 N4 =>
VL (lift2 (abin .lss) (w1.getD 1 .und) (l2.getD 2 .und)) fun v73_5 =>
pcond (
VL (vixS 1 (l2.getD 1 .und) (w1.getD 1 .und)) fun v75_6 =>
pld h3 none (fun v76_7 h8 =>
VL (lift2 (abin .lss) v76_7 (.int .i64 1)) fun v78_9 =>
pgk false h8 (fun g10 k11 => k11 v76_7 h8) (fun g12 v16_13 h14 =>
pgk false h14 (fun g15 k16 => VL (lift2 (abin .gtr) v16_13 (.int .i64 16)) fun v81_17 =>
k16 v81_17 h14) (fun g18 v17_19 h20 =>
VL (vpick g18 (.bool true) v17_19) fun v82_21 =>
pgk false h20 (fun g22 k23 => k23 (w1.getD 1 .und) h20) (fun g24 v20_25 h26 =>
pgk false h26 (fun g27 k28 => VL (lift2 (abin .gtr) v20_25 (.int .i64 0)) fun v85_29 =>
k28 v85_29 h26) (fun g30 v21_31 h32 =>
pgk false h32 (fun g33 k34 => k34 v21_31 h32) (fun g35 v22_36 h37 =>
pgk true h37 (fun g38 k39 => k39 v76_7 h37) (fun g40 v23_41 h42 =>
pgk true h42 (fun g43 k44 => k44 (l2.getD 0 .und) h42) (fun g45 v24_46 h47 =>
pgk true h47 (fun g48 k49 => k49 (w1.getD 1 .und) h47) (fun g50 v25_51 h52 =>
pgk true h52 (fun g53 k54 => VL (lift2 (abin .sub) v25_51 (.int .i64 1)) fun v90_55 =>
k54 v90_55 h52) (fun g56 v26_57 h58 =>
pgk true h58 (fun g59 k60 => VL (vixS 1 v24_46 v26_57) fun v91_61 =>
k60 v91_61 h58) (fun g62 v27_63 h64 =>
pgk true h64 (fun g65 k66 => pld h64 none (fun v92_67 h68 =>
k66 v92_67 h68) v27_63) (fun g69 v28_70 h71 =>
pgk true h71 (fun g72 k73 => VL (lift2 (abin .gtr) v23_41 v28_70) fun v93_74 =>
k73 v93_74 h71) (fun g75 v29_76 h77 =>
pgk false h77 (fun g78 k79 => VL (vpick g75 v29_76 (.bool false)) fun v94_80 =>
k79 v94_80 h77) (fun g81 v30_82 h83 =>
VL (vpick g81 (.bool true) v30_82) fun v95_84 =>
pcond (
Rt h83 (.int .i64 0)) (
VL (lift2 (abin .add) (w1.getD 0 .und) v76_7) fun v98_85 =>
VL (lift2 (abin .gtr) v98_85 (.int .i64 16)) fun v100_86 =>
pcond (
Rt h83 (.int .i64 0)) (
VL (lift2 (abin .add) (w1.getD 1 .und) (.int .i64 1)) fun v101_87 =>
N4 [v98_85, v101_87] [(l2.getD 0 .und), (l2.getD 1 .und), (l2.getD 2 .und)] h83) v100_86) v95_84) g35) g69) g62) g56) g50) g45) g40) v22_36) g30) g24) v82_21) g12) v78_9) v75_6) (
Rt h3 (w1.getD 0 .und)) v73_5) [(.int .i64 0), (.int .i64 0)] [x0, x0, v71_0] hi
theorem impl_sumOfType_f {x0 : V} : Prt Try.prog 81 [x0] (impl_sumOfType_F x0) := pfun (fn := Try.f81) (m := [.s, .s, .s, .s, .l [3, 8] [0, 6, 7], .s, .s, .s, .s, .s, .s, .s, .s, .s, .s, .s]) (c := 1 ≤ 39) rfl (fun h0 Rt => by kernel_rfl) (by decide)

def slices_SortFunc_impl_Fraction_impl_Fraction_F (x0 x1 : V) (hi : Hp) (Rt : Hp → V → Prop) : Prop :=
VL (vlenS x0) fun v70_0 =>
VL (lift1 (acvi .u64) v70_0) fun v74_1 =>
pcal Try.prog 92 75 hi (fun v75_2 h3 =>
pcal Try.prog 93 77 h3 (fun v77_4 h5 =>
Rt h5 (.tup [])) [x0, (.int .i64 0), v70_0, v75_2, x1]) [v74_1]
theorem slices_SortFunc_impl_Fraction_impl_Fraction_f {x0 x1 : V} : Prt Try.prog 82 [x0, x1] (slices_SortFunc_impl_Fraction_impl_Fraction_F x0 x1) := pfun (fn := Try.f82) (m := [.s]) (c := 2 ≤ 14) rfl (fun h0 Rt => by kernel_rfl) (by decide)

def slices_Compact_impl_Fraction_impl_Fraction_F (x0 : V) (hi : Hp) (Rt : Hp → V → Prop) : Prop :=
VL (vlenS x0) fun v71_0 =>
VL (lift2 (abin .lss) v71_0 (.int .i64 2)) fun v72_1 =>
pcond (
Rt hi x0) (
LP [3] [0] (fun w2 l3 h4 N5 =>
VL (vlenS (l3.getD 0 .und)) fun v76_6 =>
VL (lift2 (abin .lss) (w2.getD 0 .und) v76_6) fun v77_7 =>
pcond (
VL (vixS 2 (l3.getD 0 .und) (w2.getD 0 .und)) fun v82_8 =>
pld h4 (some 2) (fun v83_9 h10 =>
VL (lift2 (abin .sub) (w2.getD 0 .und) (.int .i64 1)) fun v86_11 =>
VL (vixS 2 (l3.getD 0 .und) v86_11) fun v87_12 =>
pld h10 (some 2) (fun v88_13 h14 =>
VL (veqa false true [(.i .i64), (.i .i64)] v83_9 v88_13) fun v89_15 =>
pcond (
VL (vslS 2 (l3.getD 0 .und) (some (w2.getD 0 .und)) none) fun v92_16 =>
LP [3, 5] [0, 4] (fun w17 l18 h19 N20 =>
VL (vlenS (l18.getD 1 .und)) fun v95_21 =>
VL (lift2 (abin .lss) (w17.getD 1 .und) v95_21) fun v96_22 =>
pcond (
JN (fun k23 =>
VL (vixS 2 (l18.getD 1 .und) (w17.getD 1 .und)) fun v101_26 =>
pld h19 (some 2) (fun v102_27 h28 =>
VL (lift2 (abin .sub) (w17.getD 1 .und) (.int .i64 1)) fun v105_29 =>
VL (vixS 2 (l18.getD 1 .und) v105_29) fun v106_30 =>
pld h28 (some 2) (fun v107_31 h32 =>
VL (veqa true true [(.i .i64), (.i .i64)] v102_27 v107_31) fun v108_33 =>
pcond (
VL (vixS 2 (l18.getD 1 .und) (w17.getD 1 .und)) fun v113_34 =>
pld h32 (some 2) (fun v114_35 h36 =>
VL (vixS 2 (l18.getD 0 .und) (w17.getD 0 .und)) fun v115_37 =>
pst h36 2 (cellsV v114_35) (fun u38 h39 =>
VL (lift2 (abin .add) (w17.getD 0 .und) (.int .i64 1)) fun v117_40 =>
k23 [(l18.getD 0 .und), v117_40, (l18.getD 1 .und), (w17.getD 1 .und)] h39) v115_37) v113_34) (
k23 [(l18.getD 0 .und), (w17.getD 0 .und), (l18.getD 1 .und), (w17.getD 1 .und)] h32) v108_33) v106_30) v101_26) fun o24 h25 =>
VL (lift2 (abin .add) (o24.getD 3 .und) (.int .i64 1)) fun v98_41 =>
N20 [(o24.getD 1 .und), v98_41] [(o24.getD 0 .und), (o24.getD 2 .und)] h25) (
VL (vslS 2 (l18.getD 0 .und) (some (w17.getD 0 .und)) none) fun v120_42 =>
pclrV [(.int .i64 0), (.int .i64 0)] h19 (fun v64_43 h44 =>
VL (vslS 2 (l18.getD 0 .und) none (some (w17.getD 0 .und))) fun v123_45 =>
Rt h44 v123_45) v120_42) v96_22) [(w2.getD 0 .und), (.int .i64 1)] [(l3.getD 0 .und), v92_16] h14) (
VL (lift2 (abin .add) (w2.getD 0 .und) (.int .i64 1)) fun v79_46 =>
N5 [v79_46] [(l3.getD 0 .und)] h14) v89_15) v87_12) v82_8) (
Rt h4 (l3.getD 0 .und)) v77_7) [(.int .i64 1)] [x0] hi) v72_1
theorem slices_Compact_impl_Fraction_impl_Fraction_f {x0 : V} : Prt Try.prog 83 [x0] (slices_Compact_impl_Fraction_impl_Fraction_F x0) := pfun (fn := Try.f83) (m := [.s, .s, .s, .s, .s, .s, .l [3] [0], .s, .s, .s, .s, .s, .s, .s, .l [3, 5] [0, 4], .s, .s, .j [0, 3, 4, 5], .s, .s, .s, .s, .s]) (c := 1 ≤ 61) rfl (fun h0 Rt => by kernel_rfl) (by decide)

def impl_open_F (x0 : V) (hi : Hp) (Rt : Hp → V → Prop) : Prop :=
palloc hi 66 27 [(.int .i64 0), (.int .i64 0)] fun h0 =>
VL (vlenS x0) fun v71_1 =>
LP [8] [2, 6, 7] (fun w2 l3 h4 N5 =>
VL (lift2 (abin .lss) (w2.getD 0 .und) (l3.getD 2 .und)) fun v73_6 =>
pcond (
VL (vixS 2 (l3.getD 1 .und) (w2.getD 0 .und)) fun v74_7 =>
pld h4 (some 2) (fun v75_8 h9 =>
palloc h9 69 27 [(.int .i64 0), (.int .i64 0)] fun h10 =>
pst h10 2 (cellsV v75_8) (fun u11 h12 =>
pld h12 none (fun v77_13 h14 =>
VL (lift2 (abin .neq) v77_13 (.int .i64 0)) fun v78_15 =>
pgk true h14 (fun g16 k17 => k17 (.ptr 69 0) h14) (fun g18 v16_19 h20 =>
pgk true h20 (fun g21 k22 => pld h20 none (fun v81_23 h24 =>
k22 v81_23 h24) v16_19) (fun g25 v17_26 h27 =>
pgk true h27 (fun g28 k29 => VL (lift2 (abin .neq) v17_26 (.int .i64 0)) fun v82_30 =>
k29 v82_30 h27) (fun g31 v18_32 h33 =>
VL (vpick g31 v18_32 (.bool false)) fun v83_34 =>
pgk true h33 (fun g35 k36 => k36 (.ptr 69 0) h33) (fun g37 v21_38 h39 =>
pgk true h39 (fun g40 k41 => pld h39 none (fun v86_42 h43 =>
k41 v86_42 h43) v21_38) (fun g44 v22_45 h46 =>
pgk true h46 (fun g47 k48 => k48 (.ptr 69 1) h46) (fun g49 v23_50 h51 =>
pgk true h51 (fun g52 k53 => pld h51 none (fun v88_54 h55 =>
k53 v88_54 h55) v23_50) (fun g56 v24_57 h58 =>
pgk true h58 (fun g59 k60 => VL (lift2 (abin .neq) v22_45 v24_57) fun v89_61 =>
k60 v89_61 h58) (fun g62 v25_63 h64 =>
VL (vpick g62 v25_63 (.bool false)) fun v90_65 =>
pcond (
pld h64 (some 2) (fun v91_66 h67 =>
pst h67 2 (cellsV v91_66) (fun u68 h69 =>
VL (pcellV h69 (some 2) (l3.getD 0 .und)) fun r70 =>
Rt h69 (.tup [r70, (.bool true)])) (l3.getD 0 .und)) (.ptr 69 0)) (
VL (lift2 (abin .add) (w2.getD 0 .und) (.int .i64 1)) fun v92_71 =>
N5 [v92_71] [(l3.getD 0 .und), (l3.getD 1 .und), (l3.getD 2 .und)] h64) v90_65) g56) g49) g44) g37) v83_34) g25) g18) v78_15) (.ptr 69 1)) (.ptr 69 0)) v74_7) (
VL (vbld (vfill [(.int .i64 0), (.int .i64 0)] [])) fun v93_72 =>
pst h4 2 (cellsV v93_72) (fun u73 h74 =>
VL (pcellV h74 (some 2) (l3.getD 0 .und)) fun r75 =>
Rt h74 (.tup [r75, (.bool false)])) (l3.getD 0 .und)) v73_6) [(.int .i64 0)] [(.ptr 66 0), x0, v71_1] h0
theorem impl_open_f {x0 : V} : Prt Try.prog 84 [x0] (impl_open_F x0) := pfun (fn := Try.f84) (m := [.s, .s, .s, .l [8] [2, 6, 7], .s, .s, .s, .s, .s, .s, .s]) (c := 1 ≤ 30) rfl (fun h0 Rt => by kernel_rfl) (by decide)

def slices_Contains_int64_int64_i_F (x0 x1 : V) (hi : Hp) (Rt : Hp → V → Prop) : Prop :=
pcal Try.prog 94 71 hi (fun v71_0 h1 =>
VL (lift2 (abin .geq) v71_0 (.int .i64 0)) fun v72_2 =>
Rt h1 v72_2) [x0, x1]
theorem slices_Contains_int64_int64_i_f {x0 x1 : V} : Prt Try.prog 85 [x0, x1] (slices_Contains_int64_int64_i_F x0 x1) := pfun (fn := Try.f85) (m := [.s, .s]) (c := 2 ≤ 9) rfl (fun h0 Rt => by kernel_rfl) (by decide)

def impl_product_F (x0 : V) (hi : Hp) (Rt : Hp → V → Prop) : Prop :=
VL (vlenS x0) fun v72_0 =>
LP [4, 9] [7, 8] (fun w1 l2 h3 N4 =>
VL (lift2 (abin .lss) (w1.getD 1 .und) (l2.getD 1 .und)) fun v74_5 =>
pcond (
VL (vixS 1 (l2.getD 0 .und) (w1.getD 1 .und)) fun v75_6 =>
pld h3 none (fun v76_7 h8 =>
VL (lift2 (abin .mul) (w1.getD 0 .und) v76_7) fun v79_9 =>
VL (lift2 (abin .gtr) v79_9 (.int .i64 1000000000)) fun v81_10 =>
pgk false h8 (fun g11 k12 => k12 v79_9 h8) (fun g13 v19_14 h15 =>
pgk false h15 (fun g16 k17 => VL (lift2 (abin .lss) v19_14 (.int .i64 (-1000000000))) fun v84_18 =>
k17 v84_18 h15) (fun g19 v20_20 h21 =>
VL (vpick g19 (.bool true) v20_20) fun v85_22 =>
pcond (
Rt h21 (.tup [(.int .i64 0), (.bool false)])) (
VL (lift2 (abin .add) (w1.getD 1 .und) (.int .i64 1)) fun v86_23 =>
N4 [v79_9, v86_23] [(l2.getD 0 .und), (l2.getD 1 .und)] h21) v85_22) g13) v81_10) v75_6) (
Rt h3 (.tup [(w1.getD 0 .und), (.bool true)])) v74_5) [(.int .i64 1), (.int .i64 0)] [x0, v72_0] hi
theorem impl_product_f {x0 : V} : Prt Try.prog 86 [x0] (impl_product_F x0) := pfun (fn := Try.f86) (m := [.s, .s, .s, .s, .l [4, 9] [7, 8], .s, .s, .s, .s, .s, .s, .s, .s]) (c := 1 ≤ 24) rfl (fun h0 Rt => by kernel_rfl) (by decide)

def spec_l10Times_F (x0 x1 : V) (hi : Hp) (Rt : Hp → V → Prop) : Prop :=
pbox hi 66 27 (cellsV x0) fun h0 =>
pbox h0 67 27 (cellsV x1) fun h1 =>
palloc h1 68 27 [(.int .i64 0), (.int .i64 0)] fun h2 =>
pld h2 none (fun v76_3 h4 =>
pld h4 none (fun v78_5 h6 =>
pld h6 none (fun v81_7 h8 =>
pld h8 none (fun v83_9 h10 =>
pcalp Try.prog 75 79 h10 (fun v79_11 h12 =>
pcal Try.prog 75 84 h12 (fun v84_13 h14 =>
pld h14 none (fun v86_15 h16 =>
VL (lift2 (abin .quo) v86_15 v79_11) fun v88_17 =>
pld h16 none (fun v90_18 h19 =>
VL (lift2 (abin .quo) v90_18 v84_13) fun v92_20 =>
VL (lift2 (abin .mul) v88_17 v92_20) fun v93_21 =>
pld h19 none (fun v95_22 h23 =>
VL (lift2 (abin .quo) v95_22 v84_13) fun v97_24 =>
pld h23 none (fun v99_25 h26 =>
VL (lift2 (abin .quo) v99_25 v79_11) fun v101_27 =>
VL (lift2 (abin .mul) v97_24 v101_27) fun v102_28 =>
pld h26 none (fun v104_29 h30 =>
VL (lift2 (abin .eql) v104_29 (.int .i64 0)) fun v105_31 =>
pgk false h30 (fun g32 k33 => k33 (.ptr 67 0) h30) (fun g34 v43_35 h36 =>
pgk false h36 (fun g37 k38 => pld h36 none (fun v108_39 h40 =>
k38 v108_39 h40) v43_35) (fun g41 v44_42 h43 =>
pgk false h43 (fun g44 k45 => VL (lift2 (abin .eql) v44_42 (.int .i64 0)) fun v109_46 =>
k45 v109_46 h43) (fun g47 v45_48 h49 =>
VL (vpick g47 (.bool true) v45_48) fun v110_50 =>
pcond (
VL (vbld (vfill [(.int .i64 0), (.int .i64 0)] [(1, 1, (.int .i64 1))])) fun v111_51 =>
pst h49 2 (cellsV v111_51) (fun u52 h53 =>
VL (pcellV h53 (some 2) (.ptr 68 0)) fun r54 =>
Rt h53 (.tup [r54, (.bool true)])) (.ptr 68 0)) (
VL (vbld (vfill [(.int .i64 0), (.int .i64 0)] [(0, 1, v93_21), (1, 1, v102_28)])) fun v114_55 =>
palloc h49 74 27 [(.int .i64 0), (.int .i64 0)] fun h56 =>
pst h56 2 (cellsV v114_55) (fun u57 h58 =>
pld h58 (some 2) (fun v115_59 h60 =>
pld h60 (some 2) (fun v116_61 h62 =>
pcalp Try.prog 51 117 h62 (fun v117_63 h64 =>
pst h64 2 (cellsV v115_59) (fun u65 h66 =>
VL (pcellV h66 (some 2) (.ptr 68 0)) fun r67 =>
Rt h66 (.tup [r67, v117_63])) (.ptr 68 0)) [v116_61]) (.ptr 74 0)) (.ptr 74 0)) (.ptr 74 0)) v110_50) g41) g34) v105_31) (.ptr 66 0)) (.ptr 67 1)) (.ptr 66 1)) (.ptr 67 0)) (.ptr 66 0)) [v81_7, v83_9]) [v76_3, v78_5]) (.ptr 66 1)) (.ptr 67 0)) (.ptr 67 1)) (.ptr 66 0)
theorem spec_l10Times_f {x0 x1 : V} : Prt Try.prog 87 [x0, x1] (spec_l10Times_F x0 x1) := pfun (fn := Try.f87) (m := [.s, .s, .s, .s, .s, .s, .s, .s]) (c := 2 ≤ 54) rfl (fun h0 Rt => by kernel_rfl) (by decide)

def spec_l10Product_F (x0 x1 x2 x3 : V) (hi : Hp) (Rt : Hp → V → Prop) : Prop :=
pbox hi 68 27 (cellsV x0) fun h0 =>
pbox h0 70 27 (cellsV x2) fun h1 =>
palloc h1 72 27 [(.int .i64 0), (.int .i64 0)] fun h2 =>
pld h2 none (fun v83_3 h4 =>
VL (lift2 (abin .eql) v83_3 (.int .i64 0)) fun v84_5 =>
pgk false h4 (fun g6 k7 => k7 (.ptr 70 0) h4) (fun g8 v22_9 h10 =>
pgk false h10 (fun g11 k12 => pld h10 none (fun v87_13 h14 =>
k12 v87_13 h14) v22_9) (fun g15 v23_16 h17 =>
pgk false h17 (fun g18 k19 => VL (lift2 (abin .eql) v23_16 (.int .i64 0)) fun v88_20 =>
k19 v88_20 h17) (fun g21 v24_22 h23 =>
VL (vpick g21 (.bool true) v24_22) fun v89_24 =>
pcond (
VL (vbld (vfill [(.int .i64 0), (.int .i64 0)] [(1, 1, (.int .i64 1))])) fun v90_25 =>
pst h23 2 (cellsV v90_25) (fun u26 h27 =>
VL (pcellV h27 (some 2) (.ptr 72 0)) fun r28 =>
Rt h27 (.tup [r28, (.bool true)])) (.ptr 72 0)) (
VL (vbld (vfill [(.int .i64 0), (.int .i64 0)] [(0, 1, (.int .i64 1)), (1, 1, (.int .i64 1))])) fun v91_29 =>
palloc h23 74 27 [(.int .i64 0), (.int .i64 0)] fun h30 =>
pst h30 2 (cellsV v91_29) (fun u31 h32 =>
pld h32 none (fun v93_33 h34 =>
pld h34 none (fun v95_35 h36 =>
pld h36 none (fun v97_37 h38 =>
pld h38 none (fun v99_39 h40 =>
pmks h40 100 2 4 4 (fun h41 =>
VL (lift1 (aun .neg) x1) fun v103_42 =>
VL (lift1 (aun .neg) x3) fun v106_43 =>
pmks h41 107 2 4 4 (fun h44 =>
LP [11, 14] [8, 10, 12, 13] (fun w45 l46 h47 N48 =>
VL (lift2 (abin .lss) (w45.getD 1 .und) (.int .i64 4)) fun v109_49 =>
pcond (
JN (fun k50 =>
VL (vixS 1 (l46.getD 2 .und) (w45.getD 1 .und)) fun v114_53 =>
pld h47 none (fun v115_54 h55 =>
VL (lift2 (abin .lss) v115_54 (.int .i64 0)) fun v116_56 =>
pcond (
VL (vixS 1 (l46.getD 2 .und) (w45.getD 1 .und)) fun v121_57 =>
pld h55 none (fun v122_58 h59 =>
VL (lift1 (aun .neg) v122_58) fun v123_60 =>
VL (vixS 1 (l46.getD 2 .und) (w45.getD 1 .und)) fun v124_61 =>
pst h59 1 (cellsV v123_60) (fun u62 h63 =>
VL (vixS 1 (l46.getD 3 .und) (w45.getD 1 .und)) fun v127_64 =>
pld h63 none (fun v128_65 h66 =>
VL (lift2 (abin .rem) v128_65 (.int .i64 2)) fun v129_67 =>
VL (lift2 (abin .neq) v129_67 (.int .i64 0)) fun v130_68 =>
pcond (
VL (lift1 (aun .neg) (w45.getD 0 .und)) fun v132_69 =>
k50 [(l46.getD 0 .und), (l46.getD 1 .und), v132_69, (l46.getD 2 .und), (l46.getD 3 .und), (w45.getD 1 .und)] h66) (
k50 [(l46.getD 0 .und), (l46.getD 1 .und), (w45.getD 0 .und), (l46.getD 2 .und), (l46.getD 3 .und), (w45.getD 1 .und)] h66) v130_68) v127_64) v124_61) v121_57) (
k50 [(l46.getD 0 .und), (l46.getD 1 .und), (w45.getD 0 .und), (l46.getD 2 .und), (l46.getD 3 .und), (w45.getD 1 .und)] h55) v116_56) v114_53) fun o51 h52 =>
VL (lift2 (abin .add) (o51.getD 5 .und) (.int .i64 1)) fun v111_70 =>
N48 [(o51.getD 2 .und), v111_70] [(o51.getD 0 .und), (o51.getD 1 .und), (o51.getD 3 .und), (o51.getD 4 .und)] h52) (
LP [] [8, 10, 11, 12, 13] (fun w71 l72 h73 N74 =>
pcal Try.prog 95 134 h73 (fun v134_75 h76 =>
VL (lift2 (abin .eql) v134_75 (.int .i64 0)) fun v136_77 =>
pcond (
VL (vfa 0 (l72.getD 1 .und)) fun v189_78 =>
pld h76 none (fun v190_79 h80 =>
VL (lift2 (abin .mul) v190_79 (l72.getD 2 .und)) fun v192_81 =>
VL (vfa 0 (l72.getD 1 .und)) fun v193_82 =>
pst h80 1 (cellsV v192_81) (fun u83 h84 =>
pld h84 (some 2) (fun v194_85 h86 =>
pst h86 2 (cellsV v194_85) (fun u87 h88 =>
VL (pcellV h88 (some 2) (l72.getD 0 .und)) fun r89 =>
Rt h88 (.tup [r89, (.bool true)])) (l72.getD 0 .und)) (l72.getD 1 .und)) v193_82) v189_78) (
LP [16, 17] [8, 10, 11, 12, 13, 15] (fun w90 l91 h92 N93 =>
VL (lift2 (abin .lss) (w90.getD 1 .und) (.int .i64 4)) fun v138_94 =>
pcond (
LP [16] [8, 10, 11, 12, 13, 15, 17] (fun w95 l96 h97 N98 =>
VL (vixS 1 (l96.getD 3 .und) (l96.getD 6 .und)) fun v143_99 =>
pld h97 none (fun v144_100 h101 =>
VL (lift2 (abin .rem) v144_100 (l96.getD 5 .und)) fun v146_102 =>
VL (lift2 (abin .eql) v146_102 (.int .i64 0)) fun v147_103 =>
pcond (
VL (vixS 1 (l96.getD 3 .und) (l96.getD 6 .und)) fun v152_104 =>
pld h101 none (fun v153_105 h106 =>
VL (lift2 (abin .quo) v153_105 (l96.getD 5 .und)) fun v155_107 =>
VL (vixS 1 (l96.getD 3 .und) (l96.getD 6 .und)) fun v156_108 =>
pst h106 1 (cellsV v155_107) (fun u109 h110 =>
VL (vixS 1 (l96.getD 4 .und) (l96.getD 6 .und)) fun v160_111 =>
pld h110 none (fun v161_112 h113 =>
VL (lift2 (abin .add) (w95.getD 0 .und) v161_112) fun v162_114 =>
N98 [v162_114] [(l96.getD 0 .und), (l96.getD 1 .und), (l96.getD 2 .und), (l96.getD 3 .und), (l96.getD 4 .und), (l96.getD 5 .und), (l96.getD 6 .und)] h113) v160_111) v156_108) v152_104) (
VL (lift2 (abin .add) (l96.getD 6 .und) (.int .i64 1)) fun v140_115 =>
N93 [(w95.getD 0 .und), v140_115] [(l96.getD 0 .und), (l96.getD 1 .und), (l96.getD 2 .und), (l96.getD 3 .und), (l96.getD 4 .und), (l96.getD 5 .und)] h101) v147_103) v143_99) [(w90.getD 0 .und)] [(l91.getD 0 .und), (l91.getD 1 .und), (l91.getD 2 .und), (l91.getD 3 .und), (l91.getD 4 .und), (l91.getD 5 .und), (w90.getD 1 .und)] h92) (
LP [16] [8, 10, 11, 12, 13, 15] (fun w116 l117 h118 N119 =>
VL (lift2 (abin .gtr) (w116.getD 0 .und) (.int .i64 0)) fun v164_120 =>
pcond (
VL (vfa 0 (l117.getD 1 .und)) fun v167_121 =>
pld h118 none (fun v168_122 h123 =>
VL (lift2 (abin .mul) v168_122 (l117.getD 5 .und)) fun v170_124 =>
VL (vfa 0 (l117.getD 1 .und)) fun v171_125 =>
pst h123 1 (cellsV v170_124) (fun u126 h127 =>
VL (vfa 0 (l117.getD 1 .und)) fun v172_128 =>
pld h127 none (fun v173_129 h130 =>
VL (lift2 (abin .gtr) v173_129 (.int .i64 1000000000)) fun v174_131 =>
pcond (
VL (vbld (vfill [(.int .i64 0), (.int .i64 0)] [])) fun v175_132 =>
pst h130 2 (cellsV v175_132) (fun u133 h134 =>
VL (pcellV h134 (some 2) (l117.getD 0 .und)) fun r135 =>
Rt h134 (.tup [r135, (.bool false)])) (l117.getD 0 .und)) (
VL (lift2 (abin .sub) (w116.getD 0 .und) (.int .i64 1)) fun v166_136 =>
N119 [v166_136] [(l117.getD 0 .und), (l117.getD 1 .und), (l117.getD 2 .und), (l117.getD 3 .und), (l117.getD 4 .und), (l117.getD 5 .und)] h130) v174_131) v172_128) v171_125) v167_121) (
LP [16] [8, 10, 11, 12, 13, 15] (fun w137 l138 h139 N140 =>
VL (lift2 (abin .lss) (w137.getD 0 .und) (.int .i64 0)) fun v177_141 =>
pcond (
VL (vfa 1 (l138.getD 1 .und)) fun v180_142 =>
pld h139 none (fun v181_143 h144 =>
VL (lift2 (abin .mul) v181_143 (l138.getD 5 .und)) fun v183_145 =>
VL (vfa 1 (l138.getD 1 .und)) fun v184_146 =>
pst h144 1 (cellsV v183_145) (fun u147 h148 =>
VL (vfa 1 (l138.getD 1 .und)) fun v185_149 =>
pld h148 none (fun v186_150 h151 =>
VL (lift2 (abin .gtr) v186_150 (.int .i64 1000000000)) fun v187_152 =>
pcond (
VL (vbld (vfill [(.int .i64 0), (.int .i64 0)] [])) fun v188_153 =>
pst h151 2 (cellsV v188_153) (fun u154 h155 =>
VL (pcellV h155 (some 2) (l138.getD 0 .und)) fun r156 =>
Rt h155 (.tup [r156, (.bool false)])) (l138.getD 0 .und)) (
VL (lift2 (abin .add) (w137.getD 0 .und) (.int .i64 1)) fun v179_157 =>
N140 [v179_157] [(l138.getD 0 .und), (l138.getD 1 .und), (l138.getD 2 .und), (l138.getD 3 .und), (l138.getD 4 .und), (l138.getD 5 .und)] h151) v187_152) v185_149) v184_146) v180_142) (
N74 [] [(l138.getD 0 .und), (l138.getD 1 .und), (l138.getD 2 .und), (l138.getD 3 .und), (l138.getD 4 .und)] h139) v177_141) [(w116.getD 0 .und)] [(l117.getD 0 .und), (l117.getD 1 .und), (l117.getD 2 .und), (l117.getD 3 .und), (l117.getD 4 .und), (l117.getD 5 .und)] h118) v164_120) [(w90.getD 0 .und)] [(l91.getD 0 .und), (l91.getD 1 .und), (l91.getD 2 .und), (l91.getD 3 .und), (l91.getD 4 .und), (l91.getD 5 .und)] h92) v138_94) [(.int .i64 0), (.int .i64 0)] [(l72.getD 0 .und), (l72.getD 1 .und), (l72.getD 2 .und), (l72.getD 3 .und), (l72.getD 4 .und), v134_75] h76) v136_77) [(l72.getD 3 .und)]) [] [(l46.getD 0 .und), (l46.getD 1 .und), (w45.getD 0 .und), (l46.getD 2 .und), (l46.getD 3 .und)] h47) v109_49) [(.int .i64 1), (.int .i64 0)] [(.ptr 72 0), (.ptr 74 0), (.rf 100 0 4), (.rf 107 0 4)] h44) (vfill (vi .i64 (List.replicate 4 0)) [(0, 1, x1), (1, 1, v103_42), (2, 1, x3), (3, 1, v106_43)])) (vfill (vi .i64 (List.replicate 4 0)) [(0, 1, v93_33), (1, 1, v95_35), (2, 1, v97_37), (3, 1, v99_39)])) (.ptr 70 1)) (.ptr 70 0)) (.ptr 68 1)) (.ptr 68 0)) (.ptr 74 0)) v89_24) g15) g8) v84_5) (.ptr 68 0)
theorem spec_l10Product_f {x0 x1 x2 x3 : V} : Prt Try.prog 88 [x0, x1, x2, x3] (spec_l10Product_F x0 x1 x2 x3) := pfun (fn := Try.f88) (m := [.s, .s, .s, .s, .s, .s, .s, .s, .s, .l [11, 14] [8, 10, 12, 13], .s, .s, .j [8, 10, 11, 12, 13, 14], .s, .s, .s, .s, .l [] [8, 10, 11, 12, 13], .s, .s, .s, .s, .s, .s, .l [16, 17] [8, 10, 11, 12, 13, 15], .s, .s, .s, .l [16] [8, 10, 11, 12, 13, 15, 17], .s, .s, .s, .s, .l [16] [8, 10, 11, 12, 13, 15], .s, .s, .s, .s, .s, .s, .l [16] [8, 10, 11, 12, 13, 15], .s, .s, .s, .s, .s, .s, .s, .s]) (c := 4 ≤ 131) rfl (fun h0 Rt => by kernel_rfl) (by decide)

def math_bits_Mul64_F (x0 x1 : V) (hi : Hp) (Rt : Hp → V → Prop) : Prop :=
VL (lift2 (abin .and) x0 (.int .u64 4294967295)) fun v79_0 =>
VL (lift2 (abin .shr) x0 (.int .u64 32)) fun v81_1 =>
VL (lift2 (abin .and) x1 (.int .u64 4294967295)) fun v83_2 =>
VL (lift2 (abin .shr) x1 (.int .u64 32)) fun v85_3 =>
VL (lift2 (abin .mul) v79_0 v83_2) fun v88_4 =>
VL (lift2 (abin .mul) v81_1 v83_2) fun v91_5 =>
VL (lift2 (abin .shr) v88_4 (.int .u64 32)) fun v93_6 =>
VL (lift2 (abin .add) v91_5 v93_6) fun v94_7 =>
VL (lift2 (abin .and) v94_7 (.int .u64 4294967295)) fun v96_8 =>
VL (lift2 (abin .shr) v94_7 (.int .u64 32)) fun v98_9 =>
VL (lift2 (abin .mul) v79_0 v85_3) fun v102_10 =>
VL (lift2 (abin .add) v96_8 v102_10) fun v103_11 =>
VL (lift2 (abin .mul) v81_1 v85_3) fun v106_12 =>
VL (lift2 (abin .add) v106_12 v98_9) fun v108_13 =>
VL (lift2 (abin .shr) v103_11 (.int .u64 32)) fun v110_14 =>
VL (lift2 (abin .add) v108_13 v110_14) fun v111_15 =>
VL (lift2 (abin .mul) x0 x1) fun v114_16 =>
Rt hi (.tup [v111_15, v114_16])
theorem math_bits_Mul64_f {x0 x1 : V} : Prt Try.prog 90 [x0, x1] (math_bits_Mul64_F x0 x1) := pfun (fn := Try.f90) (m := [.s, .s, .s, .s, .s, .s, .s, .s, .s, .s, .s, .s]) (c := 2 ≤ 51) rfl (fun h0 Rt => by kernel_rfl) (by decide)

def slices_pdqsortOrdered_int64_F (x0 x1 x2 x3 : V) (hi : Hp) (Rt : Hp → V → Prop) : Prop :=
LP [1, 2, 3, 8, 9] [0] (fun w0 l1 h2 N3 =>
VL (lift2 (abin .sub) (w0.getD 1 .und) (w0.getD 0 .und)) fun v85_4 =>
VL (lift2 (abin .leq) v85_4 (.int .i64 12)) fun v87_5 =>
pcond (
pcal Try.prog 96 91 h2 (fun v91_6 h7 =>
Rt h7 (.tup [])) [(l1.getD 0 .und), (w0.getD 0 .und), (w0.getD 1 .und)]) (
VL (lift2 (abin .eql) (w0.getD 2 .und) (.int .i64 0)) fun v93_8 =>
pcond (
pcal Try.prog 97 97 h2 (fun v97_9 h10 =>
Rt h10 (.tup [])) [(l1.getD 0 .und), (w0.getD 0 .und), (w0.getD 1 .und)]) (
JN (fun k11 =>
VL (lift1 (aun .not) (w0.getD 3 .und)) fun v99_14 =>
pcond (
pcal Try.prog 98 103 h2 (fun v103_15 h16 =>
VL (lift2 (abin .sub) (w0.getD 2 .und) (.int .i64 1)) fun v105_17 =>
k11 [(l1.getD 0 .und), (w0.getD 0 .und), (w0.getD 1 .und), v105_17, (w0.getD 3 .und), (w0.getD 4 .und), v85_4] h16) [(l1.getD 0 .und), (w0.getD 0 .und), (w0.getD 1 .und)]) (
k11 [(l1.getD 0 .und), (w0.getD 0 .und), (w0.getD 1 .und), (w0.getD 2 .und), (w0.getD 3 .und), (w0.getD 4 .und), v85_4] h2) v99_14) fun o12 h13 =>
pcal Try.prog 99 110 h13 (fun v110_18 h19 =>
VL (vext 0 v110_18) fun v111_20 =>
VL (vext 1 v110_18) fun v112_21 =>
JN (fun k22 =>
VL (lift2 (abin .eql) v112_21 (.int .i64 2)) fun v114_25 =>
pcond (
pcal Try.prog 100 118 h19 (fun v118_26 h27 =>
VL (lift2 (abin .sub) (o12.getD 2 .und) (.int .i64 1)) fun v120_28 =>
VL (lift2 (abin .sub) v111_20 (o12.getD 1 .und)) fun v123_29 =>
VL (lift2 (abin .sub) v120_28 v123_29) fun v124_30 =>
k22 [(o12.getD 0 .und), (o12.getD 1 .und), (o12.getD 2 .und), (o12.getD 3 .und), (o12.getD 4 .und), (o12.getD 5 .und), (o12.getD 6 .und), v124_30, (.int .i64 1)] h27) [(o12.getD 0 .und), (o12.getD 1 .und), (o12.getD 2 .und)]) (
k22 [(o12.getD 0 .und), (o12.getD 1 .und), (o12.getD 2 .und), (o12.getD 3 .und), (o12.getD 4 .und), (o12.getD 5 .und), (o12.getD 6 .und), v111_20, v112_21] h19) v114_25) fun o23 h24 =>
JN (fun k31 =>
pgk true h24 (fun g34 k35 => k35 (o23.getD 5 .und) h24) (fun g36 v63_37 h38 =>
VL (vpick g36 v63_37 (.bool false)) fun v128_39 =>
pgk true h38 (fun g40 k41 => k41 (o23.getD 8 .und) h38) (fun g42 v66_43 h44 =>
pgk true h44 (fun g45 k46 => VL (lift2 (abin .eql) v66_43 (.int .i64 1)) fun v131_47 =>
k46 v131_47 h44) (fun g48 v67_49 h50 =>
VL (vpick g48 v67_49 (.bool false)) fun v132_51 =>
pcond (
pcal Try.prog 101 136 h50 (fun v136_52 h53 =>
pcond (
Rt h53 (.tup [])) (
k31 [(o23.getD 0 .und), (o23.getD 1 .und), (o23.getD 2 .und), (o23.getD 3 .und), (o23.getD 4 .und), (o23.getD 5 .und), (o23.getD 6 .und), (o23.getD 7 .und)] h53) v136_52) [(o23.getD 0 .und), (o23.getD 1 .und), (o23.getD 2 .und)]) (
k31 [(o23.getD 0 .und), (o23.getD 1 .und), (o23.getD 2 .und), (o23.getD 3 .und), (o23.getD 4 .und), (o23.getD 5 .und), (o23.getD 6 .und), (o23.getD 7 .und)] h50) v132_51) g42) v128_39) (o23.getD 4 .und)) fun o32 h33 =>
VL (lift2 (abin .gtr) (o32.getD 1 .und) (.int .i64 0)) fun v138_54 =>
pgk true h33 (fun g55 k56 => k56 (o32.getD 0 .und) h33) (fun g57 v76_58 h59 =>
pgk true h59 (fun g60 k61 => k61 (o32.getD 1 .und) h59) (fun g62 v77_63 h64 =>
pgk true h64 (fun g65 k66 => VL (lift2 (abin .sub) v77_63 (.int .i64 1)) fun v142_67 =>
k66 v142_67 h64) (fun g68 v78_69 h70 =>
pgk true h70 (fun g71 k72 => VL (vixS 1 v76_58 v78_69) fun v143_73 =>
k72 v143_73 h70) (fun g74 v79_75 h76 =>
pgk true h76 (fun g77 k78 => pld h76 none (fun v144_79 h80 =>
k78 v144_79 h80) v79_75) (fun g81 v80_82 h83 =>
pgk true h83 (fun g84 k85 => k85 (o32.getD 0 .und) h83) (fun g86 v81_87 h88 =>
pgk true h88 (fun g89 k90 => k90 (o32.getD 7 .und) h88) (fun g91 v82_92 h93 =>
pgk true h93 (fun g94 k95 => VL (vixS 1 v81_87 v82_92) fun v147_96 =>
k95 v147_96 h93) (fun g97 v83_98 h99 =>
pgk true h99 (fun g100 k101 => pld h99 none (fun v148_102 h103 =>
k101 v148_102 h103) v83_98) (fun g104 v84_105 h106 =>
pgk true h106 (fun g107 k108 => pcal Try.prog 102 149 h106 (fun v149_109 h110 =>
k108 v149_109 h110) [v80_82, v84_105]) (fun g111 v85_112 h113 =>
pgk true h113 (fun g114 k115 => VL (lift1 (aun .not) v85_112) fun v150_116 =>
k115 v150_116 h113) (fun g117 v86_118 h119 =>
VL (vpick g117 v86_118 (.bool false)) fun v151_120 =>
pcond (
pcal Try.prog 103 156 h119 (fun v156_121 h122 =>
N3 [v156_121, (o32.getD 2 .und), (o32.getD 3 .und), (o32.getD 4 .und), (o32.getD 5 .und)] [(o32.getD 0 .und)] h122) [(o32.getD 0 .und), (o32.getD 1 .und), (o32.getD 2 .und), (o32.getD 7 .und)]) (
pcal Try.prog 104 163 h119 (fun v163_123 h124 =>
VL (vext 0 v163_123) fun v164_125 =>
VL (vext 1 v163_123) fun v165_126 =>
VL (lift2 (abin .sub) v164_125 (o32.getD 1 .und)) fun v169_127 =>
VL (lift2 (abin .sub) (o32.getD 2 .und) v164_125) fun v172_128 =>
VL (lift2 (abin .quo) (o32.getD 6 .und) (.int .i64 8)) fun v174_129 =>
VL (lift2 (abin .lss) v169_127 v172_128) fun v177_130 =>
pcond (
VL (lift2 (abin .geq) v169_127 v174_129) fun v180_131 =>
pcal Try.prog 91 185 h124 (fun v185_132 h133 =>
VL (lift2 (abin .add) v164_125 (.int .i64 1)) fun v187_134 =>
N3 [v187_134, (o32.getD 2 .und), (o32.getD 3 .und), v180_131, v165_126] [(o32.getD 0 .und)] h133) [(o32.getD 0 .und), (o32.getD 1 .und), v164_125, (o32.getD 3 .und)]) (
VL (lift2 (abin .geq) v172_128 v174_129) fun v190_135 =>
VL (lift2 (abin .add) v164_125 (.int .i64 1)) fun v193_136 =>
pcal Try.prog 91 196 h124 (fun v196_137 h138 =>
N3 [(o32.getD 1 .und), v164_125, (o32.getD 3 .und), v190_135, v165_126] [(o32.getD 0 .und)] h138) [(o32.getD 0 .und), v193_136, (o32.getD 2 .und), (o32.getD 3 .und)]) v177_130) [(o32.getD 0 .und), (o32.getD 1 .und), (o32.getD 2 .und), (o32.getD 7 .und)]) v151_120) g111) g104) g97) g91) g86) g81) g74) g68) g62) g57) v138_54) [(o12.getD 0 .und), (o12.getD 1 .und), (o12.getD 2 .und)]) v93_8) v87_5) [x1, x2, x3, (.bool true), (.bool true)] [x0] hi
theorem slices_pdqsortOrdered_int64_f {x0 x1 x2 x3 : V} : Prt Try.prog 91 [x0, x1, x2, x3] (slices_pdqsortOrdered_int64_F x0 x1 x2 x3) := pfun (fn := Try.f91) (m := [.s, .s, .l [1, 2, 3, 8, 9] [0], .s, .s, .s, .s, .s, .s, .s, .j [0, 1, 2, 3, 8, 9, 10], .s, .s, .s, .j [0, 1, 2, 3, 8, 9, 10, 11, 12], .s, .s, .s, .j [0, 1, 2, 3, 8, 9, 10, 11], .s, .s, .s, .s, .s, .s, .s, .s, .s, .s, .s, .s, .s, .s, .s]) (c := 4 ≤ 134) rfl (fun h0 Rt => by kernel_rfl) (by decide)

def math_bits_Len_F (x0 : V) (hi : Hp) (Rt : Hp → V → Prop) : Prop :=
pcond (
VL (lift1 (acvi .u32) x0) fun v68_0 =>
pcal Try.prog 105 69 hi (fun v69_1 h2 =>
Rt h2 v69_1) [v68_0]) (
pcal Try.prog 106 71 hi (fun v71_3 h4 =>
Rt h4 v71_3) [x0]) (.bool false)
theorem math_bits_Len_f {x0 : V} : Prt Try.prog 92 [x0] (math_bits_Len_F x0) := pfun (fn := Try.f92) (m := [.s, .s, .s, .s]) (c := 1 ≤ 8) rfl (fun h0 Rt => by kernel_rfl) (by decide)

def slices_pdqsortCmpFunc_impl_Fraction_F (x0 x1 x2 x3 x4 : V) (hi : Hp) (Rt : Hp → V → Prop) : Prop :=
LP [1, 2, 3, 10, 11] [0, 4] (fun w0 l1 h2 N3 =>
VL (lift2 (abin .sub) (w0.getD 1 .und) (w0.getD 0 .und)) fun v87_4 =>
VL (lift2 (abin .leq) v87_4 (.int .i64 12)) fun v89_5 =>
pcond (
pcal Try.prog 107 94 h2 (fun v94_6 h7 =>
Rt h7 (.tup [])) [(l1.getD 0 .und), (w0.getD 0 .und), (w0.getD 1 .und), (l1.getD 1 .und)]) (
VL (lift2 (abin .eql) (w0.getD 2 .und) (.int .i64 0)) fun v96_8 =>
pcond (
pcal Try.prog 108 101 h2 (fun v101_9 h10 =>
Rt h10 (.tup [])) [(l1.getD 0 .und), (w0.getD 0 .und), (w0.getD 1 .und), (l1.getD 1 .und)]) (
JN (fun k11 =>
VL (lift1 (aun .not) (w0.getD 3 .und)) fun v103_14 =>
pcond (
pcal Try.prog 109 108 h2 (fun v108_15 h16 =>
VL (lift2 (abin .sub) (w0.getD 2 .und) (.int .i64 1)) fun v110_17 =>
k11 [(l1.getD 0 .und), (w0.getD 0 .und), (w0.getD 1 .und), v110_17, (l1.getD 1 .und), (w0.getD 3 .und), (w0.getD 4 .und), v87_4] h16) [(l1.getD 0 .und), (w0.getD 0 .und), (w0.getD 1 .und), (l1.getD 1 .und)]) (
k11 [(l1.getD 0 .und), (w0.getD 0 .und), (w0.getD 1 .und), (w0.getD 2 .und), (l1.getD 1 .und), (w0.getD 3 .und), (w0.getD 4 .und), v87_4] h2) v103_14) fun o12 h13 =>
pcal Try.prog 110 116 h13 (fun v116_18 h19 =>
VL (vext 0 v116_18) fun v117_20 =>
VL (vext 1 v116_18) fun v118_21 =>
JN (fun k22 =>
VL (lift2 (abin .eql) v118_21 (.int .i64 2)) fun v120_25 =>
pcond (
pcal Try.prog 111 125 h19 (fun v125_26 h27 =>
VL (lift2 (abin .sub) (o12.getD 2 .und) (.int .i64 1)) fun v127_28 =>
VL (lift2 (abin .sub) v117_20 (o12.getD 1 .und)) fun v130_29 =>
VL (lift2 (abin .sub) v127_28 v130_29) fun v131_30 =>
k22 [(o12.getD 0 .und), (o12.getD 1 .und), (o12.getD 2 .und), (o12.getD 3 .und), (o12.getD 4 .und), (o12.getD 5 .und), (o12.getD 6 .und), (o12.getD 7 .und), v131_30, (.int .i64 1)] h27) [(o12.getD 0 .und), (o12.getD 1 .und), (o12.getD 2 .und), (o12.getD 4 .und)]) (
k22 [(o12.getD 0 .und), (o12.getD 1 .und), (o12.getD 2 .und), (o12.getD 3 .und), (o12.getD 4 .und), (o12.getD 5 .und), (o12.getD 6 .und), (o12.getD 7 .und), v117_20, v118_21] h19) v120_25) fun o23 h24 =>
JN (fun k31 =>
pgk true h24 (fun g34 k35 => k35 (o23.getD 6 .und) h24) (fun g36 v70_37 h38 =>
VL (vpick g36 v70_37 (.bool false)) fun v135_39 =>
pgk true h38 (fun g40 k41 => k41 (o23.getD 9 .und) h38) (fun g42 v73_43 h44 =>
pgk true h44 (fun g45 k46 => VL (lift2 (abin .eql) v73_43 (.int .i64 1)) fun v138_47 =>
k46 v138_47 h44) (fun g48 v74_49 h50 =>
VL (vpick g48 v74_49 (.bool false)) fun v139_51 =>
pcond (
pcal Try.prog 112 144 h50 (fun v144_52 h53 =>
pcond (
Rt h53 (.tup [])) (
k31 [(o23.getD 0 .und), (o23.getD 1 .und), (o23.getD 2 .und), (o23.getD 3 .und), (o23.getD 4 .und), (o23.getD 5 .und), (o23.getD 6 .und), (o23.getD 7 .und), (o23.getD 8 .und)] h53) v144_52) [(o23.getD 0 .und), (o23.getD 1 .und), (o23.getD 2 .und), (o23.getD 4 .und)]) (
k31 [(o23.getD 0 .und), (o23.getD 1 .und), (o23.getD 2 .und), (o23.getD 3 .und), (o23.getD 4 .und), (o23.getD 5 .und), (o23.getD 6 .und), (o23.getD 7 .und), (o23.getD 8 .und)] h50) v139_51) g42) v135_39) (o23.getD 5 .und)) fun o32 h33 =>
VL (lift2 (abin .gtr) (o32.getD 1 .und) (.int .i64 0)) fun v146_54 =>
pgk true h33 (fun g55 k56 => k56 (o32.getD 4 .und) h33) (fun g57 v84_58 h59 =>
pgk true h59 (fun g60 k61 => k61 (o32.getD 0 .und) h59) (fun g62 v85_63 h64 =>
pgk true h64 (fun g65 k66 => k66 (o32.getD 1 .und) h64) (fun g67 v86_68 h69 =>
pgk true h69 (fun g70 k71 => VL (lift2 (abin .sub) v86_68 (.int .i64 1)) fun v151_72 =>
k71 v151_72 h69) (fun g73 v87_74 h75 =>
pgk true h75 (fun g76 k77 => VL (vixS 2 v85_63 v87_74) fun v152_78 =>
k77 v152_78 h75) (fun g79 v88_80 h81 =>
pgk true h81 (fun g82 k83 => pld h81 (some 2) (fun v153_84 h85 =>
k83 v153_84 h85) v88_80) (fun g86 v89_87 h88 =>
pgk true h88 (fun g89 k90 => k90 (o32.getD 0 .und) h88) (fun g91 v90_92 h93 =>
pgk true h93 (fun g94 k95 => k95 (o32.getD 8 .und) h93) (fun g96 v91_97 h98 =>
pgk true h98 (fun g99 k100 => VL (vixS 2 v90_92 v91_97) fun v156_101 =>
k100 v156_101 h98) (fun g102 v92_103 h104 =>
pgk true h104 (fun g105 k106 => pld h104 (some 2) (fun v157_107 h108 =>
k106 v157_107 h108) v92_103) (fun g109 v93_110 h111 =>
pgk true h111 (fun g112 k113 => pcallv Try.prog [v89_87, v93_110] 158 h111 (fun v158_114 h115 =>
k113 v158_114 h115) v84_58) (fun g116 v94_117 h118 =>
pgk true h118 (fun g119 k120 => VL (lift2 (abin .lss) v94_117 (.int .i64 0)) fun v159_121 =>
k120 v159_121 h118) (fun g122 v95_123 h124 =>
pgk true h124 (fun g125 k126 => VL (lift1 (aun .not) v95_123) fun v160_127 =>
k126 v160_127 h124) (fun g128 v96_129 h130 =>
VL (vpick g128 v96_129 (.bool false)) fun v161_131 =>
pcond (
pcal Try.prog 113 167 h130 (fun v167_132 h133 =>
N3 [v167_132, (o32.getD 2 .und), (o32.getD 3 .und), (o32.getD 5 .und), (o32.getD 6 .und)] [(o32.getD 0 .und), (o32.getD 4 .und)] h133) [(o32.getD 0 .und), (o32.getD 1 .und), (o32.getD 2 .und), (o32.getD 8 .und), (o32.getD 4 .und)]) (
pcal Try.prog 114 175 h130 (fun v175_134 h135 =>
VL (vext 0 v175_134) fun v176_136 =>
VL (vext 1 v175_134) fun v177_137 =>
VL (lift2 (abin .sub) v176_136 (o32.getD 1 .und)) fun v181_138 =>
VL (lift2 (abin .sub) (o32.getD 2 .und) v176_136) fun v184_139 =>
VL (lift2 (abin .quo) (o32.getD 7 .und) (.int .i64 8)) fun v186_140 =>
VL (lift2 (abin .lss) v181_138 v184_139) fun v189_141 =>
pcond (
VL (lift2 (abin .geq) v181_138 v186_140) fun v192_142 =>
pcal Try.prog 93 198 h135 (fun v198_143 h144 =>
VL (lift2 (abin .add) v176_136 (.int .i64 1)) fun v200_145 =>
N3 [v200_145, (o32.getD 2 .und), (o32.getD 3 .und), v192_142, v177_137] [(o32.getD 0 .und), (o32.getD 4 .und)] h144) [(o32.getD 0 .und), (o32.getD 1 .und), v176_136, (o32.getD 3 .und), (o32.getD 4 .und)]) (
VL (lift2 (abin .geq) v184_139 v186_140) fun v203_146 =>
VL (lift2 (abin .add) v176_136 (.int .i64 1)) fun v206_147 =>
pcal Try.prog 93 210 h135 (fun v210_148 h149 =>
N3 [(o32.getD 1 .und), v176_136, (o32.getD 3 .und), v203_146, v177_137] [(o32.getD 0 .und), (o32.getD 4 .und)] h149) [(o32.getD 0 .und), v206_147, (o32.getD 2 .und), (o32.getD 3 .und), (o32.getD 4 .und)]) v189_141) [(o32.getD 0 .und), (o32.getD 1 .und), (o32.getD 2 .und), (o32.getD 8 .und), (o32.getD 4 .und)]) v161_131) g122) g116) g109) g102) g96) g91) g86) g79) g73) g67) g62) g57) v146_54) [(o12.getD 0 .und), (o12.getD 1 .und), (o12.getD 2 .und), (o12.getD 4 .und)]) v96_8) v89_5) [x1, x2, x3, (.bool true), (.bool true)] [x0, x4] hi
theorem slices_pdqsortCmpFunc_impl_Fraction_f {x0 x1 x2 x3 x4 : V} : Prt Try.prog 93 [x0, x1, x2, x3, x4] (slices_pdqsortCmpFunc_impl_Fraction_F x0 x1 x2 x3 x4) := pfun (fn := Try.f93) (m := [.s, .s, .l [1, 2, 3, 10, 11] [0, 4], .s, .s, .s, .s, .s, .s, .s, .j [0, 1, 2, 3, 4, 10, 11, 12], .s, .s, .s, .j [0, 1, 2, 3, 4, 10, 11, 12, 13, 14], .s, .s, .s, .j [0, 1, 2, 3, 4, 10, 11, 12, 13], .s, .s, .s, .s, .s, .s, .s, .s, .s, .s, .s, .s, .s, .s, .s]) (c := 5 ≤ 148) rfl (fun h0 Rt => by kernel_rfl) (by decide)

def slices_Index_int64_int64_i_F (x0 x1 : V) (hi : Hp) (Rt : Hp → V → Prop) : Prop :=
VL (vlenS x0) fun v71_0 =>
LP [8] [0, 1, 7] (fun w1 l2 h3 N4 =>
VL (lift2 (abin .lss) (w1.getD 0 .und) (l2.getD 2 .und)) fun v73_5 =>
pcond (
VL (vixS 1 (l2.getD 0 .und) (w1.getD 0 .und)) fun v78_6 =>
pld h3 none (fun v79_7 h8 =>
VL (lift2 (abin .eql) (l2.getD 1 .und) v79_7) fun v80_9 =>
pcond (
Rt h8 (w1.getD 0 .und)) (
VL (lift2 (abin .add) (w1.getD 0 .und) (.int .i64 1)) fun v82_10 =>
N4 [v82_10] [(l2.getD 0 .und), (l2.getD 1 .und), (l2.getD 2 .und)] h8) v80_9) v78_6) (
Rt h3 (.int .i64 (-1))) v73_5) [(.int .i64 0)] [x0, x1, v71_0] hi
theorem slices_Index_int64_int64_i_f {x0 x1 : V} : Prt Try.prog 94 [x0, x1] (slices_Index_int64_int64_i_F x0 x1) := pfun (fn := Try.f94) (m := [.s, .s, .s, .l [8] [0, 1, 7], .s, .s, .s, .s, .s, .s, .s]) (c := 2 ≤ 19) rfl (fun h0 Rt => by kernel_rfl) (by decide)

def spec_l10Prime_F (x0 : V) (hi : Hp) (Rt : Hp → V → Prop) : Prop :=
LP [3] [0] (fun w0 l1 h2 N3 =>
VL (vlenS (l1.getD 0 .und)) fun v71_4 =>
VL (lift2 (abin .lss) (w0.getD 0 .und) v71_4) fun v72_5 =>
pcond (
VL (vixS 1 (l1.getD 0 .und) (w0.getD 0 .und)) fun v77_6 =>
pld h2 none (fun v78_7 h8 =>
VL (lift2 (abin .eql) v78_7 (.int .i64 1)) fun v79_9 =>
pcond (
VL (lift2 (abin .add) (w0.getD 0 .und) (.int .i64 1)) fun v74_10 =>
N3 [v74_10] [(l1.getD 0 .und)] h8) (
LP [4] [0, 3] (fun w11 l12 h13 N14 =>
VL (lift2 (abin .mul) (w11.getD 0 .und) (w11.getD 0 .und)) fun v82_15 =>
VL (vixS 1 (l12.getD 0 .und) (l12.getD 1 .und)) fun v85_16 =>
pld h13 none (fun v86_17 h18 =>
VL (lift2 (abin .leq) v82_15 v86_17) fun v87_19 =>
pcond (
VL (vixS 1 (l12.getD 0 .und) (l12.getD 1 .und)) fun v92_20 =>
pld h18 none (fun v93_21 h22 =>
VL (lift2 (abin .rem) v93_21 (w11.getD 0 .und)) fun v95_23 =>
VL (lift2 (abin .eql) v95_23 (.int .i64 0)) fun v96_24 =>
pcond (
Rt h22 (w11.getD 0 .und)) (
VL (lift2 (abin .add) (w11.getD 0 .und) (.int .i64 1)) fun v89_25 =>
N14 [v89_25] [(l12.getD 0 .und), (l12.getD 1 .und)] h22) v96_24) v92_20) (
VL (vixS 1 (l12.getD 0 .und) (l12.getD 1 .und)) fun v100_26 =>
pld h18 none (fun v101_27 h28 =>
Rt h28 v101_27) v100_26) v87_19) v85_16) [(.int .i64 2)] [(l1.getD 0 .und), (w0.getD 0 .und)] h8) v79_9) v77_6) (
Rt h2 (.int .i64 0)) v72_5) [(.int .i64 0)] [x0] hi
theorem spec_l10Prime_f {x0 : V} : Prt Try.prog 95 [x0] (spec_l10Prime_F x0) := pfun (fn := Try.f95) (m := [.s, .s, .s, .l [3] [0], .s, .s, .s, .s, .s, .s, .s, .l [4] [0, 3], .s, .s, .s, .s, .s, .s, .s]) (c := 1 ≤ 38) rfl (fun h0 Rt => by kernel_rfl) (by decide)

def slices_insertionSortOrdered_int64_F (x0 x1 x2 : V) (hi : Hp) (Rt : Hp → V → Prop) : Prop :=
VL (lift2 (abin .add) x1 (.int .i64 1)) fun v73_0 =>
LP [6] [0, 1, 2] (fun w1 l2 h3 N4 =>
VL (lift2 (abin .lss) (w1.getD 0 .und) (l2.getD 2 .und)) fun v76_5 =>
pcond (
LP [7] [0, 1, 2, 6] (fun w6 l7 h8 N9 =>
VL (lift2 (abin .gtr) (w6.getD 0 .und) (l7.getD 1 .und)) fun v82_10 =>
pgk true h8 (fun g11 k12 => k12 (l7.getD 0 .und) h8) (fun g13 v20_14 h15 =>
pgk true h15 (fun g16 k17 => k17 (w6.getD 0 .und) h15) (fun g18 v21_19 h20 =>
pgk true h20 (fun g21 k22 => VL (vixS 1 v20_14 v21_19) fun v86_23 =>
k22 v86_23 h20) (fun g24 v22_25 h26 =>
pgk true h26 (fun g27 k28 => pld h26 none (fun v87_29 h30 =>
k28 v87_29 h30) v22_25) (fun g31 v23_32 h33 =>
pgk true h33 (fun g34 k35 => k35 (l7.getD 0 .und) h33) (fun g36 v24_37 h38 =>
pgk true h38 (fun g39 k40 => k40 (w6.getD 0 .und) h38) (fun g41 v25_42 h43 =>
pgk true h43 (fun g44 k45 => VL (lift2 (abin .sub) v25_42 (.int .i64 1)) fun v90_46 =>
k45 v90_46 h43) (fun g47 v26_48 h49 =>
pgk true h49 (fun g50 k51 => VL (vixS 1 v24_37 v26_48) fun v91_52 =>
k51 v91_52 h49) (fun g53 v27_54 h55 =>
pgk true h55 (fun g56 k57 => pld h55 none (fun v92_58 h59 =>
k57 v92_58 h59) v27_54) (fun g60 v28_61 h62 =>
pgk true h62 (fun g63 k64 => pcal Try.prog 102 93 h62 (fun v93_65 h66 =>
k64 v93_65 h66) [v23_32, v28_61]) (fun g67 v29_68 h69 =>
VL (vpick g67 v29_68 (.bool false)) fun v94_70 =>
pcond (
VL (lift2 (abin .sub) (w6.getD 0 .und) (.int .i64 1)) fun v101_71 =>
VL (lift2 (abin .sub) (w6.getD 0 .und) (.int .i64 1)) fun v104_72 =>
VL (vixS 1 (l7.getD 0 .und) v104_72) fun v105_73 =>
pld h69 none (fun v106_74 h75 =>
VL (vixS 1 (l7.getD 0 .und) (w6.getD 0 .und)) fun v109_76 =>
pld h75 none (fun v110_77 h78 =>
VL (vixS 1 (l7.getD 0 .und) (w6.getD 0 .und)) fun v111_79 =>
pst h78 1 (cellsV v106_74) (fun u80 h81 =>
VL (vixS 1 (l7.getD 0 .und) v101_71) fun v112_82 =>
pst h81 1 (cellsV v110_77) (fun u83 h84 =>
VL (lift2 (abin .sub) (w6.getD 0 .und) (.int .i64 1)) fun v96_85 =>
N9 [v96_85] [(l7.getD 0 .und), (l7.getD 1 .und), (l7.getD 2 .und), (l7.getD 3 .und)] h84) v112_82) v111_79) v109_76) v105_73) (
VL (lift2 (abin .add) (l7.getD 3 .und) (.int .i64 1)) fun v78_86 =>
N4 [v78_86] [(l7.getD 0 .und), (l7.getD 1 .und), (l7.getD 2 .und)] h69) v94_70) g60) g53) g47) g41) g36) g31) g24) g18) g13) v82_10) [(w1.getD 0 .und)] [(l2.getD 0 .und), (l2.getD 1 .und), (l2.getD 2 .und), (w1.getD 0 .und)] h3) (
Rt h3 (.tup [])) v76_5) [v73_0] [x0, x1, x2] hi
theorem slices_insertionSortOrdered_int64_f {x0 x1 x2 : V} : Prt Try.prog 96 [x0, x1, x2] (slices_insertionSortOrdered_int64_F x0 x1 x2) := pfun (fn := Try.f96) (m := [.s, .l [6] [0, 1, 2], .s, .s, .s, .s, .l [7] [0, 1, 2, 6], .s, .s, .s]) (c := 3 ≤ 49) rfl (fun h0 Rt => by kernel_rfl) (by decide)

def cmp_Less_int64_F (x0 x1 : V) (hi : Hp) (Rt : Hp → V → Prop) : Prop :=
pcal Try.prog 120 70 hi (fun v70_0 h1 =>
pgk true h1 (fun g2 k3 => k3 x1 h1) (fun g4 v8_5 h6 =>
pgk true h6 (fun g7 k8 => pcal Try.prog 120 73 h6 (fun v73_9 h10 =>
k8 v73_9 h10) [v8_5]) (fun g11 v9_12 h13 =>
pgk true h13 (fun g14 k15 => VL (lift1 (aun .not) v9_12) fun v74_16 =>
k15 v74_16 h13) (fun g17 v10_18 h19 =>
VL (vpick g17 v10_18 (.bool false)) fun v75_20 =>
pgk false h19 (fun g21 k22 => k22 x0 h19) (fun g23 v13_24 h25 =>
pgk false h25 (fun g26 k27 => k27 x1 h25) (fun g28 v14_29 h30 =>
pgk false h30 (fun g31 k32 => VL (lift2 (abin .lss) v13_24 v14_29) fun v79_33 =>
k32 v79_33 h30) (fun g34 v15_35 h36 =>
VL (vpick g34 (.bool true) v15_35) fun v80_37 =>
Rt h36 v80_37) g28) g23) v75_20) g11) g4) v70_0) [x0]
theorem cmp_Less_int64_f {x0 x1 : V} : Prt Try.prog 102 [x0, x1] (cmp_Less_int64_F x0 x1) := pfun (fn := Try.f102) (m := [.s, .s]) (c := 2 ≤ 17) rfl (fun h0 Rt => by kernel_rfl) (by decide)

def math_bits_Len64_F (x0 : V) (hi : Hp) (Rt : Hp → V → Prop) : Prop :=
JN (fun k0 =>
VL (lift2 (abin .geq) x0 (.int .u64 4294967296)) fun v68_3 =>
pcond (
VL (lift2 (abin .shr) x0 (.int .u64 32)) fun v70_4 =>
k0 [v70_4, (.int .i64 32)] hi) (
k0 [x0, (.int .i64 0)] hi) v68_3) fun o1 h2 =>
JN (fun k5 =>
VL (lift2 (abin .geq) (o1.getD 0 .und) (.int .u64 65536)) fun v72_8 =>
pcond (
VL (lift2 (abin .shr) (o1.getD 0 .und) (.int .u64 16)) fun v74_9 =>
VL (lift2 (abin .add) (o1.getD 1 .und) (.int .i64 16)) fun v76_10 =>
k5 [v74_9, v76_10] h2) (
k5 [(o1.getD 0 .und), (o1.getD 1 .und)] h2) v72_8) fun o6 h7 =>
JN (fun k11 =>
VL (lift2 (abin .geq) (o6.getD 0 .und) (.int .u64 256)) fun v78_14 =>
pcond (
VL (lift2 (abin .shr) (o6.getD 0 .und) (.int .u64 8)) fun v80_15 =>
VL (lift2 (abin .add) (o6.getD 1 .und) (.int .i64 8)) fun v82_16 =>
k11 [v80_15, v82_16] h7) (
k11 [(o6.getD 0 .und), (o6.getD 1 .und)] h7) v78_14) fun o12 h13 =>
VL (lift1 (acvi .u8) (o12.getD 0 .und)) fun v85_17 =>
VL (vixT (.str [0, 1, 2, 2, 3, 3, 3, 3, 4, 4, 4, 4, 4, 4, 4, 4, 5, 5, 5, 5, 5, 5, 5, 5, 5, 5, 5, 5, 5, 5, 5, 5, 6, 6, 6, 6, 6, 6, 6, 6, 6, 6, 6, 6, 6, 6, 6, 6, 6, 6, 6, 6, 6, 6, 6, 6, 6, 6, 6, 6, 6, 6, 6, 6, 7, 7, 7, 7, 7, 7, 7, 7, 7, 7, 7, 7, 7, 7, 7, 7, 7, 7, 7, 7, 7, 7, 7, 7, 7, 7, 7, 7, 7, 7, 7, 7, 7, 7, 7, 7, 7, 7, 7, 7, 7, 7, 7, 7, 7, 7, 7, 7, 7, 7, 7, 7, 7, 7, 7, 7, 7, 7, 7, 7, 7, 7, 7, 7, 8, 8, 8, 8, 8, 8, 8, 8, 8, 8, 8, 8, 8, 8, 8, 8, 8, 8, 8, 8, 8, 8, 8, 8, 8, 8, 8, 8, 8, 8, 8, 8, 8, 8, 8, 8, 8, 8, 8, 8, 8, 8, 8, 8, 8, 8, 8, 8, 8, 8, 8, 8, 8, 8, 8, 8, 8, 8, 8, 8, 8, 8, 8, 8, 8, 8, 8, 8, 8, 8, 8, 8, 8, 8, 8, 8, 8, 8, 8, 8, 8, 8, 8, 8, 8, 8, 8, 8, 8, 8, 8, 8, 8, 8, 8, 8, 8, 8, 8, 8, 8, 8, 8, 8, 8, 8, 8, 8, 8, 8, 8, 8, 8, 8, 8, 8, 8, 8, 8, 8, 8, 8, 8, 8, 8, 8, 8, 8]) v85_17) fun v86_18 =>
VL (lift1 (acvi .i64) v86_18) fun v87_19 =>
VL (lift2 (abin .add) (o12.getD 1 .und) v87_19) fun v88_20 =>
Rt h13 v88_20
theorem math_bits_Len64_f {x0 : V} : Prt Try.prog 106 [x0] (math_bits_Len64_F x0) := pfun (fn := Try.f106) (m := [.s, .j [0, 2], .s, .s, .j [0, 2], .s, .s, .j [0, 2], .s, .s, .s]) (c := 1 ≤ 25) rfl (fun h0 Rt => by kernel_rfl) (by decide)

def slices_insertionSortCmpFunc_impl_Fraction_F (x0 x1 x2 x3 : V) (hi : Hp) (Rt : Hp → V → Prop) : Prop :=
VL (lift2 (abin .add) x1 (.int .i64 1)) fun v75_0 =>
LP [8] [0, 1, 2, 3] (fun w1 l2 h3 N4 =>
VL (lift2 (abin .lss) (w1.getD 0 .und) (l2.getD 2 .und)) fun v78_5 =>
pcond (
LP [9] [0, 1, 2, 3, 8] (fun w6 l7 h8 N9 =>
VL (lift2 (abin .gtr) (w6.getD 0 .und) (l7.getD 1 .und)) fun v84_10 =>
pgk true h8 (fun g11 k12 => k12 (l7.getD 3 .und) h8) (fun g13 v22_14 h15 =>
pgk true h15 (fun g16 k17 => k17 (l7.getD 0 .und) h15) (fun g18 v23_19 h20 =>
pgk true h20 (fun g21 k22 => k22 (w6.getD 0 .und) h20) (fun g23 v24_24 h25 =>
pgk true h25 (fun g26 k27 => VL (vixS 2 v23_19 v24_24) fun v89_28 =>
k27 v89_28 h25) (fun g29 v25_30 h31 =>
pgk true h31 (fun g32 k33 => pld h31 (some 2) (fun v90_34 h35 =>
k33 v90_34 h35) v25_30) (fun g36 v26_37 h38 =>
pgk true h38 (fun g39 k40 => k40 (l7.getD 0 .und) h38) (fun g41 v27_42 h43 =>
pgk true h43 (fun g44 k45 => k45 (w6.getD 0 .und) h43) (fun g46 v28_47 h48 =>
pgk true h48 (fun g49 k50 => VL (lift2 (abin .sub) v28_47 (.int .i64 1)) fun v93_51 =>
k50 v93_51 h48) (fun g52 v29_53 h54 =>
pgk true h54 (fun g55 k56 => VL (vixS 2 v27_42 v29_53) fun v94_57 =>
k56 v94_57 h54) (fun g58 v30_59 h60 =>
pgk true h60 (fun g61 k62 => pld h60 (some 2) (fun v95_63 h64 =>
k62 v95_63 h64) v30_59) (fun g65 v31_66 h67 =>
pgk true h67 (fun g68 k69 => pcallv Try.prog [v26_37, v31_66] 96 h67 (fun v96_70 h71 =>
k69 v96_70 h71) v22_14) (fun g72 v32_73 h74 =>
pgk true h74 (fun g75 k76 => VL (lift2 (abin .lss) v32_73 (.int .i64 0)) fun v97_77 =>
k76 v97_77 h74) (fun g78 v33_79 h80 =>
VL (vpick g78 v33_79 (.bool false)) fun v98_81 =>
pcond (
VL (lift2 (abin .sub) (w6.getD 0 .und) (.int .i64 1)) fun v105_82 =>
VL (lift2 (abin .sub) (w6.getD 0 .und) (.int .i64 1)) fun v108_83 =>
VL (vixS 2 (l7.getD 0 .und) v108_83) fun v109_84 =>
pld h80 (some 2) (fun v110_85 h86 =>
VL (vixS 2 (l7.getD 0 .und) (w6.getD 0 .und)) fun v113_87 =>
pld h86 (some 2) (fun v114_88 h89 =>
VL (vixS 2 (l7.getD 0 .und) (w6.getD 0 .und)) fun v115_90 =>
pst h89 2 (cellsV v110_85) (fun u91 h92 =>
VL (vixS 2 (l7.getD 0 .und) v105_82) fun v116_93 =>
pst h92 2 (cellsV v114_88) (fun u94 h95 =>
VL (lift2 (abin .sub) (w6.getD 0 .und) (.int .i64 1)) fun v100_96 =>
N9 [v100_96] [(l7.getD 0 .und), (l7.getD 1 .und), (l7.getD 2 .und), (l7.getD 3 .und), (l7.getD 4 .und)] h95) v116_93) v115_90) v113_87) v109_84) (
VL (lift2 (abin .add) (l7.getD 4 .und) (.int .i64 1)) fun v80_97 =>
N4 [v80_97] [(l7.getD 0 .und), (l7.getD 1 .und), (l7.getD 2 .und), (l7.getD 3 .und)] h80) v98_81) g72) g65) g58) g52) g46) g41) g36) g29) g23) g18) g13) v84_10) [(w1.getD 0 .und)] [(l2.getD 0 .und), (l2.getD 1 .und), (l2.getD 2 .und), (l2.getD 3 .und), (w1.getD 0 .und)] h3) (
Rt h3 (.tup [])) v78_5) [v75_0] [x0, x1, x2, x3] hi
theorem slices_insertionSortCmpFunc_impl_Fraction_f {x0 x1 x2 x3 : V} : Prt Try.prog 107 [x0, x1, x2, x3] (slices_insertionSortCmpFunc_impl_Fraction_F x0 x1 x2 x3) := pfun (fn := Try.f107) (m := [.s, .l [8] [0, 1, 2, 3], .s, .s, .s, .s, .l [9] [0, 1, 2, 3, 8], .s, .s, .s]) (c := 4 ≤ 53) rfl (fun h0 Rt => by kernel_rfl) (by decide)

def cmp_isNaN_int64_F (x0 : V) (hi : Hp) (Rt : Hp → V → Prop) : Prop :=
VL (lift2 (abin .neq) x0 x0) fun v69_0 =>
Rt hi v69_0
theorem cmp_isNaN_int64_f {x0 : V} : Prt Try.prog 120 [x0] (cmp_isNaN_int64_F x0) := pfun (fn := Try.f120) (m := [.s, .s]) (c := 1 ≤ 6) rfl (fun h0 Rt => by kernel_rfl) (by decide)

end Go.Proofs.Ytlfpiegadaiafaa.Sep
end
section
/- Draws: the source of a code, its numbers. -/
namespace Go.Proofs.Ytlfpiegadaiafaa.Sep
open Go.RowKit
set_option linter.unusedVariables false
set_option linter.unusedSimpArgs false
set_option maxRecDepth 20000
set_option maxHeartbeats 1000000

theorem callM_d {P : Program} {f : FuncId} {d : Nat} {h : Hp} {K : V → Hp → Prop} {bs : List Nat} {bx : List (Nat × TypeId × Nat)} {cells : List (List V)} {ws : List V} {Φ : V → List (List V) → Prop}
    (hs : PSpecM P f ws bx cells Φ) (hK : ∀ v cs, Φ v cs → K (vw v) (hputs2 h bs bx cs)) : CallM P f d h K bs bx cells ws := ⟨Φ, hs, .inl hK⟩
theorem pcn_q {P : Program} {f : FuncId} {d : Nat} {h : Hp} {K : V → Hp → Prop} {ws vs : List V} {Φ : TypeId → List V → Prop} (hs : PSpecB P f vs Φ) (hn : nrfs vs = true) (hK : ∀ e c, Φ e c → Rq (h d = .free) (K (.ptr d 0) (hput h d (.row e 1 c)))) : pcd P f d h K ws true vs :=
  .inr ⟨rfl, .inr ⟨hn, _, hs, hK⟩⟩
/-- The bytes of a code. -/
def okB (l : List Int) : Prop := l.length ≤ 4096 ∧ ∀ a ∈ l, 0 ≤ a ∧ a ≤ 255
def srcC (x : Value) (l : List Int) (a h : Int) : List V := [.fz x l, .int .i64 a, .int .u64 h]
def okS (l : List Int) (a : Int) : Prop := okB l ∧ 0 ≤ a ∧ a ≤ 4096
theorem okS_0 {l : List Int} (h : okB l) : okS l 0 := ⟨h, by omega, by omega⟩
theorem and24 (A : BitVec IntKind.u64.bits) : ∃ q : Nat, q ≤ 16777215 ∧ IntKind.i64.wrap (IntKind.u64.wrap ((A &&& BitVec.ofInt IntKind.u64.bits 16777215).toNat : Int)) = (q : Int) := by
  refine ⟨(A &&& BitVec.ofInt IntKind.u64.bits 16777215).toNat, ?_, ?_⟩
  · rw [BitVec.toNat_and]
    exact Nat.le_trans Nat.and_le_right (by decide)
  · have h : (A &&& BitVec.ofInt IntKind.u64.bits 16777215).toNat ≤ 16777215 := by
      rw [BitVec.toNat_and]
      exact Nat.le_trans Nat.and_le_right (by decide)
    generalize (A &&& BitVec.ofInt IntKind.u64.bits 16777215).toNat = q at *
    simp [IntKind.wrap, IntKind.signed, IntKind.bits]
    omega
theorem map_u8 {l : List Int} {i : Nat} (h : i < l.length) : (l.map (V.int .u8)).getD i .und = .int .u8 (gi l i) := by simp [List.getD, gi, h]
theorem okB_gi {l : List Int} (h : okB l) {i : Nat} (hi : i < l.length) : 0 ≤ gi l i ∧ gi l i ≤ 255 := by
  apply h.2
  rw [gi, List.getD, List.getElem?_eq_getElem hi]; exact List.getElem_mem hi
theorem c_spec_l01Next {x : Value} {l : List Int} {a z n : Int} (hs : okS l a) (hn : n ≤ 2000000000) : PSpecM Try.prog 45 [.ptr 0 0, .int .i64 n] [(0, 97, 1)] [srcC x l a z] fun v c =>
    ∃ r a' h', v = .int .i64 r ∧ c = [srcC x l a' h'] ∧ okS l a' ∧ (0 ≤ r ∧ (r < n ∨ r = 0)) := by
  refine spec_l01Next_f.m rfl rfl ?_
  unfold srcC
  obtain ⟨hB, ha1, ha2⟩ := hs
  simp (disch := first | omega | (simp only [LN]; omega)) only [↓EC, EW, seval, ↓reduceIte, false_imp_iff, spec_l01Next_F]
  (refine Split.mk (fun h => ?_) (fun h => ?_) <;> (try simp only [decide_eq_true_eq, decide_eq_false_iff_not, beq_iff_eq, bne_iff_ne, beq_eq_false_iff_ne, bne_eq_false_iff_eq, Bool.not_eq_true', Bool.not_eq_false', Bool.and_eq_true, Bool.or_eq_true, Bool.and_eq_false_iff, Bool.or_eq_false_iff, Int.not_lt, Int.not_le, Bool.false_eq_true, Bool.true_eq_false, false_and, and_false, true_and, and_true, or_false, false_or, or_true, true_or, not_true_eq_false, not_false_eq_true] at h))
  · exact ⟨0, a, z, rfl, rfl, ⟨hB, ha1, ha2⟩, by omega, .inr rfl⟩
  · generalize IntKind.u64.wrap (IntKind.u64.wrap (z * 6364136223846793005) + 1442695040888963407) = hh
    obtain ⟨q, hq, e⟩ := and24 (BitVec.ofInt IntKind.u64.bits (hh.fdiv (2 ^ Nat.min 33 IntKind.u64.bits)))
    rw [e]
    have m0 : ∀ y : Int, 0 ≤ y → 0 ≤ y.tmod n ∧ (y.tmod n < n ∨ y.tmod n = 0) := fun y hy => ⟨Int.tmod_nonneg _ hy, .inl (Int.tmod_lt_of_pos _ (by omega))⟩
    (try simp (disch := first | omega | (simp only [LN]; omega)) only [↓EC, EW, seval, ↓reduceIte, false_imp_iff])
    (refine Split.mk (fun h => ?_) (fun h => ?_) <;> (try simp only [decide_eq_true_eq, decide_eq_false_iff_not, beq_iff_eq, bne_iff_ne, beq_eq_false_iff_ne, bne_eq_false_iff_eq, Bool.not_eq_true', Bool.not_eq_false', Bool.and_eq_true, Bool.or_eq_true, Bool.and_eq_false_iff, Bool.or_eq_false_iff, Int.not_lt, Int.not_le, Bool.false_eq_true, Bool.true_eq_false, false_and, and_false, true_and, and_true, or_false, false_or, or_true, true_or, not_true_eq_false, not_false_eq_true] at h))
    · have hB1 := hB.1
      have hlt : a.toNat < l.length := by omega
      have hg := okB_gi hB hlt
      (try simp (disch := first | omega | (simp only [LN]; omega)) only [↓EC, EW, seval, ↓reduceIte, false_imp_iff, map_u8 hlt])
      have := m0 (q + gi l a.toNat) (by omega)
      exact ⟨by simpa using hlt, _, a + 1, hh, rfl, rfl, ⟨hB, by omega, by omega⟩, this⟩
    · have := m0 q (by omega)
      exact ⟨_, a, hh, rfl, rfl, ⟨hB, ha1, ha2⟩, this⟩
theorem c_spec_l01Pick {x : Value} {l m : List Int} {a z : Int} (hs : okS l a) (h0 : 0 < m.length) (hn : m.length ≤ 1000) : PSpecM Try.prog 46 [.ptr 0 0, .sl m.length (vi .i64 m)] [(0, 97, 1)] [srcC x l a z] fun v c =>
    ∃ y a' z', y ∈ m ∧ v = .int .i64 y ∧ c = [srcC x l a' z'] ∧ okS l a' := by
  refine spec_l01Pick_f.m rfl rfl ?_
  have hnx := c_spec_l01Next (x := x) (z := z) hs (n := m.length) (by omega)
  unfold srcC at hnx ⊢
  simp (disch := first | omega | (simp only [LN]; omega)) only [↓EC, EW, seval, ↓reduceIte, false_imp_iff, spec_l01Pick_F]
  refine pcm [0] rfl ?_
  (try simp (disch := first | omega | (simp only [LN]; omega)) only [↓EC, EW, seval, ↓reduceIte, false_imp_iff])
  refine callM_d hnx ?_
  rintro v c ⟨r, a', z', rfl, rfl, hs', hr⟩
  (try simp (disch := first | omega | (simp only [LN]; omega)) only [↓EC, EW, seval, ↓reduceIte, false_imp_iff])
  refine ⟨gi m r.toNat, a', z', ?_, rfl, rfl, hs'⟩
  rw [gi, List.getD, List.getElem?_eq_getElem (by omega)]; exact List.getElem_mem _
theorem finB_src {x : Value} {l : List Int} {z : Int} : FINB [.fz x l] (hput hnil 75 (Slot.row 97 1 [.fz x l, .int .i64 0, .int .u64 z])) (fun e c => e = 97 ∧ ∃ z, c = [.fz x l, .int .i64 0, .int .u64 z]) (.ptr 75 0) := by
  simp only [FINB, hput, ↓reduceIte]
  refine ⟨?_, trivial, z, rfl⟩
  intro v hv
  simp only [List.mem_cons, List.not_mem_nil, or_false] at hv
  rcases hv with rfl | rfl | rfl
  · exact .inr ⟨x, l, rfl, by simp⟩
  · exact .inl ⟨by simp [clo], rfl⟩
  · exact .inl ⟨by simp [clo], rfl⟩
theorem c_spec_l01From {x : Value} {l : List Int} (hB : okB l) : PSpecB Try.prog 44 [.fz x l] fun e c => e = 97 ∧ ∃ z, c = srcC x l 0 z := by
  refine spec_l01From_f.b ?_
  unfold srcC
  simp (disch := first | omega | (simp only [LN]; omega)) only [↓EC, EW, seval, ↓reduceIte, false_imp_iff, spec_l01From_F]
  refine LP_of (σ := Nat × Int) 100000 [(75, 97, 1)] (fun s => [.int .i64 s.1]) (fun s => [[.fz x l, .int .i64 0, .int .u64 s.2]]) (fun s => s.1 ≤ l.length) (fun s => l.length - s.1) (0, IntKind.u64.wrap (8117 + IntKind.u64.wrap l.length)) (by simp [frameOk, names, lpz, sclp, scv, scvs, vi_nrf, vb_nrf, vt_nrf, v2_nrf, v3_nrf, nrfs, nrf, sc_vi, sc_vb, sc_vt, sc_v2, sc_v3, sc_vo, sc_vl, vo_nrf, vl_nrf, sc_vn, vn_nrf]) (Nat.zero_le _) ?_ ?_
  · simp (disch := first | omega | (simp only [LN]; omega)) only [↓EC, EW, seval, ↓reduceIte, false_imp_iff, ColV_def]
  · rintro ⟨i, z⟩ h1
    simp only at h1
    have hB1 := hB.1
    simp (disch := first | omega | (simp only [LN]; omega)) only [↓EC, EW, seval, ↓reduceIte, false_imp_iff, ColV_def, lheap_def]
    (refine Split.mk (fun h => ?_) (fun h => ?_) <;> (try simp only [decide_eq_true_eq, decide_eq_false_iff_not, beq_iff_eq, bne_iff_ne, beq_eq_false_iff_ne, bne_eq_false_iff_eq, Bool.not_eq_true', Bool.not_eq_false', Bool.and_eq_true, Bool.or_eq_true, Bool.and_eq_false_iff, Bool.or_eq_false_iff, Int.not_lt, Int.not_le, Bool.false_eq_true, Bool.true_eq_false, false_and, and_false, true_and, and_true, or_false, false_or, or_true, true_or, not_true_eq_false, not_false_eq_true] at h))
    · have hlt : i < l.length := by omega
      (try simp (disch := first | omega | (simp only [LN]; omega)) only [↓EC, EW, seval, ↓reduceIte, false_imp_iff, map_u8 hlt])
      (refine Split.mk (fun h => ?_) (fun h => ?_) <;> (try simp only [decide_eq_true_eq, decide_eq_false_iff_not, beq_iff_eq, bne_iff_ne, beq_eq_false_iff_ne, bne_eq_false_iff_eq, Bool.not_eq_true', Bool.not_eq_false', Bool.and_eq_true, Bool.or_eq_true, Bool.and_eq_false_iff, Bool.or_eq_false_iff, Int.not_lt, Int.not_le, Bool.false_eq_true, Bool.true_eq_false, false_and, and_false, true_and, and_true, or_false, false_or, or_true, true_or, not_true_eq_false, not_false_eq_true] at h))
      · (try simp (disch := first | omega | (simp only [LN]; omega)) only [↓EC, EW, seval, ↓reduceIte, false_imp_iff])
        exact ⟨by simpa using hlt, (i + 1, _), rfl, rfl, by simp only; omega, by simp only; omega⟩
      · exact finB_src
    · exact finB_src
end Go.Proofs.Ytlfpiegadaiafaa.Sep
end
section
/- What the functions on fractions and moves compute. -/
namespace Go.Proofs.Ytlfpiegadaiafaa.Sep
open Go.RowKit
set_option linter.unusedVariables false
set_option linter.unusedSimpArgs false
set_option maxRecDepth 20000

theorem gcd_step (x y : Int) : Int.gcd y (x.tmod y) = Int.gcd x y := by
  rw [Int.gcd_comm x y]
  have h := Int.mul_tdiv_add_tmod x y
  conv => rhs; rw [← h]
  rw [Int.add_comm, Int.gcd_add_mul_left_right]
theorem tmod_lt (x : Int) {y : Int} (hy : y ≠ 0) : (x.tmod y).natAbs < y.natAbs := by
  rw [Int.natAbs_tmod]
  exact Nat.mod_lt _ (by omega)

theorem c_impl_gcd {a b : Int} (ha : -4611686018427387904 ≤ a ∧ a ≤ 4611686018427387904) (hb : -4611686018427387904 ≤ b ∧ b ≤ 4611686018427387904) :
    PSpec Try.prog 47 [.int .i64 a, .int .i64 b] fun v => v = .int .i64 (Int.gcd a b) := by
  refine impl_gcd_f.f ?_
  unfold impl_gcd_F
  refine LP_of (σ := Int × Int) 100000 [] (fun s => [.int .i64 s.1, .int .i64 s.2]) (fun _ => [])
    (fun s => Int.gcd s.1 s.2 = Int.gcd a b ∧ (-4611686018427387904 ≤ s.1 ∧ s.1 ≤ 4611686018427387904) ∧ (-4611686018427387904 ≤ s.2 ∧ s.2 ≤ 4611686018427387904)) (fun s => s.2.natAbs) (a, b) rfl ⟨rfl, ha, hb⟩ ?_ ?_
  · simp (disch := first | omega | (simp only [LN]; omega)) only [↓EC, EW, seval, ↓reduceIte, false_imp_iff, ColV_def]
  · rintro ⟨x, y⟩ ⟨h1, h2, h3⟩
    simp only at h1 h2 h3
    simp (disch := first | omega | (simp only [LN]; omega)) only [↓EC, EW, seval, ↓reduceIte, false_imp_iff, ColV_def, lheap_def]
    refine Split.mk (fun h => ?_) (fun h => ?_)
    · have hy : y ≠ 0 := by simpa using h
      have := tmod_lt x hy
      exact ⟨hy, (y, x.tmod y), rfl, ⟨by rw [gcd_step]; exact h1, by omega, by simp only; omega⟩, this⟩
    · have hy : y = 0 := by simpa using h
      subst hy
      rw [Int.gcd_zero] at h1
      rw [← h1]
      congr 1
      split <;> omega

theorem c_spec_l10Common {a b : Int} (ha : -4611686018427387904 ≤ a ∧ a ≤ 4611686018427387904) (hb : -4611686018427387904 ≤ b ∧ b ≤ 4611686018427387904) :
    PSpec Try.prog 75 [.int .i64 a, .int .i64 b] fun v => v = .int .i64 (Int.gcd a b) := by
  refine spec_l10Common_f.f ?_
  unfold spec_l10Common_F
  refine LP_of (σ := Int × Int) 100000 [] (fun s => [.int .i64 s.1, .int .i64 s.2]) (fun _ => [])
    (fun s => Int.gcd s.1 s.2 = Int.gcd a b ∧ (-4611686018427387904 ≤ s.1 ∧ s.1 ≤ 4611686018427387904) ∧ (-4611686018427387904 ≤ s.2 ∧ s.2 ≤ 4611686018427387904)) (fun s => s.2.natAbs) (a, b) rfl ⟨rfl, ha, hb⟩ ?_ ?_
  · simp (disch := first | omega | (simp only [LN]; omega)) only [↓EC, EW, seval, ↓reduceIte, false_imp_iff, ColV_def]
  · rintro ⟨x, y⟩ ⟨h1, h2, h3⟩
    simp only at h1 h2 h3
    simp (disch := first | omega | (simp only [LN]; omega)) only [↓EC, EW, seval, ↓reduceIte, false_imp_iff, ColV_def, lheap_def]
    refine Split.mk (fun h => ?_) (fun h => ?_)
    · have hy : y ≠ 0 := by simpa using h
      have := tmod_lt x hy
      exact ⟨hy, (y, x.tmod y), rfl, ⟨by rw [gcd_step]; exact h1, by omega, by simp only; omega⟩, this⟩
    · have hy : y = 0 := by simpa using h
      subst hy
      rw [Int.gcd_zero] at h1
      rw [← h1]
      congr 1
      split <;> omega

theorem c_spec_l01In0 {n a b : Int} : PSpec Try.prog 48 [.int .i64 n, .int .i64 a, .int .i64 b] fun v => v = .bool (decide (a ≤ n ∧ n ≤ b)) := by
  refine spec_l01In_f.f ?_
  simp (disch := first | omega | (simp only [LN]; omega)) only [↓EC, EW, seval, ↓reduceIte, false_imp_iff, spec_l01In_F]
  unfold Split
  simp only [V.bool.injEq]
  grind

/-! ### Moves -/
def isMoveB (k f l : Int) : Bool := decide (k = 2 ∧ 1 ≤ f ∧ f ≤ 20 ∧ 1 ≤ l ∧ l ≤ 20 ∨ (k = 0 ∨ k = 1) ∧ f = 0 ∧ l = 0)

theorem c_impl_IsMove {k f l : Int} : PSpec Try.prog 18 [.agg [.int .i64 k, .int .i64 f, .int .i64 l]] fun v => v = .bool (isMoveB k f l) := by
  refine impl_IsMove_f.f ?_
  simp (disch := first | omega | (simp only [LN]; omega)) only [↓EC, EW, seval, ↓reduceIte, false_imp_iff, impl_IsMove_F]
  unfold isMoveB Split
  simp only [V.bool.injEq]
  grind
theorem c_spec_l10Move {k f l : Int} : PSpec Try.prog 56 [.agg [.int .i64 k, .int .i64 f, .int .i64 l]] fun v => v = .bool (isMoveB k f l) := by
  refine spec_l10Move_f.f ?_
  simp (disch := first | omega | (simp only [LN]; omega)) only [↓EC, EW, seval, ↓reduceIte, false_imp_iff, spec_l10Move_F]
  repeat' first
    | refine Split.mk (fun _ => ?_) (fun _ => ?_)
    | (refine pcd_v c_spec_l01In0 ?_; (try simp (disch := first | omega | (simp only [LN]; omega)) only [↓EC, EW, seval, ↓reduceIte, false_imp_iff]))
  all_goals (simp only [V.bool.injEq]; unfold isMoveB; grind)
theorem c_spec_IsMove {k f l : Int} : PSpec Try.prog 19 [.agg [.int .i64 k, .int .i64 f, .int .i64 l]] fun v => v = .bool (isMoveB k f l) := by
  refine spec_IsMove_f.f ?_
  simp (disch := first | omega | (simp only [LN]; omega)) only [↓EC, EW, seval, ↓reduceIte, false_imp_iff, spec_IsMove_F]
  refine pcd_v c_spec_l10Move ?_
  (try simp (disch := first | omega | (simp only [LN]; omega)) only [↓EC, EW, seval, ↓reduceIte, false_imp_iff])
end Go.Proofs.Ytlfpiegadaiafaa.Sep
end
section
/- What the functions on fractions compute. -/
namespace Go.Proofs.Ytlfpiegadaiafaa.Sep
open Go.RowKit
set_option linter.unusedVariables false
set_option linter.unusedSimpArgs false
set_option maxRecDepth 20000

def isFr (n d : Int) : Bool := decide (-1000000000 ≤ n ∧ n ≤ 1000000000 ∧ 0 ≤ d ∧ d ≤ 1000000000 ∧ Int.gcd n d = 1 ∧ (0 < d ∨ n = 1))

theorem c_impl_IsFraction {n d : Int} : PSpec Try.prog 10 [.agg [.int .i64 n, .int .i64 d]] fun v => v = .bool (isFr n d) := by
  refine impl_IsFraction_f.f ?_
  simp (disch := first | omega | (simp only [LN]; omega)) only [↓EC, EW, seval, ↓reduceIte, false_imp_iff, impl_IsFraction_F]
  repeat' first
    | (refine Split.mk (fun h => ?_) (fun h => ?_) <;> (try simp only [decide_eq_true_eq, decide_eq_false_iff_not, beq_iff_eq, bne_iff_ne, beq_eq_false_iff_ne, bne_eq_false_iff_eq, Bool.not_eq_true', Bool.not_eq_false', Bool.and_eq_true, Bool.or_eq_true, Bool.and_eq_false_iff, Bool.or_eq_false_iff, Int.not_lt, Int.not_le, Bool.false_eq_true, Bool.true_eq_false, false_and, and_false, true_and, and_true, or_false, false_or, or_true, true_or, not_true_eq_false, not_false_eq_true] at h))
    | (refine pcd_v (c_impl_gcd (by omega) (by omega)) ?_; (try simp (disch := first | omega | (simp only [LN]; omega)) only [↓EC, EW, seval, ↓reduceIte, false_imp_iff]))
  all_goals (simp only [V.bool.injEq]; unfold isFr; (try subst d); (try rw [Int.gcd_zero]); grind)
theorem c_spec_l10Is {n d : Int} : PSpec Try.prog 51 [.agg [.int .i64 n, .int .i64 d]] fun v => v = .bool (isFr n d) := by
  refine spec_l10Is_f.f ?_
  simp (disch := first | omega | (simp only [LN]; omega)) only [↓EC, EW, seval, ↓reduceIte, false_imp_iff, spec_l10Is_F]
  repeat' first
    | (refine Split.mk (fun h => ?_) (fun h => ?_) <;> (try simp only [decide_eq_true_eq, decide_eq_false_iff_not, beq_iff_eq, bne_iff_ne, beq_eq_false_iff_ne, bne_eq_false_iff_eq, Bool.not_eq_true', Bool.not_eq_false', Bool.and_eq_true, Bool.or_eq_true, Bool.and_eq_false_iff, Bool.or_eq_false_iff, Int.not_lt, Int.not_le, Bool.false_eq_true, Bool.true_eq_false, false_and, and_false, true_and, and_true, or_false, false_or, or_true, true_or, not_true_eq_false, not_false_eq_true] at h))
    | (refine pcd_v (c_spec_l01In0) ?_; (try simp (disch := first | omega | (simp only [LN]; omega)) only [↓EC, EW, seval, ↓reduceIte, false_imp_iff]))
    | (refine pcd_v (c_spec_l10Common (by omega) (by omega)) ?_; (try simp (disch := first | omega | (simp only [LN]; omega)) only [↓EC, EW, seval, ↓reduceIte, false_imp_iff]))
  all_goals (simp only [V.bool.injEq]; unfold isFr; grind)
theorem c_spec_IsFraction {n d : Int} : PSpec Try.prog 11 [.agg [.int .i64 n, .int .i64 d]] fun v => v = .bool (isFr n d) := by
  refine spec_IsFraction_f.f ?_
  simp (disch := first | omega | (simp only [LN]; omega)) only [↓EC, EW, seval, ↓reduceIte, false_imp_iff, spec_IsFraction_F]
  (refine pcd_v (c_spec_l10Is) ?_; (try simp (disch := first | omega | (simp only [LN]; omega)) only [↓EC, EW, seval, ↓reduceIte, false_imp_iff]))
end Go.Proofs.Ytlfpiegadaiafaa.Sep
end
section
/- What the functions that make and compare fractions compute. -/
namespace Go.Proofs.Ytlfpiegadaiafaa.Sep
open Go.RowKit
set_option linter.unusedVariables false
set_option linter.unusedSimpArgs false
set_option maxRecDepth 20000

/-- The fraction in least terms: (1, 0) where the denominator is 0. -/
def gOf (n d : Int) : Int := if d < 0 ∨ d = 0 ∧ n < 0 then -(Int.gcd n d : Int) else (Int.gcd n d : Int)
def numOf (n d : Int) : Int := n.tdiv (gOf n d)
def denOf (n d : Int) : Int := d.tdiv (gOf n d)

theorem gcd_pos {n d : Int} (h : n ≠ 0 ∨ d ≠ 0) : 0 < (Int.gcd n d : Int) := by
  have : Int.gcd n d ≠ 0 := by
    intro h0
    rw [Int.gcd_eq_zero_iff] at h0
    omega
  omega
theorem gcd_le {n d : Int} (B : Nat) (hn : n.natAbs ≤ B) (hd : d.natAbs ≤ B) : Int.gcd n d ≤ B := by
  by_cases h : n = 0
  · subst h; simpa using hd
  · have := Int.gcd_le_natAbs_left (b := d) h
    omega
theorem gOf_ne {n d : Int} (h : n ≠ 0 ∨ d ≠ 0) : gOf n d ≠ 0 := by
  have := gcd_pos h
  unfold gOf; split <;> omega
theorem numOf_zero {n : Int} (h : n ≠ 0) : numOf n 0 = 1 ∧ denOf n 0 = 0 := by
  unfold numOf denOf gOf
  simp only [Int.gcd_zero, Int.zero_tdiv, and_true, Int.lt_irrefl, false_or, true_and]
  split
  · have : -(n.natAbs : Int) = n := by omega
    rw [this]; exact Int.tdiv_self h
  · have : (n.natAbs : Int) = n := by omega
    rw [this]; exact Int.tdiv_self h
theorem gcd_dvd_tdiv {n d g : Int} (hg : g ≠ 0) (h : g.natAbs = Int.gcd n d) : Int.gcd (n.tdiv g) (d.tdiv g) = 1 := by
  have h1 : g ∣ n := by
    have := Int.gcd_dvd_left (a := n) (b := d)
    rw [← h] at this
    exact Int.natAbs_dvd.1 this
  have h2 : g ∣ d := by
    have := Int.gcd_dvd_right (a := n) (b := d)
    rw [← h] at this
    exact Int.natAbs_dvd.1 this
  obtain ⟨a, rfl⟩ := h1
  obtain ⟨b, rfl⟩ := h2
  rw [Int.mul_tdiv_cancel_left _ hg, Int.mul_tdiv_cancel_left _ hg]
  rw [Int.gcd_mul_left] at h
  have : 0 < g.natAbs := by omega
  exact Nat.eq_of_mul_eq_mul_left this (by omega)
theorem tdiv_lim {n g : Int} (B : Int) (hn : -B ≤ n ∧ n ≤ B) : -B ≤ n.tdiv g ∧ n.tdiv g ≤ B := by
  have := Int.natAbs_tdiv_le_natAbs n g
  omega
theorem gOf_abs {n d : Int} : (gOf n d).natAbs = Int.gcd n d := by
  unfold gOf; split <;> omega
theorem denOf_nn {n d : Int} : 0 ≤ denOf n d := by
  unfold denOf gOf
  split
  · rw [Int.tdiv_neg]
    by_cases h : d = 0
    · subst h; simp
    · have := Int.tdiv_nonneg (a := -d) (b := (Int.gcd n d : Int)) (by omega) (by omega)
      rw [Int.neg_tdiv] at this
      exact this
  · exact Int.tdiv_nonneg (by omega) (by omega)
theorem isFr_of {n d : Int} (h : n ≠ 0 ∨ d ≠ 0) (hn : -1000000000 ≤ n ∧ n ≤ 1000000000) (hd : -1000000000 ≤ d ∧ d ≤ 1000000000) : isFr (numOf n d) (denOf n d) = true := by
  have h1 := tdiv_lim (g := gOf n d) 1000000000 hn
  have h2 := tdiv_lim (g := gOf n d) 1000000000 hd
  have h3 := gcd_dvd_tdiv (gOf_ne h) gOf_abs
  have h4 := denOf_nn (n := n) (d := d)
  have h5 : 0 < denOf n d ∨ numOf n d = 1 := by
    by_cases hz : d = 0
    · subst hz; exact .inr (numOf_zero (by omega)).1
    · left
      have : denOf n d ≠ 0 := by
        intro h0
        have hdv : gOf n d ∣ d := by
          have := Int.gcd_dvd_right (a := n) (b := d)
          rw [← gOf_abs] at this
          exact Int.natAbs_dvd.1 this
        have := Int.mul_tdiv_cancel' hdv
        unfold denOf at h0
        rw [h0] at this
        omega
      omega
  unfold isFr
  simp only [decide_eq_true_eq]
  unfold numOf denOf at *
  exact ⟨h1.1, h1.2, h4, h2.2, h3, h5⟩

/-- The limits of sums and products below which the fraction is reduced. -/
def lim62 (n : Int) : Prop := -4611686018427387904 ≤ n ∧ n ≤ 4611686018427387904

theorem c_spec_l10Make {n d : Int} (h0 : n ≠ 0 ∨ d ≠ 0) (hn : lim62 n) (hd : lim62 d) :
    PSpec Try.prog 49 [.int .i64 n, .int .i64 d] fun v => v = .tup [.agg [.int .i64 (numOf n d), .int .i64 (denOf n d)], .bool (isFr (numOf n d) (denOf n d))] := by
  unfold lim62 at hn hd
  refine spec_l10Make_f.f ?_
  simp (disch := first | omega | (simp only [LN]; omega)) only [↓EC, EW, seval, ↓reduceIte, false_imp_iff, spec_l10Make_F]
  have hg := gcd_pos h0
  have hl := gcd_le 4611686018427387904 (n := n) (d := d) (by omega) (by omega)
  have tl := tdiv_lim (n := n) (g := gOf n d) 4611686018427387904 hn
  have tm := tdiv_lim (n := d) (g := gOf n d) 4611686018427387904 hd
  repeat' first
    | (refine pcd_v (c_spec_l10Common (by omega) (by omega)) ?_; (try simp (disch := first | omega | (simp only [LN]; omega)) only [↓EC, EW, seval, ↓reduceIte, false_imp_iff]))
    | (refine Split.mk (fun h => ?_) (fun h => ?_) <;> (try simp only [decide_eq_true_eq, decide_eq_false_iff_not, beq_iff_eq, bne_iff_ne, beq_eq_false_iff_ne, bne_eq_false_iff_eq, Bool.not_eq_true', Bool.not_eq_false', Bool.and_eq_true, Bool.or_eq_true, Bool.and_eq_false_iff, Bool.or_eq_false_iff, Int.not_lt, Int.not_le, Bool.false_eq_true, Bool.true_eq_false, false_and, and_false, true_and, and_true, or_false, false_or, or_true, true_or, not_true_eq_false, not_false_eq_true] at h))
  all_goals
    first
    | (have e : gOf n d = -(Int.gcd n d : Int) := by (unfold gOf; grind)
       rw [← e])
    | (have e : gOf n d = (Int.gcd n d : Int) := by (unfold gOf; grind)
       rw [← e])
  all_goals
    ((try simp (disch := first | omega | (simp only [LN]; omega)) only [↓EC, EW, seval, ↓reduceIte, false_imp_iff]); (refine pcd_v (c_spec_l10Is) ?_; (try simp (disch := first | omega | (simp only [LN]; omega)) only [↓EC, EW, seval, ↓reduceIte, false_imp_iff])); rfl)
/-- What FractionOf answers: the fraction and a code. -/
def frOf (n d : Int) : V := if -1000000000 ≤ n ∧ n ≤ 1000000000 ∧ -1000000000 ≤ d ∧ d ≤ 1000000000 ∧ (n ≠ 0 ∨ d ≠ 0) then .tup [.agg [.int .i64 (numOf n d), .int .i64 (denOf n d)], .int .i64 0] else .tup [.agg [.int .i64 0, .int .i64 0], .int .i64 2]
theorem frOf_1 {n d : Int} (h : -1000000000 ≤ n ∧ n ≤ 1000000000 ∧ -1000000000 ≤ d ∧ d ≤ 1000000000 ∧ (n ≠ 0 ∨ d ≠ 0)) : frOf n d = .tup [.agg [.int .i64 (numOf n d), .int .i64 (denOf n d)], .int .i64 0] := if_pos h
theorem frOf_2 {n d : Int} (h : ¬ (-1000000000 ≤ n ∧ n ≤ 1000000000 ∧ -1000000000 ≤ d ∧ d ≤ 1000000000 ∧ (n ≠ 0 ∨ d ≠ 0))) : frOf n d = .tup [.agg [.int .i64 0, .int .i64 0], .int .i64 2] := if_neg h
theorem c_spec_FractionOf {n d : Int} : PSpec Try.prog 8 [.int .i64 n, .int .i64 d] fun v => v = frOf n d := by
  refine spec_FractionOf_f.f ?_
  simp (disch := first | omega | (simp only [LN]; omega)) only [↓EC, EW, seval, ↓reduceIte, false_imp_iff, spec_FractionOf_F]
  repeat' first
    | (refine Split.mk (fun h => ?_) (fun h => ?_) <;> (try simp only [decide_eq_true_eq, decide_eq_false_iff_not, beq_iff_eq, bne_iff_ne, beq_eq_false_iff_ne, bne_eq_false_iff_eq, Bool.not_eq_true', Bool.not_eq_false', Bool.and_eq_true, Bool.or_eq_true, Bool.and_eq_false_iff, Bool.or_eq_false_iff, Int.not_lt, Int.not_le, Bool.false_eq_true, Bool.true_eq_false, false_and, and_false, true_and, and_true, or_false, false_or, or_true, true_or, not_true_eq_false, not_false_eq_true] at h))
    | (refine pcd_v (c_spec_l01In0) ?_; (try simp (disch := first | omega | (simp only [LN]; omega)) only [↓EC, EW, seval, ↓reduceIte, false_imp_iff]))
    | (refine pcd_v (c_spec_l10Make (by omega) (by unfold lim62; omega) (by unfold lim62; omega)) ?_; (try simp (disch := first | omega | (simp only [LN]; omega)) only [↓EC, EW, seval, ↓reduceIte, false_imp_iff]))
  all_goals (first | exact (frOf_2 (by omega)).symm | exact (frOf_1 (by omega)).symm)
theorem c_impl_FractionOf {n d : Int} : PSpec Try.prog 7 [.int .i64 n, .int .i64 d] fun v => v = frOf n d := by
  refine impl_FractionOf_f.f ?_
  simp (disch := first | omega | (simp only [LN]; omega)) only [↓EC, EW, seval, ↓reduceIte, false_imp_iff, impl_FractionOf_F]
  repeat' first
    | (refine Split.mk (fun h => ?_) (fun h => ?_) <;> (try simp only [decide_eq_true_eq, decide_eq_false_iff_not, beq_iff_eq, bne_iff_ne, beq_eq_false_iff_ne, bne_eq_false_iff_eq, Bool.not_eq_true', Bool.not_eq_false', Bool.and_eq_true, Bool.or_eq_true, Bool.and_eq_false_iff, Bool.or_eq_false_iff, Int.not_lt, Int.not_le, Bool.false_eq_true, Bool.true_eq_false, false_and, and_false, true_and, and_true, or_false, false_or, or_true, true_or, not_true_eq_false, not_false_eq_true] at h))
    | (have hd : n ≠ 0 ∨ d ≠ 0 := by omega
       have hg := gcd_pos hd
       have hl := gcd_le 1000000000 (n := n) (d := d) (by omega) (by omega)
       refine pcd_v (c_impl_gcd (by omega) (by omega)) ?_
       (try simp (disch := first | omega | (simp only [LN]; omega)) only [↓EC, EW, seval, ↓reduceIte, false_imp_iff]))
  all_goals
    try first
    | exact (frOf_2 (by omega)).symm
    | (rw [frOf_1 (by omega)]
       subst d
       rw [(numOf_zero (by omega)).1, (numOf_zero (by omega)).2])
  all_goals
    first
    | (have e : gOf n d = -(Int.gcd n d : Int) := by (unfold gOf; grind)
       rw [← e])
    | (have e : gOf n d = (Int.gcd n d : Int) := by (unfold gOf; grind)
       rw [← e])
  all_goals
    (have tl := tdiv_lim (n := n) (g := gOf n d) 1000000000 (by omega)
     have tm := tdiv_lim (n := d) (g := gOf n d) 1000000000 (by omega)
     (try simp (disch := first | omega | (simp only [LN]; omega)) only [↓EC, EW, seval, ↓reduceIte, false_imp_iff])
     exact (frOf_1 (by omega)).symm)

/-- How fractions are compared. -/
def cmpFr (n d m e : Int) : Int := if n = m ∧ d = e then 0 else if d = 0 then 1 else if e = 0 then -1 else if n * e < m * d then -1 else 1
theorem c_spec_l10Compare {n d m e : Int} (h1 : isFr n d = true) (h2 : isFr m e = true) : PSpec Try.prog 53 [.agg [.int .i64 n, .int .i64 d], .agg [.int .i64 m, .int .i64 e]] fun v => v = .int .i64 (cmpFr n d m e) := by
  refine spec_l10Compare_f.f ?_
  simp only [isFr, decide_eq_true_eq] at h1 h2
  have hx := mul_lim (x := n) (y := e) 1000000000 1000000000 (by omega) (by omega)
  have hy := mul_lim (x := m) (y := d) 1000000000 1000000000 (by omega) (by omega)
  simp (disch := first | omega | (simp only [LN]; omega)) only [↓EC, EW, seval, ↓reduceIte, false_imp_iff, spec_l10Compare_F]
  repeat' (refine Split.mk (fun h => ?_) (fun h => ?_) <;> (try simp only [decide_eq_true_eq, decide_eq_false_iff_not, beq_iff_eq, bne_iff_ne, beq_eq_false_iff_ne, bne_eq_false_iff_eq, Bool.not_eq_true', Bool.not_eq_false', Bool.and_eq_true, Bool.or_eq_true, Bool.and_eq_false_iff, Bool.or_eq_false_iff, Int.not_lt, Int.not_le, Bool.false_eq_true, Bool.true_eq_false, false_and, and_false, true_and, and_true, or_false, false_or, or_true, true_or, not_true_eq_false, not_false_eq_true] at h))
  all_goals (simp only [V.int.injEq, true_and]; unfold cmpFr; grind)
theorem c_impl_compareFractions {n d m e : Int} (h1 : isFr n d = true) (h2 : isFr m e = true) : PSpec Try.prog 52 [.agg [.int .i64 n, .int .i64 d], .agg [.int .i64 m, .int .i64 e]] fun v => v = .int .i64 (cmpFr n d m e) := by
  refine impl_compareFractions_f.f ?_
  simp only [isFr, decide_eq_true_eq] at h1 h2
  have hx := mul_lim (x := n) (y := e) 1000000000 1000000000 (by omega) (by omega)
  have hy := mul_lim (x := m) (y := d) 1000000000 1000000000 (by omega) (by omega)
  simp (disch := first | omega | (simp only [LN]; omega)) only [↓EC, EW, seval, ↓reduceIte, false_imp_iff, impl_compareFractions_F]
  repeat' (refine Split.mk (fun h => ?_) (fun h => ?_) <;> (try simp only [decide_eq_true_eq, decide_eq_false_iff_not, beq_iff_eq, bne_iff_ne, beq_eq_false_iff_ne, bne_eq_false_iff_eq, Bool.not_eq_true', Bool.not_eq_false', Bool.and_eq_true, Bool.or_eq_true, Bool.and_eq_false_iff, Bool.or_eq_false_iff, Int.not_lt, Int.not_le, Bool.false_eq_true, Bool.true_eq_false, false_and, and_false, true_and, and_true, or_false, false_or, or_true, true_or, not_true_eq_false, not_false_eq_true] at h))
  all_goals (simp only [V.int.injEq, true_and]; unfold cmpFr; grind)
def cmpV (n d m e : Int) : Int := if isFr n d = true ∧ isFr m e = true then cmpFr n d m e else 0
def cmpC (n d m e : Int) : Int := if isFr n d = true ∧ isFr m e = true then 0 else 1
theorem c_spec_CompareFractions {n d m e : Int} : PSpec Try.prog 14 [.agg [.int .i64 n, .int .i64 d], .agg [.int .i64 m, .int .i64 e]] fun v => v = .tup [.int .i64 (cmpV n d m e), .int .i64 (cmpC n d m e)] := by
  refine spec_CompareFractions_f.f ?_
  simp (disch := first | omega | (simp only [LN]; omega)) only [↓EC, EW, seval, ↓reduceIte, false_imp_iff, spec_CompareFractions_F]
  repeat' first
    | (refine Split.mk (fun h => ?_) (fun h => ?_) <;> (try simp only [decide_eq_true_eq, decide_eq_false_iff_not, beq_iff_eq, bne_iff_ne, beq_eq_false_iff_ne, bne_eq_false_iff_eq, Bool.not_eq_true', Bool.not_eq_false', Bool.and_eq_true, Bool.or_eq_true, Bool.and_eq_false_iff, Bool.or_eq_false_iff, Int.not_lt, Int.not_le, Bool.false_eq_true, Bool.true_eq_false, false_and, and_false, true_and, and_true, or_false, false_or, or_true, true_or, not_true_eq_false, not_false_eq_true] at h))
    | (refine pcd_v (c_spec_l10Is) ?_; (try simp (disch := first | omega | (simp only [LN]; omega)) only [↓EC, EW, seval, ↓reduceIte, false_imp_iff]))
    | (refine pcd_v (c_spec_l10Compare (by assumption) (by assumption)) ?_; (try simp (disch := first | omega | (simp only [LN]; omega)) only [↓EC, EW, seval, ↓reduceIte, false_imp_iff]))
  all_goals (unfold cmpV cmpC; simp_all)
theorem c_impl_CompareFractions {n d m e : Int} : PSpec Try.prog 13 [.agg [.int .i64 n, .int .i64 d], .agg [.int .i64 m, .int .i64 e]] fun v => v = .tup [.int .i64 (cmpV n d m e), .int .i64 (cmpC n d m e)] := by
  refine impl_CompareFractions_f.f ?_
  simp (disch := first | omega | (simp only [LN]; omega)) only [↓EC, EW, seval, ↓reduceIte, false_imp_iff, impl_CompareFractions_F]
  repeat' first
    | (refine Split.mk (fun h => ?_) (fun h => ?_) <;> (try simp only [decide_eq_true_eq, decide_eq_false_iff_not, beq_iff_eq, bne_iff_ne, beq_eq_false_iff_ne, bne_eq_false_iff_eq, Bool.not_eq_true', Bool.not_eq_false', Bool.and_eq_true, Bool.or_eq_true, Bool.and_eq_false_iff, Bool.or_eq_false_iff, Int.not_lt, Int.not_le, Bool.false_eq_true, Bool.true_eq_false, false_and, and_false, true_and, and_true, or_false, false_or, or_true, true_or, not_true_eq_false, not_false_eq_true] at h))
    | (refine pcd_v (c_impl_IsFraction) ?_; (try simp (disch := first | omega | (simp only [LN]; omega)) only [↓EC, EW, seval, ↓reduceIte, false_imp_iff]))
    | (refine pcd_v (c_impl_compareFractions (by assumption) (by assumption)) ?_; (try simp (disch := first | omega | (simp only [LN]; omega)) only [↓EC, EW, seval, ↓reduceIte, false_imp_iff]))
  all_goals (unfold cmpV cmpC; simp_all)
end Go.Proofs.Ytlfpiegadaiafaa.Sep
end
section
/- Draws of fractions and moves. -/
namespace Go.Proofs.Ytlfpiegadaiafaa.Sep
open Go.RowKit
set_option linter.unusedVariables false
set_option linter.unusedSimpArgs false
set_option maxRecDepth 20000
set_option maxHeartbeats 1000000

theorem c_spec_l10Draw {x : Value} {l : List Int} {a z : Int} (hs : okS l a) : PSpecM Try.prog 50 [.ptr 0 0] [(0, 97, 1)] [srcC x l a z] fun v c =>
    ∃ n d a' z', v = .agg [.int .i64 n, .int .i64 d] ∧ c = [srcC x l a' z'] ∧ okS l a' := by
  refine spec_l10Draw_f.m rfl rfl ?_
  unfold srcC
  simp (disch := first | omega | (simp only [LN]; omega)) only [↓EC, EW, seval, ↓reduceIte, false_imp_iff, spec_l10Draw_F]
  (refine pcm [0] rfl ?_; (try simp (disch := first | omega | (simp only [LN]; omega)) only [↓EC, EW, seval, ↓reduceIte, false_imp_iff]); refine callM_d (c_spec_l01Next (by assumption) (by omega)) ?_; rintro _ _ ⟨r1, _, _, rfl, rfl, hs_, hr_⟩; (try simp (disch := first | omega | (simp only [LN]; omega)) only [↓EC, EW, seval, ↓reduceIte, false_imp_iff, srcC]))
  (refine pcm [0] rfl ?_; (try simp (disch := first | omega | (simp only [LN]; omega)) only [↓EC, EW, seval, ↓reduceIte, false_imp_iff]); refine callM_d (c_spec_l01Next (by assumption) (by omega)) ?_; rintro _ _ ⟨r2, _, _, rfl, rfl, hs_, hr_⟩; (try simp (disch := first | omega | (simp only [LN]; omega)) only [↓EC, EW, seval, ↓reduceIte, false_imp_iff, srcC]))
  (refine pcm [0] rfl ?_; (try simp (disch := first | omega | (simp only [LN]; omega)) only [↓EC, EW, seval, ↓reduceIte, false_imp_iff]); refine callM_d (c_spec_l01Next (by assumption) (by omega)) ?_; rintro _ _ ⟨r3, _, _, rfl, rfl, hs_, hr_⟩; (try simp (disch := first | omega | (simp only [LN]; omega)) only [↓EC, EW, seval, ↓reduceIte, false_imp_iff, srcC]))
  (refine pcm [0] rfl ?_; (try simp (disch := first | omega | (simp only [LN]; omega)) only [↓EC, EW, seval, ↓reduceIte, false_imp_iff]); refine callM_d (c_spec_l01Pick (m := [0, 1, r1, r2 - 10, r3]) (by assumption) (by simp) (by simp)) ?_; rintro _ _ ⟨y1, _, _, hy_, rfl, rfl, hs_⟩; simp only [List.mem_cons, List.not_mem_nil, or_false] at hy_; (try simp (disch := first | omega | (simp only [LN]; omega)) only [↓EC, EW, seval, ↓reduceIte, false_imp_iff, srcC]))
  (refine pcm [0] rfl ?_; (try simp (disch := first | omega | (simp only [LN]; omega)) only [↓EC, EW, seval, ↓reduceIte, false_imp_iff]); refine callM_d (c_spec_l01Next (by assumption) (by omega)) ?_; rintro _ _ ⟨r4, _, _, rfl, rfl, hs_, hr_⟩; (try simp (disch := first | omega | (simp only [LN]; omega)) only [↓EC, EW, seval, ↓reduceIte, false_imp_iff, srcC]))
  (refine pcm [0] rfl ?_; (try simp (disch := first | omega | (simp only [LN]; omega)) only [↓EC, EW, seval, ↓reduceIte, false_imp_iff]); refine callM_d (c_spec_l01Next (by assumption) (by omega)) ?_; rintro _ _ ⟨r5, _, _, rfl, rfl, hs_, hr_⟩; (try simp (disch := first | omega | (simp only [LN]; omega)) only [↓EC, EW, seval, ↓reduceIte, false_imp_iff, srcC]))
  (refine pcm [0] rfl ?_; (try simp (disch := first | omega | (simp only [LN]; omega)) only [↓EC, EW, seval, ↓reduceIte, false_imp_iff]); refine callM_d (c_spec_l01Pick (m := [1, 2, 1 + r4, 1 + r5]) (by assumption) (by simp) (by simp)) ?_; rintro _ _ ⟨y2, _, _, hy_, rfl, rfl, hs_⟩; simp only [List.mem_cons, List.not_mem_nil, or_false] at hy_; (try simp (disch := first | omega | (simp only [LN]; omega)) only [↓EC, EW, seval, ↓reduceIte, false_imp_iff, srcC]))
  (refine pcm [0] rfl ?_; (try simp (disch := first | omega | (simp only [LN]; omega)) only [↓EC, EW, seval, ↓reduceIte, false_imp_iff]); refine callM_d (c_spec_l01Next (by assumption) (by omega)) ?_; rintro _ _ ⟨r6, _, _, rfl, rfl, hs_, hr_⟩; (try simp (disch := first | omega | (simp only [LN]; omega)) only [↓EC, EW, seval, ↓reduceIte, false_imp_iff, srcC]))
  (refine Split.mk (fun h => ?_) (fun h => ?_) <;> (try simp only [decide_eq_true_eq, decide_eq_false_iff_not, beq_iff_eq, bne_iff_ne, beq_eq_false_iff_ne, bne_eq_false_iff_eq, Bool.not_eq_true', Bool.not_eq_false', Bool.and_eq_true, Bool.or_eq_true, Bool.and_eq_false_iff, Bool.or_eq_false_iff, Int.not_lt, Int.not_le, Bool.false_eq_true, Bool.true_eq_false, false_and, and_false, true_and, and_true, or_false, false_or, or_true, true_or, not_true_eq_false, not_false_eq_true] at h))
  · (try simp (disch := first | omega | (simp only [LN]; omega)) only [↓EC, EW, seval, ↓reduceIte, false_imp_iff])
    exact ⟨_, _, _, _, rfl, rfl, by assumption⟩
  · (try simp (disch := first | omega | (simp only [LN]; omega)) only [↓EC, EW, seval, ↓reduceIte, false_imp_iff])
    have hy2 : 1 ≤ y2 ∧ y2 ≤ 12 := by omega
    have hy1 : -10 ≤ y1 ∧ y1 ≤ 19 := by omega
    (refine pcd_v (c_spec_l10Make (by omega) (by unfold lim62; omega) (by unfold lim62; omega)) ?_; (try simp (disch := first | omega | (simp only [LN]; omega)) only [↓EC, EW, seval, ↓reduceIte, false_imp_iff]))
    have t1 := tdiv_lim (g := gOf y1 y2) 19 (n := y1) (by omega)
    have t2 := tdiv_lim (g := gOf y1 y2) 12 (n := y2) (by omega)
    change -19 ≤ numOf y1 y2 ∧ numOf y1 y2 ≤ 19 at t1
    change -12 ≤ denOf y1 y2 ∧ denOf y1 y2 ≤ 12 at t2
    (refine pcm [0] rfl ?_; (try simp (disch := first | omega | (simp only [LN]; omega)) only [↓EC, EW, seval, ↓reduceIte, false_imp_iff]); refine callM_d (c_spec_l01Next (by assumption) (by omega)) ?_; rintro _ _ ⟨r7, _, _, rfl, rfl, hs_, hr_⟩; (try simp (disch := first | omega | (simp only [LN]; omega)) only [↓EC, EW, seval, ↓reduceIte, false_imp_iff, srcC]))
    (refine Split.mk (fun h => ?_) (fun h => ?_) <;> (try simp only [decide_eq_true_eq, decide_eq_false_iff_not, beq_iff_eq, bne_iff_ne, beq_eq_false_iff_ne, bne_eq_false_iff_eq, Bool.not_eq_true', Bool.not_eq_false', Bool.and_eq_true, Bool.or_eq_true, Bool.and_eq_false_iff, Bool.or_eq_false_iff, Int.not_lt, Int.not_le, Bool.false_eq_true, Bool.true_eq_false, false_and, and_false, true_and, and_true, or_false, false_or, or_true, true_or, not_true_eq_false, not_false_eq_true] at h))
    · (try simp (disch := first | omega | (simp only [LN]; omega)) only [↓EC, EW, seval, ↓reduceIte, false_imp_iff])
      exact ⟨_, _, _, _, rfl, rfl, by assumption⟩
    · (try simp (disch := first | omega | (simp only [LN]; omega)) only [↓EC, EW, seval, ↓reduceIte, false_imp_iff])
      (refine Split.mk (fun h => ?_) (fun h => ?_) <;> (try simp only [decide_eq_true_eq, decide_eq_false_iff_not, beq_iff_eq, bne_iff_ne, beq_eq_false_iff_ne, bne_eq_false_iff_eq, Bool.not_eq_true', Bool.not_eq_false', Bool.and_eq_true, Bool.or_eq_true, Bool.and_eq_false_iff, Bool.or_eq_false_iff, Int.not_lt, Int.not_le, Bool.false_eq_true, Bool.true_eq_false, false_and, and_false, true_and, and_true, or_false, false_or, or_true, true_or, not_true_eq_false, not_false_eq_true] at h))
      · (try simp (disch := first | omega | (simp only [LN]; omega)) only [↓EC, EW, seval, ↓reduceIte, false_imp_iff])
        exact ⟨_, _, _, _, rfl, rfl, by assumption⟩
      · (try simp (disch := first | omega | (simp only [LN]; omega)) only [↓EC, EW, seval, ↓reduceIte, false_imp_iff])
        (refine Split.mk (fun h => ?_) (fun h => ?_) <;> (try simp only [decide_eq_true_eq, decide_eq_false_iff_not, beq_iff_eq, bne_iff_ne, beq_eq_false_iff_ne, bne_eq_false_iff_eq, Bool.not_eq_true', Bool.not_eq_false', Bool.and_eq_true, Bool.or_eq_true, Bool.and_eq_false_iff, Bool.or_eq_false_iff, Int.not_lt, Int.not_le, Bool.false_eq_true, Bool.true_eq_false, false_and, and_false, true_and, and_true, or_false, false_or, or_true, true_or, not_true_eq_false, not_false_eq_true] at h))
        · (try simp (disch := first | omega | (simp only [LN]; omega)) only [↓EC, EW, seval, ↓reduceIte, false_imp_iff])
          (refine pcm [0] rfl ?_; (try simp (disch := first | omega | (simp only [LN]; omega)) only [↓EC, EW, seval, ↓reduceIte, false_imp_iff]); refine callM_d (c_spec_l01Next (by assumption) (by omega)) ?_; rintro _ _ ⟨r8, _, _, rfl, rfl, hs_, hr_⟩; (try simp (disch := first | omega | (simp only [LN]; omega)) only [↓EC, EW, seval, ↓reduceIte, false_imp_iff, srcC]))
          exact ⟨_, _, _, _, rfl, rfl, by assumption⟩
        · (try simp (disch := first | omega | (simp only [LN]; omega)) only [↓EC, EW, seval, ↓reduceIte, false_imp_iff])
          exact ⟨_, _, _, _, rfl, rfl, by assumption⟩
theorem c_spec_l10DrawMove {x : Value} {l : List Int} {a z : Int} (hs : okS l a) : PSpecM Try.prog 54 [.ptr 0 0] [(0, 97, 1)] [srcC x l a z] fun v c =>
    ∃ k f n a' z', v = .agg [.int .i64 k, .int .i64 f, .int .i64 n] ∧ c = [srcC x l a' z'] ∧ okS l a' := by
  refine spec_l10DrawMove_f.m rfl rfl ?_
  unfold srcC
  simp (disch := first | omega | (simp only [LN]; omega)) only [↓EC, EW, seval, ↓reduceIte, false_imp_iff, spec_l10DrawMove_F]
  (refine pcm [0] rfl ?_; (try simp (disch := first | omega | (simp only [LN]; omega)) only [↓EC, EW, seval, ↓reduceIte, false_imp_iff]); refine callM_d (c_spec_l01Next (by assumption) (by omega)) ?_; rintro _ _ ⟨r1, _, _, rfl, rfl, hs_, hr_⟩; (try simp (disch := first | omega | (simp only [LN]; omega)) only [↓EC, EW, seval, ↓reduceIte, false_imp_iff, srcC]))
  (refine Split.mk (fun h => ?_) (fun h => ?_) <;> (try simp only [decide_eq_true_eq, decide_eq_false_iff_not, beq_iff_eq, bne_iff_ne, beq_eq_false_iff_ne, bne_eq_false_iff_eq, Bool.not_eq_true', Bool.not_eq_false', Bool.and_eq_true, Bool.or_eq_true, Bool.and_eq_false_iff, Bool.or_eq_false_iff, Int.not_lt, Int.not_le, Bool.false_eq_true, Bool.true_eq_false, false_and, and_false, true_and, and_true, or_false, false_or, or_true, true_or, not_true_eq_false, not_false_eq_true] at h))
  · (try simp (disch := first | omega | (simp only [LN]; omega)) only [↓EC, EW, seval, ↓reduceIte, false_imp_iff])
    (refine pcm [0] rfl ?_; (try simp (disch := first | omega | (simp only [LN]; omega)) only [↓EC, EW, seval, ↓reduceIte, false_imp_iff]); refine callM_d (c_spec_l01Pick (m := [3, -1, 1]) (by assumption) (by simp) (by simp)) ?_; rintro _ _ ⟨y1, _, _, hy_, rfl, rfl, hs_⟩; simp only [List.mem_cons, List.not_mem_nil, or_false] at hy_; (try simp (disch := first | omega | (simp only [LN]; omega)) only [↓EC, EW, seval, ↓reduceIte, false_imp_iff, srcC]))
    (refine pcm [0] rfl ?_; (try simp (disch := first | omega | (simp only [LN]; omega)) only [↓EC, EW, seval, ↓reduceIte, false_imp_iff]); refine callM_d (c_spec_l01Next (by assumption) (by omega)) ?_; rintro _ _ ⟨r2, _, _, rfl, rfl, hs_, hr_⟩; (try simp (disch := first | omega | (simp only [LN]; omega)) only [↓EC, EW, seval, ↓reduceIte, false_imp_iff, srcC]))
    exact ⟨_, _, _, _, _, rfl, rfl, by assumption⟩
  · (try simp (disch := first | omega | (simp only [LN]; omega)) only [↓EC, EW, seval, ↓reduceIte, false_imp_iff])
    (refine Split.mk (fun h => ?_) (fun h => ?_) <;> (try simp only [decide_eq_true_eq, decide_eq_false_iff_not, beq_iff_eq, bne_iff_ne, beq_eq_false_iff_ne, bne_eq_false_iff_eq, Bool.not_eq_true', Bool.not_eq_false', Bool.and_eq_true, Bool.or_eq_true, Bool.and_eq_false_iff, Bool.or_eq_false_iff, Int.not_lt, Int.not_le, Bool.false_eq_true, Bool.true_eq_false, false_and, and_false, true_and, and_true, or_false, false_or, or_true, true_or, not_true_eq_false, not_false_eq_true] at h))
    · (try simp (disch := first | omega | (simp only [LN]; omega)) only [↓EC, EW, seval, ↓reduceIte, false_imp_iff])
      (refine pcm [0] rfl ?_; (try simp (disch := first | omega | (simp only [LN]; omega)) only [↓EC, EW, seval, ↓reduceIte, false_imp_iff]); refine callM_d (c_spec_l01Pick (m := [0, 21, 20]) (by assumption) (by simp) (by simp)) ?_; rintro _ _ ⟨y1, _, _, hy_, rfl, rfl, hs_⟩; simp only [List.mem_cons, List.not_mem_nil, or_false] at hy_; (try simp (disch := first | omega | (simp only [LN]; omega)) only [↓EC, EW, seval, ↓reduceIte, false_imp_iff, srcC]))
      exact ⟨_, _, _, _, _, rfl, rfl, by assumption⟩
    · (try simp (disch := first | omega | (simp only [LN]; omega)) only [↓EC, EW, seval, ↓reduceIte, false_imp_iff])
      (refine pcm [0] rfl ?_; (try simp (disch := first | omega | (simp only [LN]; omega)) only [↓EC, EW, seval, ↓reduceIte, false_imp_iff]); refine callM_d (c_spec_l01Next (by assumption) (by omega)) ?_; rintro _ _ ⟨r2, _, _, rfl, rfl, hs_, hr_⟩; (try simp (disch := first | omega | (simp only [LN]; omega)) only [↓EC, EW, seval, ↓reduceIte, false_imp_iff, srcC]))
      (refine Split.mk (fun h => ?_) (fun h => ?_) <;> (try simp only [decide_eq_true_eq, decide_eq_false_iff_not, beq_iff_eq, bne_iff_ne, beq_eq_false_iff_ne, bne_eq_false_iff_eq, Bool.not_eq_true', Bool.not_eq_false', Bool.and_eq_true, Bool.or_eq_true, Bool.and_eq_false_iff, Bool.or_eq_false_iff, Int.not_lt, Int.not_le, Bool.false_eq_true, Bool.true_eq_false, false_and, and_false, true_and, and_true, or_false, false_or, or_true, true_or, not_true_eq_false, not_false_eq_true] at h))
      · (try simp (disch := first | omega | (simp only [LN]; omega)) only [↓EC, EW, seval, ↓reduceIte, false_imp_iff])
        (refine pcm [0] rfl ?_; (try simp (disch := first | omega | (simp only [LN]; omega)) only [↓EC, EW, seval, ↓reduceIte, false_imp_iff]); refine callM_d (c_spec_l01Next (by assumption) (by omega)) ?_; rintro _ _ ⟨r3, _, _, rfl, rfl, hs_, hr_⟩; (try simp (disch := first | omega | (simp only [LN]; omega)) only [↓EC, EW, seval, ↓reduceIte, false_imp_iff, srcC]))
        exact ⟨_, _, _, _, _, rfl, rfl, by assumption⟩
      · (try simp (disch := first | omega | (simp only [LN]; omega)) only [↓EC, EW, seval, ↓reduceIte, false_imp_iff])
        (refine pcm [0] rfl ?_; (try simp (disch := first | omega | (simp only [LN]; omega)) only [↓EC, EW, seval, ↓reduceIte, false_imp_iff]); refine callM_d (c_spec_l01Next (by assumption) (by omega)) ?_; rintro _ _ ⟨r3, _, _, rfl, rfl, hs_, hr_⟩; (try simp (disch := first | omega | (simp only [LN]; omega)) only [↓EC, EW, seval, ↓reduceIte, false_imp_iff, srcC]))
        (refine pcm [0] rfl ?_; (try simp (disch := first | omega | (simp only [LN]; omega)) only [↓EC, EW, seval, ↓reduceIte, false_imp_iff]); refine callM_d (c_spec_l01Next (by assumption) (by omega)) ?_; rintro _ _ ⟨r4, _, _, rfl, rfl, hs_, hr_⟩; (try simp (disch := first | omega | (simp only [LN]; omega)) only [↓EC, EW, seval, ↓reduceIte, false_imp_iff, srcC]))
        exact ⟨_, _, _, _, _, rfl, rfl, by assumption⟩
theorem c_spec_DrawFractionOf {x : Value} {l : List Int} (hB : okB l) : PSpec Try.prog 6 [.fz x l] fun v => ∃ n d, v = .tup [.int .i64 n, .int .i64 d] ∧ (-100 ≤ n ∧ n ≤ 100) ∧ -100 ≤ d ∧ d ≤ 1000000100 := by
  refine spec_DrawFractionOf_f.f ?_
  simp (disch := first | omega | (simp only [LN]; omega)) only [↓EC, EW, seval, ↓reduceIte, false_imp_iff, spec_DrawFractionOf_F]
  (refine pcn_q (c_spec_l01From hB) rfl ?_; rintro _ _ ⟨rfl, z, rfl⟩; have hs_ := okS_0 hB; (try simp (disch := first | omega | (simp only [LN]; omega)) only [↓EC, EW, seval, ↓reduceIte, false_imp_iff, srcC]))
  (refine pcm [70] rfl ?_; (try simp (disch := first | omega | (simp only [LN]; omega)) only [↓EC, EW, seval, ↓reduceIte, false_imp_iff]); refine callM_d (c_spec_l01Next (by assumption) (by omega)) ?_; rintro _ _ ⟨r1, _, _, rfl, rfl, hs_, hr_⟩; (try simp (disch := first | omega | (simp only [LN]; omega)) only [↓EC, EW, seval, ↓reduceIte, false_imp_iff, srcC]))
  (refine pcm [70] rfl ?_; (try simp (disch := first | omega | (simp only [LN]; omega)) only [↓EC, EW, seval, ↓reduceIte, false_imp_iff]); refine callM_d (c_spec_l01Next (by assumption) (by omega)) ?_; rintro _ _ ⟨r2, _, _, rfl, rfl, hs_, hr_⟩; (try simp (disch := first | omega | (simp only [LN]; omega)) only [↓EC, EW, seval, ↓reduceIte, false_imp_iff, srcC]))
  (refine pcm [70] rfl ?_; (try simp (disch := first | omega | (simp only [LN]; omega)) only [↓EC, EW, seval, ↓reduceIte, false_imp_iff]); refine callM_d (c_spec_l01Next (by assumption) (by omega)) ?_; rintro _ _ ⟨r3, _, _, rfl, rfl, hs_, hr_⟩; (try simp (disch := first | omega | (simp only [LN]; omega)) only [↓EC, EW, seval, ↓reduceIte, false_imp_iff, srcC]))
  (refine pcm [70] rfl ?_; (try simp (disch := first | omega | (simp only [LN]; omega)) only [↓EC, EW, seval, ↓reduceIte, false_imp_iff]); refine callM_d (c_spec_l01Pick (m := [r2 - 10, 0, 1000000000 + r3]) (by assumption) (by simp) (by simp)) ?_; rintro _ _ ⟨y, _, _, hy_, rfl, rfl, hs_⟩; simp only [List.mem_cons, List.not_mem_nil, or_false] at hy_; (try simp (disch := first | omega | (simp only [LN]; omega)) only [↓EC, EW, seval, ↓reduceIte, false_imp_iff, srcC]))
  exact ⟨_, _, rfl, by omega, by omega, by omega⟩
theorem c_spec_DrawIsFraction {x : Value} {l : List Int} (hB : okB l) : PSpec Try.prog 9 [.fz x l] fun v => ∃ n d, v = .agg [.int .i64 n, .int .i64 d] := by
  refine spec_DrawIsFraction_f.f ?_
  simp (disch := first | omega | (simp only [LN]; omega)) only [↓EC, EW, seval, ↓reduceIte, false_imp_iff, spec_DrawIsFraction_F]
  (refine pcn_q (c_spec_l01From hB) rfl ?_; rintro _ _ ⟨rfl, z, rfl⟩; have hs_ := okS_0 hB; (try simp (disch := first | omega | (simp only [LN]; omega)) only [↓EC, EW, seval, ↓reduceIte, false_imp_iff, srcC]))
  (refine pcm [68] rfl ?_; (try simp (disch := first | omega | (simp only [LN]; omega)) only [↓EC, EW, seval, ↓reduceIte, false_imp_iff]); refine callM_d (c_spec_l10Draw (by assumption)) ?_; rintro _ _ ⟨n, d, _, _, rfl, rfl, hs_⟩; (try simp (disch := first | omega | (simp only [LN]; omega)) only [↓EC, EW, seval, ↓reduceIte, false_imp_iff, srcC]))
  exact ⟨_, _, rfl⟩
theorem c_spec_DrawCompareFractions {x : Value} {l : List Int} (hB : okB l) : PSpec Try.prog 12 [.fz x l] fun v => ∃ n d m e, v = .tup [.agg [.int .i64 n, .int .i64 d], .agg [.int .i64 m, .int .i64 e]] := by
  refine spec_DrawCompareFractions_f.f ?_
  simp (disch := first | omega | (simp only [LN]; omega)) only [↓EC, EW, seval, ↓reduceIte, false_imp_iff, spec_DrawCompareFractions_F]
  (refine pcn_q (c_spec_l01From hB) rfl ?_; rintro _ _ ⟨rfl, z, rfl⟩; have hs_ := okS_0 hB; (try simp (disch := first | omega | (simp only [LN]; omega)) only [↓EC, EW, seval, ↓reduceIte, false_imp_iff, srcC]))
  (refine pcm [70] rfl ?_; (try simp (disch := first | omega | (simp only [LN]; omega)) only [↓EC, EW, seval, ↓reduceIte, false_imp_iff]); refine callM_d (c_spec_l10Draw (by assumption)) ?_; rintro _ _ ⟨n, d, _, _, rfl, rfl, hs_⟩; (try simp (disch := first | omega | (simp only [LN]; omega)) only [↓EC, EW, seval, ↓reduceIte, false_imp_iff, srcC]))
  (refine pcm [70] rfl ?_; (try simp (disch := first | omega | (simp only [LN]; omega)) only [↓EC, EW, seval, ↓reduceIte, false_imp_iff]); refine callM_d (c_spec_l10Draw (by assumption)) ?_; rintro _ _ ⟨m, e, _, _, rfl, rfl, hs_⟩; (try simp (disch := first | omega | (simp only [LN]; omega)) only [↓EC, EW, seval, ↓reduceIte, false_imp_iff, srcC]))
  exact ⟨_, _, _, _, rfl⟩
theorem c_spec_DrawMoveFraction {x : Value} {l : List Int} (hB : okB l) : PSpec Try.prog 15 [.fz x l] fun v => ∃ k f n m e, v = .tup [.agg [.int .i64 k, .int .i64 f, .int .i64 n], .agg [.int .i64 m, .int .i64 e]] := by
  refine spec_DrawMoveFraction_f.f ?_
  simp (disch := first | omega | (simp only [LN]; omega)) only [↓EC, EW, seval, ↓reduceIte, false_imp_iff, spec_DrawMoveFraction_F]
  (refine pcn_q (c_spec_l01From hB) rfl ?_; rintro _ _ ⟨rfl, z, rfl⟩; have hs_ := okS_0 hB; (try simp (disch := first | omega | (simp only [LN]; omega)) only [↓EC, EW, seval, ↓reduceIte, false_imp_iff, srcC]))
  (refine pcm [70] rfl ?_; (try simp (disch := first | omega | (simp only [LN]; omega)) only [↓EC, EW, seval, ↓reduceIte, false_imp_iff]); refine callM_d (c_spec_l10DrawMove (by assumption)) ?_; rintro _ _ ⟨k, f, n, _, _, rfl, rfl, hs_⟩; (try simp (disch := first | omega | (simp only [LN]; omega)) only [↓EC, EW, seval, ↓reduceIte, false_imp_iff, srcC]))
  (refine pcm [70] rfl ?_; (try simp (disch := first | omega | (simp only [LN]; omega)) only [↓EC, EW, seval, ↓reduceIte, false_imp_iff]); refine callM_d (c_spec_l10Draw (by assumption)) ?_; rintro _ _ ⟨m, e, _, _, rfl, rfl, hs_⟩; (try simp (disch := first | omega | (simp only [LN]; omega)) only [↓EC, EW, seval, ↓reduceIte, false_imp_iff, srcC]))
  exact ⟨_, _, _, _, _, rfl⟩
theorem c_spec_DrawPassportOfMove {x : Value} {l : List Int} (hB : okB l) : PSpec Try.prog 20 [.fz x l] fun v => ∃ k f n, v = .agg [.int .i64 k, .int .i64 f, .int .i64 n] := by
  refine spec_DrawPassportOfMove_f.f ?_
  simp (disch := first | omega | (simp only [LN]; omega)) only [↓EC, EW, seval, ↓reduceIte, false_imp_iff, spec_DrawPassportOfMove_F]
  (refine pcn_q (c_spec_l01From hB) rfl ?_; rintro _ _ ⟨rfl, z, rfl⟩; have hs_ := okS_0 hB; (try simp (disch := first | omega | (simp only [LN]; omega)) only [↓EC, EW, seval, ↓reduceIte, false_imp_iff, srcC]))
  (refine pcm [68] rfl ?_; (try simp (disch := first | omega | (simp only [LN]; omega)) only [↓EC, EW, seval, ↓reduceIte, false_imp_iff]); refine callM_d (c_spec_l10DrawMove (by assumption)) ?_; rintro _ _ ⟨k, f, n, _, _, rfl, rfl, hs_⟩; (try simp (disch := first | omega | (simp only [LN]; omega)) only [↓EC, EW, seval, ↓reduceIte, false_imp_iff, srcC]))
  exact ⟨_, _, _, rfl⟩
end Go.Proofs.Ytlfpiegadaiafaa.Sep
end
