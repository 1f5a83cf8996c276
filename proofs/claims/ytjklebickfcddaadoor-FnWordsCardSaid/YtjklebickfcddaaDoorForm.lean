/- The printed forms of functions, by program out of the compiled code; each is held against it by the kernel. -/
import Derived.Test.YtjklebickfcddaaDoorSepZ
import Derived.Test.YtjklebickfcddaaDoorProg
import Derived.KernelRfl
namespace Go.Proofs.YtjklebickfcddaaDoor.Sep
set_option maxRecDepth 1000000
set_option linter.unusedVariables false

def laws_FnWords_F (x0 : V) (hi : Hp) (Rt : Hp → V → Prop) : Prop :=
pcal Tryd.prog 4 110 hi (fun v110_0 h1 =>
pcond (
Rt h1 (.bool true)) (
pcal Tryd.prog 5 112 h1 (fun v112_2 h3 =>
pcal Tryd.prog 6 115 h3 (fun v115_4 h5 =>
VL (vext 0 v115_4) fun v116_6 =>
VL (vext 1 v115_4) fun v117_7 =>
pcal Tryd.prog 7 120 h5 (fun v120_8 h9 =>
VL (vext 0 v120_8) fun v121_10 =>
VL (vext 1 v120_8) fun v122_11 =>
VL (lift2 (abin .neq) v117_7 v122_11) fun v125_12 =>
pgk false h9 (fun g13 k14 => k14 v116_6 h9) (fun g15 v63_16 h17 =>
pgk false h17 (fun g18 k19 => k19 v121_10 h17) (fun g20 v64_21 h22 =>
pgk false h22 (fun g23 k24 => VL (lift2 (abin .neq) v63_16 v64_21) fun v129_25 =>
k24 v129_25 h22) (fun g26 v65_27 h28 =>
VL (vpick g26 (.bool true) v65_27) fun v130_29 =>
pcond (
Rt h28 (.bool false)) (
pcal Tryd.prog 8 132 h28 (fun v132_30 h31 =>
pcal Tryd.prog 9 135 h31 (fun v135_32 h33 =>
VL (vext 0 v135_32) fun v136_34 =>
VL (vext 1 v135_32) fun v137_35 =>
pcal Tryd.prog 10 140 h33 (fun v140_36 h37 =>
VL (vext 0 v140_36) fun v141_38 =>
VL (vext 1 v140_36) fun v142_39 =>
VL (lift2 (abin .neq) v137_35 v142_39) fun v145_40 =>
pgk false h37 (fun g41 k42 => k42 v136_34 h37) (fun g43 v83_44 h45 =>
pgk false h45 (fun g46 k47 => k47 v141_38 h45) (fun g48 v84_49 h50 =>
pgk false h50 (fun g51 k52 => VL (lift2 (abin .neq) v83_44 v84_49) fun v149_53 =>
k52 v149_53 h50) (fun g54 v85_55 h56 =>
VL (vpick g54 (.bool true) v85_55) fun v150_57 =>
pgk false h56 (fun g58 k59 => k59 v132_30 h56) (fun g60 v88_61 h62 =>
pgk false h62 (fun g63 k64 => pcal Tryd.prog 11 153 h62 (fun v153_65 h66 =>
k64 v153_65 h66) [v88_61]) (fun g67 v89_68 h69 =>
pgk false h69 (fun g70 k71 => k71 v132_30 h69) (fun g72 v90_73 h74 =>
pgk false h74 (fun g75 k76 => pcal Tryd.prog 12 155 h74 (fun v155_77 h78 =>
k76 v155_77 h78) [v90_73]) (fun g79 v91_80 h81 =>
pgk false h81 (fun g82 k83 => VL (veqa true false [.b] v89_68 v91_80) fun v156_84 =>
k83 v156_84 h81) (fun g85 v92_86 h87 =>
VL (vpick g85 (.bool true) v92_86) fun v157_88 =>
pcond (
Rt h87 (.bool false)) (
pcal Tryd.prog 13 160 h87 (fun v160_89 h90 =>
VL (vext 0 v160_89) fun v161_91 =>
VL (vext 1 v160_89) fun v162_92 =>
palloc h90 77 31 ([(.int .i64 0)] ++ (vi .u8 (List.replicate 32 0))) fun h93 =>
pst h93 33 (cellsV v161_91) (fun u94 h95 =>
pld h95 (some 33) (fun v164_96 h97 =>
pcal Tryd.prog 14 166 h97 (fun v166_98 h99 =>
VL (vext 0 v166_98) fun v167_100 =>
VL (vext 1 v166_98) fun v168_101 =>
palloc h99 79 29 (vi .u8 (List.replicate 16 0)) fun h102 =>
pst h102 16 (cellsV v167_100) (fun u103 h104 =>
pld h104 (some 33) (fun v170_105 h106 =>
pcal Tryd.prog 15 172 h106 (fun v172_107 h108 =>
VL (vext 0 v172_107) fun v173_109 =>
VL (vext 1 v172_107) fun v174_110 =>
palloc h108 81 29 (vi .u8 (List.replicate 16 0)) fun h111 =>
pst h111 16 (cellsV v173_109) (fun u112 h113 =>
VL (lift2 (abin .neq) v168_101 v174_110) fun v177_114 =>
pgk false h113 (fun g115 k116 => pld h113 (some 16) (fun v179_117 h118 =>
k116 v179_117 h118) (.ptr 79 0)) (fun g119 v115_120 h121 =>
pgk false h121 (fun g122 k123 => pld h121 (some 16) (fun v180_124 h125 =>
k123 v180_124 h125) (.ptr 81 0)) (fun g126 v116_127 h128 =>
pgk false h128 (fun g129 k130 => VL (veqa true true (List.replicate 16 (.i .u8)) v115_120 v116_127) fun v181_131 =>
k130 v181_131 h128) (fun g132 v117_133 h134 =>
VL (vpick g132 (.bool true) v117_133) fun v182_135 =>
pcond (
Rt h134 (.bool false)) (
pcal Tryd.prog 16 184 h134 (fun v184_136 h137 =>
palloc h137 83 31 ([(.int .i64 0)] ++ (vi .u8 (List.replicate 32 0))) fun h138 =>
pst h138 33 (cellsV v184_136) (fun u139 h140 =>
pld h140 (some 33) (fun v186_141 h142 =>
pcal Tryd.prog 17 187 h142 (fun v187_143 h144 =>
VL (vext 0 v187_143) fun v188_145 =>
VL (vext 1 v187_143) fun v189_146 =>
pld h144 (some 33) (fun v191_147 h148 =>
pcal Tryd.prog 18 192 h148 (fun v192_149 h150 =>
VL (vext 0 v192_149) fun v193_151 =>
VL (vext 1 v192_149) fun v194_152 =>
VL (lift2 (abin .neq) v189_146 v194_152) fun v197_153 =>
pgk false h150 (fun g154 k155 => k155 v188_145 h150) (fun g156 v135_157 h158 =>
pgk false h158 (fun g159 k160 => k160 v193_151 h158) (fun g161 v136_162 h163 =>
pgk false h163 (fun g164 k165 => pcal Tryd.prog 19 201 h163 (fun v201_166 h167 =>
k165 v201_166 h167) [v135_157, v136_162]) (fun g168 v137_169 h170 =>
pgk false h170 (fun g171 k172 => VL (lift1 (aun .not) v137_169) fun v202_173 =>
k172 v202_173 h170) (fun g174 v138_175 h176 =>
VL (vpick g174 (.bool true) v138_175) fun v203_177 =>
pcond (
Rt h176 (.bool false)) (
pcal Tryd.prog 20 206 h176 (fun v206_178 h179 =>
VL (vext 0 v206_178) fun v207_180 =>
VL (vext 1 v206_178) fun v208_181 =>
VL (vext 2 v206_178) fun v209_182 =>
pcal Tryd.prog 21 214 h179 (fun v214_183 h184 =>
VL (vext 0 v214_183) fun v215_185 =>
VL (vext 1 v214_183) fun v216_186 =>
pcal Tryd.prog 22 221 h184 (fun v221_187 h188 =>
VL (vext 0 v221_187) fun v222_189 =>
VL (vext 1 v221_187) fun v223_190 =>
VL (lift2 (abin .neq) v216_186 v223_190) fun v226_191 =>
pgk false h188 (fun g192 k193 => k193 v215_185 h188) (fun g194 v164_195 h196 =>
pgk false h196 (fun g197 k198 => k198 v222_189 h196) (fun g199 v165_200 h201 =>
pgk false h201 (fun g202 k203 => pcal Tryd.prog 19 230 h201 (fun v230_204 h205 =>
k203 v230_204 h205) [v164_195, v165_200]) (fun g206 v166_207 h208 =>
pgk false h208 (fun g209 k210 => VL (lift1 (aun .not) v166_207) fun v231_211 =>
k210 v231_211 h208) (fun g212 v167_213 h214 =>
VL (vpick g212 (.bool true) v167_213) fun v232_215 =>
pcond (
Rt h214 (.bool false)) (
JN (fun k216 =>
VL (lift2 (abin .eql) v168_101 (.int .i64 0)) fun v234_219 =>
pcond (
pcal Tryd.prog 6 237 h214 (fun v237_220 h221 =>
VL (vext 0 v237_220) fun v238_222 =>
VL (vext 1 v237_220) fun v239_223 =>
pld h221 (some 33) (fun v241_224 h225 =>
pcal Tryd.prog 14 243 h225 (fun v243_226 h227 =>
VL (vext 0 v243_226) fun v244_228 =>
VL (vext 1 v243_226) fun v245_229 =>
palloc h227 97 29 (vi .u8 (List.replicate 16 0)) fun h230 =>
pst h230 16 (cellsV v244_228) (fun u231 h232 =>
pcal Tryd.prog 9 248 h232 (fun v248_233 h234 =>
VL (vext 0 v248_233) fun v249_235 =>
VL (vext 1 v248_233) fun v250_236 =>
pld h234 (some 33) (fun v252_237 h238 =>
pcal Tryd.prog 14 254 h238 (fun v254_239 h240 =>
VL (vext 0 v254_239) fun v255_241 =>
VL (vext 1 v254_239) fun v256_242 =>
palloc h240 101 29 (vi .u8 (List.replicate 16 0)) fun h243 =>
pst h243 16 (cellsV v255_241) (fun u244 h245 =>
pld h245 (some 16) (fun v258_246 h247 =>
pld h247 (some 16) (fun v259_248 h249 =>
pld h249 none (fun v261_250 h251 =>
pcal Tryd.prog 23 262 h251 (fun v262_252 h253 =>
VL (vext 0 v262_252) fun v263_254 =>
VL (vext 1 v262_252) fun v264_255 =>
palloc h253 103 29 (vi .u8 (List.replicate 16 0)) fun h256 =>
pst h256 16 (cellsV v263_254) (fun u257 h258 =>
VL (lift2 (abin .neq) v239_223 (.int .i64 0)) fun v266_259 =>
pgk false h258 (fun g260 k261 => k261 v245_229 h258) (fun g262 v204_263 h264 =>
pgk false h264 (fun g265 k266 => VL (lift2 (abin .neq) v204_263 (.int .i64 0)) fun v269_267 =>
k266 v269_267 h264) (fun g268 v205_269 h270 =>
VL (vpick g268 (.bool true) v205_269) fun v270_271 =>
pgk false h270 (fun g272 k273 => pld h270 (some 16) (fun v272_274 h275 =>
k273 v272_274 h275) (.ptr 97 0)) (fun g276 v208_277 h278 =>
pgk false h278 (fun g279 k280 => pld h278 (some 16) (fun v273_281 h282 =>
k280 v273_281 h282) (.ptr 79 0)) (fun g283 v209_284 h285 =>
pgk false h285 (fun g286 k287 => VL (veqa true true (List.replicate 16 (.i .u8)) v208_277 v209_284) fun v274_288 =>
k287 v274_288 h285) (fun g289 v210_290 h291 =>
VL (vpick g289 (.bool true) v210_290) fun v275_292 =>
pgk false h291 (fun g293 k294 => k294 v250_236 h291) (fun g295 v213_296 h297 =>
pgk false h297 (fun g298 k299 => VL (lift2 (abin .neq) v213_296 (.int .i64 0)) fun v278_300 =>
k299 v278_300 h297) (fun g301 v214_302 h303 =>
VL (vpick g301 (.bool true) v214_302) fun v279_304 =>
pgk false h303 (fun g305 k306 => k306 v256_242 h303) (fun g307 v217_308 h309 =>
pgk false h309 (fun g310 k311 => VL (lift2 (abin .neq) v217_308 (.int .i64 0)) fun v282_312 =>
k311 v282_312 h309) (fun g313 v218_314 h315 =>
VL (vpick g313 (.bool true) v218_314) fun v283_316 =>
pgk false h315 (fun g317 k318 => k318 v264_255 h315) (fun g319 v221_320 h321 =>
pgk false h321 (fun g322 k323 => VL (lift2 (abin .neq) v221_320 (.int .i64 0)) fun v286_324 =>
k323 v286_324 h321) (fun g325 v222_326 h327 =>
VL (vpick g325 (.bool true) v222_326) fun v287_328 =>
pcond (
Rt h327 (.bool false)) (
LP [41] [13, 19, 20, 21, 39] (fun w329 l330 h331 N332 =>
VL (vfa 0 (l330.getD 0 .und)) fun v289_333 =>
pld h331 none (fun v290_334 h335 =>
VL (lift2 (abin .lss) (w329.getD 0 .und) v290_334) fun v291_336 =>
pcond (
VL (vixA 16 1 (l330.getD 4 .und) (w329.getD 0 .und)) fun v295_337 =>
pld h335 none (fun v296_338 h339 =>
VL (lift1 (acvi .i64) v296_338) fun v297_340 =>
VL (lift2 (abin .neq) v297_340 (w329.getD 0 .und)) fun v299_341 =>
pcond (
Rt h339 (.bool false)) (
VL (lift2 (abin .add) (w329.getD 0 .und) (.int .i64 1)) fun v293_342 =>
N332 [v293_342] [(l330.getD 0 .und), (l330.getD 1 .und), (l330.getD 2 .und), (l330.getD 3 .und), (l330.getD 4 .und)] h339) v299_341) v295_337) (
k216 [(l330.getD 1 .und), (l330.getD 2 .und), (l330.getD 3 .und)] h335) v291_336) v289_333) [(.int .i64 0)] [(.ptr 77 0), (.ptr 83 0), v188_145, v189_146, (.ptr 103 0)] h327) v287_328) g319) v283_316) g307) v279_304) g295) v275_292) g283) g276) v270_271) g262) v266_259) (.ptr 103 0)) [v258_246, v259_248, v261_250]) (.ptr 77 0)) (.ptr 101 0)) (.ptr 79 0)) (.ptr 101 0)) [v252_237, v249_235]) (.ptr 77 0)) [v162_92]) (.ptr 97 0)) [v241_224, v238_222]) (.ptr 77 0)) [v162_92]) (
k216 [(.ptr 83 0), v188_145, v189_146] h214) v234_219) fun o217 h218 =>
VL (lift2 (abin .neq) (o217.getD 2 .und) (.int .i64 0)) fun v301_343 =>
pcond (
VL (vlenS (o217.getD 1 .und)) fun v303_344 =>
VL (lift2 (abin .eql) v303_344 (.int .i64 0)) fun v304_345 =>
Rt h218 v304_345) (
LP [42] [19, 20] (fun w346 l347 h348 N349 =>
VL (vlenS (l347.getD 1 .und)) fun v307_350 =>
VL (lift2 (abin .lss) (w346.getD 0 .und) v307_350) fun v308_351 =>
pcond (
pld h348 (some 33) (fun v312_352 h353 =>
VL (vixS 1 (l347.getD 1 .und) (w346.getD 0 .und)) fun v315_354 =>
pld h353 none (fun v316_355 h356 =>
pcalp Tryd.prog 14 317 h356 (fun v317_357 h358 =>
VL (vext 0 v317_357) fun v318_359 =>
VL (vext 1 v317_357) fun v319_360 =>
palloc h358 107 29 (vi .u8 (List.replicate 16 0)) fun h361 =>
pst h361 16 (cellsV v318_359) (fun u362 h363 =>
VL (lift2 (abin .neq) v319_360 (.int .i64 0)) fun v321_364 =>
pgk false h363 (fun g365 k366 => VL (vixA 16 1 (.ptr 107 0) (.int .i64 0)) fun v323_367 =>
k366 v323_367 h363) (fun g368 v259_369 h370 =>
pgk false h370 (fun g371 k372 => pld h370 none (fun v324_373 h374 =>
k372 v324_373 h374) v259_369) (fun g375 v260_376 h377 =>
pgk false h377 (fun g378 k379 => VL (lift2 (abin .neq) v260_376 (.int .u8 0)) fun v325_380 =>
k379 v325_380 h377) (fun g381 v261_382 h383 =>
VL (vpick g381 (.bool true) v261_382) fun v326_384 =>
pcond (
Rt h383 (.bool false)) (
VL (lift2 (abin .add) (w346.getD 0 .und) (.int .i64 1)) fun v310_385 =>
N349 [v310_385] [(l347.getD 0 .und), (l347.getD 1 .und)] h383) v326_384) g375) g368) v321_364) (.ptr 107 0)) [v312_352, v316_355]) v315_354) (l347.getD 0 .und)) (
VL (vlenS (l347.getD 1 .und)) fun v328_386 =>
VL (vfa 0 (l347.getD 0 .und)) fun v329_387 =>
pld h348 none (fun v330_388 h389 =>
VL (lift2 (abin .add) v330_388 (.int .i64 1)) fun v331_390 =>
VL (lift2 (abin .eql) v328_386 v331_390) fun v332_391 =>
Rt h389 v332_391) v329_387) v308_351) [(.int .i64 0)] [(o217.getD 0 .und), (o217.getD 1 .und)] h218) v301_343) v232_215) g206) g199) g194) v226_191) [v207_180, v208_181, v209_182]) [v207_180, v208_181, v209_182]) [x0]) v203_177) g168) g161) g156) v197_153) [v191_147]) (.ptr 83 0)) [v186_141]) (.ptr 83 0)) (.ptr 83 0)) [x0]) v182_135) g126) g119) v177_114) (.ptr 81 0)) [v170_105, v162_92]) (.ptr 77 0)) (.ptr 79 0)) [v164_96, v162_92]) (.ptr 77 0)) (.ptr 77 0)) [x0]) v157_88) g79) g72) g67) g60) v150_57) g48) g43) v145_40) [v132_30]) [v132_30]) [x0]) v130_29) g20) g15) v125_12) [v112_2]) [v112_2]) [x0]) v110_0) [x0]
theorem laws_FnWords_f {x0 : V} : Prt Tryd.prog 3 [x0] (laws_FnWords_F x0) := pfun (fn := Tryd.f3) (m := [.s, .s, .s, .s, .s, .s, .s, .s, .s, .s, .s, .s, .s, .s, .s, .s, .s, .s, .s, .s, .s, .s, .s, .s, .s, .s, .s, .s, .s, .s, .s, .s, .s, .s, .j [19, 20, 21], .s, .s, .s, .s, .s, .s, .s, .s, .s, .s, .l [41] [13, 19, 20, 21, 39], .s, .s, .s, .s, .s, .s, .s, .s, .s, .s, .l [42] [19, 20], .s, .s, .s, .s, .s, .s, .s]) (c := 1 ≤ 269) rfl (fun h0 Rt => by kernel_rfl) (by decide)

def laws_big_F (x0 : V) (hi : Hp) (Rt : Hp → V → Prop) : Prop :=
VL (vlenS x0) fun v68_0 =>
VL (lift2 (abin .gtr) v68_0 (.int .i64 4096)) fun v69_1 =>
Rt hi v69_1
theorem laws_big_f {x0 : V} : Prt Tryd.prog 4 [x0] (laws_big_F x0) := pfun (fn := Tryd.f4) (m := [.s, .s]) (c := 1 ≤ 6) rfl (fun h0 Rt => by kernel_rfl) (by decide)

def spec_DrawReduceWord_F (x0 : V) (hi : Hp) (Rt : Hp → V → Prop) : Prop :=
pcal Tryd.prog 25 68 hi (fun v68_0 h1 =>
pcal Tryd.prog 24 69 h1 (fun v69_2 h3 =>
Rt h3 v69_2) [v68_0, (.int .i64 30)]) [x0]
theorem spec_DrawReduceWord_f {x0 : V} : Prt Tryd.prog 5 [x0] (spec_DrawReduceWord_F x0) := pfun (fn := Tryd.f5) (m := [.s, .s]) (c := 1 ≤ 6) rfl (fun h0 Rt => by kernel_rfl) (by decide)

def impl_ReduceWord_F (x0 : V) (hi : Hp) (Rt : Hp → V → Prop) : Prop :=
pcal Tryd.prog 11 69 hi (fun v69_0 h1 =>
VL (lift1 (aun .not) v69_0) fun v70_2 =>
pcond (
Rt h1 (.tup [(.str []), (.int .i64 1)])) (
pcal Tryd.prog 26 72 h1 (fun v72_3 h4 =>
Rt h4 (.tup [v72_3, (.int .i64 0)])) [x0]) v70_2) [x0]
theorem impl_ReduceWord_f {x0 : V} : Prt Tryd.prog 6 [x0] (impl_ReduceWord_F x0) := pfun (fn := Tryd.f6) (m := [.s, .s, .s, .s, .s]) (c := 1 ≤ 9) rfl (fun h0 Rt => by kernel_rfl) (by decide)

def spec_ReduceWord_F (x0 : V) (hi : Hp) (Rt : Hp → V → Prop) : Prop :=
pcal Tryd.prog 27 69 hi (fun v69_0 h1 =>
VL (lift1 (aun .not) v69_0) fun v70_2 =>
pcond (
Rt h1 (.tup [(.str []), (.int .i64 1)])) (
pcal Tryd.prog 28 72 h1 (fun v72_3 h4 =>
Rt h4 (.tup [v72_3, (.int .i64 0)])) [x0]) v70_2) [x0]
theorem spec_ReduceWord_f {x0 : V} : Prt Tryd.prog 7 [x0] (spec_ReduceWord_F x0) := pfun (fn := Tryd.f7) (m := [.s, .s, .s, .s, .s]) (c := 1 ≤ 9) rfl (fun h0 Rt => by kernel_rfl) (by decide)

def spec_DrawInverseWord_F (x0 : V) (hi : Hp) (Rt : Hp → V → Prop) : Prop :=
pcal Tryd.prog 25 68 hi (fun v68_0 h1 =>
pcal Tryd.prog 24 69 h1 (fun v69_2 h3 =>
Rt h3 v69_2) [v68_0, (.int .i64 20)]) [x0]
theorem spec_DrawInverseWord_f {x0 : V} : Prt Tryd.prog 8 [x0] (spec_DrawInverseWord_F x0) := pfun (fn := Tryd.f8) (m := [.s, .s]) (c := 1 ≤ 6) rfl (fun h0 Rt => by kernel_rfl) (by decide)

def impl_InverseWord_F (x0 : V) (hi : Hp) (Rt : Hp → V → Prop) : Prop :=
pcal Tryd.prog 11 69 hi (fun v69_0 h1 =>
VL (lift1 (aun .not) v69_0) fun v70_2 =>
pcond (
Rt h1 (.tup [(.str []), (.int .i64 1)])) (
pcal Tryd.prog 29 72 h1 (fun v72_3 h4 =>
Rt h4 (.tup [v72_3, (.int .i64 0)])) [x0]) v70_2) [x0]
theorem impl_InverseWord_f {x0 : V} : Prt Tryd.prog 9 [x0] (impl_InverseWord_F x0) := pfun (fn := Tryd.f9) (m := [.s, .s, .s, .s, .s]) (c := 1 ≤ 9) rfl (fun h0 Rt => by kernel_rfl) (by decide)

def spec_InverseWord_F (x0 : V) (hi : Hp) (Rt : Hp → V → Prop) : Prop :=
pcal Tryd.prog 27 69 hi (fun v69_0 h1 =>
VL (lift1 (aun .not) v69_0) fun v70_2 =>
pcond (
Rt h1 (.tup [(.str []), (.int .i64 1)])) (
pcal Tryd.prog 30 72 h1 (fun v72_3 h4 =>
Rt h4 (.tup [v72_3, (.int .i64 0)])) [x0]) v70_2) [x0]
theorem spec_InverseWord_f {x0 : V} : Prt Tryd.prog 10 [x0] (spec_InverseWord_F x0) := pfun (fn := Tryd.f10) (m := [.s, .s, .s, .s, .s]) (c := 1 ≤ 9) rfl (fun h0 Rt => by kernel_rfl) (by decide)

def impl_IsWord_F (x0 : V) (hi : Hp) (Rt : Hp → V → Prop) : Prop :=
VL (vlenT x0) fun v68_0 =>
VL (lift2 (abin .leq) v68_0 (.int .i64 60)) fun v69_1 =>
pgk true hi (fun g2 k3 => k3 x0 hi) (fun g4 v7_5 h6 =>
pgk true h6 (fun g7 k8 => pcal Tryd.prog 31 72 h6 (fun v72_9 h10 =>
k8 v72_9 h10) [v7_5, (.str [120, 121, 88, 89])]) (fun g11 v8_12 h13 =>
pgk true h13 (fun g14 k15 => VL (lift2 (abin .eql) v8_12 (.str [])) fun v73_16 =>
k15 v73_16 h13) (fun g17 v9_18 h19 =>
VL (vpick g17 v9_18 (.bool false)) fun v74_20 =>
Rt h19 v74_20) g11) g4) v69_1
theorem impl_IsWord_f {x0 : V} : Prt Tryd.prog 11 [x0] (impl_IsWord_F x0) := pfun (fn := Tryd.f11) (m := [.s, .s]) (c := 1 ≤ 11) rfl (fun h0 Rt => by kernel_rfl) (by decide)

def spec_IsWord_F (x0 : V) (hi : Hp) (Rt : Hp → V → Prop) : Prop :=
pcal Tryd.prog 27 68 hi (fun v68_0 h1 =>
Rt h1 v68_0) [x0]
theorem spec_IsWord_f {x0 : V} : Prt Tryd.prog 12 [x0] (spec_IsWord_F x0) := pfun (fn := Tryd.f12) (m := [.s, .s]) (c := 1 ≤ 5) rfl (fun h0 Rt => by kernel_rfl) (by decide)

def spec_DrawWordPlaces_F (x0 : V) (hi : Hp) (Rt : Hp → V → Prop) : Prop :=
palloc hi 66 31 ([(.int .i64 0)] ++ (vi .u8 (List.replicate 32 0))) fun h0 =>
pcal Tryd.prog 25 70 h0 (fun v70_1 h2 =>
pcal Tryd.prog 32 72 h2 (fun v72_3 h4 =>
pcal Tryd.prog 24 74 h4 (fun v74_5 h6 =>
pst h6 33 (cellsV v72_3) (fun u7 h8 =>
VL (pcellV h8 (some 33) (.ptr 66 0)) fun r9 =>
Rt h8 (.tup [r9, v74_5])) (.ptr 66 0)) [v70_1, (.int .i64 20)]) [v70_1]) [x0]
theorem spec_DrawWordPlaces_f {x0 : V} : Prt Tryd.prog 13 [x0] (spec_DrawWordPlaces_F x0) := pfun (fn := Tryd.f13) (m := [.s, .s, .s]) (c := 1 ≤ 11) rfl (fun h0 Rt => by kernel_rfl) (by decide)

def impl_WordPlaces_F (x0 x1 : V) (hi : Hp) (Rt : Hp → V → Prop) : Prop :=
pbox hi 66 31 (cellsV x0) fun h0 =>
palloc h0 68 29 (vi .u8 (List.replicate 16 0)) fun h1 =>
pcal Tryd.prog 11 71 h1 (fun v71_2 h3 =>
VL (lift1 (aun .not) v71_2) fun v72_4 =>
pgk false h3 (fun g5 k6 => pld h3 (some 33) (fun v74_7 h8 =>
k6 v74_7 h8) (.ptr 66 0)) (fun g9 v10_10 h11 =>
pgk false h11 (fun g12 k13 => pcal Tryd.prog 33 75 h11 (fun v75_14 h15 =>
k13 v75_14 h15) [v10_10]) (fun g16 v11_17 h18 =>
pgk false h18 (fun g19 k20 => VL (lift1 (aun .not) v11_17) fun v76_21 =>
k20 v76_21 h18) (fun g22 v12_23 h24 =>
VL (vpick g22 (.bool true) v12_23) fun v77_25 =>
pcond (
VL (vbld (vfill (vi .u8 (List.replicate 16 0)) [])) fun v78_26 =>
pst h24 16 (cellsV v78_26) (fun u27 h28 =>
VL (pcellV h28 (some 16) (.ptr 68 0)) fun r29 =>
Rt h28 (.tup [r29, (.int .i64 1)])) (.ptr 68 0)) (
pld h24 (some 33) (fun v79_30 h31 =>
pcal Tryd.prog 34 81 h31 (fun v81_32 h33 =>
pst h33 16 (cellsV v81_32) (fun u34 h35 =>
VL (pcellV h35 (some 16) (.ptr 68 0)) fun r36 =>
Rt h35 (.tup [r36, (.int .i64 0)])) (.ptr 68 0)) [v79_30, x1]) (.ptr 66 0)) v77_25) g16) g9) v72_4) [x1]
theorem impl_WordPlaces_f {x0 x1 : V} : Prt Tryd.prog 14 [x0, x1] (impl_WordPlaces_F x0 x1) := pfun (fn := Tryd.f14) (m := [.s, .s, .s, .s, .s]) (c := 2 ≤ 18) rfl (fun h0 Rt => by kernel_rfl) (by decide)

def spec_WordPlaces_F (x0 x1 : V) (hi : Hp) (Rt : Hp → V → Prop) : Prop :=
pbox hi 66 31 (cellsV x0) fun h0 =>
palloc h0 68 29 (vi .u8 (List.replicate 16 0)) fun h1 =>
pld h1 (some 33) (fun v70_2 h3 =>
pcal Tryd.prog 35 71 h3 (fun v71_4 h5 =>
VL (lift1 (aun .not) v71_4) fun v72_6 =>
pgk false h5 (fun g7 k8 => k8 x1 h5) (fun g9 v10_10 h11 =>
pgk false h11 (fun g12 k13 => pcal Tryd.prog 27 75 h11 (fun v75_14 h15 =>
k13 v75_14 h15) [v10_10]) (fun g16 v11_17 h18 =>
pgk false h18 (fun g19 k20 => VL (lift1 (aun .not) v11_17) fun v76_21 =>
k20 v76_21 h18) (fun g22 v12_23 h24 =>
VL (vpick g22 (.bool true) v12_23) fun v77_25 =>
pcond (
VL (vbld (vfill (vi .u8 (List.replicate 16 0)) [])) fun v78_26 =>
pst h24 16 (cellsV v78_26) (fun u27 h28 =>
VL (pcellV h28 (some 16) (.ptr 68 0)) fun r29 =>
Rt h28 (.tup [r29, (.int .i64 1)])) (.ptr 68 0)) (
pld h24 (some 33) (fun v79_30 h31 =>
pcal Tryd.prog 36 81 h31 (fun v81_32 h33 =>
pst h33 16 (cellsV v81_32) (fun u34 h35 =>
VL (pcellV h35 (some 16) (.ptr 68 0)) fun r36 =>
Rt h35 (.tup [r36, (.int .i64 0)])) (.ptr 68 0)) [v79_30, x1]) (.ptr 66 0)) v77_25) g16) g9) v72_6) [v70_2]) (.ptr 66 0)
theorem spec_WordPlaces_f {x0 x1 : V} : Prt Tryd.prog 15 [x0, x1] (spec_WordPlaces_F x0 x1) := pfun (fn := Tryd.f15) (m := [.s, .s, .s, .s, .s]) (c := 2 ≤ 18) rfl (fun h0 Rt => by kernel_rfl) (by decide)

def spec_DrawStabiliserWords_F (x0 : V) (hi : Hp) (Rt : Hp → V → Prop) : Prop :=
palloc hi 66 31 ([(.int .i64 0)] ++ (vi .u8 (List.replicate 32 0))) fun h0 =>
pcal Tryd.prog 25 68 h0 (fun v68_1 h2 =>
pcal Tryd.prog 32 69 h2 (fun v69_3 h4 =>
pst h4 33 (cellsV v69_3) (fun u5 h6 =>
VL (pcellV h6 (some 33) (.ptr 66 0)) fun r7 =>
Rt h6 r7) (.ptr 66 0)) [v68_1]) [x0]
theorem spec_DrawStabiliserWords_f {x0 : V} : Prt Tryd.prog 16 [x0] (spec_DrawStabiliserWords_F x0) := pfun (fn := Tryd.f16) (m := [.s, .s]) (c := 1 ≤ 6) rfl (fun h0 Rt => by kernel_rfl) (by decide)

def impl_StabiliserWords_F (x0 : V) (hi : Hp) (Rt : Hp → V → Prop) : Prop :=
pbox hi 65 31 (cellsV x0) fun h0 =>
pld h0 (some 33) (fun v81_1 h2 =>
pcal Tryd.prog 33 82 h2 (fun v82_3 h4 =>
VL (lift1 (aun .not) v82_3) fun v83_5 =>
pcond (
Rt h4 (.tup [.nils, (.int .i64 1)])) (
VL (vbld (vfill (vt (List.replicate 16 [])) [])) fun v84_6 =>
VL (vbld (vfill (vb (List.replicate 16 false)) [(0, 1, (.bool true))])) fun v85_7 =>
palloc h4 68 53 (vt (List.replicate 16 [])) fun h8 =>
palloc h8 69 54 (vb (List.replicate 16 false)) fun h9 =>
pst h9 16 (cellsV v84_6) (fun u10 h11 =>
pst h11 16 (cellsV v85_7) (fun u12 h13 =>
pld h13 (some 33) (fun v86_14 h15 =>
pcal Tryd.prog 37 87 h15 (fun v87_16 h17 =>
VL (vlenS v87_16) fun v89_18 =>
LP [26] [1, 4, 5, 6, 24, 25] (fun w19 l20 h21 N22 =>
VL (lift2 (abin .lss) (w19.getD 0 .und) (l20.getD 5 .und)) fun v91_23 =>
pcond (
VL (vixS 1 (l20.getD 4 .und) (w19.getD 0 .und)) fun v92_24 =>
pld h21 none (fun v93_25 h26 =>
VL (vfa 1 (l20.getD 0 .und)) fun v95_27 =>
VL (vixA 16 1 v95_27 v93_25) fun v96_28 =>
pld h26 none (fun v97_29 h30 =>
VL (vfa 17 (l20.getD 0 .und)) fun v99_31 =>
VL (vixA 16 1 v99_31 v93_25) fun v100_32 =>
pld h30 none (fun v101_33 h34 =>
pmks h34 102 5 2 2 (fun h35 =>
VL (vlenS (.rf 102 0 2)) fun v103_36 =>
LP [40] [1, 4, 5, 6, 8, 24, 25, 26, 38, 39] (fun w37 l38 h39 N40 =>
VL (lift2 (abin .lss) (w37.getD 0 .und) (l38.getD 9 .und)) fun v105_41 =>
pcond (
JN (fun k42 =>
VL (vixS 1 (l38.getD 8 .und) (w37.getD 0 .und)) fun v107_45 =>
pld h39 none (fun v108_46 h47 =>
VL (vixA 16 1 (l38.getD 2 .und) v108_46) fun v110_48 =>
pld h47 none (fun v111_49 h50 =>
VL (lift1 (aun .not) v111_49) fun v112_51 =>
pcond (
VL (vixA 16 1 (l38.getD 2 .und) v108_46) fun v114_52 =>
pst h50 1 (cellsV (.bool true)) (fun u53 h54 =>
VL (vixA 16 1 (l38.getD 1 .und) (l38.getD 4 .und)) fun v117_55 =>
pld h54 none (fun v118_56 h57 =>
VL (lift2 (abin .add) (w37.getD 0 .und) (.int .i64 1)) fun v121_58 =>
VL (vslT (.str [120, 121]) (some (w37.getD 0 .und)) (some v121_58)) fun v122_59 =>
VL (lift2 (abin .add) v118_56 v122_59) fun v123_60 =>
VL (vixA 16 1 (l38.getD 1 .und) v108_46) fun v124_61 =>
pst h57 1 (cellsV v123_60) (fun u62 h63 =>
k42 [(l38.getD 0 .und), (l38.getD 1 .und), (l38.getD 2 .und), (l38.getD 3 .und), (l38.getD 4 .und), (l38.getD 5 .und), (l38.getD 6 .und), (l38.getD 7 .und), (l38.getD 8 .und), (l38.getD 9 .und), (w37.getD 0 .und)] h63) v124_61) v117_55) v114_52) (
k42 [(l38.getD 0 .und), (l38.getD 1 .und), (l38.getD 2 .und), (l38.getD 3 .und), (l38.getD 4 .und), (l38.getD 5 .und), (l38.getD 6 .und), (l38.getD 7 .und), (l38.getD 8 .und), (l38.getD 9 .und), (w37.getD 0 .und)] h50) v112_51) v110_48) v107_45) fun o43 h44 =>
VL (lift2 (abin .add) (o43.getD 10 .und) (.int .i64 1)) fun v125_64 =>
N40 [v125_64] [(o43.getD 0 .und), (o43.getD 1 .und), (o43.getD 2 .und), (o43.getD 3 .und), (o43.getD 4 .und), (o43.getD 5 .und), (o43.getD 6 .und), (o43.getD 7 .und), (o43.getD 8 .und), (o43.getD 9 .und)] h44) (
VL (lift2 (abin .add) (l38.getD 7 .und) (.int .i64 1)) fun v126_65 =>
N22 [v126_65] [(l38.getD 0 .und), (l38.getD 1 .und), (l38.getD 2 .und), (l38.getD 3 .und), (l38.getD 5 .und), (l38.getD 6 .und)] h39) v105_41) [(.int .i64 0)] [(l20.getD 0 .und), (l20.getD 1 .und), (l20.getD 2 .und), (l20.getD 3 .und), v93_25, (l20.getD 4 .und), (l20.getD 5 .und), (w19.getD 0 .und), (.rf 102 0 2), v103_36] h35) (vfill [(.int .u8 0), (.int .u8 0)] [(0, 1, v97_29), (1, 1, v101_33)])) v100_32) v96_28) v92_24) (
pmks h21 127 9 0 0 (fun h66 =>
VL (vlenS (l20.getD 3 .und)) fun v129_67 =>
LP [11, 66] [1, 4, 64, 65] (fun w68 l69 h70 N71 =>
VL (lift2 (abin .lss) (w68.getD 1 .und) (l69.getD 3 .und)) fun v131_72 =>
pcond (
VL (vixS 1 (l69.getD 2 .und) (w68.getD 1 .und)) fun v132_73 =>
pld h70 none (fun v133_74 h75 =>
VL (vfa 1 (l69.getD 0 .und)) fun v135_76 =>
VL (vixA 16 1 v135_76 v133_74) fun v136_77 =>
pld h75 none (fun v137_78 h79 =>
VL (vfa 17 (l69.getD 0 .und)) fun v139_80 =>
VL (vixA 16 1 v139_80 v133_74) fun v140_81 =>
pld h79 none (fun v141_82 h83 =>
pmks h83 142 5 2 2 (fun h84 =>
VL (vlenS (.rf 142 0 2)) fun v143_85 =>
LP [11, 80] [1, 4, 13, 64, 65, 66, 78, 79] (fun w86 l87 h88 N89 =>
VL (lift2 (abin .lss) (w86.getD 1 .und) (l87.getD 7 .und)) fun v145_90 =>
pcond (
JN (fun k91 =>
VL (vixS 1 (l87.getD 6 .und) (w86.getD 1 .und)) fun v147_94 =>
pld h88 none (fun v148_95 h96 =>
VL (vixA 16 1 (l87.getD 1 .und) (l87.getD 2 .und)) fun v150_97 =>
pld h96 none (fun v151_98 h99 =>
VL (lift2 (abin .add) (w86.getD 1 .und) (.int .i64 1)) fun v154_100 =>
VL (vslT (.str [120, 121]) (some (w86.getD 1 .und)) (some v154_100)) fun v155_101 =>
VL (lift2 (abin .add) v151_98 v155_101) fun v156_102 =>
VL (vixA 16 1 (l87.getD 1 .und) v148_95) fun v158_103 =>
pld h99 none (fun v159_104 h105 =>
pcalp Tryd.prog 29 160 h105 (fun v160_106 h107 =>
VL (lift2 (abin .add) v156_102 v160_106) fun v161_108 =>
pcal Tryd.prog 26 162 h107 (fun v162_109 h110 =>
VL (lift2 (abin .neq) v162_109 (.str [])) fun v164_111 =>
pcond (
pmks h110 167 9 1 1 (fun h112 =>
papp h112 (fun m115 s116 => papV 9 1 16 168 h112 (fun v168_113 h114 =>
k91 [(l87.getD 0 .und), (l87.getD 1 .und), v168_113, (l87.getD 2 .und), (l87.getD 3 .und), (l87.getD 4 .und), (l87.getD 5 .und), (l87.getD 6 .und), (l87.getD 7 .und), (w86.getD 1 .und)] h114) m115 s116 (w86.getD 0 .und)) (pavs h112 (w86.getD 0 .und) []) (preadS 1 h112 (.rf 167 0 1))) (vfill [(.str [])] [(0, 1, v162_109)])) (
k91 [(l87.getD 0 .und), (l87.getD 1 .und), (w86.getD 0 .und), (l87.getD 2 .und), (l87.getD 3 .und), (l87.getD 4 .und), (l87.getD 5 .und), (l87.getD 6 .und), (l87.getD 7 .und), (w86.getD 1 .und)] h110) v164_111) [v161_108]) [v159_104]) v158_103) v150_97) v147_94) fun o92 h93 =>
VL (lift2 (abin .add) (o92.getD 9 .und) (.int .i64 1)) fun v169_117 =>
N89 [(o92.getD 2 .und), v169_117] [(o92.getD 0 .und), (o92.getD 1 .und), (o92.getD 3 .und), (o92.getD 4 .und), (o92.getD 5 .und), (o92.getD 6 .und), (o92.getD 7 .und), (o92.getD 8 .und)] h93) (
VL (lift2 (abin .add) (l87.getD 5 .und) (.int .i64 1)) fun v170_118 =>
N71 [(w86.getD 0 .und), v170_118] [(l87.getD 0 .und), (l87.getD 1 .und), (l87.getD 3 .und), (l87.getD 4 .und)] h88) v145_90) [(w68.getD 0 .und), (.int .i64 0)] [(l69.getD 0 .und), (l69.getD 1 .und), v133_74, (l69.getD 2 .und), (l69.getD 3 .und), (w68.getD 1 .und), (.rf 142 0 2), v143_85] h84) (vfill [(.int .u8 0), (.int .u8 0)] [(0, 1, v137_78), (1, 1, v141_82)])) v140_81) v136_77) v132_73) (
Rt h70 (.tup [(w68.getD 0 .und), (.int .i64 0)])) v131_72) [(.rf 127 0 0), (.int .i64 0)] [(l20.getD 0 .und), (l20.getD 1 .und), (l20.getD 3 .und), v129_67] h66) (vfill [] [])) v91_23) [(.int .i64 0)] [(.ptr 65 0), (.ptr 68 0), (.ptr 69 0), v87_16, v87_16, v89_18] h17) [v86_14, (.int .i64 0)]) (.ptr 65 0)) (.ptr 69 0)) (.ptr 68 0)) v83_5) [v81_1]) (.ptr 65 0)
theorem impl_StabiliserWords_f {x0 : V} : Prt Tryd.prog 17 [x0] (impl_StabiliserWords_F x0) := pfun (fn := Tryd.f17) (m := [.s, .s, .s, .s, .s, .s, .s, .s, .l [26] [1, 4, 5, 6, 24, 25], .s, .s, .s, .s, .s, .l [40] [1, 4, 5, 6, 8, 24, 25, 26, 38, 39], .s, .s, .j [1, 4, 5, 6, 8, 24, 25, 26, 38, 39, 40], .s, .s, .s, .s, .s, .s, .l [11, 66] [1, 4, 64, 65], .s, .s, .s, .s, .s, .l [11, 80] [1, 4, 13, 64, 65, 66, 78, 79], .s, .s, .j [1, 4, 11, 13, 64, 65, 66, 78, 79, 80], .s, .s, .s, .s]) (c := 1 ≤ 108) rfl (fun h0 Rt => by kernel_rfl) (by decide)

def spec_StabiliserWords_F (x0 : V) (hi : Hp) (Rt : Hp → V → Prop) : Prop :=
pbox hi 65 31 (cellsV x0) fun h0 =>
pld h0 (some 33) (fun v68_1 h2 =>
pcal Tryd.prog 35 69 h2 (fun v69_3 h4 =>
VL (lift1 (aun .not) v69_3) fun v70_5 =>
pcond (
Rt h4 (.tup [.nils, (.int .i64 1)])) (
pld h4 (some 33) (fun v71_6 h7 =>
pcal Tryd.prog 38 72 h7 (fun v72_8 h9 =>
Rt h9 (.tup [v72_8, (.int .i64 0)])) [v71_6]) (.ptr 65 0)) v70_5) [v68_1]) (.ptr 65 0)
theorem spec_StabiliserWords_f {x0 : V} : Prt Tryd.prog 18 [x0] (spec_StabiliserWords_F x0) := pfun (fn := Tryd.f18) (m := [.s, .s, .s, .s, .s]) (c := 1 ≤ 9) rfl (fun h0 Rt => by kernel_rfl) (by decide)

def laws_words9_F (x0 x1 : V) (hi : Hp) (Rt : Hp → V → Prop) : Prop :=
VL (vlenS x0) fun v71_0 =>
VL (vlenS x1) fun v73_1 =>
VL (lift2 (abin .neq) v71_0 v73_1) fun v74_2 =>
pcond (
Rt hi (.bool false)) (
LP [5] [0, 1] (fun w3 l4 h5 N6 =>
VL (vlenS (l4.getD 0 .und)) fun v77_7 =>
VL (lift2 (abin .lss) (w3.getD 0 .und) v77_7) fun v78_8 =>
pcond (
VL (vixS 1 (l4.getD 0 .und) (w3.getD 0 .und)) fun v83_9 =>
pld h5 none (fun v84_10 h11 =>
VL (vixS 1 (l4.getD 1 .und) (w3.getD 0 .und)) fun v87_12 =>
pld h11 none (fun v88_13 h14 =>
VL (lift2 (abin .neq) v84_10 v88_13) fun v89_15 =>
pcond (
Rt h14 (.bool false)) (
VL (lift2 (abin .add) (w3.getD 0 .und) (.int .i64 1)) fun v80_16 =>
N6 [v80_16] [(l4.getD 0 .und), (l4.getD 1 .und)] h14) v89_15) v87_12) v83_9) (
Rt h5 (.bool true)) v78_8) [(.int .i64 0)] [x0, x1] hi) v74_2
theorem laws_words9_f {x0 x1 : V} : Prt Tryd.prog 19 [x0, x1] (laws_words9_F x0 x1) := pfun (fn := Tryd.f19) (m := [.s, .s, .s, .s, .s, .s, .l [5] [0, 1], .s, .s, .s, .s, .s, .s]) (c := 2 ≤ 26) rfl (fun h0 Rt => by kernel_rfl) (by decide)

def spec_DrawTriangleRelations_F (x0 : V) (hi : Hp) (Rt : Hp → V → Prop) : Prop :=
pcal Tryd.prog 25 71 hi (fun v71_0 h1 =>
pcal Tryd.prog 39 73 h1 (fun v73_2 h3 =>
pmks h3 75 2 5 5 (fun h4 =>
pcal Tryd.prog 40 76 h4 (fun v76_5 h6 =>
pcal Tryd.prog 39 78 h6 (fun v78_7 h8 =>
Rt h8 (.tup [v73_2, v76_5, v78_7])) [v71_0, (.int .i64 6)]) [v71_0, (.rf 75 0 5)]) (vfill (vi .i64 (List.replicate 5 0)) [(0, 1, (.int .i64 0)), (1, 1, (.int .i64 2)), (2, 1, (.int .i64 3)), (3, 1, (.int .i64 31)), (4, 1, (.int .i64 30))])) [v71_0, (.int .i64 8)]) [x0]
theorem spec_DrawTriangleRelations_f {x0 : V} : Prt Tryd.prog 20 [x0] (spec_DrawTriangleRelations_F x0) := pfun (fn := Tryd.f20) (m := [.s, .s, .s]) (c := 1 ≤ 15) rfl (fun h0 Rt => by kernel_rfl) (by decide)

def impl_TriangleRelations_F (x0 x1 x2 : V) (hi : Hp) (Rt : Hp → V → Prop) : Prop :=
pmks hi 75 9 0 0 (fun h0 =>
pmks h0 79 2 3 3 (fun h1 =>
VL (vlenS (.rf 79 0 3)) fun v80_2 =>
LP [8, 17] [15, 16] (fun w3 l4 h5 N6 =>
VL (lift2 (abin .lss) (w3.getD 1 .und) (l4.getD 1 .und)) fun v82_7 =>
pcond (
JN (fun k8 =>
VL (vixS 1 (l4.getD 0 .und) (w3.getD 1 .und)) fun v84_11 =>
pld h5 none (fun v85_12 h13 =>
VL (lift2 (abin .neq) v85_12 (.int .i64 0)) fun v87_14 =>
pgk true h13 (fun g15 k16 => k16 v85_12 h13) (fun g17 v25_18 h19 =>
pgk true h19 (fun g20 k21 => VL (lift2 (abin .lss) v25_18 (.int .i64 2)) fun v90_22 =>
k21 v90_22 h19) (fun g23 v26_24 h25 =>
pgk true h25 (fun g26 k27 => k27 v26_24 h25) (fun g28 v27_29 h30 =>
pgk false h30 (fun g31 k32 => k32 v85_12 h30) (fun g33 v28_34 h35 =>
pgk false h35 (fun g36 k37 => VL (lift2 (abin .gtr) v28_34 (.int .i64 30)) fun v93_38 =>
k37 v93_38 h35) (fun g39 v29_40 h41 =>
pgk true h41 (fun g42 k43 => VL (vpick g39 (.bool true) v29_40) fun v94_44 =>
k43 v94_44 h41) (fun g45 v30_46 h47 =>
VL (vpick g45 v30_46 (.bool false)) fun v95_48 =>
pcond (
Rt h47 (.tup [.nils, (.int .i64 2)])) (
VL (lift2 (abin .gtr) v85_12 (.int .i64 0)) fun v97_49 =>
pcond (
pmks h47 99 9 3 3 (fun h50 =>
VL (vixS 1 (.rf 99 0 3) (w3.getD 1 .und)) fun v101_51 =>
pld h50 none (fun v102_52 h53 =>
pcal Tryd.prog 41 104 h53 (fun v104_54 h55 =>
pmks h55 105 9 1 1 (fun h56 =>
papp h56 (fun m59 s60 => papV 9 1 16 106 h56 (fun v106_57 h58 =>
k8 [v106_57, (l4.getD 0 .und), (l4.getD 1 .und), (w3.getD 1 .und)] h58) m59 s60 (w3.getD 0 .und)) (pavs h56 (w3.getD 0 .und) []) (preadS 1 h56 (.rf 105 0 1))) (vfill [(.str [])] [(0, 1, v104_54)])) [v102_52, v85_12]) v101_51) (vfill [(.str []), (.str []), (.str [])] [(0, 1, (.str [120])), (1, 1, (.str [121])), (2, 1, (.str [120, 121]))])) (
k8 [(w3.getD 0 .und), (l4.getD 0 .und), (l4.getD 1 .und), (w3.getD 1 .und)] h47) v97_49) v95_48) g28) g33) v27_29) g23) g17) v87_14) v84_11) fun o9 h10 =>
VL (lift2 (abin .add) (o9.getD 3 .und) (.int .i64 1)) fun v107_61 =>
N6 [(o9.getD 0 .und), v107_61] [(o9.getD 1 .und), (o9.getD 2 .und)] h10) (
Rt h5 (.tup [(w3.getD 0 .und), (.int .i64 0)])) v82_7) [(.rf 75 0 0), (.int .i64 0)] [(.rf 79 0 3), v80_2] h1) (vfill [(.int .i64 0), (.int .i64 0), (.int .i64 0)] [(0, 1, x0), (1, 1, x1), (2, 1, x2)])) (vfill [] [])
theorem impl_TriangleRelations_f {x0 x1 x2 : V} : Prt Tryd.prog 21 [x0, x1, x2] (impl_TriangleRelations_F x0 x1 x2) := pfun (fn := Tryd.f21) (m := [.s, .s, .s, .s, .l [8, 17] [15, 16], .s, .s, .j [8, 15, 16, 17], .s, .s, .s, .s, .s, .s]) (c := 3 ≤ 45) rfl (fun h0 Rt => by kernel_rfl) (by decide)

def spec_TriangleRelations_F (x0 x1 x2 : V) (hi : Hp) (Rt : Hp → V → Prop) : Prop :=
pmks hi 79 2 3 3 (fun h0 =>
pmks h0 80 9 3 3 (fun h1 =>
pmks h1 81 9 0 0 (fun h2 =>
LP [10, 11] [8, 9] (fun w3 l4 h5 N6 =>
VL (lift2 (abin .lss) (w3.getD 1 .und) (.int .i64 3)) fun v83_7 =>
pcond (
JN (fun k8 =>
VL (vixS 1 (l4.getD 0 .und) (w3.getD 1 .und)) fun v88_11 =>
pld h5 none (fun v89_12 h13 =>
VL (lift2 (abin .neq) v89_12 (.int .i64 0)) fun v90_14 =>
pgk true h13 (fun g15 k16 => k16 (l4.getD 0 .und) h13) (fun g17 v28_18 h19 =>
pgk true h19 (fun g20 k21 => k21 (w3.getD 1 .und) h19) (fun g22 v29_23 h24 =>
pgk true h24 (fun g25 k26 => VL (vixS 1 v28_18 v29_23) fun v94_27 =>
k26 v94_27 h24) (fun g28 v30_29 h30 =>
pgk true h30 (fun g31 k32 => pld h30 none (fun v95_33 h34 =>
k32 v95_33 h34) v30_29) (fun g35 v31_36 h37 =>
pgk true h37 (fun g38 k39 => pcal Tryd.prog 42 96 h37 (fun v96_40 h41 =>
k39 v96_40 h41) [v31_36, (.int .i64 2), (.int .i64 30)]) (fun g42 v32_43 h44 =>
pgk true h44 (fun g45 k46 => VL (lift1 (aun .not) v32_43) fun v97_47 =>
k46 v97_47 h44) (fun g48 v33_49 h50 =>
VL (vpick g48 v33_49 (.bool false)) fun v98_51 =>
pcond (
Rt h50 (.tup [.nils, (.int .i64 2)])) (
VL (vixS 1 (l4.getD 0 .und) (w3.getD 1 .und)) fun v101_52 =>
pld h50 none (fun v102_53 h54 =>
VL (lift2 (abin .gtr) v102_53 (.int .i64 0)) fun v103_55 =>
pcond (
VL (vixS 1 (l4.getD 1 .und) (w3.getD 1 .und)) fun v107_56 =>
pld h54 none (fun v108_57 h58 =>
VL (vixS 1 (l4.getD 0 .und) (w3.getD 1 .und)) fun v111_59 =>
pld h58 none (fun v112_60 h61 =>
pcal Tryd.prog 43 113 h61 (fun v113_62 h63 =>
pmks h63 114 9 1 1 (fun h64 =>
papp h64 (fun m67 s68 => papV 9 1 16 115 h64 (fun v115_65 h66 =>
k8 [(l4.getD 0 .und), (l4.getD 1 .und), v115_65, (w3.getD 1 .und)] h66) m67 s68 (w3.getD 0 .und)) (pavs h64 (w3.getD 0 .und) []) (preadS 1 h64 (.rf 114 0 1))) (vfill [(.str [])] [(0, 1, v113_62)])) [v108_57, v112_60]) v111_59) v107_56) (
k8 [(l4.getD 0 .und), (l4.getD 1 .und), (w3.getD 0 .und), (w3.getD 1 .und)] h54) v103_55) v101_52) v98_51) g42) g35) g28) g22) g17) v90_14) v88_11) fun o9 h10 =>
VL (lift2 (abin .add) (o9.getD 3 .und) (.int .i64 1)) fun v85_69 =>
N6 [(o9.getD 2 .und), v85_69] [(o9.getD 0 .und), (o9.getD 1 .und)] h10) (
Rt h5 (.tup [(w3.getD 0 .und), (.int .i64 0)])) v83_7) [(.rf 81 0 0), (.int .i64 0)] [(.rf 79 0 3), (.rf 80 0 3)] h2) (vfill [] [])) (vfill [(.str []), (.str []), (.str [])] [(0, 1, (.str [120])), (1, 1, (.str [121])), (2, 1, (.str [120, 121]))])) (vfill [(.int .i64 0), (.int .i64 0), (.int .i64 0)] [(0, 1, x0), (1, 1, x1), (2, 1, x2)])
theorem spec_TriangleRelations_f {x0 x1 x2 : V} : Prt Tryd.prog 22 [x0, x1, x2] (spec_TriangleRelations_F x0 x1 x2) := pfun (fn := Tryd.f22) (m := [.s, .s, .s, .s, .l [10, 11] [8, 9], .s, .s, .j [8, 9, 10, 11], .s, .s, .s, .s, .s]) (c := 3 ≤ 53) rfl (fun h0 Rt => by kernel_rfl) (by decide)

def impl_ThenPlaces_F (x0 x1 x2 : V) (hi : Hp) (Rt : Hp → V → Prop) : Prop :=
pbox hi 67 29 (cellsV x0) fun h0 =>
pbox h0 68 29 (cellsV x1) fun h1 =>
palloc h1 70 29 (vi .u8 (List.replicate 16 0)) fun h2 =>
pld h2 (some 16) (fun v72_3 h4 =>
pcal Tryd.prog 44 74 h4 (fun v74_5 h6 =>
VL (lift1 (aun .not) v74_5) fun v75_7 =>
pgk false h6 (fun g8 k9 => pld h6 (some 16) (fun v77_10 h11 =>
k9 v77_10 h11) (.ptr 68 0)) (fun g12 v13_13 h14 =>
pgk false h14 (fun g15 k16 => k16 x2 h14) (fun g17 v14_18 h19 =>
pgk false h19 (fun g20 k21 => pcal Tryd.prog 44 79 h19 (fun v79_22 h23 =>
k21 v79_22 h23) [v13_13, v14_18]) (fun g24 v15_25 h26 =>
pgk false h26 (fun g27 k28 => VL (lift1 (aun .not) v15_25) fun v80_29 =>
k28 v80_29 h26) (fun g30 v16_31 h32 =>
VL (vpick g30 (.bool true) v16_31) fun v81_33 =>
pcond (
VL (vbld (vfill (vi .u8 (List.replicate 16 0)) [])) fun v82_34 =>
pst h32 16 (cellsV v82_34) (fun u35 h36 =>
VL (pcellV h36 (some 16) (.ptr 70 0)) fun r37 =>
Rt h36 (.tup [r37, (.int .i64 1)])) (.ptr 70 0)) (
pld h32 (some 16) (fun v83_38 h39 =>
pld h39 (some 16) (fun v84_40 h41 =>
pcal Tryd.prog 45 86 h41 (fun v86_42 h43 =>
pst h43 16 (cellsV v86_42) (fun u44 h45 =>
VL (pcellV h45 (some 16) (.ptr 70 0)) fun r46 =>
Rt h45 (.tup [r46, (.int .i64 0)])) (.ptr 70 0)) [v83_38, v84_40, x2]) (.ptr 68 0)) (.ptr 67 0)) v81_33) g24) g17) g12) v75_7) [v72_3, x2]) (.ptr 67 0)
theorem impl_ThenPlaces_f {x0 x1 x2 : V} : Prt Tryd.prog 23 [x0, x1, x2] (impl_ThenPlaces_F x0 x1 x2) := pfun (fn := Tryd.f23) (m := [.s, .s, .s, .s, .s]) (c := 3 ≤ 23) rfl (fun h0 Rt => by kernel_rfl) (by decide)

def spec_l08DrawWord_F (x0 x1 : V) (hi : Hp) (Rt : Hp → V → Prop) : Prop :=
VL (lift2 (abin .add) x1 (.int .i64 1)) fun v74_0 =>
pcal Tryd.prog 39 75 hi (fun v75_1 h2 =>
LP [5, 6] [0] (fun w3 l4 h5 N6 =>
VL (lift2 (abin .gtr) (w3.getD 1 .und) (.int .i64 0)) fun v77_7 =>
pcond (
pcal Tryd.prog 39 81 h5 (fun v81_8 h9 =>
VL (lift2 (abin .add) v81_8 (.int .i64 1)) fun v85_10 =>
VL (vslT (.str [120, 121, 88, 89]) (some v81_8) (some v85_10)) fun v86_11 =>
VL (lift2 (abin .add) (w3.getD 0 .und) v86_11) fun v87_12 =>
VL (lift2 (abin .sub) (w3.getD 1 .und) (.int .i64 1)) fun v79_13 =>
N6 [v87_12, v79_13] [(l4.getD 0 .und)] h9) [(l4.getD 0 .und), (.int .i64 4)]) (
JN (fun k14 =>
pcal Tryd.prog 39 89 h5 (fun v89_17 h18 =>
VL (lift2 (abin .eql) v89_17 (.int .i64 0)) fun v91_19 =>
pcond (
VL (lift2 (abin .add) (w3.getD 0 .und) (.str [122])) fun v93_20 =>
k14 [v93_20] h18) (
VL (lift2 (abin .eql) v89_17 (.int .i64 1)) fun v95_21 =>
pcond (
pcal Tryd.prog 43 96 h18 (fun v96_22 h23 =>
k14 [v96_22] h23) [(.str [120, 121]), (.int .i64 31)]) (
k14 [(w3.getD 0 .und)] h18) v95_21) v91_19) [(l4.getD 0 .und), (.int .i64 60)]) fun o15 h16 =>
Rt h16 (o15.getD 0 .und)) v77_7) [(.str []), v75_1] [x0] h2) [x0, v74_0]
theorem spec_l08DrawWord_f {x0 x1 : V} : Prt Tryd.prog 24 [x0, x1] (spec_l08DrawWord_F x0 x1) := pfun (fn := Tryd.f24) (m := [.s, .s, .s, .s, .l [5, 6] [0], .s, .s, .s, .s, .j [5], .s, .s, .s, .s]) (c := 2 ≤ 34) rfl (fun h0 Rt => by kernel_rfl) (by decide)

def spec_l01From_F (x0 : V) (hi : Hp) (Rt : Hp → V → Prop) : Prop :=
VL (vlenS x0) fun v71_0 =>
VL (lift1 (acvi .u64) v71_0) fun v72_1 =>
VL (lift2 (abin .add) (.int .u64 8117) v72_1) fun v73_2 =>
VL (vbld (vfill [.nils, (.int .i64 0), (.int .u64 0)] [(0, 1, x0), (2, 1, v73_2)])) fun v74_3 =>
pbox hi 75 67 (cellsV v74_3) fun h4 =>
LP [4] [0, 3] (fun w5 l6 h7 N8 =>
VL (vlenS (l6.getD 0 .und)) fun v78_9 =>
VL (lift2 (abin .lss) (w5.getD 0 .und) v78_9) fun v79_10 =>
pgk true h7 (fun g11 k12 => k12 (w5.getD 0 .und) h7) (fun g13 v17_14 h15 =>
pgk true h15 (fun g16 k17 => VL (lift2 (abin .lss) v17_14 (.int .i64 4096)) fun v82_18 =>
k17 v82_18 h15) (fun g19 v18_20 h21 =>
VL (vpick g19 v18_20 (.bool false)) fun v83_22 =>
pcond (
VL (vfa 0 (l6.getD 1 .und)) fun v88_23 =>
VL (vfa 2 v88_23) fun v89_24 =>
pld h21 none (fun v90_25 h26 =>
VL (lift2 (abin .mul) v90_25 (.int .u64 1099511628211)) fun v91_27 =>
VL (vixS 1 (l6.getD 0 .und) (w5.getD 0 .und)) fun v94_28 =>
pld h26 none (fun v95_29 h30 =>
VL (lift1 (acvi .u64) v95_29) fun v96_31 =>
VL (lift2 (abin .add) v91_27 v96_31) fun v97_32 =>
VL (lift2 (abin .add) v97_32 (.int .u64 23)) fun v98_33 =>
VL (vfa 0 (l6.getD 1 .und)) fun v99_34 =>
VL (vfa 2 v99_34) fun v100_35 =>
pst h30 1 (cellsV v98_33) (fun u36 h37 =>
VL (lift2 (abin .add) (w5.getD 0 .und) (.int .i64 1)) fun v85_38 =>
N8 [v85_38] [(l6.getD 0 .und), (l6.getD 1 .und)] h37) v100_35) v94_28) v89_24) (
Rt h21 (l6.getD 1 .und)) v83_22) g13) v79_10) [(.int .i64 0)] [x0, (.ptr 75 0)] h4
theorem spec_l01From_f {x0 : V} : Prt Tryd.prog 25 [x0] (spec_l01From_F x0) := pfun (fn := Tryd.f25) (m := [.s, .s, .s, .s, .l [4] [0, 3], .s, .s, .s, .s]) (c := 1 ≤ 38) rfl (fun h0 Rt => by kernel_rfl) (by decide)

def impl_reduced_F (x0 : V) (hi : Hp) (Rt : Hp → V → Prop) : Prop :=
pmks hi 70 5 0 0 (fun h0 =>
VL (vlenT x0) fun v72_1 =>
LP [3, 9] [0, 8] (fun w2 l3 h4 N5 =>
VL (lift2 (abin .lss) (w2.getD 1 .und) (l3.getD 1 .und)) fun v74_6 =>
pcond (
JN (fun k7 =>
VL (vlenS (w2.getD 0 .und)) fun v77_10 =>
VL (lift2 (abin .gtr) v77_10 (.int .i64 0)) fun v79_11 =>
pgk true h4 (fun g12 k13 => k13 (w2.getD 0 .und) h4) (fun g14 v17_15 h16 =>
pgk true h16 (fun g17 k18 => k18 v77_10 h16) (fun g19 v18_20 h21 =>
pgk true h21 (fun g22 k23 => VL (lift2 (abin .sub) v18_20 (.int .i64 1)) fun v83_24 =>
k23 v83_24 h21) (fun g25 v19_26 h27 =>
pgk true h27 (fun g28 k29 => VL (vixS 1 v17_15 v19_26) fun v84_30 =>
k29 v84_30 h27) (fun g31 v20_32 h33 =>
pgk true h33 (fun g34 k35 => pld h33 none (fun v85_36 h37 =>
k35 v85_36 h37) v20_32) (fun g38 v21_39 h40 =>
pgk true h40 (fun g41 k42 => k42 (l3.getD 0 .und) h40) (fun g43 v22_44 h45 =>
pgk true h45 (fun g46 k47 => k47 (w2.getD 1 .und) h45) (fun g48 v23_49 h50 =>
pgk true h50 (fun g51 k52 => VL (vixT v22_44 v23_49) fun v88_53 =>
k52 v88_53 h50) (fun g54 v24_55 h56 =>
pgk true h56 (fun g57 k58 => pcalp Tryd.prog 46 89 h56 (fun v89_59 h60 =>
k58 v89_59 h60) [v24_55]) (fun g61 v25_62 h63 =>
pgk true h63 (fun g64 k65 => VL (lift2 (abin .eql) v21_39 v25_62) fun v90_66 =>
k65 v90_66 h63) (fun g67 v26_68 h69 =>
VL (vpick g67 v26_68 (.bool false)) fun v91_70 =>
pcond (
VL (lift2 (abin .sub) v77_10 (.int .i64 1)) fun v94_71 =>
VL (vslS 1 (w2.getD 0 .und) none (some v94_71)) fun v95_72 =>
k7 [(l3.getD 0 .und), v95_72, (l3.getD 1 .und), (w2.getD 1 .und)] h69) (
VL (vixT (l3.getD 0 .und) (w2.getD 1 .und)) fun v99_73 =>
pmks h69 100 5 1 1 (fun h74 =>
papp h74 (fun m77 s78 => papV 5 1 1 101 h74 (fun v101_75 h76 =>
k7 [(l3.getD 0 .und), v101_75, (l3.getD 1 .und), (w2.getD 1 .und)] h76) m77 s78 (w2.getD 0 .und)) (pavs h74 (w2.getD 0 .und) []) (preadS 1 h74 (.rf 100 0 1))) (vfill [(.int .u8 0)] [(0, 1, v99_73)])) v91_70) g61) g54) g48) g43) g38) g31) g25) g19) g14) v79_11) fun o8 h9 =>
VL (lift2 (abin .add) (o8.getD 3 .und) (.int .i64 1)) fun v102_79 =>
N5 [(o8.getD 1 .und), v102_79] [(o8.getD 0 .und), (o8.getD 2 .und)] h9) (
VL (vb2s h4 (w2.getD 0 .und)) fun v104_80 =>
Rt h4 v104_80) v74_6) [(.rf 70 0 0), (.int .i64 0)] [x0, v72_1] h0) (vfill [] [])
theorem impl_reduced_f {x0 : V} : Prt Tryd.prog 26 [x0] (impl_reduced_F x0) := pfun (fn := Tryd.f26) (m := [.s, .s, .s, .s, .l [3, 9] [0, 8], .s, .s, .j [0, 3, 8, 9], .s, .s, .s, .s]) (c := 1 ≤ 41) rfl (fun h0 Rt => by kernel_rfl) (by decide)

def spec_l08Word_F (x0 : V) (hi : Hp) (Rt : Hp → V → Prop) : Prop :=
LP [3] [0] (fun w0 l1 h2 N3 =>
VL (vlenT (l1.getD 0 .und)) fun v70_4 =>
VL (lift2 (abin .lss) (w0.getD 0 .und) v70_4) fun v71_5 =>
pcond (
VL (vixT (l1.getD 0 .und) (w0.getD 0 .und)) fun v76_6 =>
pcal Tryd.prog 47 77 h2 (fun v77_7 h8 =>
VL (lift1 (aun .not) v77_7) fun v78_9 =>
pcond (
Rt h8 (.bool false)) (
VL (lift2 (abin .add) (w0.getD 0 .und) (.int .i64 1)) fun v73_10 =>
N3 [v73_10] [(l1.getD 0 .und)] h8) v78_9) [v76_6]) (
VL (vlenT (l1.getD 0 .und)) fun v80_11 =>
VL (lift2 (abin .leq) v80_11 (.int .i64 60)) fun v81_12 =>
Rt h2 v81_12) v71_5) [(.int .i64 0)] [x0] hi
theorem spec_l08Word_f {x0 : V} : Prt Tryd.prog 27 [x0] (spec_l08Word_F x0) := pfun (fn := Tryd.f27) (m := [.s, .s, .s, .l [3] [0], .s, .s, .s, .s, .s, .s]) (c := 1 ≤ 18) rfl (fun h0 Rt => by kernel_rfl) (by decide)

def spec_l08Reduce_F (x0 : V) (hi : Hp) (Rt : Hp → V → Prop) : Prop :=
pmks hi 70 5 0 0 (fun h0 =>
LP [3, 4] [0] (fun w1 l2 h3 N4 =>
VL (vlenT (l2.getD 0 .und)) fun v73_5 =>
VL (lift2 (abin .lss) (w1.getD 1 .und) v73_5) fun v74_6 =>
pcond (
JN (fun k7 =>
VL (vlenS (w1.getD 0 .und)) fun v78_10 =>
VL (lift2 (abin .gtr) v78_10 (.int .i64 0)) fun v80_11 =>
pgk true h3 (fun g12 k13 => k13 (w1.getD 0 .und) h3) (fun g14 v18_15 h16 =>
pgk true h16 (fun g17 k18 => k18 v78_10 h16) (fun g19 v19_20 h21 =>
pgk true h21 (fun g22 k23 => VL (lift2 (abin .sub) v19_20 (.int .i64 1)) fun v84_24 =>
k23 v84_24 h21) (fun g25 v20_26 h27 =>
pgk true h27 (fun g28 k29 => VL (vixS 1 v18_15 v20_26) fun v85_30 =>
k29 v85_30 h27) (fun g31 v21_32 h33 =>
pgk true h33 (fun g34 k35 => pld h33 none (fun v86_36 h37 =>
k35 v86_36 h37) v21_32) (fun g38 v22_39 h40 =>
pgk true h40 (fun g41 k42 => k42 (l2.getD 0 .und) h40) (fun g43 v23_44 h45 =>
pgk true h45 (fun g46 k47 => k47 (w1.getD 1 .und) h45) (fun g48 v24_49 h50 =>
pgk true h50 (fun g51 k52 => VL (vixT v23_44 v24_49) fun v89_53 =>
k52 v89_53 h50) (fun g54 v25_55 h56 =>
pgk true h56 (fun g57 k58 => pcalp Tryd.prog 48 90 h56 (fun v90_59 h60 =>
k58 v90_59 h60) [v25_55]) (fun g61 v26_62 h63 =>
pgk true h63 (fun g64 k65 => VL (lift2 (abin .eql) v22_39 v26_62) fun v91_66 =>
k65 v91_66 h63) (fun g67 v27_68 h69 =>
VL (vpick g67 v27_68 (.bool false)) fun v92_70 =>
pcond (
VL (lift2 (abin .sub) v78_10 (.int .i64 1)) fun v95_71 =>
VL (vslS 1 (w1.getD 0 .und) none (some v95_71)) fun v96_72 =>
k7 [(l2.getD 0 .und), v96_72, (w1.getD 1 .und)] h69) (
VL (vixT (l2.getD 0 .und) (w1.getD 1 .und)) fun v100_73 =>
pmks h69 101 5 1 1 (fun h74 =>
papp h74 (fun m77 s78 => papV 5 1 1 102 h74 (fun v102_75 h76 =>
k7 [(l2.getD 0 .und), v102_75, (w1.getD 1 .und)] h76) m77 s78 (w1.getD 0 .und)) (pavs h74 (w1.getD 0 .und) []) (preadS 1 h74 (.rf 101 0 1))) (vfill [(.int .u8 0)] [(0, 1, v100_73)])) v92_70) g61) g54) g48) g43) g38) g31) g25) g19) g14) v80_11) fun o8 h9 =>
VL (lift2 (abin .add) (o8.getD 2 .und) (.int .i64 1)) fun v76_79 =>
N4 [(o8.getD 1 .und), v76_79] [(o8.getD 0 .und)] h9) (
VL (vb2s h3 (w1.getD 0 .und)) fun v104_80 =>
Rt h3 v104_80) v74_6) [(.rf 70 0 0), (.int .i64 0)] [x0] h0) (vfill [] [])
theorem spec_l08Reduce_f {x0 : V} : Prt Tryd.prog 28 [x0] (spec_l08Reduce_F x0) := pfun (fn := Tryd.f28) (m := [.s, .s, .s, .s, .l [3, 4] [0], .s, .s, .j [0, 3, 4], .s, .s, .s]) (c := 1 ≤ 41) rfl (fun h0 Rt => by kernel_rfl) (by decide)

def impl_inverted_F (x0 : V) (hi : Hp) (Rt : Hp → V → Prop) : Prop :=
pmks hi 69 5 0 0 (fun h0 =>
VL (vlenT x0) fun v71_1 =>
VL (lift2 (abin .sub) v71_1 (.int .i64 1)) fun v72_2 =>
LP [3, 4] [0] (fun w3 l4 h5 N6 =>
VL (lift2 (abin .geq) (w3.getD 1 .und) (.int .i64 0)) fun v74_7 =>
pcond (
VL (vixT (l4.getD 0 .und) (w3.getD 1 .und)) fun v80_8 =>
pcal Tryd.prog 46 81 h5 (fun v81_9 h10 =>
pmks h10 82 5 1 1 (fun h11 =>
papp h11 (fun m14 s15 => papV 5 1 1 83 h11 (fun v83_12 h13 =>
VL (lift2 (abin .sub) (w3.getD 1 .und) (.int .i64 1)) fun v76_16 =>
N6 [v83_12, v76_16] [(l4.getD 0 .und)] h13) m14 s15 (w3.getD 0 .und)) (pavs h11 (w3.getD 0 .und) []) (preadS 1 h11 (.rf 82 0 1))) (vfill [(.int .u8 0)] [(0, 1, v81_9)])) [v80_8]) (
VL (vb2s h5 (w3.getD 0 .und)) fun v85_17 =>
Rt h5 v85_17) v74_7) [(.rf 69 0 0), v72_2] [x0] h0) (vfill [] [])
theorem impl_inverted_f {x0 : V} : Prt Tryd.prog 29 [x0] (impl_inverted_F x0) := pfun (fn := Tryd.f29) (m := [.s, .s, .s, .s, .l [3, 4] [0], .s, .s, .s, .s]) (c := 1 ≤ 22) rfl (fun h0 Rt => by kernel_rfl) (by decide)

def spec_l08Inverse_F (x0 : V) (hi : Hp) (Rt : Hp → V → Prop) : Prop :=
pmks hi 69 5 0 0 (fun h0 =>
VL (vlenT x0) fun v71_1 =>
VL (lift2 (abin .sub) v71_1 (.int .i64 1)) fun v72_2 =>
LP [3, 4] [0] (fun w3 l4 h5 N6 =>
VL (lift2 (abin .geq) (w3.getD 1 .und) (.int .i64 0)) fun v74_7 =>
pcond (
VL (vixT (l4.getD 0 .und) (w3.getD 1 .und)) fun v80_8 =>
pcal Tryd.prog 48 81 h5 (fun v81_9 h10 =>
pmks h10 82 5 1 1 (fun h11 =>
papp h11 (fun m14 s15 => papV 5 1 1 83 h11 (fun v83_12 h13 =>
VL (lift2 (abin .sub) (w3.getD 1 .und) (.int .i64 1)) fun v76_16 =>
N6 [v83_12, v76_16] [(l4.getD 0 .und)] h13) m14 s15 (w3.getD 0 .und)) (pavs h11 (w3.getD 0 .und) []) (preadS 1 h11 (.rf 82 0 1))) (vfill [(.int .u8 0)] [(0, 1, v81_9)])) [v80_8]) (
VL (vb2s h5 (w3.getD 0 .und)) fun v85_17 =>
Rt h5 v85_17) v74_7) [(.rf 69 0 0), v72_2] [x0] h0) (vfill [] [])
theorem spec_l08Inverse_f {x0 : V} : Prt Tryd.prog 30 [x0] (spec_l08Inverse_F x0) := pfun (fn := Tryd.f30) (m := [.s, .s, .s, .s, .l [3, 4] [0], .s, .s, .s, .s]) (c := 1 ≤ 22) rfl (fun h0 Rt => by kernel_rfl) (by decide)

def strings_Trim_F (x0 x1 : V) (hi : Hp) (Rt : Hp → V → Prop) : Prop :=
VL (lift2 (abin .eql) x0 (.str [])) fun v72_0 =>
pgk false hi (fun g1 k2 => k2 x1 hi) (fun g3 v10_4 h5 =>
pgk false h5 (fun g6 k7 => VL (lift2 (abin .eql) v10_4 (.str [])) fun v75_8 =>
k7 v75_8 h5) (fun g9 v11_10 h11 =>
VL (vpick g9 (.bool true) v11_10) fun v76_12 =>
pcond (
Rt h11 x0) (
VL (vlenT x1) fun v79_13 =>
VL (lift2 (abin .eql) v79_13 (.int .i64 1)) fun v80_14 =>
pgk true h11 (fun g15 k16 => k16 x1 h11) (fun g17 v18_18 h19 =>
pgk true h19 (fun g20 k21 => VL (vixT v18_18 (.int .i64 0)) fun v83_22 =>
k21 v83_22 h19) (fun g23 v19_24 h25 =>
pgk true h25 (fun g26 k27 => VL (lift2 (abin .lss) v19_24 (.int .u8 128)) fun v84_28 =>
k27 v84_28 h25) (fun g29 v20_30 h31 =>
VL (vpick g29 v20_30 (.bool false)) fun v85_32 =>
pcond (
VL (vixT x1 (.int .i64 0)) fun v88_33 =>
VL (vixT x1 (.int .i64 0)) fun v91_34 =>
pcal Tryd.prog 50 89 h31 (fun v89_35 h36 =>
pcal Tryd.prog 49 92 h36 (fun v92_37 h38 =>
Rt h38 v92_37) [v89_35, v91_34]) [x0, v88_33]) (
pcal Tryd.prog 51 95 h31 (fun v95_39 h40 =>
VL (vext 0 v95_39) fun v96_41 =>
VL (vext 1 v95_39) fun v97_42 =>
palloc h40 69 72 (vb (List.replicate 256 false)) fun h43 =>
pst h43 256 (cellsV v96_41) (fun u44 h45 =>
pcond (
pcal Tryd.prog 53 100 h45 (fun v100_46 h47 =>
pcal Tryd.prog 52 101 h47 (fun v101_48 h49 =>
Rt h49 v101_48) [v100_46, (.ptr 69 0)]) [x0, (.ptr 69 0)]) (
pcal Tryd.prog 55 104 h45 (fun v104_50 h51 =>
pcal Tryd.prog 54 106 h51 (fun v106_52 h53 =>
Rt h53 v106_52) [v104_50, x1]) [x0, x1]) v97_42) (.ptr 69 0)) [x1]) v85_32) g23) g17) v80_14) v76_12) g3) v72_0
theorem strings_Trim_f {x0 x1 : V} : Prt Tryd.prog 31 [x0, x1] (strings_Trim_F x0 x1) := pfun (fn := Tryd.f31) (m := [.s, .s, .s, .s, .s, .s, .s, .s, .s, .s, .s, .s]) (c := 2 ≤ 43) rfl (fun h0 Rt => by kernel_rfl) (by decide)

def spec_l08DrawDessin_F (x0 : V) (hi : Hp) (Rt : Hp → V → Prop) : Prop :=
palloc hi 66 31 ([(.int .i64 0)] ++ (vi .u8 (List.replicate 32 0))) fun h0 =>
pmks h0 69 2 4 4 (fun h1 =>
pcal Tryd.prog 40 70 h1 (fun v70_2 h3 =>
pcal Tryd.prog 56 71 h3 (fun v71_4 h5 =>
pst h5 33 (cellsV v71_4) (fun u6 h7 =>
VL (pcellV h7 (some 33) (.ptr 66 0)) fun r8 =>
Rt h7 r8) (.ptr 66 0)) [x0, v70_2]) [x0, (.rf 69 0 4)]) (vfill (vi .i64 (List.replicate 4 0)) [(0, 1, (.int .i64 4)), (1, 1, (.int .i64 6)), (2, 1, (.int .i64 9)), (3, 1, (.int .i64 12))])
theorem spec_l08DrawDessin_f {x0 : V} : Prt Tryd.prog 32 [x0] (spec_l08DrawDessin_F x0) := pfun (fn := Tryd.f32) (m := [.s, .s]) (c := 1 ≤ 8) rfl (fun h0 Rt => by kernel_rfl) (by decide)

def impl_IsDessin_F (x0 : V) (hi : Hp) (Rt : Hp → V → Prop) : Prop :=
pbox hi 65 31 (cellsV x0) fun h0 =>
pld h0 none (fun v69_1 h2 =>
pld h2 (some 16) (fun v71_3 h4 =>
pcal Tryd.prog 44 73 h4 (fun v73_5 h6 =>
pgk true h6 (fun g7 k8 => k8 (.ptr 65 17) h6) (fun g9 v11_10 h11 =>
pgk true h11 (fun g12 k13 => pld h11 (some 16) (fun v76_14 h15 =>
k13 v76_14 h15) v11_10) (fun g16 v12_17 h18 =>
pgk true h18 (fun g19 k20 => k20 v69_1 h18) (fun g21 v13_22 h23 =>
pgk true h23 (fun g24 k25 => pcal Tryd.prog 44 78 h23 (fun v78_26 h27 =>
k25 v78_26 h27) [v12_17, v13_22]) (fun g28 v14_29 h30 =>
VL (vpick g28 v14_29 (.bool false)) fun v79_31 =>
pgk true h30 (fun g32 k33 => k33 v69_1 h30) (fun g34 v17_35 h36 =>
pgk true h36 (fun g37 k38 => k38 (.ptr 65 1) h36) (fun g39 v18_40 h41 =>
pgk true h41 (fun g42 k43 => pld h41 (some 16) (fun v83_44 h45 =>
k43 v83_44 h45) v18_40) (fun g46 v19_47 h48 =>
pgk true h48 (fun g49 k50 => k50 (.ptr 65 17) h48) (fun g51 v20_52 h53 =>
pgk true h53 (fun g54 k55 => pld h53 (some 16) (fun v85_56 h57 =>
k55 v85_56 h57) v20_52) (fun g58 v21_59 h60 =>
pgk true h60 (fun g61 k62 => pmks h60 86 29 32 2 (fun h63 =>
k62 (.rf 86 0 2) h63) (vfill (vi .u8 (List.replicate 32 0)) [(0, 16, v19_47), (16, 16, v21_59)])) (fun g64 v22_65 h66 =>
pgk true h66 (fun g67 k68 => pcal Tryd.prog 57 87 h66 (fun v87_69 h70 =>
k68 v87_69 h70) [v17_35, v22_65]) (fun g71 v23_72 h73 =>
pgk true h73 (fun g74 k75 => k75 v69_1 h73) (fun g76 v24_77 h78 =>
pgk true h78 (fun g79 k80 => VL (lift2 (abin .eql) v23_72 v24_77) fun v89_81 =>
k80 v89_81 h78) (fun g82 v25_83 h84 =>
VL (vpick g82 v25_83 (.bool false)) fun v90_85 =>
Rt h84 v90_85) g76) g71) g64) g58) g51) g46) g39) g34) v79_31) g21) g16) g9) v73_5) [v71_3, v69_1]) (.ptr 65 1)) (.ptr 65 0)
theorem impl_IsDessin_f {x0 : V} : Prt Tryd.prog 33 [x0] (impl_IsDessin_F x0) := pfun (fn := Tryd.f33) (m := [.s, .s, .s]) (c := 1 ≤ 27) rfl (fun h0 Rt => by kernel_rfl) (by decide)

def impl_wordPlaces_F (x0 x1 : V) (hi : Hp) (Rt : Hp → V → Prop) : Prop :=
pbox hi 66 31 (cellsV x0) fun h0 =>
palloc h0 68 29 (vi .u8 (List.replicate 16 0)) fun h1 =>
pld h1 none (fun v73_2 h3 =>
pcal Tryd.prog 58 74 h3 (fun v74_4 h5 =>
palloc h5 69 29 (vi .u8 (List.replicate 16 0)) fun h6 =>
pst h6 16 (cellsV v74_4) (fun u7 h8 =>
VL (vlenT x1) fun v76_9 =>
LP [13] [1, 2, 4, 5, 12] (fun w10 l11 h12 N13 =>
VL (lift2 (abin .lss) (w10.getD 0 .und) (l11.getD 4 .und)) fun v78_14 =>
pcond (
VL (vfa 1 (l11.getD 1 .und)) fun v80_15 =>
pld h12 (some 16) (fun v81_16 h17 =>
palloc h17 71 29 (vi .u8 (List.replicate 16 0)) fun h18 =>
pst h18 16 (cellsV v81_16) (fun u19 h20 =>
JN (fun k21 =>
VL (vixT (l11.getD 0 .und) (w10.getD 0 .und)) fun v84_24 =>
VL (lift2 (abin .or) v84_24 (.int .u8 32)) fun v85_25 =>
VL (lift2 (abin .eql) v85_25 (.int .u8 121)) fun v86_26 =>
pcond (
VL (vfa 17 (l11.getD 1 .und)) fun v87_27 =>
pld h20 (some 16) (fun v88_28 h29 =>
pst h29 16 (cellsV v88_28) (fun u30 h31 =>
k21 [(l11.getD 0 .und), (l11.getD 1 .und), (l11.getD 2 .und), (l11.getD 3 .und), (w10.getD 0 .und), (.ptr 71 0), (l11.getD 4 .und), (w10.getD 0 .und)] h31) (.ptr 71 0)) v87_27) (
k21 [(l11.getD 0 .und), (l11.getD 1 .und), (l11.getD 2 .und), (l11.getD 3 .und), (w10.getD 0 .und), (.ptr 71 0), (l11.getD 4 .und), (w10.getD 0 .und)] h20) v86_26) fun o22 h23 =>
JN (fun k32 =>
VL (vixT (o22.getD 0 .und) (o22.getD 4 .und)) fun v91_35 =>
VL (lift2 (abin .lss) v91_35 (.int .u8 97)) fun v92_36 =>
pcond (
pld h23 (some 16) (fun v93_37 h38 =>
VL (vfa 0 (o22.getD 1 .und)) fun v94_39 =>
pld h38 none (fun v95_40 h41 =>
pcal Tryd.prog 59 96 h41 (fun v96_42 h43 =>
pst h43 16 (cellsV v96_42) (fun u44 h45 =>
k32 [(o22.getD 0 .und), (o22.getD 1 .und), (o22.getD 2 .und), (o22.getD 3 .und), (o22.getD 5 .und), (o22.getD 6 .und), (o22.getD 7 .und)] h45) (o22.getD 5 .und)) [v93_37, v95_40]) v94_39) (o22.getD 5 .und)) (
k32 [(o22.getD 0 .und), (o22.getD 1 .und), (o22.getD 2 .und), (o22.getD 3 .und), (o22.getD 5 .und), (o22.getD 6 .und), (o22.getD 7 .und)] h23) v92_36) fun o33 h34 =>
pld h34 (some 16) (fun v97_46 h47 =>
pld h47 (some 16) (fun v98_48 h49 =>
VL (vfa 0 (o33.getD 1 .und)) fun v99_50 =>
pld h49 none (fun v100_51 h52 =>
pcal Tryd.prog 45 101 h52 (fun v101_53 h54 =>
pst h54 16 (cellsV v101_53) (fun u55 h56 =>
VL (lift2 (abin .add) (o33.getD 6 .und) (.int .i64 1)) fun v102_57 =>
N13 [v102_57] [(o33.getD 0 .und), (o33.getD 1 .und), (o33.getD 2 .und), (o33.getD 3 .und), (o33.getD 5 .und)] h56) (o33.getD 3 .und)) [v97_46, v98_48, v100_51]) v99_50) (o33.getD 4 .und)) (o33.getD 3 .und)) (.ptr 71 0)) v80_15) (
pld h12 (some 16) (fun v103_58 h59 =>
pst h59 16 (cellsV v103_58) (fun u60 h61 =>
VL (pcellV h61 (some 16) (l11.getD 2 .und)) fun r62 =>
Rt h61 r62) (l11.getD 2 .und)) (l11.getD 3 .und)) v78_14) [(.int .i64 0)] [x1, (.ptr 66 0), (.ptr 68 0), (.ptr 69 0), v76_9] h8) (.ptr 69 0)) [v73_2]) (.ptr 66 0)
theorem impl_wordPlaces_f {x0 x1 : V} : Prt Tryd.prog 34 [x0, x1] (impl_wordPlaces_F x0 x1) := pfun (fn := Tryd.f34) (m := [.s, .s, .s, .s, .l [13] [1, 2, 4, 5, 12], .s, .s, .s, .s, .s, .j [1, 2, 4, 5, 6, 7, 12, 13], .s, .j [1, 2, 4, 5, 7, 12, 13], .s, .s]) (c := 2 ≤ 40) rfl (fun h0 Rt => by kernel_rfl) (by decide)

def spec_l01Is_F (x0 : V) (hi : Hp) (Rt : Hp → V → Prop) : Prop :=
pbox hi 65 31 (cellsV x0) fun h0 =>
pld h0 (some 16) (fun v68_1 h2 =>
pld h2 none (fun v70_3 h4 =>
pcal Tryd.prog 60 71 h4 (fun v71_5 h6 =>
pgk true h6 (fun g7 k8 => k8 (.ptr 65 17) h6) (fun g9 v9_10 h11 =>
pgk true h11 (fun g12 k13 => pld h11 (some 16) (fun v74_14 h15 =>
k13 v74_14 h15) v9_10) (fun g16 v10_17 h18 =>
pgk true h18 (fun g19 k20 => k20 (.ptr 65 0) h18) (fun g21 v11_22 h23 =>
pgk true h23 (fun g24 k25 => pld h23 none (fun v76_26 h27 =>
k25 v76_26 h27) v11_22) (fun g28 v12_29 h30 =>
pgk true h30 (fun g31 k32 => pcal Tryd.prog 60 77 h30 (fun v77_33 h34 =>
k32 v77_33 h34) [v10_17, v12_29]) (fun g35 v13_36 h37 =>
VL (vpick g35 v13_36 (.bool false)) fun v78_38 =>
pgk true h37 (fun g39 k40 => k40 (.ptr 65 0) h37) (fun g41 v16_42 h43 =>
pgk true h43 (fun g44 k45 => pld h43 none (fun v81_46 h47 =>
k45 v81_46 h47) v16_42) (fun g48 v17_49 h50 =>
pgk true h50 (fun g51 k52 => k52 (.ptr 65 1) h50) (fun g53 v18_54 h55 =>
pgk true h55 (fun g56 k57 => pld h55 (some 16) (fun v83_58 h59 =>
k57 v83_58 h59) v18_54) (fun g60 v19_61 h62 =>
pgk true h62 (fun g63 k64 => k64 (.ptr 65 17) h62) (fun g65 v20_66 h67 =>
pgk true h67 (fun g68 k69 => pld h67 (some 16) (fun v85_70 h71 =>
k69 v85_70 h71) v20_66) (fun g72 v21_73 h74 =>
pgk true h74 (fun g75 k76 => pcal Tryd.prog 61 86 h74 (fun v86_77 h78 =>
k76 v86_77 h78) [v17_49, v19_61, v21_73]) (fun g79 v22_80 h81 =>
VL (vpick g79 v22_80 (.bool false)) fun v87_82 =>
Rt h81 v87_82) g72) g65) g60) g53) g48) g41) v78_38) g28) g21) g16) g9) v71_5) [v68_1, v70_3]) (.ptr 65 0)) (.ptr 65 1)
theorem spec_l01Is_f {x0 : V} : Prt Tryd.prog 35 [x0] (spec_l01Is_F x0) := pfun (fn := Tryd.f35) (m := [.s, .s]) (c := 1 ≤ 24) rfl (fun h0 Rt => by kernel_rfl) (by decide)

def spec_l08Places_F (x0 x1 : V) (hi : Hp) (Rt : Hp → V → Prop) : Prop :=
pbox hi 66 31 (cellsV x0) fun h0 =>
palloc h0 68 29 (vi .u8 (List.replicate 16 0)) fun h1 =>
pld h1 none (fun v74_2 h3 =>
pldb h3 none (fun v77_4 h5 =>
pcalp Tryd.prog 62 75 h5 (fun v75_6 h7 =>
palloc h7 69 29 (vi .u8 (List.replicate 16 0)) fun h8 =>
Rq (pavsP h8 (.ptr 69 0) [(.ptr 66 0)]) (pst h8 16 (cellsV v75_6) (fun u9 h10 =>
LP [7] [1, 2, 4, 5, 6] (fun w11 l12 h13 N14 =>
VL (vlenT (l12.getD 0 .und)) fun v80_15 =>
VL (lift2 (abin .lss) (w11.getD 0 .und) v80_15) fun v81_16 =>
pcond (
VL (vfa 1 (l12.getD 1 .und)) fun v84_17 =>
pld h13 (some 16) (fun v85_18 h19 =>
palloc h19 72 29 (vi .u8 (List.replicate 16 0)) fun h20 =>
pst h20 16 (cellsV v85_18) (fun u21 h22 =>
JN (fun k23 =>
VL (vixT (l12.getD 0 .und) (w11.getD 0 .und)) fun v88_26 =>
VL (lift2 (abin .eql) v88_26 (.int .u8 121)) fun v89_27 =>
pgk false h22 (fun g28 k29 => k29 (l12.getD 0 .und) h22) (fun g30 v27_31 h32 =>
pgk false h32 (fun g33 k34 => k34 (w11.getD 0 .und) h32) (fun g35 v28_36 h37 =>
pgk false h37 (fun g38 k39 => VL (vixT v27_31 v28_36) fun v93_40 =>
k39 v93_40 h37) (fun g41 v29_42 h43 =>
pgk false h43 (fun g44 k45 => VL (lift2 (abin .eql) v29_42 (.int .u8 89)) fun v94_46 =>
k45 v94_46 h43) (fun g47 v30_48 h49 =>
VL (vpick g47 (.bool true) v30_48) fun v95_50 =>
pcond (
VL (vfa 17 (l12.getD 1 .und)) fun v96_51 =>
pld h49 (some 16) (fun v97_52 h53 =>
pst h53 16 (cellsV v97_52) (fun u54 h55 =>
k23 [(l12.getD 0 .und), (l12.getD 1 .und), (l12.getD 2 .und), (l12.getD 3 .und), (l12.getD 4 .und), (w11.getD 0 .und), (.ptr 72 0)] h55) (.ptr 72 0)) v96_51) (
k23 [(l12.getD 0 .und), (l12.getD 1 .und), (l12.getD 2 .und), (l12.getD 3 .und), (l12.getD 4 .und), (w11.getD 0 .und), (.ptr 72 0)] h49) v95_50) g41) g35) g30) v89_27) fun o24 h25 =>
JN (fun k56 =>
VL (vixT (o24.getD 0 .und) (o24.getD 5 .und)) fun v100_59 =>
VL (lift2 (abin .eql) v100_59 (.int .u8 88)) fun v101_60 =>
pgk false h25 (fun g61 k62 => k62 (o24.getD 0 .und) h25) (fun g63 v39_64 h65 =>
pgk false h65 (fun g66 k67 => k67 (o24.getD 5 .und) h65) (fun g68 v40_69 h70 =>
pgk false h70 (fun g71 k72 => VL (vixT v39_64 v40_69) fun v105_73 =>
k72 v105_73 h70) (fun g74 v41_75 h76 =>
pgk false h76 (fun g77 k78 => VL (lift2 (abin .eql) v41_75 (.int .u8 89)) fun v106_79 =>
k78 v106_79 h76) (fun g80 v42_81 h82 =>
VL (vpick g80 (.bool true) v42_81) fun v107_83 =>
pcond (
pld h82 (some 16) (fun v108_84 h85 =>
pcal Tryd.prog 63 110 h85 (fun v110_86 h87 =>
pst h87 16 (cellsV v110_86) (fun u88 h89 =>
k56 [(o24.getD 0 .und), (o24.getD 1 .und), (o24.getD 2 .und), (o24.getD 3 .und), (o24.getD 4 .und), (o24.getD 5 .und), (o24.getD 6 .und)] h89) (o24.getD 6 .und)) [v108_84, (o24.getD 4 .und)]) (o24.getD 6 .und)) (
k56 [(o24.getD 0 .und), (o24.getD 1 .und), (o24.getD 2 .und), (o24.getD 3 .und), (o24.getD 4 .und), (o24.getD 5 .und), (o24.getD 6 .und)] h82) v107_83) g74) g68) g63) v101_60) fun o57 h58 =>
pld h58 (some 16) (fun v111_90 h91 =>
pld h91 (some 16) (fun v112_92 h93 =>
pcal Tryd.prog 64 114 h93 (fun v114_94 h95 =>
pst h95 16 (cellsV v114_94) (fun u96 h97 =>
VL (lift2 (abin .add) (o57.getD 5 .und) (.int .i64 1)) fun v83_98 =>
N14 [v83_98] [(o57.getD 0 .und), (o57.getD 1 .und), (o57.getD 2 .und), (o57.getD 3 .und), (o57.getD 4 .und)] h97) (o57.getD 3 .und)) [v111_90, v112_92, (o57.getD 4 .und)]) (o57.getD 6 .und)) (o57.getD 3 .und)) (.ptr 72 0)) v84_17) (
pld h13 (some 16) (fun v115_99 h100 =>
pst h100 16 (cellsV v115_99) (fun u101 h102 =>
VL (pcellV h102 (some 16) (l12.getD 2 .und)) fun r103 =>
Rt h102 r103) (l12.getD 2 .und)) (l12.getD 3 .und)) v81_16) [(.int .i64 0)] [x1, (.ptr 66 0), (.ptr 68 0), (.ptr 69 0), v77_4] h10) (.ptr 69 0))) [v74_2]) (.ptr 66 0) (.ptr 66 0)) (.ptr 66 0)
theorem spec_l08Places_f {x0 x1 : V} : Prt Tryd.prog 36 [x0, x1] (spec_l08Places_F x0 x1) := pfun (fn := Tryd.f36) (m := [.s, .s, .s, .s, .l [7] [1, 2, 4, 5, 6], .s, .s, .s, .s, .j [1, 2, 4, 5, 6, 7, 8], .s, .j [1, 2, 4, 5, 6, 7, 8], .s, .s]) (c := 2 ≤ 52) rfl (fun h0 Rt => by kernel_rfl) (by decide)

def impl_named_F (x0 x1 : V) (hi : Hp) (Rt : Hp → V → Prop) : Prop :=
pbox hi 66 31 (cellsV x0) fun h0 =>
VL (vbld (vfill (vb (List.replicate 16 false)) [])) fun v74_1 =>
palloc h0 69 54 (vb (List.replicate 16 false)) fun h2 =>
pst h2 16 (cellsV v74_1) (fun u3 h4 =>
VL (vixA 16 1 (.ptr 69 0) x1) fun v76_5 =>
pst h4 1 (cellsV (.bool true)) (fun u6 h7 =>
VL (lift1 (acvi .u8) x1) fun v78_8 =>
pmks h7 79 5 1 1 (fun h9 =>
LP [6, 7] [2, 5] (fun w10 l11 h12 N13 =>
VL (vlenS (w10.getD 0 .und)) fun v82_14 =>
VL (lift2 (abin .lss) (w10.getD 1 .und) v82_14) fun v83_15 =>
pcond (
VL (vixS 1 (w10.getD 0 .und) (w10.getD 1 .und)) fun v88_16 =>
pld h12 none (fun v89_17 h18 =>
VL (vfa 1 (l11.getD 0 .und)) fun v90_19 =>
VL (vixA 16 1 v90_19 v89_17) fun v91_20 =>
pld h18 none (fun v92_21 h22 =>
VL (vixS 1 (w10.getD 0 .und) (w10.getD 1 .und)) fun v95_23 =>
pld h22 none (fun v96_24 h25 =>
VL (vfa 17 (l11.getD 0 .und)) fun v97_26 =>
VL (vixA 16 1 v97_26 v96_24) fun v98_27 =>
pld h25 none (fun v99_28 h29 =>
pmks h29 100 5 2 2 (fun h30 =>
VL (vlenS (.rf 100 0 2)) fun v101_31 =>
LP [6, 38] [2, 5, 7, 36, 37] (fun w32 l33 h34 N35 =>
VL (lift2 (abin .lss) (w32.getD 1 .und) (l33.getD 4 .und)) fun v103_36 =>
pcond (
JN (fun k37 =>
VL (vixS 1 (l33.getD 3 .und) (w32.getD 1 .und)) fun v104_40 =>
pld h34 none (fun v105_41 h42 =>
VL (vixA 16 1 (l33.getD 1 .und) v105_41) fun v107_43 =>
pld h42 none (fun v108_44 h45 =>
VL (lift1 (aun .not) v108_44) fun v109_46 =>
pcond (
VL (vixA 16 1 (l33.getD 1 .und) v105_41) fun v111_47 =>
pst h45 1 (cellsV (.bool true)) (fun u48 h49 =>
pmks h49 114 5 1 1 (fun h50 =>
papp h50 (fun m53 s54 => papV 5 1 1 115 h50 (fun v115_51 h52 =>
k37 [(l33.getD 0 .und), (l33.getD 1 .und), v115_51, (l33.getD 2 .und), (l33.getD 3 .und), (l33.getD 4 .und), (w32.getD 1 .und)] h52) m53 s54 (w32.getD 0 .und)) (pavs h50 (w32.getD 0 .und) []) (preadS 1 h50 (.rf 114 0 1))) (vfill [(.int .u8 0)] [(0, 1, v105_41)])) v111_47) (
k37 [(l33.getD 0 .und), (l33.getD 1 .und), (w32.getD 0 .und), (l33.getD 2 .und), (l33.getD 3 .und), (l33.getD 4 .und), (w32.getD 1 .und)] h45) v109_46) v107_43) v104_40) fun o38 h39 =>
VL (lift2 (abin .add) (o38.getD 6 .und) (.int .i64 1)) fun v116_55 =>
N35 [(o38.getD 2 .und), v116_55] [(o38.getD 0 .und), (o38.getD 1 .und), (o38.getD 3 .und), (o38.getD 4 .und), (o38.getD 5 .und)] h39) (
VL (lift2 (abin .add) (l33.getD 2 .und) (.int .i64 1)) fun v85_56 =>
N13 [(w32.getD 0 .und), v85_56] [(l33.getD 0 .und), (l33.getD 1 .und)] h34) v103_36) [(w10.getD 0 .und), (.int .i64 0)] [(l11.getD 0 .und), (l11.getD 1 .und), (w10.getD 1 .und), (.rf 100 0 2), v101_31] h30) (vfill [(.int .u8 0), (.int .u8 0)] [(0, 1, v92_21), (1, 1, v99_28)])) v98_27) v95_23) v91_20) v88_16) (
Rt h12 (w10.getD 0 .und)) v83_15) [(.rf 79 0 1), (.int .i64 0)] [(.ptr 66 0), (.ptr 69 0)] h9) (vfill [(.int .u8 0)] [(0, 1, v78_8)])) v76_5) (.ptr 69 0)
theorem impl_named_f {x0 x1 : V} : Prt Tryd.prog 37 [x0, x1] (impl_named_F x0 x1) := pfun (fn := Tryd.f37) (m := [.s, .s, .s, .s, .s, .s, .l [6, 7] [2, 5], .s, .s, .s, .s, .l [6, 38] [2, 5, 7, 36, 37], .s, .s, .j [2, 5, 6, 7, 36, 37, 38], .s, .s, .s, .s]) (c := 2 ≤ 54) rfl (fun h0 Rt => by kernel_rfl) (by decide)

def spec_l08Stabiliser_F (x0 : V) (hi : Hp) (Rt : Hp → V → Prop) : Prop :=
pbox hi 65 31 (cellsV x0) fun h0 =>
VL (vbld (vfill (vt (List.replicate 16 [])) [])) fun v80_1 =>
VL (vbld (vfill (vb (List.replicate 16 false)) [])) fun v81_2 =>
pmks h0 82 5 1 1 (fun h3 =>
palloc h3 67 53 (vt (List.replicate 16 [])) fun h4 =>
palloc h4 68 54 (vb (List.replicate 16 false)) fun h5 =>
pst h5 16 (cellsV v80_1) (fun u6 h7 =>
pst h7 16 (cellsV v81_2) (fun u8 h9 =>
VL (vixA 16 1 (.ptr 68 0) (.int .i64 0)) fun v83_10 =>
pst h9 1 (cellsV (.bool true)) (fun u11 h12 =>
LP [5, 6] [1, 3, 4] (fun w13 l14 h15 N16 =>
VL (vlenS (w13.getD 0 .und)) fun v86_17 =>
VL (lift2 (abin .lss) (w13.getD 1 .und) v86_17) fun v87_18 =>
pcond (
VL (vixS 1 (w13.getD 0 .und) (w13.getD 1 .und)) fun v92_19 =>
pld h15 none (fun v93_20 h21 =>
VL (vfa 1 (l14.getD 0 .und)) fun v95_22 =>
VL (vixA 16 1 v95_22 v93_20) fun v96_23 =>
pld h21 none (fun v97_24 h25 =>
VL (vfa 17 (l14.getD 0 .und)) fun v99_26 =>
VL (vixA 16 1 v99_26 v93_20) fun v100_27 =>
pld h25 none (fun v101_28 h29 =>
VL (vbld (vfill [(.int .u8 0), (.int .u8 0)] [(0, 1, v97_24), (1, 1, v101_28)])) fun v102_30 =>
palloc h29 72 82 [(.int .u8 0), (.int .u8 0)] fun h31 =>
pst h31 2 (cellsV v102_30) (fun u32 h33 =>
LP [5, 9] [1, 3, 4, 6, 7, 8] (fun w34 l35 h36 N37 =>
VL (lift2 (abin .lss) (w34.getD 1 .und) (.int .i64 2)) fun v104_38 =>
pcond (
JN (fun k39 =>
VL (vixA 2 1 (l35.getD 5 .und) (w34.getD 1 .und)) fun v108_42 =>
pld h36 none (fun v109_43 h44 =>
VL (vixA 16 1 (l35.getD 2 .und) v109_43) fun v110_45 =>
pld h44 none (fun v111_46 h47 =>
VL (lift1 (aun .not) v111_46) fun v112_48 =>
pcond (
VL (vixA 2 1 (l35.getD 5 .und) (w34.getD 1 .und)) fun v114_49 =>
pld h47 none (fun v115_50 h51 =>
VL (vixA 16 1 (l35.getD 2 .und) v115_50) fun v116_52 =>
pst h51 1 (cellsV (.bool true)) (fun u53 h54 =>
VL (vixA 2 1 (l35.getD 5 .und) (w34.getD 1 .und)) fun v118_55 =>
pld h54 none (fun v119_56 h57 =>
VL (vixA 16 1 (l35.getD 1 .und) (l35.getD 4 .und)) fun v121_58 =>
pld h57 none (fun v122_59 h60 =>
VL (lift2 (abin .add) (w34.getD 1 .und) (.int .i64 1)) fun v125_61 =>
VL (vslT (.str [120, 121]) (some (w34.getD 1 .und)) (some v125_61)) fun v126_62 =>
VL (lift2 (abin .add) v122_59 v126_62) fun v127_63 =>
VL (vixA 16 1 (l35.getD 1 .und) v119_56) fun v128_64 =>
pst h60 1 (cellsV v127_63) (fun u65 h66 =>
VL (vixA 2 1 (l35.getD 5 .und) (w34.getD 1 .und)) fun v131_67 =>
pld h66 none (fun v132_68 h69 =>
pmks h69 133 5 1 1 (fun h70 =>
papp h70 (fun m73 s74 => papV 5 1 1 134 h70 (fun v134_71 h72 =>
k39 [(l35.getD 0 .und), (l35.getD 1 .und), (l35.getD 2 .und), v134_71, (l35.getD 3 .und), (l35.getD 4 .und), (l35.getD 5 .und), (w34.getD 1 .und)] h72) m73 s74 (w34.getD 0 .und)) (pavs h70 (w34.getD 0 .und) []) (preadS 1 h70 (.rf 133 0 1))) (vfill [(.int .u8 0)] [(0, 1, v132_68)])) v131_67) v128_64) v121_58) v118_55) v116_52) v114_49) (
k39 [(l35.getD 0 .und), (l35.getD 1 .und), (l35.getD 2 .und), (w34.getD 0 .und), (l35.getD 3 .und), (l35.getD 4 .und), (l35.getD 5 .und), (w34.getD 1 .und)] h47) v112_48) v110_45) v108_42) fun o40 h41 =>
VL (lift2 (abin .add) (o40.getD 7 .und) (.int .i64 1)) fun v106_75 =>
N37 [(o40.getD 3 .und), v106_75] [(o40.getD 0 .und), (o40.getD 1 .und), (o40.getD 2 .und), (o40.getD 4 .und), (o40.getD 5 .und), (o40.getD 6 .und)] h41) (
VL (lift2 (abin .add) (l35.getD 3 .und) (.int .i64 1)) fun v89_76 =>
N16 [(w34.getD 0 .und), v89_76] [(l35.getD 0 .und), (l35.getD 1 .und), (l35.getD 2 .und)] h36) v104_38) [(w13.getD 0 .und), (.int .i64 0)] [(l14.getD 0 .und), (l14.getD 1 .und), (l14.getD 2 .und), (w13.getD 1 .und), v93_20, (.ptr 72 0)] h33) (.ptr 72 0)) v100_27) v96_23) v92_19) (
pmks h15 135 9 0 0 (fun h77 =>
LP [10, 11] [1, 3, 5] (fun w78 l79 h80 N81 =>
VL (vlenS (l79.getD 2 .und)) fun v138_82 =>
VL (lift2 (abin .lss) (w78.getD 1 .und) v138_82) fun v139_83 =>
pcond (
VL (vixS 1 (l79.getD 2 .und) (w78.getD 1 .und)) fun v144_84 =>
pld h80 none (fun v145_85 h86 =>
VL (vfa 1 (l79.getD 0 .und)) fun v147_87 =>
VL (vixA 16 1 v147_87 v145_85) fun v148_88 =>
pld h86 none (fun v149_89 h90 =>
VL (vfa 17 (l79.getD 0 .und)) fun v151_91 =>
VL (vixA 16 1 v151_91 v145_85) fun v152_92 =>
pld h90 none (fun v153_93 h94 =>
VL (vbld (vfill [(.int .u8 0), (.int .u8 0)] [(0, 1, v149_89), (1, 1, v153_93)])) fun v154_95 =>
palloc h94 77 82 [(.int .u8 0), (.int .u8 0)] fun h96 =>
pst h96 2 (cellsV v154_95) (fun u97 h98 =>
LP [10, 14] [1, 3, 5, 11, 12, 13] (fun w99 l100 h101 N102 =>
VL (lift2 (abin .lss) (w99.getD 1 .und) (.int .i64 2)) fun v156_103 =>
pcond (
JN (fun k104 =>
VL (vixA 16 1 (l100.getD 1 .und) (l100.getD 4 .und)) fun v160_107 =>
pld h101 none (fun v161_108 h109 =>
VL (lift2 (abin .add) (w99.getD 1 .und) (.int .i64 1)) fun v164_110 =>
VL (vslT (.str [120, 121]) (some (w99.getD 1 .und)) (some v164_110)) fun v165_111 =>
VL (lift2 (abin .add) v161_108 v165_111) fun v166_112 =>
VL (vixA 2 1 (l100.getD 5 .und) (w99.getD 1 .und)) fun v168_113 =>
pld h109 none (fun v169_114 h115 =>
VL (vixA 16 1 (l100.getD 1 .und) v169_114) fun v170_116 =>
pld h115 none (fun v171_117 h118 =>
pcalp Tryd.prog 30 172 h118 (fun v172_119 h120 =>
VL (lift2 (abin .add) v166_112 v172_119) fun v173_121 =>
pcal Tryd.prog 28 174 h120 (fun v174_122 h123 =>
VL (lift2 (abin .neq) v174_122 (.str [])) fun v176_124 =>
pcond (
pmks h123 179 9 1 1 (fun h125 =>
papp h125 (fun m128 s129 => papV 9 1 16 180 h125 (fun v180_126 h127 =>
k104 [(l100.getD 0 .und), (l100.getD 1 .und), (l100.getD 2 .und), v180_126, (l100.getD 3 .und), (l100.getD 4 .und), (l100.getD 5 .und), (w99.getD 1 .und)] h127) m128 s129 (w99.getD 0 .und)) (pavs h125 (w99.getD 0 .und) []) (preadS 1 h125 (.rf 179 0 1))) (vfill [(.str [])] [(0, 1, v174_122)])) (
k104 [(l100.getD 0 .und), (l100.getD 1 .und), (l100.getD 2 .und), (w99.getD 0 .und), (l100.getD 3 .und), (l100.getD 4 .und), (l100.getD 5 .und), (w99.getD 1 .und)] h123) v176_124) [v173_121]) [v171_117]) v170_116) v168_113) v160_107) fun o105 h106 =>
VL (lift2 (abin .add) (o105.getD 7 .und) (.int .i64 1)) fun v158_130 =>
N102 [(o105.getD 3 .und), v158_130] [(o105.getD 0 .und), (o105.getD 1 .und), (o105.getD 2 .und), (o105.getD 4 .und), (o105.getD 5 .und), (o105.getD 6 .und)] h106) (
VL (lift2 (abin .add) (l100.getD 3 .und) (.int .i64 1)) fun v141_131 =>
N81 [(w99.getD 0 .und), v141_131] [(l100.getD 0 .und), (l100.getD 1 .und), (l100.getD 2 .und)] h101) v156_103) [(w78.getD 0 .und), (.int .i64 0)] [(l79.getD 0 .und), (l79.getD 1 .und), (l79.getD 2 .und), (w78.getD 1 .und), v145_85, (.ptr 77 0)] h98) (.ptr 77 0)) v152_92) v148_88) v144_84) (
Rt h80 (w78.getD 0 .und)) v139_83) [(.rf 135 0 0), (.int .i64 0)] [(l14.getD 0 .und), (l14.getD 1 .und), (w13.getD 0 .und)] h77) (vfill [] [])) v87_18) [(.rf 82 0 1), (.int .i64 0)] [(.ptr 65 0), (.ptr 67 0), (.ptr 68 0)] h12) v83_10) (.ptr 68 0)) (.ptr 67 0)) (vfill [(.int .u8 0)] [(0, 1, (.int .u8 0))])
theorem spec_l08Stabiliser_f {x0 : V} : Prt Tryd.prog 38 [x0] (spec_l08Stabiliser_F x0) := pfun (fn := Tryd.f38) (m := [.s, .s, .s, .s, .s, .l [5, 6] [1, 3, 4], .s, .s, .s, .s, .s, .s, .l [5, 9] [1, 3, 4, 6, 7, 8], .s, .s, .j [1, 3, 4, 5, 6, 7, 8, 9], .s, .s, .s, .s, .s, .s, .l [10, 11] [1, 3, 5], .s, .s, .s, .s, .s, .s, .l [10, 14] [1, 3, 5, 11, 12, 13], .s, .s, .j [1, 3, 5, 10, 11, 12, 13, 14], .s, .s, .s]) (c := 1 ≤ 118) rfl (fun h0 Rt => by kernel_rfl) (by decide)

def spec_l01Next_F (x0 x1 : V) (hi : Hp) (Rt : Hp → V → Prop) : Prop :=
VL (lift2 (abin .lss) x1 (.int .i64 1)) fun v71_0 =>
pcond (
Rt hi (.int .i64 0)) (
VL (vfa 0 x0) fun v74_1 =>
VL (vfa 2 v74_1) fun v75_2 =>
pld hi none (fun v76_3 h4 =>
VL (lift2 (abin .mul) v76_3 (.int .u64 6364136223846793005)) fun v77_5 =>
VL (lift2 (abin .add) v77_5 (.int .u64 1442695040888963407)) fun v78_6 =>
VL (vfa 0 x0) fun v79_7 =>
VL (vfa 2 v79_7) fun v80_8 =>
pst h4 1 (cellsV v78_6) (fun u9 h10 =>
VL (vfa 0 x0) fun v82_11 =>
VL (vfa 2 v82_11) fun v83_12 =>
pld h10 none (fun v84_13 h14 =>
VL (lift2 (abin .shr) v84_13 (.int .u64 33)) fun v85_15 =>
VL (lift2 (abin .and) v85_15 (.int .u64 16777215)) fun v86_16 =>
VL (lift1 (acvi .i64) v86_16) fun v87_17 =>
JN (fun k18 =>
VL (vfa 0 x0) fun v89_21 =>
VL (vfa 1 v89_21) fun v90_22 =>
pld h14 none (fun v91_23 h24 =>
VL (vfa 0 x0) fun v93_25 =>
VL (vfa 0 v93_25) fun v94_26 =>
pld h24 none (fun v95_27 h28 =>
VL (vlenS v95_27) fun v96_29 =>
VL (lift2 (abin .lss) v91_23 v96_29) fun v97_30 =>
pcond (
VL (vfa 0 x0) fun v100_31 =>
VL (vfa 0 v100_31) fun v101_32 =>
pld h28 none (fun v102_33 h34 =>
VL (vfa 0 x0) fun v104_35 =>
VL (vfa 1 v104_35) fun v105_36 =>
pld h34 none (fun v106_37 h38 =>
VL (vixS 1 v102_33 v106_37) fun v107_39 =>
pld h38 none (fun v108_40 h41 =>
VL (lift1 (acvi .i64) v108_40) fun v109_42 =>
VL (lift2 (abin .add) v87_17 v109_42) fun v110_43 =>
VL (vfa 0 x0) fun v113_44 =>
VL (vfa 1 v113_44) fun v114_45 =>
pld h41 none (fun v115_46 h47 =>
VL (lift2 (abin .add) v115_46 (.int .i64 1)) fun v116_48 =>
VL (vfa 0 x0) fun v117_49 =>
VL (vfa 1 v117_49) fun v118_50 =>
pst h47 1 (cellsV v116_48) (fun u51 h52 =>
k18 [x1, v110_43] h52) v118_50) v114_45) v107_39) v105_36) v101_32) (
k18 [x1, v87_17] h28) v97_30) v94_26) v90_22) fun o19 h20 =>
VL (lift2 (abin .rem) (o19.getD 1 .und) (o19.getD 0 .und)) fun v121_53 =>
Rt h20 v121_53) v83_12) v80_8) v75_2) v71_0
theorem spec_l01Next_f {x0 x1 : V} : Prt Tryd.prog 39 [x0, x1] (spec_l01Next_F x0 x1) := pfun (fn := Tryd.f39) (m := [.s, .s, .s, .s, .s, .s, .j [1, 5], .s, .s, .s]) (c := 2 ≤ 58) rfl (fun h0 Rt => by kernel_rfl) (by decide)

def spec_l01Pick_F (x0 x1 : V) (hi : Hp) (Rt : Hp → V → Prop) : Prop :=
VL (vlenS x1) fun v72_0 =>
pcal Tryd.prog 39 73 hi (fun v73_1 h2 =>
VL (vixS 1 x1 v73_1) fun v74_3 =>
pld h2 none (fun v75_4 h5 =>
Rt h5 v75_4) v74_3) [x0, v72_0]
theorem spec_l01Pick_f {x0 x1 : V} : Prt Tryd.prog 40 [x0, x1] (spec_l01Pick_F x0 x1) := pfun (fn := Tryd.f40) (m := [.s, .s]) (c := 2 ≤ 12) rfl (fun h0 Rt => by kernel_rfl) (by decide)

def spec_l01In_F (x0 x1 x2 : V) (hi : Hp) (Rt : Hp → V → Prop) : Prop :=
VL (lift2 (abin .geq) x0 x1) fun v73_0 =>
pgk true hi (fun g1 k2 => k2 x0 hi) (fun g3 v11_4 h5 =>
pgk true h5 (fun g6 k7 => k7 x2 h5) (fun g8 v12_9 h10 =>
pgk true h10 (fun g11 k12 => VL (lift2 (abin .leq) v11_4 v12_9) fun v77_13 =>
k12 v77_13 h10) (fun g14 v13_15 h16 =>
VL (vpick g14 v13_15 (.bool false)) fun v78_17 =>
Rt h16 v78_17) g8) g3) v73_0
theorem spec_l01In_f {x0 x1 x2 : V} : Prt Tryd.prog 42 [x0, x1, x2] (spec_l01In_F x0 x1 x2) := pfun (fn := Tryd.f42) (m := [.s, .s]) (c := 3 ≤ 15) rfl (fun h0 Rt => by kernel_rfl) (by decide)

def spec_l08Times_F (x0 x1 : V) (hi : Hp) (Rt : Hp → V → Prop) : Prop :=
LP [1, 5] [0] (fun w0 l1 h2 N3 =>
VL (lift2 (abin .gtr) (w0.getD 0 .und) (.int .i64 0)) fun v71_4 =>
pcond (
VL (lift2 (abin .add) (w0.getD 1 .und) (l1.getD 0 .und)) fun v76_5 =>
VL (lift2 (abin .sub) (w0.getD 0 .und) (.int .i64 1)) fun v73_6 =>
N3 [v73_6, v76_5] [(l1.getD 0 .und)] h2) (
Rt h2 (w0.getD 1 .und)) v71_4) [x1, (.str [])] [x0] hi
theorem spec_l08Times_f {x0 x1 : V} : Prt Tryd.prog 43 [x0, x1] (spec_l08Times_F x0 x1) := pfun (fn := Tryd.f43) (m := [.s, .s, .s, .l [1, 5] [0], .s, .s, .s, .s]) (c := 2 ≤ 14) rfl (fun h0 Rt => by kernel_rfl) (by decide)

def impl_IsPermutation_F (x0 x1 : V) (hi : Hp) (Rt : Hp → V → Prop) : Prop :=
pbox hi 66 29 (cellsV x0) fun h0 =>
pcal Tryd.prog 71 73 h0 (fun v73_1 h2 =>
VL (lift1 (aun .not) v73_1) fun v74_3 =>
pcond (
Rt h2 (.bool false)) (
VL (vbld (vfill (vb (List.replicate 16 false)) [])) fun v75_4 =>
palloc h2 69 54 (vb (List.replicate 16 false)) fun h5 =>
pst h5 16 (cellsV v75_4) (fun u6 h7 =>
pld h7 (some 16) (fun v76_8 h9 =>
LP [13] [1, 5, 12] (fun w10 l11 h12 N13 =>
VL (lift2 (abin .lss) (w10.getD 0 .und) (.int .i64 16)) fun v78_14 =>
pcond (
JN (fun k15 =>
VL (vixV 16 1 none (l11.getD 2 .und) (w10.getD 0 .und)) fun v80_18 =>
VL (lift2 (abin .geq) (w10.getD 0 .und) (l11.getD 0 .und)) fun v83_19 =>
pcond (
VL (lift2 (abin .neq) v80_18 (.int .u8 0)) fun v85_20 =>
pcond (
Rt h12 (.bool false)) (
k15 [(l11.getD 0 .und), (l11.getD 1 .und), (l11.getD 2 .und), (w10.getD 0 .und)] h12) v85_20) (
VL (lift1 (acvi .i64) v80_18) fun v87_21 =>
VL (lift2 (abin .geq) v87_21 (l11.getD 0 .und)) fun v89_22 =>
pgk false h12 (fun g23 k24 => k24 v80_18 h12) (fun g25 v27_26 h27 =>
pgk false h27 (fun g28 k29 => VL (vixA 16 1 (l11.getD 1 .und) v27_26) fun v92_30 =>
k29 v92_30 h27) (fun g31 v28_32 h33 =>
pgk false h33 (fun g34 k35 => pld h33 none (fun v93_36 h37 =>
k35 v93_36 h37) v28_32) (fun g38 v29_39 h40 =>
VL (vpick g38 (.bool true) v29_39) fun v94_41 =>
pcond (
Rt h40 (.bool false)) (
VL (vixA 16 1 (l11.getD 1 .und) v80_18) fun v96_42 =>
pst h40 1 (cellsV (.bool true)) (fun u43 h44 =>
k15 [(l11.getD 0 .und), (l11.getD 1 .und), (l11.getD 2 .und), (w10.getD 0 .und)] h44) v96_42) v94_41) g31) g25) v89_22) v83_19) fun o16 h17 =>
VL (lift2 (abin .add) (o16.getD 3 .und) (.int .i64 1)) fun v97_45 =>
N13 [v97_45] [(o16.getD 0 .und), (o16.getD 1 .und), (o16.getD 2 .und)] h17) (
Rt h12 (.bool true)) v78_14) [(.int .i64 0)] [x1, (.ptr 69 0), v76_8] h9) (.ptr 66 0)) (.ptr 69 0)) v74_3) [x1]
theorem impl_IsPermutation_f {x0 x1 : V} : Prt Tryd.prog 44 [x0, x1] (impl_IsPermutation_F x0 x1) := pfun (fn := Tryd.f44) (m := [.s, .s, .s, .s, .s, .s, .s, .l [13] [1, 5, 12], .s, .s, .j [1, 5, 12, 13], .s, .s, .s, .s, .s, .s, .s, .s, .s, .s]) (c := 2 ≤ 34) rfl (fun h0 Rt => by kernel_rfl) (by decide)

def impl_then_F (x0 x1 x2 : V) (hi : Hp) (Rt : Hp → V → Prop) : Prop :=
pbox hi 67 29 (cellsV x0) fun h0 =>
pbox h0 68 29 (cellsV x1) fun h1 =>
palloc h1 70 29 (vi .u8 (List.replicate 16 0)) fun h2 =>
VL (vbld (vfill (vi .u8 (List.replicate 16 0)) [])) fun v73_3 =>
palloc h2 71 29 (vi .u8 (List.replicate 16 0)) fun h4 =>
pst h4 16 (cellsV v73_3) (fun u5 h6 =>
LP [11] [3, 4, 6, 7, 10] (fun w7 l8 h9 N10 =>
VL (lift2 (abin .lss) (w7.getD 0 .und) (l8.getD 4 .und)) fun v76_11 =>
pcond (
VL (vixA 16 1 (l8.getD 0 .und) (w7.getD 0 .und)) fun v80_12 =>
pld h9 none (fun v81_13 h14 =>
VL (vixA 16 1 (l8.getD 1 .und) v81_13) fun v82_15 =>
pld h14 none (fun v83_16 h17 =>
VL (vixA 16 1 (l8.getD 3 .und) (w7.getD 0 .und)) fun v84_18 =>
pst h17 1 (cellsV v83_16) (fun u19 h20 =>
VL (lift2 (abin .add) (w7.getD 0 .und) (.int .i64 1)) fun v85_21 =>
N10 [v85_21] [(l8.getD 0 .und), (l8.getD 1 .und), (l8.getD 2 .und), (l8.getD 3 .und), (l8.getD 4 .und)] h20) v84_18) v82_15) v80_12) (
pld h9 (some 16) (fun v86_22 h23 =>
pst h23 16 (cellsV v86_22) (fun u24 h25 =>
VL (pcellV h25 (some 16) (l8.getD 2 .und)) fun r26 =>
Rt h25 r26) (l8.getD 2 .und)) (l8.getD 3 .und)) v76_11) [(.int .i64 0)] [(.ptr 67 0), (.ptr 68 0), (.ptr 70 0), (.ptr 71 0), x2] h6) (.ptr 71 0)
theorem impl_then_f {x0 x1 x2 : V} : Prt Tryd.prog 45 [x0, x1, x2] (impl_then_F x0 x1 x2) := pfun (fn := Tryd.f45) (m := [.s, .s, .s, .s, .l [11] [3, 4, 6, 7, 10], .s, .s, .s, .s, .s]) (c := 3 ≤ 23) rfl (fun h0 Rt => by kernel_rfl) (by decide)

def impl_inverseLetter_F (x0 : V) (hi : Hp) (Rt : Hp → V → Prop) : Prop :=
VL (lift2 (abin .xor) x0 (.int .u8 32)) fun v68_0 =>
Rt hi v68_0
theorem impl_inverseLetter_f {x0 : V} : Prt Tryd.prog 46 [x0] (impl_inverseLetter_F x0) := pfun (fn := Tryd.f46) (m := [.s, .s]) (c := 1 ≤ 5) rfl (fun h0 Rt => by kernel_rfl) (by decide)

def spec_l08Letter_F (x0 : V) (hi : Hp) (Rt : Hp → V → Prop) : Prop :=
VL (lift2 (abin .eql) x0 (.int .u8 120)) fun v68_0 =>
pgk false hi (fun g1 k2 => k2 x0 hi) (fun g3 v6_4 h5 =>
pgk false h5 (fun g6 k7 => VL (lift2 (abin .eql) v6_4 (.int .u8 121)) fun v71_8 =>
k7 v71_8 h5) (fun g9 v7_10 h11 =>
VL (vpick g9 (.bool true) v7_10) fun v72_12 =>
pgk false h11 (fun g13 k14 => k14 x0 h11) (fun g15 v10_16 h17 =>
pgk false h17 (fun g18 k19 => VL (lift2 (abin .eql) v10_16 (.int .u8 88)) fun v75_20 =>
k19 v75_20 h17) (fun g21 v11_22 h23 =>
VL (vpick g21 (.bool true) v11_22) fun v76_24 =>
pgk false h23 (fun g25 k26 => k26 x0 h23) (fun g27 v14_28 h29 =>
pgk false h29 (fun g30 k31 => VL (lift2 (abin .eql) v14_28 (.int .u8 89)) fun v79_32 =>
k31 v79_32 h29) (fun g33 v15_34 h35 =>
VL (vpick g33 (.bool true) v15_34) fun v80_36 =>
Rt h35 v80_36) g27) v76_24) g15) v72_12) g3) v68_0
theorem spec_l08Letter_f {x0 : V} : Prt Tryd.prog 47 [x0] (spec_l08Letter_F x0) := pfun (fn := Tryd.f47) (m := [.s, .s]) (c := 1 ≤ 17) rfl (fun h0 Rt => by kernel_rfl) (by decide)

def spec_l08Other_F (x0 : V) (hi : Hp) (Rt : Hp → V → Prop) : Prop :=
VL (lift2 (abin .eql) x0 (.int .u8 120)) fun v69_0 =>
pcond (
Rt hi (.int .u8 88)) (
VL (lift2 (abin .eql) x0 (.int .u8 88)) fun v71_1 =>
pcond (
Rt hi (.int .u8 120)) (
VL (lift2 (abin .eql) x0 (.int .u8 121)) fun v73_2 =>
pcond (
Rt hi (.int .u8 89)) (
Rt hi (.int .u8 121)) v73_2) v71_1) v69_0
theorem spec_l08Other_f {x0 : V} : Prt Tryd.prog 48 [x0] (spec_l08Other_F x0) := pfun (fn := Tryd.f48) (m := [.s, .s, .s, .s, .s, .s, .s, .s, .s, .s]) (c := 1 ≤ 10) rfl (fun h0 Rt => by kernel_rfl) (by decide)

def strings_trimLeftByte_F (x0 x1 : V) (hi : Hp) (Rt : Hp → V → Prop) : Prop :=
LP [0] [1] (fun w0 l1 h2 N3 =>
VL (vlenT (w0.getD 0 .und)) fun v70_4 =>
VL (lift2 (abin .gtr) v70_4 (.int .i64 0)) fun v71_5 =>
pgk true h2 (fun g6 k7 => k7 (w0.getD 0 .und) h2) (fun g8 v9_9 h10 =>
pgk true h10 (fun g11 k12 => VL (vixT v9_9 (.int .i64 0)) fun v74_13 =>
k12 v74_13 h10) (fun g14 v10_15 h16 =>
pgk true h16 (fun g17 k18 => k18 (l1.getD 0 .und) h16) (fun g19 v11_20 h21 =>
pgk true h21 (fun g22 k23 => VL (lift2 (abin .eql) v10_15 v11_20) fun v76_24 =>
k23 v76_24 h21) (fun g25 v12_26 h27 =>
VL (vpick g25 v12_26 (.bool false)) fun v77_28 =>
pcond (
VL (vslT (w0.getD 0 .und) (some (.int .i64 1)) none) fun v79_29 =>
N3 [v79_29] [(l1.getD 0 .und)] h27) (
Rt h27 (w0.getD 0 .und)) v77_28) g19) g14) g8) v71_5) [x0] [x1] hi
theorem strings_trimLeftByte_f {x0 x1 : V} : Prt Tryd.prog 49 [x0, x1] (strings_trimLeftByte_F x0 x1) := pfun (fn := Tryd.f49) (m := [.s, .s, .l [0] [1], .s, .s, .s]) (c := 2 ≤ 17) rfl (fun h0 Rt => by kernel_rfl) (by decide)

def strings_trimRightByte_F (x0 x1 : V) (hi : Hp) (Rt : Hp → V → Prop) : Prop :=
LP [0] [1] (fun w0 l1 h2 N3 =>
VL (vlenT (w0.getD 0 .und)) fun v70_4 =>
VL (lift2 (abin .gtr) v70_4 (.int .i64 0)) fun v71_5 =>
pgk true h2 (fun g6 k7 => k7 (w0.getD 0 .und) h2) (fun g8 v9_9 h10 =>
pgk true h10 (fun g11 k12 => k12 (w0.getD 0 .und) h10) (fun g13 v10_14 h15 =>
pgk true h15 (fun g16 k17 => VL (vlenT v10_14) fun v75_18 =>
k17 v75_18 h15) (fun g19 v11_20 h21 =>
pgk true h21 (fun g22 k23 => VL (lift2 (abin .sub) v11_20 (.int .i64 1)) fun v76_24 =>
k23 v76_24 h21) (fun g25 v12_26 h27 =>
pgk true h27 (fun g28 k29 => VL (vixT v9_9 v12_26) fun v77_30 =>
k29 v77_30 h27) (fun g31 v13_32 h33 =>
pgk true h33 (fun g34 k35 => k35 (l1.getD 0 .und) h33) (fun g36 v14_37 h38 =>
pgk true h38 (fun g39 k40 => VL (lift2 (abin .eql) v13_32 v14_37) fun v79_41 =>
k40 v79_41 h38) (fun g42 v15_43 h44 =>
VL (vpick g42 v15_43 (.bool false)) fun v80_45 =>
pcond (
VL (vlenT (w0.getD 0 .und)) fun v83_46 =>
VL (lift2 (abin .sub) v83_46 (.int .i64 1)) fun v84_47 =>
VL (vslT (w0.getD 0 .und) none (some v84_47)) fun v85_48 =>
N3 [v85_48] [(l1.getD 0 .und)] h44) (
Rt h44 (w0.getD 0 .und)) v80_45) g36) g31) g25) g19) g13) g8) v71_5) [x0] [x1] hi
theorem strings_trimRightByte_f {x0 x1 : V} : Prt Tryd.prog 50 [x0, x1] (strings_trimRightByte_F x0 x1) := pfun (fn := Tryd.f50) (m := [.s, .s, .l [0] [1], .s, .s, .s]) (c := 2 ≤ 23) rfl (fun h0 Rt => by kernel_rfl) (by decide)

def strings_makeASCIISet_F (x0 : V) (hi : Hp) (Rt : Hp → V → Prop) : Prop :=
palloc hi 66 72 (vb (List.replicate 256 false)) fun h0 =>
LP [4] [0, 2] (fun w1 l2 h3 N4 =>
VL (vlenT (l2.getD 0 .und)) fun v72_5 =>
VL (lift2 (abin .lss) (w1.getD 0 .und) v72_5) fun v73_6 =>
pcond (
VL (vixT (l2.getD 0 .und) (w1.getD 0 .und)) fun v78_7 =>
VL (lift2 (abin .geq) v78_7 (.int .u8 128)) fun v80_8 =>
pcond (
pld h3 (some 256) (fun v81_9 h10 =>
pst h10 256 (cellsV v81_9) (fun u11 h12 =>
VL (pcellV h12 (some 256) (l2.getD 1 .und)) fun r13 =>
Rt h12 (.tup [r13, (.bool false)])) (l2.getD 1 .und)) (l2.getD 1 .und)) (
VL (vixA 256 1 (l2.getD 1 .und) v78_7) fun v83_14 =>
pst h3 1 (cellsV (.bool true)) (fun u15 h16 =>
VL (lift2 (abin .add) (w1.getD 0 .und) (.int .i64 1)) fun v75_17 =>
N4 [v75_17] [(l2.getD 0 .und), (l2.getD 1 .und)] h16) v83_14) v80_8) (
pld h3 (some 256) (fun v84_18 h19 =>
pst h19 256 (cellsV v84_18) (fun u20 h21 =>
VL (pcellV h21 (some 256) (l2.getD 1 .und)) fun r22 =>
Rt h21 (.tup [r22, (.bool true)])) (l2.getD 1 .und)) (l2.getD 1 .und)) v73_6) [(.int .i64 0)] [x0, (.ptr 66 0)] h0
theorem strings_makeASCIISet_f {x0 : V} : Prt Tryd.prog 51 [x0] (strings_makeASCIISet_F x0) := pfun (fn := Tryd.f51) (m := [.s, .s, .s, .l [4] [0, 2], .s, .s, .s, .s, .s, .s, .s, .s]) (c := 1 ≤ 21) rfl (fun h0 Rt => by kernel_rfl) (by decide)

def strings_trimLeftASCII_F (x0 x1 : V) (hi : Hp) (Rt : Hp → V → Prop) : Prop :=
JN (fun k0 =>
LP [0] [1] (fun w3 l4 h5 N6 =>
VL (vlenT (w3.getD 0 .und)) fun v70_7 =>
VL (lift2 (abin .gtr) v70_7 (.int .i64 0)) fun v71_8 =>
pcond (
VL (vixT (w3.getD 0 .und) (.int .i64 0)) fun v74_9 =>
pcal Tryd.prog 72 75 h5 (fun v75_10 h11 =>
VL (lift1 (aun .not) v75_10) fun v76_12 =>
pcond (
k0 [(w3.getD 0 .und)] h11) (
VL (vslT (w3.getD 0 .und) (some (.int .i64 1)) none) fun v78_13 =>
N6 [v78_13] [(l4.getD 0 .und)] h11) v76_12) [(l4.getD 0 .und), v74_9]) (
k0 [(w3.getD 0 .und)] h5) v71_8) [x0] [x1] hi) fun o1 h2 =>
Rt h2 (o1.getD 0 .und)
theorem strings_trimLeftASCII_f {x0 x1 : V} : Prt Tryd.prog 52 [x0, x1] (strings_trimLeftASCII_F x0 x1) := pfun (fn := Tryd.f52) (m := [.s, .j [0], .l [0] [1], .s, .s, .s, .s, .s]) (c := 2 ≤ 16) rfl (fun h0 Rt => by kernel_rfl) (by decide)

def strings_trimRightASCII_F (x0 x1 : V) (hi : Hp) (Rt : Hp → V → Prop) : Prop :=
JN (fun k0 =>
LP [0] [1] (fun w3 l4 h5 N6 =>
VL (vlenT (w3.getD 0 .und)) fun v70_7 =>
VL (lift2 (abin .gtr) v70_7 (.int .i64 0)) fun v71_8 =>
pcond (
VL (vlenT (w3.getD 0 .und)) fun v75_9 =>
VL (lift2 (abin .sub) v75_9 (.int .i64 1)) fun v76_10 =>
VL (vixT (w3.getD 0 .und) v76_10) fun v77_11 =>
pcal Tryd.prog 72 78 h5 (fun v78_12 h13 =>
VL (lift1 (aun .not) v78_12) fun v79_14 =>
pcond (
k0 [(w3.getD 0 .und)] h13) (
VL (vlenT (w3.getD 0 .und)) fun v82_15 =>
VL (lift2 (abin .sub) v82_15 (.int .i64 1)) fun v83_16 =>
VL (vslT (w3.getD 0 .und) none (some v83_16)) fun v84_17 =>
N6 [v84_17] [(l4.getD 0 .und)] h13) v79_14) [(l4.getD 0 .und), v77_11]) (
k0 [(w3.getD 0 .und)] h5) v71_8) [x0] [x1] hi) fun o1 h2 =>
Rt h2 (o1.getD 0 .und)
theorem strings_trimRightASCII_f {x0 x1 : V} : Prt Tryd.prog 53 [x0, x1] (strings_trimRightASCII_F x0 x1) := pfun (fn := Tryd.f53) (m := [.s, .j [0], .l [0] [1], .s, .s, .s, .s, .s]) (c := 2 ≤ 22) rfl (fun h0 Rt => by kernel_rfl) (by decide)

def strings_trimLeftUnicode_F (x0 x1 : V) (hi : Hp) (Rt : Hp → V → Prop) : Prop :=
JN (fun k0 =>
LP [0] [1] (fun w3 l4 h5 N6 =>
VL (vlenT (w3.getD 0 .und)) fun v72_7 =>
VL (lift2 (abin .gtr) v72_7 (.int .i64 0)) fun v73_8 =>
pcond (
pcal Tryd.prog 73 76 h5 (fun v76_9 h10 =>
VL (vext 0 v76_9) fun v77_11 =>
VL (vext 1 v76_9) fun v78_12 =>
pcal Tryd.prog 74 81 h10 (fun v81_13 h14 =>
VL (lift1 (aun .not) v81_13) fun v82_15 =>
pcond (
k0 [(w3.getD 0 .und)] h14) (
VL (vslT (w3.getD 0 .und) (some v78_12) none) fun v85_16 =>
N6 [v85_16] [(l4.getD 0 .und)] h14) v82_15) [(l4.getD 0 .und), v77_11]) [(w3.getD 0 .und)]) (
k0 [(w3.getD 0 .und)] h5) v73_8) [x0] [x1] hi) fun o1 h2 =>
Rt h2 (o1.getD 0 .und)
theorem strings_trimLeftUnicode_f {x0 x1 : V} : Prt Tryd.prog 54 [x0, x1] (strings_trimLeftUnicode_F x0 x1) := pfun (fn := Tryd.f54) (m := [.s, .j [0], .l [0] [1], .s, .s, .s, .s, .s, .s]) (c := 2 ≤ 23) rfl (fun h0 Rt => by kernel_rfl) (by decide)

def strings_trimRightUnicode_F (x0 x1 : V) (hi : Hp) (Rt : Hp → V → Prop) : Prop :=
JN (fun k0 =>
LP [0] [1] (fun w3 l4 h5 N6 =>
VL (vlenT (w3.getD 0 .und)) fun v72_7 =>
VL (lift2 (abin .gtr) v72_7 (.int .i64 0)) fun v73_8 =>
pcond (
VL (vlenT (w3.getD 0 .und)) fun v76_9 =>
VL (lift2 (abin .sub) v76_9 (.int .i64 1)) fun v77_10 =>
VL (vixT (w3.getD 0 .und) v77_10) fun v78_11 =>
VL (lift1 (acvi .i32) v78_11) fun v79_12 =>
JN (fun k13 =>
VL (lift2 (abin .geq) v79_12 (.int .i32 128)) fun v81_16 =>
pcond (
pcal Tryd.prog 75 84 h5 (fun v84_17 h18 =>
VL (vext 0 v84_17) fun v85_19 =>
VL (vext 1 v84_17) fun v86_20 =>
k13 [(w3.getD 0 .und), (l4.getD 0 .und), v85_19, v86_20] h18) [(w3.getD 0 .und)]) (
k13 [(w3.getD 0 .und), (l4.getD 0 .und), v79_12, (.int .i64 1)] h5) v81_16) fun o14 h15 =>
pcal Tryd.prog 74 89 h15 (fun v89_21 h22 =>
VL (lift1 (aun .not) v89_21) fun v90_23 =>
pcond (
k0 [(o14.getD 0 .und)] h22) (
VL (vlenT (o14.getD 0 .und)) fun v93_24 =>
VL (lift2 (abin .sub) v93_24 (o14.getD 3 .und)) fun v95_25 =>
VL (vslT (o14.getD 0 .und) none (some v95_25)) fun v96_26 =>
N6 [v96_26] [(o14.getD 1 .und)] h22) v90_23) [(o14.getD 1 .und), (o14.getD 2 .und)]) (
k0 [(w3.getD 0 .und)] h5) v73_8) [x0] [x1] hi) fun o1 h2 =>
Rt h2 (o1.getD 0 .und)
theorem strings_trimRightUnicode_f {x0 x1 : V} : Prt Tryd.prog 55 [x0, x1] (strings_trimRightUnicode_F x0 x1) := pfun (fn := Tryd.f55) (m := [.s, .j [0], .l [0] [1], .s, .s, .s, .j [0, 1, 5, 6], .s, .s, .s, .s]) (c := 2 ≤ 34) rfl (fun h0 Rt => by kernel_rfl) (by decide)

def spec_l01Spoil_F (x0 x1 : V) (hi : Hp) (Rt : Hp → V → Prop) : Prop :=
palloc hi 68 31 ([(.int .i64 0)] ++ (vi .u8 (List.replicate 32 0))) fun h0 =>
pcal Tryd.prog 76 72 h0 (fun v72_1 h2 =>
palloc h2 69 31 ([(.int .i64 0)] ++ (vi .u8 (List.replicate 32 0))) fun h3 =>
pst h3 33 (cellsV v72_1) (fun u4 h5 =>
JN (fun k6 =>
pcal Tryd.prog 39 74 h5 (fun v74_9 h10 =>
VL (lift2 (abin .eql) v74_9 (.int .i64 0)) fun v76_11 =>
pcond (
VL (vixA 16 1 (.ptr 69 1) (.int .i64 0)) fun v78_12 =>
pld h10 none (fun v79_13 h14 =>
VL (lift2 (abin .add) v79_13 (.int .u8 1)) fun v80_15 =>
VL (vixA 16 1 (.ptr 69 1) (.int .i64 0)) fun v82_16 =>
pst h14 1 (cellsV v80_15) (fun u17 h18 =>
k6 [(.ptr 68 0), (.ptr 69 0)] h18) v82_16) v78_12) (
VL (lift2 (abin .eql) v74_9 (.int .i64 1)) fun v84_19 =>
pcond (
pld h10 none (fun v87_20 h21 =>
VL (lift2 (abin .add) v87_20 (.int .i64 1)) fun v88_22 =>
pld h21 none (fun v90_23 h24 =>
VL (lift2 (abin .sub) v90_23 (.int .i64 1)) fun v91_25 =>
pmks h24 92 2 5 5 (fun h26 =>
pcal Tryd.prog 40 93 h26 (fun v93_27 h28 =>
pst h28 1 (cellsV v93_27) (fun u29 h30 =>
k6 [(.ptr 68 0), (.ptr 69 0)] h30) (.ptr 69 0)) [x0, (.rf 92 0 5)]) (vfill (vi .i64 (List.replicate 5 0)) [(0, 1, (.int .i64 0)), (1, 1, (.int .i64 17)), (2, 1, (.int .i64 (-1))), (3, 1, v88_22), (4, 1, v91_25)])) (.ptr 69 0)) (.ptr 69 0)) (
VL (lift2 (abin .eql) v74_9 (.int .i64 2)) fun v96_31 =>
pcond (
pld h10 none (fun v98_32 h33 =>
VL (lift2 amin v98_32 (.int .i64 16)) fun v99_34 =>
pcal Tryd.prog 62 100 h33 (fun v100_35 h36 =>
pst h36 16 (cellsV v100_35) (fun u37 h38 =>
k6 [(.ptr 68 0), (.ptr 69 0)] h38) (.ptr 69 17)) [v99_34]) (.ptr 69 0)) (
VL (lift2 (abin .eql) v74_9 (.int .i64 3)) fun v103_39 =>
pcond (
pmks h10 105 2 2 2 (fun h40 =>
pcal Tryd.prog 40 106 h40 (fun v106_41 h42 =>
VL (lift1 (acvi .u8) v106_41) fun v107_43 =>
VL (vixA 16 1 (.ptr 69 17) (.int .i64 15)) fun v109_44 =>
pst h42 1 (cellsV v107_43) (fun u45 h46 =>
k6 [(.ptr 68 0), (.ptr 69 0)] h46) v109_44) [x0, (.rf 105 0 2)]) (vfill [(.int .i64 0), (.int .i64 0)] [(0, 1, (.int .i64 1)), (1, 1, (.int .i64 255))])) (
k6 [(.ptr 68 0), (.ptr 69 0)] h10) v103_39) v96_31) v84_19) v76_11) [x0, (.int .i64 40)]) fun o7 h8 =>
pld h8 (some 33) (fun v110_47 h48 =>
pst h48 33 (cellsV v110_47) (fun u49 h50 =>
VL (pcellV h50 (some 33) (o7.getD 0 .und)) fun r51 =>
Rt h50 r51) (o7.getD 0 .und)) (o7.getD 1 .und)) (.ptr 69 0)) [x0, x1]
theorem spec_l01Spoil_f {x0 x1 : V} : Prt Tryd.prog 56 [x0, x1] (spec_l01Spoil_F x0 x1) := pfun (fn := Tryd.f56) (m := [.s, .s, .j [4, 5], .s, .s, .s, .s, .s, .s]) (c := 2 ≤ 47) rfl (fun h0 Rt => by kernel_rfl) (by decide)

def impl_reached_F (x0 x1 : V) (hi : Hp) (Rt : Hp → V → Prop) : Prop :=
VL (vbld (vfill (vb (List.replicate 16 false)) [(0, 1, (.bool true))])) fun v75_0 =>
palloc hi 69 54 (vb (List.replicate 16 false)) fun h1 =>
pst h1 16 (cellsV v75_0) (fun u2 h3 =>
pmks h3 76 5 1 1 (fun h4 =>
LP [6, 7] [1, 5] (fun w5 l6 h7 N8 =>
VL (vlenS (w5.getD 0 .und)) fun v79_9 =>
VL (lift2 (abin .lss) (w5.getD 1 .und) v79_9) fun v80_10 =>
pcond (
VL (vlenS (l6.getD 0 .und)) fun v84_11 =>
LP [6, 21] [1, 5, 7, 19, 20] (fun w12 l13 h14 N15 =>
VL (lift2 (abin .lss) (w12.getD 1 .und) (l13.getD 4 .und)) fun v86_16 =>
pcond (
JN (fun k17 =>
VL (vixS 16 (l13.getD 3 .und) (w12.getD 1 .und)) fun v87_20 =>
pld h14 (some 16) (fun v88_21 h22 =>
palloc h22 73 29 (vi .u8 (List.replicate 16 0)) fun h23 =>
pst h23 16 (cellsV v88_21) (fun u24 h25 =>
VL (vixS 1 (w12.getD 0 .und) (l13.getD 2 .und)) fun v91_26 =>
pld h25 none (fun v92_27 h28 =>
VL (vixA 16 1 (.ptr 73 0) v92_27) fun v93_29 =>
pld h28 none (fun v94_30 h31 =>
VL (vixA 16 1 (l13.getD 1 .und) v94_30) fun v96_32 =>
pld h31 none (fun v97_33 h34 =>
VL (lift1 (aun .not) v97_33) fun v98_35 =>
pcond (
VL (vixA 16 1 (l13.getD 1 .und) v94_30) fun v100_36 =>
pst h34 1 (cellsV (.bool true)) (fun u37 h38 =>
pmks h38 103 5 1 1 (fun h39 =>
papp h39 (fun m42 s43 => papV 5 1 1 104 h39 (fun v104_40 h41 =>
k17 [(l13.getD 0 .und), (l13.getD 1 .und), v104_40, (l13.getD 2 .und), (l13.getD 3 .und), (l13.getD 4 .und), (w12.getD 1 .und)] h41) m42 s43 (w12.getD 0 .und)) (pavs h39 (w12.getD 0 .und) []) (preadS 1 h39 (.rf 103 0 1))) (vfill [(.int .u8 0)] [(0, 1, v94_30)])) v100_36) (
k17 [(l13.getD 0 .und), (l13.getD 1 .und), (w12.getD 0 .und), (l13.getD 2 .und), (l13.getD 3 .und), (l13.getD 4 .und), (w12.getD 1 .und)] h34) v98_35) v96_32) v93_29) v91_26) (.ptr 73 0)) v87_20) fun o18 h19 =>
VL (lift2 (abin .add) (o18.getD 6 .und) (.int .i64 1)) fun v105_44 =>
N15 [(o18.getD 2 .und), v105_44] [(o18.getD 0 .und), (o18.getD 1 .und), (o18.getD 3 .und), (o18.getD 4 .und), (o18.getD 5 .und)] h19) (
VL (lift2 (abin .add) (l13.getD 2 .und) (.int .i64 1)) fun v82_45 =>
N8 [(w12.getD 0 .und), v82_45] [(l13.getD 0 .und), (l13.getD 1 .und)] h14) v86_16) [(w5.getD 0 .und), (.int .i64 0)] [(l6.getD 0 .und), (l6.getD 1 .und), (w5.getD 1 .und), (l6.getD 0 .und), v84_11] h7) (
VL (vlenS (w5.getD 0 .und)) fun v107_46 =>
Rt h7 v107_46) v80_10) [(.rf 76 0 1), (.int .i64 0)] [x1, (.ptr 69 0)] h4) (vfill [(.int .u8 0)] [(0, 1, (.int .u8 0))])) (.ptr 69 0)
theorem impl_reached_f {x0 x1 : V} : Prt Tryd.prog 57 [x0, x1] (impl_reached_F x0 x1) := pfun (fn := Tryd.f57) (m := [.s, .s, .s, .s, .s, .l [6, 7] [1, 5], .s, .s, .s, .s, .l [6, 21] [1, 5, 7, 19, 20], .s, .s, .j [1, 5, 6, 7, 19, 20, 21], .s, .s, .s, .s, .s]) (c := 2 ≤ 44) rfl (fun h0 Rt => by kernel_rfl) (by decide)

def impl_same_F (x0 : V) (hi : Hp) (Rt : Hp → V → Prop) : Prop :=
palloc hi 66 29 (vi .u8 (List.replicate 16 0)) fun h0 =>
VL (vbld (vfill (vi .u8 (List.replicate 16 0)) [])) fun v69_1 =>
palloc h0 67 29 (vi .u8 (List.replicate 16 0)) fun h2 =>
pst h2 16 (cellsV v69_1) (fun u3 h4 =>
LP [7] [2, 3, 6] (fun w5 l6 h7 N8 =>
VL (lift2 (abin .lss) (w5.getD 0 .und) (l6.getD 2 .und)) fun v72_9 =>
pcond (
VL (lift1 (acvi .u8) (w5.getD 0 .und)) fun v76_10 =>
VL (vixA 16 1 (l6.getD 1 .und) (w5.getD 0 .und)) fun v77_11 =>
pst h7 1 (cellsV v76_10) (fun u12 h13 =>
VL (lift2 (abin .add) (w5.getD 0 .und) (.int .i64 1)) fun v78_14 =>
N8 [v78_14] [(l6.getD 0 .und), (l6.getD 1 .und), (l6.getD 2 .und)] h13) v77_11) (
pld h7 (some 16) (fun v79_15 h16 =>
pst h16 16 (cellsV v79_15) (fun u17 h18 =>
VL (pcellV h18 (some 16) (l6.getD 0 .und)) fun r19 =>
Rt h18 r19) (l6.getD 0 .und)) (l6.getD 1 .und)) v72_9) [(.int .i64 0)] [(.ptr 66 0), (.ptr 67 0), x0] h4) (.ptr 67 0)
theorem impl_same_f {x0 : V} : Prt Tryd.prog 58 [x0] (impl_same_F x0) := pfun (fn := Tryd.f58) (m := [.s, .s, .s, .s, .l [7] [2, 3, 6], .s, .s, .s, .s, .s]) (c := 1 ≤ 16) rfl (fun h0 Rt => by kernel_rfl) (by decide)

def impl_back_F (x0 x1 : V) (hi : Hp) (Rt : Hp → V → Prop) : Prop :=
pbox hi 66 29 (cellsV x0) fun h0 =>
palloc h0 68 29 (vi .u8 (List.replicate 16 0)) fun h1 =>
VL (vbld (vfill (vi .u8 (List.replicate 16 0)) [])) fun v71_2 =>
palloc h1 69 29 (vi .u8 (List.replicate 16 0)) fun h3 =>
pst h3 16 (cellsV v71_2) (fun u4 h5 =>
LP [9] [2, 4, 5, 8] (fun w6 l7 h8 N9 =>
VL (lift2 (abin .lss) (w6.getD 0 .und) (l7.getD 3 .und)) fun v74_10 =>
pcond (
VL (vixA 16 1 (l7.getD 0 .und) (w6.getD 0 .und)) fun v77_11 =>
pld h8 none (fun v78_12 h13 =>
VL (lift1 (acvi .u8) (w6.getD 0 .und)) fun v80_14 =>
VL (vixA 16 1 (l7.getD 2 .und) v78_12) fun v81_15 =>
pst h13 1 (cellsV v80_14) (fun u16 h17 =>
VL (lift2 (abin .add) (w6.getD 0 .und) (.int .i64 1)) fun v82_18 =>
N9 [v82_18] [(l7.getD 0 .und), (l7.getD 1 .und), (l7.getD 2 .und), (l7.getD 3 .und)] h17) v81_15) v77_11) (
pld h8 (some 16) (fun v83_19 h20 =>
pst h20 16 (cellsV v83_19) (fun u21 h22 =>
VL (pcellV h22 (some 16) (l7.getD 1 .und)) fun r23 =>
Rt h22 r23) (l7.getD 1 .und)) (l7.getD 2 .und)) v74_10) [(.int .i64 0)] [(.ptr 66 0), (.ptr 68 0), (.ptr 69 0), x1] h5) (.ptr 69 0)
theorem impl_back_f {x0 x1 : V} : Prt Tryd.prog 59 [x0, x1] (impl_back_F x0 x1) := pfun (fn := Tryd.f59) (m := [.s, .s, .s, .s, .l [9] [2, 4, 5, 8], .s, .s, .s, .s, .s]) (c := 2 ≤ 20) rfl (fun h0 Rt => by kernel_rfl) (by decide)

def spec_l01Perm_F (x0 x1 : V) (hi : Hp) (Rt : Hp → V → Prop) : Prop :=
pbox hi 66 29 (cellsV x0) fun h0 =>
pcal Tryd.prog 42 72 h0 (fun v72_1 h2 =>
VL (lift1 (aun .not) v72_1) fun v73_3 =>
pcond (
Rt h2 (.bool false)) (
VL (vbld (vfill (vb (List.replicate 16 false)) [])) fun v74_4 =>
palloc h2 69 54 (vb (List.replicate 16 false)) fun h5 =>
pst h5 16 (cellsV v74_4) (fun u6 h7 =>
LP [6] [1, 2, 5] (fun w8 l9 h10 N11 =>
VL (lift2 (abin .lss) (w8.getD 0 .und) (.int .i64 16)) fun v76_12 =>
pcond (
JN (fun k13 =>
VL (lift2 (abin .geq) (w8.getD 0 .und) (l9.getD 0 .und)) fun v86_16 =>
pcond (
VL (vixA 16 1 (l9.getD 1 .und) (w8.getD 0 .und)) fun v88_17 =>
pld h10 none (fun v89_18 h19 =>
VL (lift2 (abin .neq) v89_18 (.int .u8 0)) fun v90_20 =>
pcond (
Rt h19 (.bool false)) (
k13 [(l9.getD 0 .und), (l9.getD 1 .und), (l9.getD 2 .und), (w8.getD 0 .und)] h19) v90_20) v88_17) (
VL (vixA 16 1 (l9.getD 1 .und) (w8.getD 0 .und)) fun v93_21 =>
pld h10 none (fun v94_22 h23 =>
VL (lift1 (acvi .i64) v94_22) fun v95_24 =>
VL (lift2 (abin .geq) v95_24 (l9.getD 0 .und)) fun v97_25 =>
pgk false h23 (fun g26 k27 => k27 (w8.getD 0 .und) h23) (fun g28 v35_29 h30 =>
pgk false h30 (fun g31 k32 => VL (vixA 16 1 (l9.getD 1 .und) v35_29) fun v100_33 =>
k32 v100_33 h30) (fun g34 v36_35 h36 =>
pgk false h36 (fun g37 k38 => pld h36 none (fun v101_39 h40 =>
k38 v101_39 h40) v36_35) (fun g41 v37_42 h43 =>
pgk false h43 (fun g44 k45 => VL (vixA 16 1 (l9.getD 2 .und) v37_42) fun v102_46 =>
k45 v102_46 h43) (fun g47 v38_48 h49 =>
pgk false h49 (fun g50 k51 => pld h49 none (fun v103_52 h53 =>
k51 v103_52 h53) v38_48) (fun g54 v39_55 h56 =>
VL (vpick g54 (.bool true) v39_55) fun v104_57 =>
pcond (
Rt h56 (.bool false)) (
VL (vixA 16 1 (l9.getD 1 .und) (w8.getD 0 .und)) fun v80_58 =>
pld h56 none (fun v81_59 h60 =>
VL (vixA 16 1 (l9.getD 2 .und) v81_59) fun v82_61 =>
pst h60 1 (cellsV (.bool true)) (fun u62 h63 =>
k13 [(l9.getD 0 .und), (l9.getD 1 .und), (l9.getD 2 .und), (w8.getD 0 .und)] h63) v82_61) v80_58) v104_57) g47) g41) g34) g28) v97_25) v93_21) v86_16) fun o14 h15 =>
VL (lift2 (abin .add) (o14.getD 3 .und) (.int .i64 1)) fun v78_64 =>
N11 [v78_64] [(o14.getD 0 .und), (o14.getD 1 .und), (o14.getD 2 .und)] h15) (
Rt h10 (.bool true)) v76_12) [(.int .i64 0)] [x1, (.ptr 66 0), (.ptr 69 0)] h7) (.ptr 69 0)) v73_3) [x1, (.int .i64 1), (.int .i64 16)]
theorem spec_l01Perm_f {x0 x1 : V} : Prt Tryd.prog 60 [x0, x1] (spec_l01Perm_F x0 x1) := pfun (fn := Tryd.f60) (m := [.s, .s, .s, .s, .s, .s, .s, .l [6] [1, 2, 5], .s, .s, .j [1, 2, 5, 6], .s, .s, .s, .s, .s, .s]) (c := 2 ≤ 41) rfl (fun h0 Rt => by kernel_rfl) (by decide)

def spec_l01Connected_F (x0 x1 x2 : V) (hi : Hp) (Rt : Hp → V → Prop) : Prop :=
pbox hi 68 29 (cellsV x1) fun h0 =>
pbox h0 69 29 (cellsV x2) fun h1 =>
VL (vbld (vfill (vb (List.replicate 16 false)) [])) fun v76_2 =>
pmks h1 77 5 1 1 (fun h3 =>
palloc h3 71 54 (vb (List.replicate 16 false)) fun h4 =>
pst h4 16 (cellsV v76_2) (fun u5 h6 =>
VL (vixA 16 1 (.ptr 71 0) (.int .i64 0)) fun v78_7 =>
pst h6 1 (cellsV (.bool true)) (fun u8 h9 =>
LP [8, 9] [0, 4, 5, 7] (fun w10 l11 h12 N13 =>
VL (vlenS (w10.getD 0 .und)) fun v81_14 =>
VL (lift2 (abin .lss) (w10.getD 1 .und) v81_14) fun v82_15 =>
pcond (
VL (vixS 1 (w10.getD 0 .und) (w10.getD 1 .und)) fun v87_16 =>
pld h12 none (fun v88_17 h18 =>
VL (vixA 16 1 (l11.getD 1 .und) v88_17) fun v89_19 =>
pld h18 none (fun v90_20 h21 =>
VL (vixS 1 (w10.getD 0 .und) (w10.getD 1 .und)) fun v93_22 =>
pld h21 none (fun v94_23 h24 =>
VL (vixA 16 1 (l11.getD 2 .und) v94_23) fun v95_25 =>
pld h24 none (fun v96_26 h27 =>
pmks h27 97 5 2 2 (fun h28 =>
LP [8, 11] [0, 4, 5, 7, 9, 10] (fun w29 l30 h31 N32 =>
VL (lift2 (abin .lss) (w29.getD 1 .und) (.int .i64 2)) fun v99_33 =>
pcond (
JN (fun k34 =>
VL (vixS 1 (l30.getD 5 .und) (w29.getD 1 .und)) fun v104_37 =>
pld h31 none (fun v105_38 h39 =>
VL (vixA 16 1 (l30.getD 3 .und) v105_38) fun v106_40 =>
pld h39 none (fun v107_41 h42 =>
VL (lift1 (aun .not) v107_41) fun v108_43 =>
pcond (
VL (vixS 1 (l30.getD 5 .und) (w29.getD 1 .und)) fun v111_44 =>
pld h42 none (fun v112_45 h46 =>
VL (vixA 16 1 (l30.getD 3 .und) v112_45) fun v113_47 =>
pst h46 1 (cellsV (.bool true)) (fun u48 h49 =>
VL (vixS 1 (l30.getD 5 .und) (w29.getD 1 .und)) fun v117_50 =>
pld h49 none (fun v118_51 h52 =>
pmks h52 119 5 1 1 (fun h53 =>
papp h53 (fun m56 s57 => papV 5 1 1 120 h53 (fun v120_54 h55 =>
k34 [(l30.getD 0 .und), (l30.getD 1 .und), (l30.getD 2 .und), (l30.getD 3 .und), v120_54, (l30.getD 4 .und), (l30.getD 5 .und), (w29.getD 1 .und)] h55) m56 s57 (w29.getD 0 .und)) (pavs h53 (w29.getD 0 .und) []) (preadS 1 h53 (.rf 119 0 1))) (vfill [(.int .u8 0)] [(0, 1, v118_51)])) v117_50) v113_47) v111_44) (
k34 [(l30.getD 0 .und), (l30.getD 1 .und), (l30.getD 2 .und), (l30.getD 3 .und), (w29.getD 0 .und), (l30.getD 4 .und), (l30.getD 5 .und), (w29.getD 1 .und)] h42) v108_43) v106_40) v104_37) fun o35 h36 =>
VL (lift2 (abin .add) (o35.getD 7 .und) (.int .i64 1)) fun v101_58 =>
N32 [(o35.getD 4 .und), v101_58] [(o35.getD 0 .und), (o35.getD 1 .und), (o35.getD 2 .und), (o35.getD 3 .und), (o35.getD 5 .und), (o35.getD 6 .und)] h36) (
VL (lift2 (abin .add) (l30.getD 4 .und) (.int .i64 1)) fun v84_59 =>
N13 [(w29.getD 0 .und), v84_59] [(l30.getD 0 .und), (l30.getD 1 .und), (l30.getD 2 .und), (l30.getD 3 .und)] h31) v99_33) [(w10.getD 0 .und), (.int .i64 0)] [(l11.getD 0 .und), (l11.getD 1 .und), (l11.getD 2 .und), (l11.getD 3 .und), (w10.getD 1 .und), (.rf 97 0 2)] h28) (vfill [(.int .u8 0), (.int .u8 0)] [(0, 1, v90_20), (1, 1, v96_26)])) v95_25) v93_22) v89_19) v87_16) (
VL (vlenS (w10.getD 0 .und)) fun v122_60 =>
VL (lift2 (abin .eql) v122_60 (l11.getD 0 .und)) fun v124_61 =>
Rt h12 v124_61) v82_15) [(.rf 77 0 1), (.int .i64 0)] [x0, (.ptr 68 0), (.ptr 69 0), (.ptr 71 0)] h9) v78_7) (.ptr 71 0)) (vfill [(.int .u8 0)] [(0, 1, (.int .u8 0))])
theorem spec_l01Connected_f {x0 x1 x2 : V} : Prt Tryd.prog 61 [x0, x1, x2] (spec_l01Connected_F x0 x1 x2) := pfun (fn := Tryd.f61) (m := [.s, .s, .s, .s, .s, .l [8, 9] [0, 4, 5, 7], .s, .s, .s, .s, .s, .l [8, 11] [0, 4, 5, 7, 9, 10], .s, .s, .j [0, 4, 5, 7, 8, 9, 10, 11], .s, .s, .s]) (c := 3 ≤ 61) rfl (fun h0 Rt => by kernel_rfl) (by decide)

def spec_l01Same_F (x0 : V) (hi : Hp) (Rt : Hp → V → Prop) : Prop :=
palloc hi 66 29 (vi .u8 (List.replicate 16 0)) fun h0 =>
VL (vbld (vfill (vi .u8 (List.replicate 16 0)) [])) fun v69_1 =>
palloc h0 67 29 (vi .u8 (List.replicate 16 0)) fun h2 =>
pst h2 16 (cellsV v69_1) (fun u3 h4 =>
LP [4] [0, 2, 3] (fun w5 l6 h7 N8 =>
VL (lift2 (abin .lss) (w5.getD 0 .und) (l6.getD 0 .und)) fun v72_9 =>
pcond (
VL (lift1 (acvi .u8) (w5.getD 0 .und)) fun v77_10 =>
VL (vixA 16 1 (l6.getD 2 .und) (w5.getD 0 .und)) fun v78_11 =>
pst h7 1 (cellsV v77_10) (fun u12 h13 =>
VL (lift2 (abin .add) (w5.getD 0 .und) (.int .i64 1)) fun v74_14 =>
N8 [v74_14] [(l6.getD 0 .und), (l6.getD 1 .und), (l6.getD 2 .und)] h13) v78_11) (
pld h7 (some 16) (fun v79_15 h16 =>
pst h16 16 (cellsV v79_15) (fun u17 h18 =>
VL (pcellV h18 (some 16) (l6.getD 1 .und)) fun r19 =>
Rt h18 r19) (l6.getD 1 .und)) (l6.getD 2 .und)) v72_9) [(.int .i64 0)] [x0, (.ptr 66 0), (.ptr 67 0)] h4) (.ptr 67 0)
theorem spec_l01Same_f {x0 : V} : Prt Tryd.prog 62 [x0] (spec_l01Same_F x0) := pfun (fn := Tryd.f62) (m := [.s, .s, .s, .s, .l [4] [0, 2, 3], .s, .s, .s, .s]) (c := 1 ≤ 16) rfl (fun h0 Rt => by kernel_rfl) (by decide)

def spec_l01Back_F (x0 x1 : V) (hi : Hp) (Rt : Hp → V → Prop) : Prop :=
pbox hi 66 29 (cellsV x0) fun h0 =>
palloc h0 68 29 (vi .u8 (List.replicate 16 0)) fun h1 =>
VL (vbld (vfill (vi .u8 (List.replicate 16 0)) [])) fun v71_2 =>
palloc h1 69 29 (vi .u8 (List.replicate 16 0)) fun h3 =>
pst h3 16 (cellsV v71_2) (fun u4 h5 =>
LP [6] [1, 2, 4, 5] (fun w6 l7 h8 N9 =>
VL (lift2 (abin .lss) (w6.getD 0 .und) (l7.getD 0 .und)) fun v74_10 =>
pcond (
VL (vixA 16 1 (l7.getD 1 .und) (w6.getD 0 .und)) fun v78_11 =>
pld h8 none (fun v79_12 h13 =>
VL (lift1 (acvi .u8) (w6.getD 0 .und)) fun v81_14 =>
VL (vixA 16 1 (l7.getD 3 .und) v79_12) fun v82_15 =>
pst h13 1 (cellsV v81_14) (fun u16 h17 =>
VL (lift2 (abin .add) (w6.getD 0 .und) (.int .i64 1)) fun v76_18 =>
N9 [v76_18] [(l7.getD 0 .und), (l7.getD 1 .und), (l7.getD 2 .und), (l7.getD 3 .und)] h17) v82_15) v78_11) (
pld h8 (some 16) (fun v83_19 h20 =>
pst h20 16 (cellsV v83_19) (fun u21 h22 =>
VL (pcellV h22 (some 16) (l7.getD 2 .und)) fun r23 =>
Rt h22 r23) (l7.getD 2 .und)) (l7.getD 3 .und)) v74_10) [(.int .i64 0)] [x1, (.ptr 66 0), (.ptr 68 0), (.ptr 69 0)] h5) (.ptr 69 0)
theorem spec_l01Back_f {x0 x1 : V} : Prt Tryd.prog 63 [x0, x1] (spec_l01Back_F x0 x1) := pfun (fn := Tryd.f63) (m := [.s, .s, .s, .s, .l [6] [1, 2, 4, 5], .s, .s, .s, .s]) (c := 2 ≤ 20) rfl (fun h0 Rt => by kernel_rfl) (by decide)

def spec_l01Then_F (x0 x1 x2 : V) (hi : Hp) (Rt : Hp → V → Prop) : Prop :=
pbox hi 67 29 (cellsV x0) fun h0 =>
pbox h0 68 29 (cellsV x1) fun h1 =>
palloc h1 70 29 (vi .u8 (List.replicate 16 0)) fun h2 =>
VL (vbld (vfill (vi .u8 (List.replicate 16 0)) [])) fun v73_3 =>
palloc h2 71 29 (vi .u8 (List.replicate 16 0)) fun h4 =>
pst h4 16 (cellsV v73_3) (fun u5 h6 =>
LP [8] [2, 3, 4, 6, 7] (fun w7 l8 h9 N10 =>
VL (lift2 (abin .lss) (w7.getD 0 .und) (l8.getD 0 .und)) fun v76_11 =>
pcond (
VL (vixA 16 1 (l8.getD 1 .und) (w7.getD 0 .und)) fun v81_12 =>
pld h9 none (fun v82_13 h14 =>
VL (vixA 16 1 (l8.getD 2 .und) v82_13) fun v83_15 =>
pld h14 none (fun v84_16 h17 =>
VL (vixA 16 1 (l8.getD 4 .und) (w7.getD 0 .und)) fun v85_18 =>
pst h17 1 (cellsV v84_16) (fun u19 h20 =>
VL (lift2 (abin .add) (w7.getD 0 .und) (.int .i64 1)) fun v78_21 =>
N10 [v78_21] [(l8.getD 0 .und), (l8.getD 1 .und), (l8.getD 2 .und), (l8.getD 3 .und), (l8.getD 4 .und)] h20) v85_18) v83_15) v81_12) (
pld h9 (some 16) (fun v86_22 h23 =>
pst h23 16 (cellsV v86_22) (fun u24 h25 =>
VL (pcellV h25 (some 16) (l8.getD 3 .und)) fun r26 =>
Rt h25 r26) (l8.getD 3 .und)) (l8.getD 4 .und)) v76_11) [(.int .i64 0)] [x2, (.ptr 67 0), (.ptr 68 0), (.ptr 70 0), (.ptr 71 0)] h6) (.ptr 71 0)
theorem spec_l01Then_f {x0 x1 x2 : V} : Prt Tryd.prog 64 [x0, x1, x2] (spec_l01Then_F x0 x1 x2) := pfun (fn := Tryd.f64) (m := [.s, .s, .s, .s, .l [8] [2, 3, 4, 6, 7], .s, .s, .s, .s]) (c := 3 ≤ 23) rfl (fun h0 Rt => by kernel_rfl) (by decide)

def math_bits_Mul_F (x0 x1 : V) (hi : Hp) (Rt : Hp → V → Prop) : Prop :=
pcond (
VL (lift1 (acvi .u32) x0) fun v76_0 =>
VL (lift1 (acvi .u32) x1) fun v78_1 =>
pcal Tryd.prog 77 79 hi (fun v79_2 h3 =>
VL (vext 0 v79_2) fun v80_4 =>
VL (vext 1 v79_2) fun v81_5 =>
VL (lift1 (acvi .u64) v80_4) fun v83_6 =>
VL (lift1 (acvi .u64) v81_5) fun v85_7 =>
Rt h3 (.tup [v83_6, v85_7])) [v76_0, v78_1]) (
pcal Tryd.prog 78 89 hi (fun v89_8 h9 =>
VL (vext 0 v89_8) fun v90_10 =>
VL (vext 1 v89_8) fun v91_11 =>
Rt h9 (.tup [v90_10, v91_11])) [x0, x1]) (.bool false)
theorem math_bits_Mul_f {x0 x1 : V} : Prt Tryd.prog 65 [x0, x1] (math_bits_Mul_F x0 x1) := pfun (fn := Tryd.f65) (m := [.s, .s, .s, .s, .s, .s]) (c := 2 ≤ 30) rfl (fun h0 Rt => by kernel_rfl) (by decide)

def strings_HasPrefix_F (x0 x1 : V) (hi : Hp) (Rt : Hp → V → Prop) : Prop :=
pcal Tryd.prog 79 71 hi (fun v71_0 h1 =>
Rt h1 v71_0) [x0, x1]
theorem strings_HasPrefix_f {x0 x1 : V} : Prt Tryd.prog 66 [x0, x1] (strings_HasPrefix_F x0 x1) := pfun (fn := Tryd.f66) (m := [.s, .s]) (c := 2 ≤ 8) rfl (fun h0 Rt => by kernel_rfl) (by decide)

def strings_Builder_WriteString_F (x0 x1 : V) (hi : Hp) (Rt : Hp → V → Prop) : Prop :=
pcal Tryd.prog 80 71 hi (fun v71_0 h1 =>
VL (vfa 0 x0) fun v74_2 =>
VL (vfa 1 v74_2) fun v75_3 =>
pld h1 none (fun v76_4 h5 =>
False) v75_3) [x0]
theorem strings_Builder_WriteString_f {x0 x1 : V} : Prt Tryd.prog 68 [x0, x1] (strings_Builder_WriteString_F x0 x1) := pfun (fn := Tryd.f68) (m := [.s, .s, .s, .s]) (c := 2 ≤ 19) rfl (fun h0 Rt => by kernel_rfl) (by decide)

def strings_Builder_Len_F (x0 : V) (hi : Hp) (Rt : Hp → V → Prop) : Prop :=
VL (vfa 0 x0) fun v68_0 =>
VL (vfa 1 v68_0) fun v69_1 =>
pld hi none (fun v70_2 h3 =>
VL (vlenS v70_2) fun v71_4 =>
Rt h3 v71_4) v69_1
theorem strings_Builder_Len_f {x0 : V} : Prt Tryd.prog 69 [x0] (strings_Builder_Len_F x0) := pfun (fn := Tryd.f69) (m := [.s, .s]) (c := 1 ≤ 8) rfl (fun h0 Rt => by kernel_rfl) (by decide)

def impl_isSize_F (x0 : V) (hi : Hp) (Rt : Hp → V → Prop) : Prop :=
VL (lift2 (abin .geq) x0 (.int .i64 1)) fun v68_0 =>
pgk true hi (fun g1 k2 => k2 x0 hi) (fun g3 v6_4 h5 =>
pgk true h5 (fun g6 k7 => VL (lift2 (abin .leq) v6_4 (.int .i64 16)) fun v71_8 =>
k7 v71_8 h5) (fun g9 v7_10 h11 =>
VL (vpick g9 v7_10 (.bool false)) fun v72_12 =>
Rt h11 v72_12) g3) v68_0
theorem impl_isSize_f {x0 : V} : Prt Tryd.prog 71 [x0] (impl_isSize_F x0) := pfun (fn := Tryd.f71) (m := [.s, .s]) (c := 1 ≤ 9) rfl (fun h0 Rt => by kernel_rfl) (by decide)

def strings_asciiSet_contains_F (x0 x1 : V) (hi : Hp) (Rt : Hp → V → Prop) : Prop :=
VL (vfa 0 x0) fun v71_0 =>
VL (vixA 256 1 v71_0 x1) fun v72_1 =>
pld hi none (fun v73_2 h3 =>
Rt h3 v73_2) v72_1
theorem strings_asciiSet_contains_f {x0 x1 : V} : Prt Tryd.prog 72 [x0, x1] (strings_asciiSet_contains_F x0 x1) := pfun (fn := Tryd.f72) (m := [.s, .s]) (c := 2 ≤ 10) rfl (fun h0 Rt => by kernel_rfl) (by decide)

def strings_ContainsRune_F (x0 x1 : V) (hi : Hp) (Rt : Hp → V → Prop) : Prop :=
pcal Tryd.prog 83 71 hi (fun v71_0 h1 =>
VL (lift2 (abin .geq) v71_0 (.int .i64 0)) fun v72_2 =>
Rt h1 v72_2) [x0, x1]
theorem strings_ContainsRune_f {x0 x1 : V} : Prt Tryd.prog 74 [x0, x1] (strings_ContainsRune_F x0 x1) := pfun (fn := Tryd.f74) (m := [.s, .s]) (c := 2 ≤ 9) rfl (fun h0 Rt => by kernel_rfl) (by decide)

def spec_l01Draw_F (x0 x1 : V) (hi : Hp) (Rt : Hp → V → Prop) : Prop :=
palloc hi 68 31 ([(.int .i64 0)] ++ (vi .u8 (List.replicate 32 0))) fun h0 =>
pcal Tryd.prog 39 75 h0 (fun v75_1 h2 =>
VL (lift2 (abin .add) (.int .i64 1) v75_1) fun v76_3 =>
LP [6] [0, 4, 5] (fun w4 l5 h6 N7 =>
VL (lift2 (abin .lss) (w4.getD 0 .und) (.int .i64 8)) fun v78_8 =>
pcond (
pmks h6 86 2 4 4 (fun h9 =>
pcal Tryd.prog 40 87 h9 (fun v87_10 h11 =>
pcal Tryd.prog 85 88 h11 (fun v88_12 h13 =>
pmks h13 93 2 4 4 (fun h14 =>
pcal Tryd.prog 40 94 h14 (fun v94_15 h16 =>
pcal Tryd.prog 85 95 h16 (fun v95_17 h18 =>
VL (vbld (vfill ([(.int .i64 0)] ++ (vi .u8 (List.replicate 32 0))) [(0, 1, (l5.getD 2 .und)), (1, 16, v88_12), (17, 16, v95_17)])) fun v96_19 =>
palloc h18 71 31 ([(.int .i64 0)] ++ (vi .u8 (List.replicate 32 0))) fun h20 =>
pst h20 33 (cellsV v96_19) (fun u21 h22 =>
pld h22 (some 33) (fun v97_23 h24 =>
pcal Tryd.prog 35 98 h24 (fun v98_25 h26 =>
pcond (
pld h26 (some 33) (fun v99_27 h28 =>
pst h28 33 (cellsV v99_27) (fun u29 h30 =>
VL (pcellV h30 (some 33) (l5.getD 1 .und)) fun r31 =>
Rt h30 r31) (l5.getD 1 .und)) (.ptr 71 0)) (
VL (lift2 (abin .add) (w4.getD 0 .und) (.int .i64 1)) fun v80_32 =>
N7 [v80_32] [(l5.getD 0 .und), (l5.getD 1 .und), (l5.getD 2 .und)] h26) v98_25) [v97_23]) (.ptr 71 0)) (.ptr 71 0)) [(l5.getD 0 .und), (l5.getD 2 .und), v94_15]) [(l5.getD 0 .und), (.rf 93 0 4)]) (vfill (vi .i64 (List.replicate 4 0)) [(0, 1, (.int .i64 2)), (1, 1, (.int .i64 2)), (2, 1, (.int .i64 3)), (3, 1, (l5.getD 2 .und))])) [(l5.getD 0 .und), (l5.getD 2 .und), v87_10]) [(l5.getD 0 .und), (.rf 86 0 4)]) (vfill (vi .i64 (List.replicate 4 0)) [(0, 1, (.int .i64 2)), (1, 1, (.int .i64 3)), (2, 1, (.int .i64 4)), (3, 1, (l5.getD 2 .und))])) (
pcal Tryd.prog 86 101 h6 (fun v101_33 h34 =>
palloc h34 72 31 ([(.int .i64 0)] ++ (vi .u8 (List.replicate 32 0))) fun h35 =>
pst h35 33 (cellsV v101_33) (fun u36 h37 =>
pcal Tryd.prog 87 104 h37 (fun v104_38 h39 =>
pst h39 16 (cellsV v104_38) (fun u40 h41 =>
pld h41 (some 33) (fun v106_42 h43 =>
pst h43 33 (cellsV v106_42) (fun u44 h45 =>
VL (pcellV h45 (some 33) (l5.getD 1 .und)) fun r46 =>
Rt h45 r46) (l5.getD 1 .und)) (.ptr 72 0)) (.ptr 72 17)) [(l5.getD 0 .und), (l5.getD 2 .und)]) (.ptr 72 0)) [(l5.getD 2 .und)]) v78_8) [(.int .i64 0)] [x0, (.ptr 68 0), v76_3] h2) [x0, x1]
theorem spec_l01Draw_f {x0 x1 : V} : Prt Tryd.prog 76 [x0, x1] (spec_l01Draw_F x0 x1) := pfun (fn := Tryd.f76) (m := [.s, .s, .s, .s, .l [6] [0, 4, 5], .s, .s, .s, .s, .s, .s, .s, .s, .s]) (c := 2 ≤ 43) rfl (fun h0 Rt => by kernel_rfl) (by decide)

def math_bits_Mul32_F (x0 x1 : V) (hi : Hp) (Rt : Hp → V → Prop) : Prop :=
VL (lift1 (acvi .u64) x0) fun v72_0 =>
VL (lift1 (acvi .u64) x1) fun v74_1 =>
VL (lift2 (abin .mul) v72_0 v74_1) fun v75_2 =>
VL (lift2 (abin .shr) v75_2 (.int .u64 32)) fun v77_3 =>
VL (lift1 (acvi .u32) v77_3) fun v78_4 =>
VL (lift1 (acvi .u32) v75_2) fun v80_5 =>
Rt hi (.tup [v78_4, v80_5])
theorem math_bits_Mul32_f {x0 x1 : V} : Prt Tryd.prog 77 [x0, x1] (math_bits_Mul32_F x0 x1) := pfun (fn := Tryd.f77) (m := [.s, .s, .s]) (c := 2 ≤ 17) rfl (fun h0 Rt => by kernel_rfl) (by decide)

def math_bits_Mul64_F (x0 x1 : V) (hi : Hp) (Rt : Hp → V → Prop) : Prop :=
VL (lift2 (abin .and) x0 (.int .u64 4294967295)) fun v79_0 =>
VL (lift2 (abin .shr) x0 (.int .u64 32)) fun v81_1 =>
VL (lift2 (abin .and) x1 (.int .u64 4294967295)) fun v83_2 =>
VL (lift2 (abin .shr) x1 (.int .u64 32)) fun v85_3 =>
VL (lift2 (abin .mul) v79_0 v83_2) fun v88_4 =>
VL (lift2 (abin .mul) v81_1 v83_2) fun v91_5 =>
VL (lift2 (abin .shr) v88_4 (.int .u64 32)) fun v93_6 =>
VL (lift2 (abin .add) v91_5 v93_6) fun v94_7 =>
VL (lift2 (abin .and) v94_7 (.int .u64 4294967295)) fun v96_8 =>
VL (lift2 (abin .shr) v94_7 (.int .u64 32)) fun v98_9 =>
VL (lift2 (abin .mul) v79_0 v85_3) fun v102_10 =>
VL (lift2 (abin .add) v96_8 v102_10) fun v103_11 =>
VL (lift2 (abin .mul) v81_1 v85_3) fun v106_12 =>
VL (lift2 (abin .add) v106_12 v98_9) fun v108_13 =>
VL (lift2 (abin .shr) v103_11 (.int .u64 32)) fun v110_14 =>
VL (lift2 (abin .add) v108_13 v110_14) fun v111_15 =>
VL (lift2 (abin .mul) x0 x1) fun v114_16 =>
Rt hi (.tup [v111_15, v114_16])
theorem math_bits_Mul64_f {x0 x1 : V} : Prt Tryd.prog 78 [x0, x1] (math_bits_Mul64_F x0 x1) := pfun (fn := Tryd.f78) (m := [.s, .s, .s, .s, .s, .s, .s, .s, .s, .s, .s, .s]) (c := 2 ≤ 51) rfl (fun h0 Rt => by kernel_rfl) (by decide)

def spec_l01Pairs_F (x0 x1 x2 : V) (hi : Hp) (Rt : Hp → V → Prop) : Prop :=
palloc hi 70 29 (vi .u8 (List.replicate 16 0)) fun h0 =>
pcal Tryd.prog 87 78 h0 (fun v78_1 h2 =>
pcal Tryd.prog 62 80 h2 (fun v80_3 h4 =>
palloc h4 71 29 (vi .u8 (List.replicate 16 0)) fun h5 =>
palloc h5 72 29 (vi .u8 (List.replicate 16 0)) fun h6 =>
pst h6 16 (cellsV v78_1) (fun u7 h8 =>
pst h8 16 (cellsV v80_3) (fun u9 h10 =>
LP [9] [0, 1, 2, 6, 7, 8] (fun w11 l12 h13 N14 =>
VL (lift2 (abin .lss) (w11.getD 0 .und) (l12.getD 1 .und)) fun v83_15 =>
pcond (
pcal Tryd.prog 39 86 h13 (fun v86_16 h17 =>
VL (lift2 (abin .add) (.int .i64 1) v86_16) fun v87_18 =>
VL (lift2 (abin .sub) (l12.getD 1 .und) (w11.getD 0 .und)) fun v90_19 =>
VL (lift2 amin v87_18 v90_19) fun v91_20 =>
LP [11] [0, 1, 2, 6, 7, 8, 9, 10] (fun w21 l22 h23 N24 =>
VL (lift2 (abin .lss) (w21.getD 0 .und) (l22.getD 7 .und)) fun v94_25 =>
pcond (
VL (lift2 (abin .add) (l22.getD 6 .und) (w21.getD 0 .und)) fun v99_26 =>
VL (vixA 16 1 (l22.getD 4 .und) v99_26) fun v100_27 =>
pld h23 none (fun v101_28 h29 =>
VL (lift2 (abin .add) (w21.getD 0 .und) (.int .i64 1)) fun v104_30 =>
VL (lift2 (abin .rem) v104_30 (l22.getD 7 .und)) fun v106_31 =>
VL (lift2 (abin .add) (l22.getD 6 .und) v106_31) fun v107_32 =>
VL (vixA 16 1 (l22.getD 4 .und) v107_32) fun v108_33 =>
pld h29 none (fun v109_34 h35 =>
VL (vixA 16 1 (l22.getD 5 .und) v101_28) fun v110_36 =>
pst h35 1 (cellsV v109_34) (fun u37 h38 =>
VL (lift2 (abin .add) (w21.getD 0 .und) (.int .i64 1)) fun v96_39 =>
N24 [v96_39] [(l22.getD 0 .und), (l22.getD 1 .und), (l22.getD 2 .und), (l22.getD 3 .und), (l22.getD 4 .und), (l22.getD 5 .und), (l22.getD 6 .und), (l22.getD 7 .und)] h38) v110_36) v108_33) v100_27) (
VL (lift2 (abin .add) (l22.getD 6 .und) (l22.getD 7 .und)) fun v113_40 =>
N14 [v113_40] [(l22.getD 0 .und), (l22.getD 1 .und), (l22.getD 2 .und), (l22.getD 3 .und), (l22.getD 4 .und), (l22.getD 5 .und)] h23) v94_25) [(.int .i64 0)] [(l12.getD 0 .und), (l12.getD 1 .und), (l12.getD 2 .und), (l12.getD 3 .und), (l12.getD 4 .und), (l12.getD 5 .und), (w11.getD 0 .und), v91_20] h17) [(l12.getD 0 .und), (l12.getD 2 .und)]) (
pld h13 (some 16) (fun v114_41 h42 =>
pst h42 16 (cellsV v114_41) (fun u43 h44 =>
VL (pcellV h44 (some 16) (l12.getD 3 .und)) fun r45 =>
Rt h44 r45) (l12.getD 3 .und)) (l12.getD 5 .und)) v83_15) [(.int .i64 0)] [x0, x1, x2, (.ptr 70 0), (.ptr 71 0), (.ptr 72 0)] h10) (.ptr 72 0)) (.ptr 71 0)) [x1]) [x0, x1]
theorem spec_l01Pairs_f {x0 x1 x2 : V} : Prt Tryd.prog 85 [x0, x1, x2] (spec_l01Pairs_F x0 x1 x2) := pfun (fn := Tryd.f85) (m := [.s, .s, .s, .s, .l [9] [0, 1, 2, 6, 7, 8], .s, .s, .s, .s, .s, .l [11] [0, 1, 2, 6, 7, 8, 9, 10], .s, .s, .s, .s]) (c := 3 ≤ 51) rfl (fun h0 Rt => by kernel_rfl) (by decide)

def spec_l01Star_F (x0 : V) (hi : Hp) (Rt : Hp → V → Prop) : Prop :=
palloc hi 66 31 ([(.int .i64 0)] ++ (vi .u8 (List.replicate 32 0))) fun h0 =>
pcal Tryd.prog 94 69 h0 (fun v69_1 h2 =>
pcal Tryd.prog 62 71 h2 (fun v71_3 h4 =>
VL (vbld (vfill ([(.int .i64 0)] ++ (vi .u8 (List.replicate 32 0))) [(0, 1, x0), (1, 16, v69_1), (17, 16, v71_3)])) fun v72_5 =>
pst h4 33 (cellsV v72_5) (fun u6 h7 =>
VL (pcellV h7 (some 33) (.ptr 66 0)) fun r8 =>
Rt h7 r8) (.ptr 66 0)) [x0]) [x0]
theorem spec_l01Star_f {x0 : V} : Prt Tryd.prog 86 [x0] (spec_l01Star_F x0) := pfun (fn := Tryd.f86) (m := [.s, .s]) (c := 1 ≤ 9) rfl (fun h0 Rt => by kernel_rfl) (by decide)

def spec_l01DrawPlaces_F (x0 x1 : V) (hi : Hp) (Rt : Hp → V → Prop) : Prop :=
palloc hi 68 29 (vi .u8 (List.replicate 16 0)) fun h0 =>
pcal Tryd.prog 62 74 h0 (fun v74_1 h2 =>
palloc h2 69 29 (vi .u8 (List.replicate 16 0)) fun h3 =>
pst h3 16 (cellsV v74_1) (fun u4 h5 =>
pcal Tryd.prog 39 76 h5 (fun v76_6 h7 =>
VL (lift2 (abin .eql) v76_6 (.int .i64 0)) fun v77_8 =>
pcond (
pld h7 (some 16) (fun v78_9 h10 =>
pst h10 16 (cellsV v78_9) (fun u11 h12 =>
VL (pcellV h12 (some 16) (.ptr 68 0)) fun r13 =>
Rt h12 r13) (.ptr 68 0)) (.ptr 69 0)) (
VL (lift2 (abin .sub) x1 (.int .i64 1)) fun v80_14 =>
LP [6] [0, 4, 5] (fun w15 l16 h17 N18 =>
VL (lift2 (abin .gtr) (w15.getD 0 .und) (.int .i64 0)) fun v82_19 =>
pcond (
VL (lift2 (abin .add) (w15.getD 0 .und) (.int .i64 1)) fun v87_20 =>
pcal Tryd.prog 39 88 h17 (fun v88_21 h22 =>
VL (vixA 16 1 (l16.getD 2 .und) (w15.getD 0 .und)) fun v90_23 =>
pld h22 none (fun v91_24 h25 =>
VL (vixA 16 1 (l16.getD 2 .und) v88_21) fun v94_26 =>
pld h25 none (fun v95_27 h28 =>
VL (vixA 16 1 (l16.getD 2 .und) (w15.getD 0 .und)) fun v96_29 =>
pst h28 1 (cellsV v95_27) (fun u30 h31 =>
VL (vixA 16 1 (l16.getD 2 .und) v88_21) fun v99_32 =>
pst h31 1 (cellsV v91_24) (fun u33 h34 =>
VL (lift2 (abin .sub) (w15.getD 0 .und) (.int .i64 1)) fun v84_35 =>
N18 [v84_35] [(l16.getD 0 .und), (l16.getD 1 .und), (l16.getD 2 .und)] h34) v99_32) v96_29) v94_26) v90_23) [(l16.getD 0 .und), v87_20]) (
pld h17 (some 16) (fun v100_36 h37 =>
pst h37 16 (cellsV v100_36) (fun u38 h39 =>
VL (pcellV h39 (some 16) (l16.getD 1 .und)) fun r40 =>
Rt h39 r40) (l16.getD 1 .und)) (l16.getD 2 .und)) v82_19) [v80_14] [x0, (.ptr 68 0), (.ptr 69 0)] h7) v77_8) [x0, (.int .i64 8)]) (.ptr 69 0)) [x1]
theorem spec_l01DrawPlaces_f {x0 x1 : V} : Prt Tryd.prog 87 [x0, x1] (spec_l01DrawPlaces_F x0 x1) := pfun (fn := Tryd.f87) (m := [.s, .s, .s, .s, .s, .s, .s, .l [6] [0, 4, 5], .s, .s, .s, .s, .s, .s, .s]) (c := 2 ≤ 37) rfl (fun h0 Rt => by kernel_rfl) (by decide)

def strings_IndexByte_F (x0 x1 : V) (hi : Hp) (Rt : Hp → V → Prop) : Prop :=
pcal Tryd.prog 95 71 hi (fun v71_0 h1 =>
Rt h1 v71_0) [x0, x1]
theorem strings_IndexByte_f {x0 x1 : V} : Prt Tryd.prog 90 [x0, x1] (strings_IndexByte_F x0 x1) := pfun (fn := Tryd.f90) (m := [.s, .s]) (c := 2 ≤ 8) rfl (fun h0 Rt => by kernel_rfl) (by decide)

def spec_l01Turn_F (x0 : V) (hi : Hp) (Rt : Hp → V → Prop) : Prop :=
palloc hi 66 29 (vi .u8 (List.replicate 16 0)) fun h0 =>
VL (vbld (vfill (vi .u8 (List.replicate 16 0)) [])) fun v69_1 =>
palloc h0 67 29 (vi .u8 (List.replicate 16 0)) fun h2 =>
pst h2 16 (cellsV v69_1) (fun u3 h4 =>
LP [4] [0, 2, 3] (fun w5 l6 h7 N8 =>
VL (lift2 (abin .lss) (w5.getD 0 .und) (l6.getD 0 .und)) fun v72_9 =>
pcond (
VL (lift2 (abin .add) (w5.getD 0 .und) (.int .i64 1)) fun v77_10 =>
VL (lift2 (abin .rem) v77_10 (l6.getD 0 .und)) fun v79_11 =>
VL (lift1 (acvi .u8) v79_11) fun v80_12 =>
VL (vixA 16 1 (l6.getD 2 .und) (w5.getD 0 .und)) fun v81_13 =>
pst h7 1 (cellsV v80_12) (fun u14 h15 =>
VL (lift2 (abin .add) (w5.getD 0 .und) (.int .i64 1)) fun v74_16 =>
N8 [v74_16] [(l6.getD 0 .und), (l6.getD 1 .und), (l6.getD 2 .und)] h15) v81_13) (
pld h7 (some 16) (fun v82_17 h18 =>
pst h18 16 (cellsV v82_17) (fun u19 h20 =>
VL (pcellV h20 (some 16) (l6.getD 1 .und)) fun r21 =>
Rt h20 r21) (l6.getD 1 .und)) (l6.getD 2 .und)) v72_9) [(.int .i64 0)] [x0, (.ptr 66 0), (.ptr 67 0)] h4) (.ptr 67 0)
theorem spec_l01Turn_f {x0 : V} : Prt Tryd.prog 94 [x0] (spec_l01Turn_F x0) := pfun (fn := Tryd.f94) (m := [.s, .s, .s, .s, .l [4] [0, 2, 3], .s, .s, .s, .s]) (c := 1 ≤ 19) rfl (fun h0 Rt => by kernel_rfl) (by decide)

end Go.Proofs.YtjklebickfcddaaDoor.Sep
