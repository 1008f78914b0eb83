import Derived.Test.YtialecgadoepjaaGreatSh
open Go Go.Proofs
set_option linter.unusedVariables false
set_option linter.unusedSimpArgs false
namespace Go.Cb
-- 3 ciborium/ciboriumlaw24.MvccPlays
noncomputable def cx3 (F : FnT) (G : RndT) : Ctx := ⟨Pg, F, G, 3, none, 133⟩
noncomputable def K3_0 : FnT → RndT → Exit → Env → World → R := fun _ _ => endK Pg Go.Proofs.Tryz.f3
noncomputable def K3_1 : FnT → RndT → Exit → Env → World → R := fun F G => thenK (evalCode (cx3 F G) (cdA Go.Proofs.Tryz.f3 [1, 1, 1, 1]) (K3_0 F G)) (K3_0 F G)
noncomputable def K3_2 : FnT → RndT → Exit → Env → World → R := fun F G => blkK 0 (K3_1 F G)
noncomputable def S3 (F : FnT) (G : RndT) (x0 x1 x2 x3 : Value) (w0 : World) : R :=
  rd2 (rawV Pg (Instr.box 25 x2) w0) fun x5 w6 =>
  rd2 (F 9 [x0] w6) fun x7 w8 =>
  rd (unV .not x7) fun x9 =>
  rd2 (gate x9 false (fun _ => rd (fldA Pg 25 x5 0) fun x10 => some (x10, w8)) w8) fun x11 w12 =>
  rd2 (gate x9 false (fun _ => rd (ldV Pg 9 x11 w12) fun x13 => some (x13, w12)) w12) fun x14 w15 =>
  rd2 (gate x9 false (fun _ => rd2 (lenG false Pg .len #[9] 3 #[false] [x14] w15) fun x16 w17 => some (x16, w17)) w15) fun x18 w19 =>
  rd2 (gate x9 false (fun _ => rd2 (binG false Pg .gtr 3 (.tmp 0) (.const .nilFunc) x18 (.int .i64 60) w19) fun x20 w21 => some (x20, w21)) w19) fun x22 w23 =>
  rd (pickV x9 (.bool true) x22) fun x24 =>
  rd2 (gate x24 false (fun _ => rd (fldA Pg 25 x5 1) fun x25 => some (x25, w23)) w23) fun x26 w27 =>
  rd2 (gate x24 false (fun _ => rd (ldV Pg 9 x26 w27) fun x28 => some (x28, w27)) w27) fun x29 w30 =>
  rd2 (gate x24 false (fun _ => rd2 (lenG false Pg .len #[9] 3 #[false] [x29] w30) fun x31 w32 => some (x31, w32)) w30) fun x33 w34 =>
  rd2 (gate x24 false (fun _ => rd2 (binG false Pg .gtr 3 (.tmp 0) (.const .nilFunc) x33 (.int .i64 60) w34) fun x35 w36 => some (x35, w36)) w34) fun x37 w38 =>
  rd (pickV x24 (.bool true) x37) fun x39 =>
  cnd x39 (fun _ => rd2 (F 10 [] w38) fun x40 w41 =>
  some (x40, w41)) (fun _ => rd2 (F 11 [] w38) fun x42 w43 =>
  rd (bldV Pg 33 []) fun x44 =>
  rd2 (rawV Pg (Instr.box 33 x44) w43) fun x45 w46 =>
  evalLoop (cx3 F G) (cdA Go.Proofs.Tryz.f3 [1, 1, 1, 0, 1, 0, 0]) (K3_2 F G) (upd (upd (upd (upd (upd (upd (upd (upd (upd (upd (upd (upd (upd (upd (upd (upd (upd (upd (upd (upd (upd (upd (upd (envL [x0, x1, x2, x3]) 6 x5) 8 (.bool false)) 19 x0) 20 x7) 21 x9) 22 x9) 23 x11) 24 x14) 25 x18) 26 x22) 27 x24) 28 x24) 29 x26) 30 x29) 31 x33) 32 x37) 33 x39) 35 x42) 36 x44) 37 x45) 9 x42) 10 x45) 11 (.int .i64 0)) w46)
noncomputable def S3_L1 (F : FnT) (G : RndT) (e : Env) (w0 : World) : R :=
  rd2 (lenG false Pg .len #[22] 3 #[false] [(e 0)] w0) fun x101 w102 =>
  rd2 (binG false Pg .lss 3 (.tmp 0) (.tmp 0) (e 11) x101 w102) fun x103 w104 =>
  cnd x103 (fun _ => rd (ixA Pg 22 (e 0) (e 11)) fun x105 =>
  rd (ldV Pg 39 x105 w104) fun x106 =>
  rd2 (rawV Pg (Instr.alloc 39 true (.tuple #[])) w104) fun x107 w108 =>
  rd2 (rawU Pg (Instr.storeAt 39 x107 x106) w108) fun x110 w109 =>
  rd (fldA Pg 39 x107 0) fun x111 =>
  rd (ldV Pg 3 x111 w109) fun x112 =>
  rd2 (binG false Pg .eql 3 (.tmp 0) (.const .nilFunc) x112 (.int .i64 0) w109) fun x113 w114 =>
  cnd x113 (fun _ => cnd x113 (fun _ => rd (fldA Pg 39 x107 1) fun x115 =>
  rd (ldV Pg 36 x115 (drw w114)) fun x116 =>
  rd2 (F 12 [(e 9), x116] (drw w114)) fun x117 w118 =>
  rd (fldA Pg 39 x107 1) fun x119 =>
  rd (ldV Pg 36 x119 w118) fun x120 =>
  chk (holdsAt Pg none (.ld 36) x119 x120 (drw w114)) fun _ =>
  rd2 (F 13 [(e 10), x120] w118) fun x121 w122 =>
  rd2 (binG true Pg .neq 3 (.tmp 0) (.tmp 0) x117 x121 w122) fun x123 _ =>
  cnd x123 (fun _ => shutK (e 133) w122 fun w125 =>
  some ((.bool false), w125)) (fun _ => rd2 (binG false Pg .eql 28 (.tmp 0) (.const .nilFunc) (e 9) (.pointer none) w122) fun x126 w127 =>
  rd2 (gate x126 false (fun _ =>  some ((e 9), w127)) w127) fun x128 w129 =>
  rd2 (gate x126 false (fun _ =>  some ((e 10), w129)) w129) fun x130 w131 =>
  rd2 (gate x126 false (fun _ => rd (fldA Pg 39 x107 2) fun x132 => some (x132, w131)) w131) fun x133 w134 =>
  rd2 (gate x126 false (fun _ => rd (ldV Pg 9 x133 w134) fun x135 => some (x135, w134)) w134) fun x136 w137 =>
  rd2 (gate x126 false (fun _ =>  some ((e 1), w137)) w137) fun x138 w139 =>
  rd2 (gate x126 false (fun _ => rd (ldV Pg 25 (e 6) w139) fun x140 => some (x140, w139)) w139) fun x141 w142 =>
  rd2 (gate x126 false (fun _ =>  some ((e 3), w142)) w142) fun x143 w144 =>
  rd2 (gate x126 false (fun _ => rd2 (F 21 [x128, x130, x136, x138, x141, x143] w144) fun x145 w146 => some (x145, w146)) w144) fun x147 w148 =>
  rd2 (gate x126 false (fun _ => rd (unV .not x147) fun x149 => some (x149, w148)) w148) fun x150 w151 =>
  rd (pickV x126 (.bool true) x150) fun x152 =>
  cnd x152 (fun _ => shutK (e 133) w151 fun w153 =>
  some ((.bool false), w153)) (fun _ => rd2 (binG false Pg .add 3 (.tmp 0) (.const .nilFunc) (e 11) (.int .i64 1) w151) fun x154 w155 =>
  evalLoop (cx3 F G) (cdA Go.Proofs.Tryz.f3 [1, 1, 1, 0, 1, 0, 0]) (K3_2 F G) (upd (upd (upd (upd (upd (upd (upd (upd (upd (upd (upd (upd (upd (upd (upd (upd (upd (upd (upd (upd (upd (upd (upd (upd (upd (upd (upd (upd (upd (upd (upd (upd (upd (upd (upd (upd (upd (upd e 38 (e 11)) 39 (e 0)) 40 x101) 41 x103) 44 (e 0)) 45 (e 11)) 46 x105) 47 x106) 12 x107) 48 x111) 49 x112) 51 x113) 50 x113) 54 (e 9)) 55 x115) 56 x116) 57 x117) 58 (e 10)) 59 x119) 60 x120) 61 x121) 62 x123) 110 (e 9)) 111 x126) 112 x126) 113 x128) 114 x130) 115 x133) 116 x136) 117 x138) 118 x141) 119 x143) 120 x147) 121 x150) 122 x152) 42 (e 11)) 43 x154) 11 x154) w155))) (fun _ => rd2 (binG false Pg .eql 3 (.tmp 0) (.const .nilFunc) x112 (.int .i64 3) w114) fun x156 w157 =>
  cnd x156 (fun _ => rd (fldA Pg 39 x107 2) fun x158 =>
  rd (ldV Pg 9 x158 w157) fun x159 =>
  rd (fldA Pg 39 x107 3) fun x160 =>
  rd (ldV Pg 37 x160 w157) fun x161 =>
  rd2 (F 14 [(e 9), x159, x161] w157) fun x162 w163 =>
  rd (extV x162 0) fun x164 =>
  rd (extV x162 1) fun x165 =>
  rd (extV x162 2) fun x166 =>
  rd (fldA Pg 39 x107 2) fun x167 =>
  rd (ldV Pg 9 x167 w163) fun x168 =>
  rd (fldA Pg 39 x107 3) fun x169 =>
  rd (ldV Pg 37 x169 w163) fun x170 =>
  rd2 (F 15 [(e 10), x168, x170] w163) fun x171 w172 =>
  rd (extV x171 0) fun x173 =>
  rd (extV x171 1) fun x174 =>
  rd (extV x171 2) fun x175 =>
  rd2 (binG false Pg .neq 9 (.tmp 0) (.tmp 0) x164 x173 w172) fun x176 w177 =>
  rd2 (gate x176 false (fun _ =>  some (x165, w177)) w177) fun x178 w179 =>
  rd2 (gate x176 false (fun _ =>  some (x174, w179)) w179) fun x180 w181 =>
  rd2 (gate x176 false (fun _ => rd2 (F 16 [x178, x180] w181) fun x182 w183 => some (x182, w183)) w181) fun x184 w185 =>
  rd2 (gate x176 false (fun _ => rd (unV .not x184) fun x186 => some (x186, w185)) w185) fun x187 w188 =>
  rd (pickV x176 (.bool true) x187) fun x189 =>
  rd2 (gate x189 false (fun _ =>  some (x166, w188)) w188) fun x190 w191 =>
  rd2 (gate x189 false (fun _ =>  some (x175, w191)) w191) fun x192 w193 =>
  rd2 (gate x189 false (fun _ => rd2 (binG false Pg .neq 4 (.tmp 0) (.tmp 0) x190 x192 w193) fun x194 w195 => some (x194, w195)) w193) fun x196 w197 =>
  rd (pickV x189 (.bool true) x196) fun x198 =>
  cnd x198 (fun _ => shutK (e 133) w197 fun w199 =>
  some ((.bool false), w199)) (fun _ => rd2 (binG false Pg .eql 28 (.tmp 0) (.const .nilFunc) (e 9) (.pointer none) w197) fun x200 w201 =>
  rd2 (gate x200 false (fun _ =>  some ((e 9), w201)) w201) fun x202 w203 =>
  rd2 (gate x200 false (fun _ =>  some ((e 10), w203)) w203) fun x204 w205 =>
  rd2 (gate x200 false (fun _ => rd (fldA Pg 39 x107 2) fun x206 => some (x206, w205)) w205) fun x207 w208 =>
  rd2 (gate x200 false (fun _ => rd (ldV Pg 9 x207 w208) fun x209 => some (x209, w208)) w208) fun x210 w211 =>
  rd2 (gate x200 false (fun _ =>  some ((e 1), w211)) w211) fun x212 w213 =>
  rd2 (gate x200 false (fun _ => rd (ldV Pg 25 (e 6) w213) fun x214 => some (x214, w213)) w213) fun x215 w216 =>
  rd2 (gate x200 false (fun _ =>  some ((e 3), w216)) w216) fun x217 w218 =>
  rd2 (gate x200 false (fun _ => rd2 (F 21 [x202, x204, x210, x212, x215, x217] w218) fun x219 w220 => some (x219, w220)) w218) fun x221 w222 =>
  rd2 (gate x200 false (fun _ => rd (unV .not x221) fun x223 => some (x223, w222)) w222) fun x224 w225 =>
  rd (pickV x200 (.bool true) x224) fun x226 =>
  cnd x226 (fun _ => shutK (e 133) w225 fun w227 =>
  some ((.bool false), w227)) (fun _ => rd2 (binG false Pg .add 3 (.tmp 0) (.const .nilFunc) (e 11) (.int .i64 1) w225) fun x228 w229 =>
  evalLoop (cx3 F G) (cdA Go.Proofs.Tryz.f3 [1, 1, 1, 0, 1, 0, 0]) (K3_2 F G) (upd (upd (upd (upd (upd (upd (upd (upd (upd (upd (upd (upd (upd (upd (upd (upd (upd (upd (upd (upd (upd (upd (upd (upd (upd (upd (upd (upd (upd (upd (upd (upd (upd (upd (upd (upd (upd (upd (upd (upd (upd (upd (upd (upd (upd (upd (upd (upd (upd (upd (upd (upd (upd (upd (upd (upd (upd (upd (upd (upd (upd (upd (upd (upd (upd (upd (upd (upd (upd (upd (upd e 38 (e 11)) 39 (e 0)) 40 x101) 41 x103) 44 (e 0)) 45 (e 11)) 46 x105) 47 x106) 12 x107) 48 x111) 49 x112) 51 x113) 50 x113) 64 x156) 63 x156) 66 (e 9)) 67 x158) 68 x159) 69 x160) 70 x161) 71 x162) 65 x162) 72 x164) 73 x165) 74 x166) 13 x164) 14 x165) 15 x166) 76 (e 10)) 77 x167) 78 x168) 79 x169) 80 x170) 81 x171) 75 x171) 82 x173) 83 x174) 84 x175) 16 x173) 17 x174) 18 x175) 85 x164) 86 x173) 87 x176) 88 x176) 89 x178) 90 x180) 91 x184) 92 x187) 93 x189) 94 x189) 95 x190) 96 x192) 97 x196) 98 x198) 110 (e 9)) 111 x200) 112 x200) 113 x202) 114 x204) 115 x207) 116 x210) 117 x212) 118 x215) 119 x217) 120 x221) 121 x224) 122 x226) 42 (e 11)) 43 x228) 11 x228) w229))) (fun _ => rd2 (binG false Pg .eql 3 (.tmp 0) (.const .nilFunc) x112 (.int .i64 4) w157) fun x230 w231 =>
  cnd x230 (fun _ => rd2 (F 17 [(e 9)] w231) fun x232 w233 =>
  rd2 (binG false Pg .eql 28 (.tmp 0) (.const .nilFunc) x232 (.pointer none) w233) fun x234 w235 =>
  rd2 (gate x234 false (fun _ =>  some (x232, w235)) w235) fun x236 w237 =>
  rd2 (gate x234 false (fun _ =>  some ((e 10), w237)) w237) fun x238 w239 =>
  rd2 (gate x234 false (fun _ => rd (fldA Pg 39 x107 2) fun x240 => some (x240, w239)) w239) fun x241 w242 =>
  rd2 (gate x234 false (fun _ => rd (ldV Pg 9 x241 w242) fun x243 => some (x243, w242)) w242) fun x244 w245 =>
  rd2 (gate x234 false (fun _ =>  some ((e 1), w245)) w245) fun x246 w247 =>
  rd2 (gate x234 false (fun _ => rd (ldV Pg 25 (e 6) w247) fun x248 => some (x248, w247)) w247) fun x249 w250 =>
  rd2 (gate x234 false (fun _ =>  some ((e 3), w250)) w250) fun x251 w252 =>
  rd2 (gate x234 false (fun _ => rd2 (F 21 [x236, x238, x244, x246, x249, x251] w252) fun x253 w254 => some (x253, w254)) w252) fun x255 w256 =>
  rd2 (gate x234 false (fun _ => rd (unV .not x255) fun x257 => some (x257, w256)) w256) fun x258 w259 =>
  rd (pickV x234 (.bool true) x258) fun x260 =>
  cnd x260 (fun _ => shutK (e 133) w259 fun w261 =>
  some ((.bool false), w261)) (fun _ => rd2 (binG false Pg .add 3 (.tmp 0) (.const .nilFunc) (e 11) (.int .i64 1) w259) fun x262 w263 =>
  evalLoop (cx3 F G) (cdA Go.Proofs.Tryz.f3 [1, 1, 1, 0, 1, 0, 0]) (K3_2 F G) (upd (upd (upd (upd (upd (upd (upd (upd (upd (upd (upd (upd (upd (upd (upd (upd (upd (upd (upd (upd (upd (upd (upd (upd (upd (upd (upd (upd (upd (upd (upd (upd (upd (upd (upd (upd e 38 (e 11)) 39 (e 0)) 40 x101) 41 x103) 44 (e 0)) 45 (e 11)) 46 x105) 47 x106) 12 x107) 48 x111) 49 x112) 51 x113) 50 x113) 64 x156) 63 x156) 100 x230) 99 x230) 101 (e 9)) 102 x232) 9 x232) 110 x232) 111 x234) 112 x234) 113 x236) 114 x238) 115 x241) 116 x244) 117 x246) 118 x249) 119 x251) 120 x255) 121 x258) 122 x260) 42 (e 11)) 43 x262) 11 x262) w263)) (fun _ => rd2 (binG false Pg .eql 3 (.tmp 0) (.const .nilFunc) x112 (.int .i64 5) w231) fun x264 w265 =>
  cnd x264 (fun _ => rd2 (F 19 [(e 9)] w265) fun x266 w267 =>
  rd2 (F 20 [(e 9)] w267) fun x268 w269 =>
  rd2 (F 18 [x266, x268] w269) fun x270 w271 =>
  rd2 (binG false Pg .eql 28 (.tmp 0) (.const .nilFunc) x270 (.pointer none) w271) fun x272 w273 =>
  rd2 (gate x272 false (fun _ =>  some (x270, w273)) w273) fun x274 w275 =>
  rd2 (gate x272 false (fun _ =>  some ((e 10), w275)) w275) fun x276 w277 =>
  rd2 (gate x272 false (fun _ => rd (fldA Pg 39 x107 2) fun x278 => some (x278, w277)) w277) fun x279 w280 =>
  rd2 (gate x272 false (fun _ => rd (ldV Pg 9 x279 w280) fun x281 => some (x281, w280)) w280) fun x282 w283 =>
  rd2 (gate x272 false (fun _ =>  some ((e 1), w283)) w283) fun x284 w285 =>
  rd2 (gate x272 false (fun _ => rd (ldV Pg 25 (e 6) w285) fun x286 => some (x286, w285)) w285) fun x287 w288 =>
  rd2 (gate x272 false (fun _ =>  some ((e 3), w288)) w288) fun x289 w290 =>
  rd2 (gate x272 false (fun _ => rd2 (F 21 [x274, x276, x282, x284, x287, x289] w290) fun x291 w292 => some (x291, w292)) w290) fun x293 w294 =>
  rd2 (gate x272 false (fun _ => rd (unV .not x293) fun x295 => some (x295, w294)) w294) fun x296 w297 =>
  rd (pickV x272 (.bool true) x296) fun x298 =>
  cnd x298 (fun _ => shutK (e 133) w297 fun w299 =>
  some ((.bool false), w299)) (fun _ => rd2 (binG false Pg .add 3 (.tmp 0) (.const .nilFunc) (e 11) (.int .i64 1) w297) fun x300 w301 =>
  evalLoop (cx3 F G) (cdA Go.Proofs.Tryz.f3 [1, 1, 1, 0, 1, 0, 0]) (K3_2 F G) (upd (upd (upd (upd (upd (upd (upd (upd (upd (upd (upd (upd (upd (upd (upd (upd (upd (upd (upd (upd (upd (upd (upd (upd (upd (upd (upd (upd (upd (upd (upd (upd (upd (upd (upd (upd (upd (upd (upd (upd (upd e 38 (e 11)) 39 (e 0)) 40 x101) 41 x103) 44 (e 0)) 45 (e 11)) 46 x105) 47 x106) 12 x107) 48 x111) 49 x112) 51 x113) 50 x113) 64 x156) 63 x156) 100 x230) 99 x230) 104 x264) 103 x264) 105 (e 9)) 106 x266) 107 (e 9)) 108 x268) 109 x270) 9 x270) 110 x270) 111 x272) 112 x272) 113 x274) 114 x276) 115 x279) 116 x282) 117 x284) 118 x287) 119 x289) 120 x293) 121 x296) 122 x298) 42 (e 11)) 43 x300) 11 x300) w301)) (fun _ => rd2 (binG false Pg .eql 28 (.tmp 0) (.const .nilFunc) (e 9) (.pointer none) w265) fun x302 w303 =>
  rd2 (gate x302 false (fun _ =>  some ((e 9), w303)) w303) fun x304 w305 =>
  rd2 (gate x302 false (fun _ =>  some ((e 10), w305)) w305) fun x306 w307 =>
  rd2 (gate x302 false (fun _ => rd (fldA Pg 39 x107 2) fun x308 => some (x308, w307)) w307) fun x309 w310 =>
  rd2 (gate x302 false (fun _ => rd (ldV Pg 9 x309 w310) fun x311 => some (x311, w310)) w310) fun x312 w313 =>
  rd2 (gate x302 false (fun _ =>  some ((e 1), w313)) w313) fun x314 w315 =>
  rd2 (gate x302 false (fun _ => rd (ldV Pg 25 (e 6) w315) fun x316 => some (x316, w315)) w315) fun x317 w318 =>
  rd2 (gate x302 false (fun _ =>  some ((e 3), w318)) w318) fun x319 w320 =>
  rd2 (gate x302 false (fun _ => rd2 (F 21 [x304, x306, x312, x314, x317, x319] w320) fun x321 w322 => some (x321, w322)) w320) fun x323 w324 =>
  rd2 (gate x302 false (fun _ => rd (unV .not x323) fun x325 => some (x325, w324)) w324) fun x326 w327 =>
  rd (pickV x302 (.bool true) x326) fun x328 =>
  cnd x328 (fun _ => shutK (e 133) w327 fun w329 =>
  some ((.bool false), w329)) (fun _ => rd2 (binG false Pg .add 3 (.tmp 0) (.const .nilFunc) (e 11) (.int .i64 1) w327) fun x330 w331 =>
  evalLoop (cx3 F G) (cdA Go.Proofs.Tryz.f3 [1, 1, 1, 0, 1, 0, 0]) (K3_2 F G) (upd (upd (upd (upd (upd (upd (upd (upd (upd (upd (upd (upd (upd (upd (upd (upd (upd (upd (upd (upd (upd (upd (upd (upd (upd (upd (upd (upd (upd (upd (upd (upd (upd (upd (upd e 38 (e 11)) 39 (e 0)) 40 x101) 41 x103) 44 (e 0)) 45 (e 11)) 46 x105) 47 x106) 12 x107) 48 x111) 49 x112) 51 x113) 50 x113) 64 x156) 63 x156) 100 x230) 99 x230) 104 x264) 103 x264) 110 (e 9)) 111 x302) 112 x302) 113 x304) 114 x306) 115 x309) 116 x312) 117 x314) 118 x317) 119 x319) 120 x323) 121 x326) 122 x328) 42 (e 11)) 43 x330) 11 x330) w331)))))) (fun _ => rd2 (binG false Pg .eql 3 (.tmp 0) (.const .nilFunc) x112 (.int .i64 1) w114) fun x332 w333 =>
  cnd x332 (fun _ => cnd x332 (fun _ => rd (fldA Pg 39 x107 1) fun x334 =>
  rd (ldV Pg 36 x334 (drw w333)) fun x335 =>
  rd2 (F 12 [(e 9), x335] (drw w333)) fun x336 w337 =>
  rd (fldA Pg 39 x107 1) fun x338 =>
  rd (ldV Pg 36 x338 w337) fun x339 =>
  chk (holdsAt Pg none (.ld 36) x338 x339 (drw w333)) fun _ =>
  rd2 (F 13 [(e 10), x339] w337) fun x340 w341 =>
  rd2 (binG true Pg .neq 3 (.tmp 0) (.tmp 0) x336 x340 w341) fun x342 _ =>
  cnd x342 (fun _ => shutK (e 133) w341 fun w344 =>
  some ((.bool false), w344)) (fun _ => rd2 (binG false Pg .eql 28 (.tmp 0) (.const .nilFunc) (e 9) (.pointer none) w341) fun x345 w346 =>
  rd2 (gate x345 false (fun _ =>  some ((e 9), w346)) w346) fun x347 w348 =>
  rd2 (gate x345 false (fun _ =>  some ((e 10), w348)) w348) fun x349 w350 =>
  rd2 (gate x345 false (fun _ => rd (fldA Pg 39 x107 2) fun x351 => some (x351, w350)) w350) fun x352 w353 =>
  rd2 (gate x345 false (fun _ => rd (ldV Pg 9 x352 w353) fun x354 => some (x354, w353)) w353) fun x355 w356 =>
  rd2 (gate x345 false (fun _ =>  some ((e 1), w356)) w356) fun x357 w358 =>
  rd2 (gate x345 false (fun _ => rd (ldV Pg 25 (e 6) w358) fun x359 => some (x359, w358)) w358) fun x360 w361 =>
  rd2 (gate x345 false (fun _ =>  some ((e 3), w361)) w361) fun x362 w363 =>
  rd2 (gate x345 false (fun _ => rd2 (F 21 [x347, x349, x355, x357, x360, x362] w363) fun x364 w365 => some (x364, w365)) w363) fun x366 w367 =>
  rd2 (gate x345 false (fun _ => rd (unV .not x366) fun x368 => some (x368, w367)) w367) fun x369 w370 =>
  rd (pickV x345 (.bool true) x369) fun x371 =>
  cnd x371 (fun _ => shutK (e 133) w370 fun w372 =>
  some ((.bool false), w372)) (fun _ => rd2 (binG false Pg .add 3 (.tmp 0) (.const .nilFunc) (e 11) (.int .i64 1) w370) fun x373 w374 =>
  evalLoop (cx3 F G) (cdA Go.Proofs.Tryz.f3 [1, 1, 1, 0, 1, 0, 0]) (K3_2 F G) (upd (upd (upd (upd (upd (upd (upd (upd (upd (upd (upd (upd (upd (upd (upd (upd (upd (upd (upd (upd (upd (upd (upd (upd (upd (upd (upd (upd (upd (upd (upd (upd (upd (upd (upd (upd (upd (upd (upd (upd e 38 (e 11)) 39 (e 0)) 40 x101) 41 x103) 44 (e 0)) 45 (e 11)) 46 x105) 47 x106) 12 x107) 48 x111) 49 x112) 51 x113) 50 x113) 52 x332) 50 x332) 54 (e 9)) 55 x334) 56 x335) 57 x336) 58 (e 10)) 59 x338) 60 x339) 61 x340) 62 x342) 110 (e 9)) 111 x345) 112 x345) 113 x347) 114 x349) 115 x352) 116 x355) 117 x357) 118 x360) 119 x362) 120 x366) 121 x369) 122 x371) 42 (e 11)) 43 x373) 11 x373) w374))) (fun _ => rd2 (binG false Pg .eql 3 (.tmp 0) (.const .nilFunc) x112 (.int .i64 3) w333) fun x375 w376 =>
  cnd x375 (fun _ => rd (fldA Pg 39 x107 2) fun x377 =>
  rd (ldV Pg 9 x377 w376) fun x378 =>
  rd (fldA Pg 39 x107 3) fun x379 =>
  rd (ldV Pg 37 x379 w376) fun x380 =>
  rd2 (F 14 [(e 9), x378, x380] w376) fun x381 w382 =>
  rd (extV x381 0) fun x383 =>
  rd (extV x381 1) fun x384 =>
  rd (extV x381 2) fun x385 =>
  rd (fldA Pg 39 x107 2) fun x386 =>
  rd (ldV Pg 9 x386 w382) fun x387 =>
  rd (fldA Pg 39 x107 3) fun x388 =>
  rd (ldV Pg 37 x388 w382) fun x389 =>
  rd2 (F 15 [(e 10), x387, x389] w382) fun x390 w391 =>
  rd (extV x390 0) fun x392 =>
  rd (extV x390 1) fun x393 =>
  rd (extV x390 2) fun x394 =>
  rd2 (binG false Pg .neq 9 (.tmp 0) (.tmp 0) x383 x392 w391) fun x395 w396 =>
  rd2 (gate x395 false (fun _ =>  some (x384, w396)) w396) fun x397 w398 =>
  rd2 (gate x395 false (fun _ =>  some (x393, w398)) w398) fun x399 w400 =>
  rd2 (gate x395 false (fun _ => rd2 (F 16 [x397, x399] w400) fun x401 w402 => some (x401, w402)) w400) fun x403 w404 =>
  rd2 (gate x395 false (fun _ => rd (unV .not x403) fun x405 => some (x405, w404)) w404) fun x406 w407 =>
  rd (pickV x395 (.bool true) x406) fun x408 =>
  rd2 (gate x408 false (fun _ =>  some (x385, w407)) w407) fun x409 w410 =>
  rd2 (gate x408 false (fun _ =>  some (x394, w410)) w410) fun x411 w412 =>
  rd2 (gate x408 false (fun _ => rd2 (binG false Pg .neq 4 (.tmp 0) (.tmp 0) x409 x411 w412) fun x413 w414 => some (x413, w414)) w412) fun x415 w416 =>
  rd (pickV x408 (.bool true) x415) fun x417 =>
  cnd x417 (fun _ => shutK (e 133) w416 fun w418 =>
  some ((.bool false), w418)) (fun _ => rd2 (binG false Pg .eql 28 (.tmp 0) (.const .nilFunc) (e 9) (.pointer none) w416) fun x419 w420 =>
  rd2 (gate x419 false (fun _ =>  some ((e 9), w420)) w420) fun x421 w422 =>
  rd2 (gate x419 false (fun _ =>  some ((e 10), w422)) w422) fun x423 w424 =>
  rd2 (gate x419 false (fun _ => rd (fldA Pg 39 x107 2) fun x425 => some (x425, w424)) w424) fun x426 w427 =>
  rd2 (gate x419 false (fun _ => rd (ldV Pg 9 x426 w427) fun x428 => some (x428, w427)) w427) fun x429 w430 =>
  rd2 (gate x419 false (fun _ =>  some ((e 1), w430)) w430) fun x431 w432 =>
  rd2 (gate x419 false (fun _ => rd (ldV Pg 25 (e 6) w432) fun x433 => some (x433, w432)) w432) fun x434 w435 =>
  rd2 (gate x419 false (fun _ =>  some ((e 3), w435)) w435) fun x436 w437 =>
  rd2 (gate x419 false (fun _ => rd2 (F 21 [x421, x423, x429, x431, x434, x436] w437) fun x438 w439 => some (x438, w439)) w437) fun x440 w441 =>
  rd2 (gate x419 false (fun _ => rd (unV .not x440) fun x442 => some (x442, w441)) w441) fun x443 w444 =>
  rd (pickV x419 (.bool true) x443) fun x445 =>
  cnd x445 (fun _ => shutK (e 133) w444 fun w446 =>
  some ((.bool false), w446)) (fun _ => rd2 (binG false Pg .add 3 (.tmp 0) (.const .nilFunc) (e 11) (.int .i64 1) w444) fun x447 w448 =>
  evalLoop (cx3 F G) (cdA Go.Proofs.Tryz.f3 [1, 1, 1, 0, 1, 0, 0]) (K3_2 F G) (upd (upd (upd (upd (upd (upd (upd (upd (upd (upd (upd (upd (upd (upd (upd (upd (upd (upd (upd (upd (upd (upd (upd (upd (upd (upd (upd (upd (upd (upd (upd (upd (upd (upd (upd (upd (upd (upd (upd (upd (upd (upd (upd (upd (upd (upd (upd (upd (upd (upd (upd (upd (upd (upd (upd (upd (upd (upd (upd (upd (upd (upd (upd (upd (upd (upd (upd (upd (upd (upd (upd (upd (upd e 38 (e 11)) 39 (e 0)) 40 x101) 41 x103) 44 (e 0)) 45 (e 11)) 46 x105) 47 x106) 12 x107) 48 x111) 49 x112) 51 x113) 50 x113) 52 x332) 50 x332) 64 x375) 63 x375) 66 (e 9)) 67 x377) 68 x378) 69 x379) 70 x380) 71 x381) 65 x381) 72 x383) 73 x384) 74 x385) 13 x383) 14 x384) 15 x385) 76 (e 10)) 77 x386) 78 x387) 79 x388) 80 x389) 81 x390) 75 x390) 82 x392) 83 x393) 84 x394) 16 x392) 17 x393) 18 x394) 85 x383) 86 x392) 87 x395) 88 x395) 89 x397) 90 x399) 91 x403) 92 x406) 93 x408) 94 x408) 95 x409) 96 x411) 97 x415) 98 x417) 110 (e 9)) 111 x419) 112 x419) 113 x421) 114 x423) 115 x426) 116 x429) 117 x431) 118 x434) 119 x436) 120 x440) 121 x443) 122 x445) 42 (e 11)) 43 x447) 11 x447) w448))) (fun _ => rd2 (binG false Pg .eql 3 (.tmp 0) (.const .nilFunc) x112 (.int .i64 4) w376) fun x449 w450 =>
  cnd x449 (fun _ => rd2 (F 17 [(e 9)] w450) fun x451 w452 =>
  rd2 (binG false Pg .eql 28 (.tmp 0) (.const .nilFunc) x451 (.pointer none) w452) fun x453 w454 =>
  rd2 (gate x453 false (fun _ =>  some (x451, w454)) w454) fun x455 w456 =>
  rd2 (gate x453 false (fun _ =>  some ((e 10), w456)) w456) fun x457 w458 =>
  rd2 (gate x453 false (fun _ => rd (fldA Pg 39 x107 2) fun x459 => some (x459, w458)) w458) fun x460 w461 =>
  rd2 (gate x453 false (fun _ => rd (ldV Pg 9 x460 w461) fun x462 => some (x462, w461)) w461) fun x463 w464 =>
  rd2 (gate x453 false (fun _ =>  some ((e 1), w464)) w464) fun x465 w466 =>
  rd2 (gate x453 false (fun _ => rd (ldV Pg 25 (e 6) w466) fun x467 => some (x467, w466)) w466) fun x468 w469 =>
  rd2 (gate x453 false (fun _ =>  some ((e 3), w469)) w469) fun x470 w471 =>
  rd2 (gate x453 false (fun _ => rd2 (F 21 [x455, x457, x463, x465, x468, x470] w471) fun x472 w473 => some (x472, w473)) w471) fun x474 w475 =>
  rd2 (gate x453 false (fun _ => rd (unV .not x474) fun x476 => some (x476, w475)) w475) fun x477 w478 =>
  rd (pickV x453 (.bool true) x477) fun x479 =>
  cnd x479 (fun _ => shutK (e 133) w478 fun w480 =>
  some ((.bool false), w480)) (fun _ => rd2 (binG false Pg .add 3 (.tmp 0) (.const .nilFunc) (e 11) (.int .i64 1) w478) fun x481 w482 =>
  evalLoop (cx3 F G) (cdA Go.Proofs.Tryz.f3 [1, 1, 1, 0, 1, 0, 0]) (K3_2 F G) (upd (upd (upd (upd (upd (upd (upd (upd (upd (upd (upd (upd (upd (upd (upd (upd (upd (upd (upd (upd (upd (upd (upd (upd (upd (upd (upd (upd (upd (upd (upd (upd (upd (upd (upd (upd (upd (upd e 38 (e 11)) 39 (e 0)) 40 x101) 41 x103) 44 (e 0)) 45 (e 11)) 46 x105) 47 x106) 12 x107) 48 x111) 49 x112) 51 x113) 50 x113) 52 x332) 50 x332) 64 x375) 63 x375) 100 x449) 99 x449) 101 (e 9)) 102 x451) 9 x451) 110 x451) 111 x453) 112 x453) 113 x455) 114 x457) 115 x460) 116 x463) 117 x465) 118 x468) 119 x470) 120 x474) 121 x477) 122 x479) 42 (e 11)) 43 x481) 11 x481) w482)) (fun _ => rd2 (binG false Pg .eql 3 (.tmp 0) (.const .nilFunc) x112 (.int .i64 5) w450) fun x483 w484 =>
  cnd x483 (fun _ => rd2 (F 19 [(e 9)] w484) fun x485 w486 =>
  rd2 (F 20 [(e 9)] w486) fun x487 w488 =>
  rd2 (F 18 [x485, x487] w488) fun x489 w490 =>
  rd2 (binG false Pg .eql 28 (.tmp 0) (.const .nilFunc) x489 (.pointer none) w490) fun x491 w492 =>
  rd2 (gate x491 false (fun _ =>  some (x489, w492)) w492) fun x493 w494 =>
  rd2 (gate x491 false (fun _ =>  some ((e 10), w494)) w494) fun x495 w496 =>
  rd2 (gate x491 false (fun _ => rd (fldA Pg 39 x107 2) fun x497 => some (x497, w496)) w496) fun x498 w499 =>
  rd2 (gate x491 false (fun _ => rd (ldV Pg 9 x498 w499) fun x500 => some (x500, w499)) w499) fun x501 w502 =>
  rd2 (gate x491 false (fun _ =>  some ((e 1), w502)) w502) fun x503 w504 =>
  rd2 (gate x491 false (fun _ => rd (ldV Pg 25 (e 6) w504) fun x505 => some (x505, w504)) w504) fun x506 w507 =>
  rd2 (gate x491 false (fun _ =>  some ((e 3), w507)) w507) fun x508 w509 =>
  rd2 (gate x491 false (fun _ => rd2 (F 21 [x493, x495, x501, x503, x506, x508] w509) fun x510 w511 => some (x510, w511)) w509) fun x512 w513 =>
  rd2 (gate x491 false (fun _ => rd (unV .not x512) fun x514 => some (x514, w513)) w513) fun x515 w516 =>
  rd (pickV x491 (.bool true) x515) fun x517 =>
  cnd x517 (fun _ => shutK (e 133) w516 fun w518 =>
  some ((.bool false), w518)) (fun _ => rd2 (binG false Pg .add 3 (.tmp 0) (.const .nilFunc) (e 11) (.int .i64 1) w516) fun x519 w520 =>
  evalLoop (cx3 F G) (cdA Go.Proofs.Tryz.f3 [1, 1, 1, 0, 1, 0, 0]) (K3_2 F G) (upd (upd (upd (upd (upd (upd (upd (upd (upd (upd (upd (upd (upd (upd (upd (upd (upd (upd (upd (upd (upd (upd (upd (upd (upd (upd (upd (upd (upd (upd (upd (upd (upd (upd (upd (upd (upd (upd (upd (upd (upd (upd (upd e 38 (e 11)) 39 (e 0)) 40 x101) 41 x103) 44 (e 0)) 45 (e 11)) 46 x105) 47 x106) 12 x107) 48 x111) 49 x112) 51 x113) 50 x113) 52 x332) 50 x332) 64 x375) 63 x375) 100 x449) 99 x449) 104 x483) 103 x483) 105 (e 9)) 106 x485) 107 (e 9)) 108 x487) 109 x489) 9 x489) 110 x489) 111 x491) 112 x491) 113 x493) 114 x495) 115 x498) 116 x501) 117 x503) 118 x506) 119 x508) 120 x512) 121 x515) 122 x517) 42 (e 11)) 43 x519) 11 x519) w520)) (fun _ => rd2 (binG false Pg .eql 28 (.tmp 0) (.const .nilFunc) (e 9) (.pointer none) w484) fun x521 w522 =>
  rd2 (gate x521 false (fun _ =>  some ((e 9), w522)) w522) fun x523 w524 =>
  rd2 (gate x521 false (fun _ =>  some ((e 10), w524)) w524) fun x525 w526 =>
  rd2 (gate x521 false (fun _ => rd (fldA Pg 39 x107 2) fun x527 => some (x527, w526)) w526) fun x528 w529 =>
  rd2 (gate x521 false (fun _ => rd (ldV Pg 9 x528 w529) fun x530 => some (x530, w529)) w529) fun x531 w532 =>
  rd2 (gate x521 false (fun _ =>  some ((e 1), w532)) w532) fun x533 w534 =>
  rd2 (gate x521 false (fun _ => rd (ldV Pg 25 (e 6) w534) fun x535 => some (x535, w534)) w534) fun x536 w537 =>
  rd2 (gate x521 false (fun _ =>  some ((e 3), w537)) w537) fun x538 w539 =>
  rd2 (gate x521 false (fun _ => rd2 (F 21 [x523, x525, x531, x533, x536, x538] w539) fun x540 w541 => some (x540, w541)) w539) fun x542 w543 =>
  rd2 (gate x521 false (fun _ => rd (unV .not x542) fun x544 => some (x544, w543)) w543) fun x545 w546 =>
  rd (pickV x521 (.bool true) x545) fun x547 =>
  cnd x547 (fun _ => shutK (e 133) w546 fun w548 =>
  some ((.bool false), w548)) (fun _ => rd2 (binG false Pg .add 3 (.tmp 0) (.const .nilFunc) (e 11) (.int .i64 1) w546) fun x549 w550 =>
  evalLoop (cx3 F G) (cdA Go.Proofs.Tryz.f3 [1, 1, 1, 0, 1, 0, 0]) (K3_2 F G) (upd (upd (upd (upd (upd (upd (upd (upd (upd (upd (upd (upd (upd (upd (upd (upd (upd (upd (upd (upd (upd (upd (upd (upd (upd (upd (upd (upd (upd (upd (upd (upd (upd (upd (upd (upd (upd e 38 (e 11)) 39 (e 0)) 40 x101) 41 x103) 44 (e 0)) 45 (e 11)) 46 x105) 47 x106) 12 x107) 48 x111) 49 x112) 51 x113) 50 x113) 52 x332) 50 x332) 64 x375) 63 x375) 100 x449) 99 x449) 104 x483) 103 x483) 110 (e 9)) 111 x521) 112 x521) 113 x523) 114 x525) 115 x528) 116 x531) 117 x533) 118 x536) 119 x538) 120 x542) 121 x545) 122 x547) 42 (e 11)) 43 x549) 11 x549) w550)))))) (fun _ => rd2 (binG false Pg .eql 3 (.tmp 0) (.const .nilFunc) x112 (.int .i64 2) w333) fun x551 w552 =>
  cnd x551 (fun _ => rd (fldA Pg 39 x107 1) fun x553 =>
  rd (ldV Pg 36 x553 (drw w552)) fun x554 =>
  rd2 (F 12 [(e 9), x554] (drw w552)) fun x555 w556 =>
  rd (fldA Pg 39 x107 1) fun x557 =>
  rd (ldV Pg 36 x557 w556) fun x558 =>
  chk (holdsAt Pg none (.ld 36) x557 x558 (drw w552)) fun _ =>
  rd2 (F 13 [(e 10), x558] w556) fun x559 w560 =>
  rd2 (binG true Pg .neq 3 (.tmp 0) (.tmp 0) x555 x559 w560) fun x561 _ =>
  cnd x561 (fun _ => shutK (e 133) w560 fun w563 =>
  some ((.bool false), w563)) (fun _ => rd2 (binG false Pg .eql 28 (.tmp 0) (.const .nilFunc) (e 9) (.pointer none) w560) fun x564 w565 =>
  rd2 (gate x564 false (fun _ =>  some ((e 9), w565)) w565) fun x566 w567 =>
  rd2 (gate x564 false (fun _ =>  some ((e 10), w567)) w567) fun x568 w569 =>
  rd2 (gate x564 false (fun _ => rd (fldA Pg 39 x107 2) fun x570 => some (x570, w569)) w569) fun x571 w572 =>
  rd2 (gate x564 false (fun _ => rd (ldV Pg 9 x571 w572) fun x573 => some (x573, w572)) w572) fun x574 w575 =>
  rd2 (gate x564 false (fun _ =>  some ((e 1), w575)) w575) fun x576 w577 =>
  rd2 (gate x564 false (fun _ => rd (ldV Pg 25 (e 6) w577) fun x578 => some (x578, w577)) w577) fun x579 w580 =>
  rd2 (gate x564 false (fun _ =>  some ((e 3), w580)) w580) fun x581 w582 =>
  rd2 (gate x564 false (fun _ => rd2 (F 21 [x566, x568, x574, x576, x579, x581] w582) fun x583 w584 => some (x583, w584)) w582) fun x585 w586 =>
  rd2 (gate x564 false (fun _ => rd (unV .not x585) fun x587 => some (x587, w586)) w586) fun x588 w589 =>
  rd (pickV x564 (.bool true) x588) fun x590 =>
  cnd x590 (fun _ => shutK (e 133) w589 fun w591 =>
  some ((.bool false), w591)) (fun _ => rd2 (binG false Pg .add 3 (.tmp 0) (.const .nilFunc) (e 11) (.int .i64 1) w589) fun x592 w593 =>
  evalLoop (cx3 F G) (cdA Go.Proofs.Tryz.f3 [1, 1, 1, 0, 1, 0, 0]) (K3_2 F G) (upd (upd (upd (upd (upd (upd (upd (upd (upd (upd (upd (upd (upd (upd (upd (upd (upd (upd (upd (upd (upd (upd (upd (upd (upd (upd (upd (upd (upd (upd (upd (upd (upd (upd (upd (upd (upd (upd (upd (upd (upd (upd e 38 (e 11)) 39 (e 0)) 40 x101) 41 x103) 44 (e 0)) 45 (e 11)) 46 x105) 47 x106) 12 x107) 48 x111) 49 x112) 51 x113) 50 x113) 52 x332) 50 x332) 53 x551) 50 x551) 54 (e 9)) 55 x553) 56 x554) 57 x555) 58 (e 10)) 59 x557) 60 x558) 61 x559) 62 x561) 110 (e 9)) 111 x564) 112 x564) 113 x566) 114 x568) 115 x571) 116 x574) 117 x576) 118 x579) 119 x581) 120 x585) 121 x588) 122 x590) 42 (e 11)) 43 x592) 11 x592) w593))) (fun _ => rd2 (binG false Pg .eql 3 (.tmp 0) (.const .nilFunc) x112 (.int .i64 3) w552) fun x594 w595 =>
  cnd x594 (fun _ => rd (fldA Pg 39 x107 2) fun x596 =>
  rd (ldV Pg 9 x596 w595) fun x597 =>
  rd (fldA Pg 39 x107 3) fun x598 =>
  rd (ldV Pg 37 x598 w595) fun x599 =>
  rd2 (F 14 [(e 9), x597, x599] w595) fun x600 w601 =>
  rd (extV x600 0) fun x602 =>
  rd (extV x600 1) fun x603 =>
  rd (extV x600 2) fun x604 =>
  rd (fldA Pg 39 x107 2) fun x605 =>
  rd (ldV Pg 9 x605 w601) fun x606 =>
  rd (fldA Pg 39 x107 3) fun x607 =>
  rd (ldV Pg 37 x607 w601) fun x608 =>
  rd2 (F 15 [(e 10), x606, x608] w601) fun x609 w610 =>
  rd (extV x609 0) fun x611 =>
  rd (extV x609 1) fun x612 =>
  rd (extV x609 2) fun x613 =>
  rd2 (binG false Pg .neq 9 (.tmp 0) (.tmp 0) x602 x611 w610) fun x614 w615 =>
  rd2 (gate x614 false (fun _ =>  some (x603, w615)) w615) fun x616 w617 =>
  rd2 (gate x614 false (fun _ =>  some (x612, w617)) w617) fun x618 w619 =>
  rd2 (gate x614 false (fun _ => rd2 (F 16 [x616, x618] w619) fun x620 w621 => some (x620, w621)) w619) fun x622 w623 =>
  rd2 (gate x614 false (fun _ => rd (unV .not x622) fun x624 => some (x624, w623)) w623) fun x625 w626 =>
  rd (pickV x614 (.bool true) x625) fun x627 =>
  rd2 (gate x627 false (fun _ =>  some (x604, w626)) w626) fun x628 w629 =>
  rd2 (gate x627 false (fun _ =>  some (x613, w629)) w629) fun x630 w631 =>
  rd2 (gate x627 false (fun _ => rd2 (binG false Pg .neq 4 (.tmp 0) (.tmp 0) x628 x630 w631) fun x632 w633 => some (x632, w633)) w631) fun x634 w635 =>
  rd (pickV x627 (.bool true) x634) fun x636 =>
  cnd x636 (fun _ => shutK (e 133) w635 fun w637 =>
  some ((.bool false), w637)) (fun _ => rd2 (binG false Pg .eql 28 (.tmp 0) (.const .nilFunc) (e 9) (.pointer none) w635) fun x638 w639 =>
  rd2 (gate x638 false (fun _ =>  some ((e 9), w639)) w639) fun x640 w641 =>
  rd2 (gate x638 false (fun _ =>  some ((e 10), w641)) w641) fun x642 w643 =>
  rd2 (gate x638 false (fun _ => rd (fldA Pg 39 x107 2) fun x644 => some (x644, w643)) w643) fun x645 w646 =>
  rd2 (gate x638 false (fun _ => rd (ldV Pg 9 x645 w646) fun x647 => some (x647, w646)) w646) fun x648 w649 =>
  rd2 (gate x638 false (fun _ =>  some ((e 1), w649)) w649) fun x650 w651 =>
  rd2 (gate x638 false (fun _ => rd (ldV Pg 25 (e 6) w651) fun x652 => some (x652, w651)) w651) fun x653 w654 =>
  rd2 (gate x638 false (fun _ =>  some ((e 3), w654)) w654) fun x655 w656 =>
  rd2 (gate x638 false (fun _ => rd2 (F 21 [x640, x642, x648, x650, x653, x655] w656) fun x657 w658 => some (x657, w658)) w656) fun x659 w660 =>
  rd2 (gate x638 false (fun _ => rd (unV .not x659) fun x661 => some (x661, w660)) w660) fun x662 w663 =>
  rd (pickV x638 (.bool true) x662) fun x664 =>
  cnd x664 (fun _ => shutK (e 133) w663 fun w665 =>
  some ((.bool false), w665)) (fun _ => rd2 (binG false Pg .add 3 (.tmp 0) (.const .nilFunc) (e 11) (.int .i64 1) w663) fun x666 w667 =>
  evalLoop (cx3 F G) (cdA Go.Proofs.Tryz.f3 [1, 1, 1, 0, 1, 0, 0]) (K3_2 F G) (upd (upd (upd (upd (upd (upd (upd (upd (upd (upd (upd (upd (upd (upd (upd (upd (upd (upd (upd (upd (upd (upd (upd (upd (upd (upd (upd (upd (upd (upd (upd (upd (upd (upd (upd (upd (upd (upd (upd (upd (upd (upd (upd (upd (upd (upd (upd (upd (upd (upd (upd (upd (upd (upd (upd (upd (upd (upd (upd (upd (upd (upd (upd (upd (upd (upd (upd (upd (upd (upd (upd (upd (upd (upd (upd e 38 (e 11)) 39 (e 0)) 40 x101) 41 x103) 44 (e 0)) 45 (e 11)) 46 x105) 47 x106) 12 x107) 48 x111) 49 x112) 51 x113) 50 x113) 52 x332) 50 x332) 53 x551) 50 x551) 64 x594) 63 x594) 66 (e 9)) 67 x596) 68 x597) 69 x598) 70 x599) 71 x600) 65 x600) 72 x602) 73 x603) 74 x604) 13 x602) 14 x603) 15 x604) 76 (e 10)) 77 x605) 78 x606) 79 x607) 80 x608) 81 x609) 75 x609) 82 x611) 83 x612) 84 x613) 16 x611) 17 x612) 18 x613) 85 x602) 86 x611) 87 x614) 88 x614) 89 x616) 90 x618) 91 x622) 92 x625) 93 x627) 94 x627) 95 x628) 96 x630) 97 x634) 98 x636) 110 (e 9)) 111 x638) 112 x638) 113 x640) 114 x642) 115 x645) 116 x648) 117 x650) 118 x653) 119 x655) 120 x659) 121 x662) 122 x664) 42 (e 11)) 43 x666) 11 x666) w667))) (fun _ => rd2 (binG false Pg .eql 3 (.tmp 0) (.const .nilFunc) x112 (.int .i64 4) w595) fun x668 w669 =>
  cnd x668 (fun _ => rd2 (F 17 [(e 9)] w669) fun x670 w671 =>
  rd2 (binG false Pg .eql 28 (.tmp 0) (.const .nilFunc) x670 (.pointer none) w671) fun x672 w673 =>
  rd2 (gate x672 false (fun _ =>  some (x670, w673)) w673) fun x674 w675 =>
  rd2 (gate x672 false (fun _ =>  some ((e 10), w675)) w675) fun x676 w677 =>
  rd2 (gate x672 false (fun _ => rd (fldA Pg 39 x107 2) fun x678 => some (x678, w677)) w677) fun x679 w680 =>
  rd2 (gate x672 false (fun _ => rd (ldV Pg 9 x679 w680) fun x681 => some (x681, w680)) w680) fun x682 w683 =>
  rd2 (gate x672 false (fun _ =>  some ((e 1), w683)) w683) fun x684 w685 =>
  rd2 (gate x672 false (fun _ => rd (ldV Pg 25 (e 6) w685) fun x686 => some (x686, w685)) w685) fun x687 w688 =>
  rd2 (gate x672 false (fun _ =>  some ((e 3), w688)) w688) fun x689 w690 =>
  rd2 (gate x672 false (fun _ => rd2 (F 21 [x674, x676, x682, x684, x687, x689] w690) fun x691 w692 => some (x691, w692)) w690) fun x693 w694 =>
  rd2 (gate x672 false (fun _ => rd (unV .not x693) fun x695 => some (x695, w694)) w694) fun x696 w697 =>
  rd (pickV x672 (.bool true) x696) fun x698 =>
  cnd x698 (fun _ => shutK (e 133) w697 fun w699 =>
  some ((.bool false), w699)) (fun _ => rd2 (binG false Pg .add 3 (.tmp 0) (.const .nilFunc) (e 11) (.int .i64 1) w697) fun x700 w701 =>
  evalLoop (cx3 F G) (cdA Go.Proofs.Tryz.f3 [1, 1, 1, 0, 1, 0, 0]) (K3_2 F G) (upd (upd (upd (upd (upd (upd (upd (upd (upd (upd (upd (upd (upd (upd (upd (upd (upd (upd (upd (upd (upd (upd (upd (upd (upd (upd (upd (upd (upd (upd (upd (upd (upd (upd (upd (upd (upd (upd (upd (upd e 38 (e 11)) 39 (e 0)) 40 x101) 41 x103) 44 (e 0)) 45 (e 11)) 46 x105) 47 x106) 12 x107) 48 x111) 49 x112) 51 x113) 50 x113) 52 x332) 50 x332) 53 x551) 50 x551) 64 x594) 63 x594) 100 x668) 99 x668) 101 (e 9)) 102 x670) 9 x670) 110 x670) 111 x672) 112 x672) 113 x674) 114 x676) 115 x679) 116 x682) 117 x684) 118 x687) 119 x689) 120 x693) 121 x696) 122 x698) 42 (e 11)) 43 x700) 11 x700) w701)) (fun _ => rd2 (binG false Pg .eql 3 (.tmp 0) (.const .nilFunc) x112 (.int .i64 5) w669) fun x702 w703 =>
  cnd x702 (fun _ => rd2 (F 19 [(e 9)] w703) fun x704 w705 =>
  rd2 (F 20 [(e 9)] w705) fun x706 w707 =>
  rd2 (F 18 [x704, x706] w707) fun x708 w709 =>
  rd2 (binG false Pg .eql 28 (.tmp 0) (.const .nilFunc) x708 (.pointer none) w709) fun x710 w711 =>
  rd2 (gate x710 false (fun _ =>  some (x708, w711)) w711) fun x712 w713 =>
  rd2 (gate x710 false (fun _ =>  some ((e 10), w713)) w713) fun x714 w715 =>
  rd2 (gate x710 false (fun _ => rd (fldA Pg 39 x107 2) fun x716 => some (x716, w715)) w715) fun x717 w718 =>
  rd2 (gate x710 false (fun _ => rd (ldV Pg 9 x717 w718) fun x719 => some (x719, w718)) w718) fun x720 w721 =>
  rd2 (gate x710 false (fun _ =>  some ((e 1), w721)) w721) fun x722 w723 =>
  rd2 (gate x710 false (fun _ => rd (ldV Pg 25 (e 6) w723) fun x724 => some (x724, w723)) w723) fun x725 w726 =>
  rd2 (gate x710 false (fun _ =>  some ((e 3), w726)) w726) fun x727 w728 =>
  rd2 (gate x710 false (fun _ => rd2 (F 21 [x712, x714, x720, x722, x725, x727] w728) fun x729 w730 => some (x729, w730)) w728) fun x731 w732 =>
  rd2 (gate x710 false (fun _ => rd (unV .not x731) fun x733 => some (x733, w732)) w732) fun x734 w735 =>
  rd (pickV x710 (.bool true) x734) fun x736 =>
  cnd x736 (fun _ => shutK (e 133) w735 fun w737 =>
  some ((.bool false), w737)) (fun _ => rd2 (binG false Pg .add 3 (.tmp 0) (.const .nilFunc) (e 11) (.int .i64 1) w735) fun x738 w739 =>
  evalLoop (cx3 F G) (cdA Go.Proofs.Tryz.f3 [1, 1, 1, 0, 1, 0, 0]) (K3_2 F G) (upd (upd (upd (upd (upd (upd (upd (upd (upd (upd (upd (upd (upd (upd (upd (upd (upd (upd (upd (upd (upd (upd (upd (upd (upd (upd (upd (upd (upd (upd (upd (upd (upd (upd (upd (upd (upd (upd (upd (upd (upd (upd (upd (upd (upd e 38 (e 11)) 39 (e 0)) 40 x101) 41 x103) 44 (e 0)) 45 (e 11)) 46 x105) 47 x106) 12 x107) 48 x111) 49 x112) 51 x113) 50 x113) 52 x332) 50 x332) 53 x551) 50 x551) 64 x594) 63 x594) 100 x668) 99 x668) 104 x702) 103 x702) 105 (e 9)) 106 x704) 107 (e 9)) 108 x706) 109 x708) 9 x708) 110 x708) 111 x710) 112 x710) 113 x712) 114 x714) 115 x717) 116 x720) 117 x722) 118 x725) 119 x727) 120 x731) 121 x734) 122 x736) 42 (e 11)) 43 x738) 11 x738) w739)) (fun _ => rd2 (binG false Pg .eql 28 (.tmp 0) (.const .nilFunc) (e 9) (.pointer none) w703) fun x740 w741 =>
  rd2 (gate x740 false (fun _ =>  some ((e 9), w741)) w741) fun x742 w743 =>
  rd2 (gate x740 false (fun _ =>  some ((e 10), w743)) w743) fun x744 w745 =>
  rd2 (gate x740 false (fun _ => rd (fldA Pg 39 x107 2) fun x746 => some (x746, w745)) w745) fun x747 w748 =>
  rd2 (gate x740 false (fun _ => rd (ldV Pg 9 x747 w748) fun x749 => some (x749, w748)) w748) fun x750 w751 =>
  rd2 (gate x740 false (fun _ =>  some ((e 1), w751)) w751) fun x752 w753 =>
  rd2 (gate x740 false (fun _ => rd (ldV Pg 25 (e 6) w753) fun x754 => some (x754, w753)) w753) fun x755 w756 =>
  rd2 (gate x740 false (fun _ =>  some ((e 3), w756)) w756) fun x757 w758 =>
  rd2 (gate x740 false (fun _ => rd2 (F 21 [x742, x744, x750, x752, x755, x757] w758) fun x759 w760 => some (x759, w760)) w758) fun x761 w762 =>
  rd2 (gate x740 false (fun _ => rd (unV .not x761) fun x763 => some (x763, w762)) w762) fun x764 w765 =>
  rd (pickV x740 (.bool true) x764) fun x766 =>
  cnd x766 (fun _ => shutK (e 133) w765 fun w767 =>
  some ((.bool false), w767)) (fun _ => rd2 (binG false Pg .add 3 (.tmp 0) (.const .nilFunc) (e 11) (.int .i64 1) w765) fun x768 w769 =>
  evalLoop (cx3 F G) (cdA Go.Proofs.Tryz.f3 [1, 1, 1, 0, 1, 0, 0]) (K3_2 F G) (upd (upd (upd (upd (upd (upd (upd (upd (upd (upd (upd (upd (upd (upd (upd (upd (upd (upd (upd (upd (upd (upd (upd (upd (upd (upd (upd (upd (upd (upd (upd (upd (upd (upd (upd (upd (upd (upd (upd e 38 (e 11)) 39 (e 0)) 40 x101) 41 x103) 44 (e 0)) 45 (e 11)) 46 x105) 47 x106) 12 x107) 48 x111) 49 x112) 51 x113) 50 x113) 52 x332) 50 x332) 53 x551) 50 x551) 64 x594) 63 x594) 100 x668) 99 x668) 104 x702) 103 x702) 110 (e 9)) 111 x740) 112 x740) 113 x742) 114 x744) 115 x747) 116 x750) 117 x752) 118 x755) 119 x757) 120 x761) 121 x764) 122 x766) 42 (e 11)) 43 x768) 11 x768) w769)))))))) (fun _ => rd2 (F 19 [(e 9)] (drw w104)) fun x770 w771 =>
  rd (nilV (e 10)) fun x772 =>
  rd (fldA Pg 33 x772 0) fun x773 =>
  rd (ldV Pg 31 x773 w771) fun x774 =>
  chk (holdsAt Pg none (.ld 31) x773 x774 (drw w104)) fun _ =>
  rd2 (F 22 [x770, x774] w771) fun x775 w776 =>
  rd2 (gate x775 true (fun _ => rd2 (F 10 [] w776) fun x777 w778 => some (x777, w778)) w776) fun x779 w780 =>
  rd (pickV x775 x779 (.bool false)) fun x781 =>
  shutK (e 133) w780 fun w782 =>
  some (x781, w782))
theorem S3_eq (F : FnT) (G : RndT) (x0 x1 x2 x3 : Value) (w0 : World) : evalCode (cx3 F G) (cdA Go.Proofs.Tryz.f3 []) (endK Pg Go.Proofs.Tryz.f3) (envL [x0, x1, x2, x3]) w0 = S3 F G x0 x1 x2 x3 w0 := by kernel_rfl
theorem F3 (x0 x1 x2 x3 : Value) (w0 : World) : Fn Pg 3 [x0, x1, x2, x3] w0 = S3 (Fn Pg) (Rnd Pg) x0 x1 x2 x3 w0 := (Fn_body (c := cdA Go.Proofs.Tryz.f3 []) Go.Proofs.Tryz.func3 (by kernel_rfl) (by kernel_rfl) [x0, x1, x2, x3] w0 (Nat.le_of_ble_eq_true (by kernel_rfl))).trans (S3_eq _ _ x0 x1 x2 x3 w0)
theorem S3_L1_eq (F : FnT) (G : RndT) (e : Env) (w0 : World) : evalLoop (cx3 F G) (cdA Go.Proofs.Tryz.f3 [1, 1, 1, 0, 1, 0, 0]) (K3_2 F G) e w0 = S3_L1 F G e w0 := by
  rw [evalLoop_eq]
  kernel_rfl

-- 13 (*ciborium/ciboriumref24.Store).Apply
noncomputable def cx13 (F : FnT) (G : RndT) : Ctx := ⟨Pg, F, G, 13, none, 93⟩
noncomputable def K13_0 : FnT → RndT → Exit → Env → World → R := fun _ _ => endK Pg Go.Proofs.Tryz.f13
noncomputable def K13_1 : FnT → RndT → Exit → Env → World → R := fun F G => thenK (evalCode (cx13 F G) (cdA Go.Proofs.Tryz.f13 [1, 1]) (K13_0 F G)) (K13_0 F G)
noncomputable def K13_2 : FnT → RndT → Exit → Env → World → R := fun F G => blkK 0 (K13_1 F G)
noncomputable def K13_3 : FnT → RndT → Exit → Env → World → R := fun F G => thenK (evalCode (cx13 F G) (cdA Go.Proofs.Tryz.f13 [1, 1, 1, 1]) (K13_0 F G)) (K13_0 F G)
noncomputable def K13_4 : FnT → RndT → Exit → Env → World → R := fun F G => blkK 2 (K13_3 F G)
noncomputable def S13 (F : FnT) (G : RndT) (x0 x1 : Value) (w0 : World) : R :=
  rd2 (rawV Pg (Instr.box 36 x1) w0) fun x3 w4 =>
  evalLoop (cx13 F G) (cdA Go.Proofs.Tryz.f13 [1, 0, 1, 0, 0]) (K13_2 F G) (upd (upd (upd (envL [x0, x1]) 3 x3) 4 (.int .i64 0)) 5 (.int .i64 0)) w4
noncomputable def S13_L1 (F : FnT) (G : RndT) (e : Env) (w0 : World) : R :=
  rd (fldA Pg 36 (e 3) 1) fun x101 =>
  rd (ldV Pg 34 x101 w0) fun x102 =>
  rd2 (lenG false Pg .len #[34] 3 #[false] [x102] w0) fun x103 w104 =>
  rd2 (binG false Pg .lss 3 (.tmp 0) (.tmp 0) (e 5) x103 w104) fun x105 w106 =>
  cnd x105 (fun _ => rd (fldA Pg 36 (e 3) 1) fun x107 =>
  rd (ldV Pg 34 x107 w106) fun x108 =>
  rd (ixA Pg 34 x108 (e 5)) fun x109 =>
  rd (ldV Pg 135 x109 w106) fun x110 =>
  rd2 (rawV Pg (Instr.alloc 135 true (.tuple #[])) w106) fun x111 w112 =>
  rd2 (rawU Pg (Instr.storeAt 135 x111 x110) w112) fun x114 w113 =>
  rd (fldA Pg 135 x111 0) fun x115 =>
  rd (ldV Pg 9 x115 (drw w113)) fun x116 =>
  rd2 (F 65 [x116] (drw w113)) fun x117 w118 =>
  rd (unV .not x117) fun x119 =>
  rd2 (gate x119 false (fun _ =>  some ((e 5), w118)) w118) fun x120 _ =>
  rd2 (gate x119 false (fun _ => rd2 (binG true Pg .gtr 3 (.tmp 0) (.const .nilFunc) x120 (.int .i64 0) w118) fun x122 w123 => some (x122, w123)) w118) fun x124 _ =>
  rd2 (gate x119 false (fun _ =>  some (x124, w118)) w118) fun x126 _ =>
  rd2 (gate x126 true (fun _ => rd (fldA Pg 135 x111 0) fun x128 => some (x128, w118)) w118) fun x129 _ =>
  rd2 (gate x126 true (fun _ => rd (ldV Pg 9 x129 w118) fun x131 => some (x131, w118)) w118) fun x132 _ =>
  rd2 (gate x126 true (fun _ => rd (fldA Pg 36 (e 3) 1) fun x134 => some (x134, w118)) w118) fun x135 _ =>
  rd2 (gate x126 true (fun _ => rd (ldV Pg 34 x135 w118) fun x137 => some (x137, w118)) w118) fun x138 _ =>
  rd2 (gate x126 true (fun _ =>  some ((e 5), w118)) w118) fun x140 _ =>
  rd2 (gate x126 true (fun _ => rd2 (binG true Pg .sub 3 (.tmp 0) (.const .nilFunc) x140 (.int .i64 1) w118) fun x142 w143 => some (x142, w143)) w118) fun x144 _ =>
  rd2 (gate x126 true (fun _ => rd (ixA Pg 34 x138 x144) fun x146 => some (x146, w118)) w118) fun x147 _ =>
  rd2 (gate x126 true (fun _ => rd (fldA Pg 135 x147 0) fun x149 => some (x149, w118)) w118) fun x150 _ =>
  rd2 (gate x126 true (fun _ => rd (ldV Pg 9 x150 w118) fun x152 => some (x152, w118)) w118) fun x153 _ =>
  rd2 (gate x126 true (fun _ => rd2 (binG true Pg .leq 9 (.tmp 0) (.tmp 0) x132 x153 w118) fun x155 w156 => some (x155, w156)) w118) fun x157 _ =>
  rd2 (gate x119 false (fun _ => rd (pickV x126 x157 (.bool false)) fun x159 => some (x159, w118)) w118) fun x160 _ =>
  rd (pickV x119 (.bool true) x160) fun x162 =>
  rd2 (gate x162 false (fun _ => rd (fldA Pg 135 x111 1) fun x163 => some (x163, w118)) w118) fun x164 _ =>
  rd2 (gate x162 false (fun _ => rd (ldV Pg 4 x164 w118) fun x166 => some (x166, w118)) w118) fun x167 _ =>
  rd2 (gate x162 false (fun _ =>  some (x167, w118)) w118) fun x169 _ =>
  rd2 (gate x169 true (fun _ => rd (fldA Pg 135 x111 2) fun x171 => some (x171, w118)) w118) fun x172 _ =>
  rd2 (gate x169 true (fun _ => rd (ldV Pg 82 x172 w118) fun x174 => some (x174, w118)) w118) fun x175 _ =>
  rd2 (gate x169 true (fun _ => rd (bldV Pg 82 []) fun x177 => some (x177, w118)) w118) fun x178 _ =>
  rd2 (gate x169 true (fun _ => rd2 (F 43 [x175, x178] w118) fun x180 w181 => some (x180, w181)) w118) fun x182 w183 =>
  rd2 (gate x169 true (fun _ => rd (unV .not x182) fun x184 => some (x184, w183)) w183) fun x185 _ =>
  rd2 (gate x162 false (fun _ => rd (pickV x169 x185 (.bool false)) fun x187 => some (x187, w183)) w183) fun x188 _ =>
  rd (pickV x162 (.bool true) x188) fun x190 =>
  cnd x190 (fun _ => shutK (e 93) w183 fun w191 =>
  some ((.int .i64 2), w191)) (fun _ => rd2 (binG false Pg .add 3 (.tmp 0) (.const .nilFunc) (e 5) (.int .i64 1) w183) fun x192 w193 =>
  evalLoop (cx13 F G) (cdA Go.Proofs.Tryz.f13 [1, 0, 1, 0, 0]) (K13_2 F G) (upd (upd (upd (upd (upd (upd (upd (upd (upd (upd (upd (upd (upd (upd (upd (upd (upd (upd (upd (upd (upd (upd (upd (upd (upd (upd (upd (upd (upd (upd (upd (upd (upd (upd (upd (upd (upd (upd (upd (upd (upd (upd (upd (upd (upd e 9 (e 5)) 10 x101) 11 x102) 12 x103) 13 x105) 16 x107) 17 x108) 18 (e 5)) 19 x109) 20 x110) 6 x111) 21 x115) 22 x116) 23 x117) 24 x119) 25 x119) 26 x120) 27 x124) 28 x126) 29 x129) 30 x132) 31 x135) 32 x138) 33 x140) 34 x144) 35 x147) 36 x150) 37 x153) 38 x157) 39 x160) 40 x162) 41 x162) 42 x164) 43 x167) 44 x169) 45 x172) 46 x175) 47 x178) 48 x182) 49 x185) 50 x188) 51 x190) 14 (e 5)) 15 x192) 5 x192) w193)) (fun _ => rd (fldA Pg 36 (e 3) 0) fun x194 =>
  rd (ldV Pg 23 x194 (drw w106)) fun x195 =>
  rd (nilV (e 0)) fun x196 =>
  rd (fldA Pg 33 x196 1) fun x197 =>
  rd (ldV Pg 23 x197 (drw w106)) fun x198 =>
  rd2 (binG true Pg .leq 23 (.tmp 0) (.tmp 0) x195 x198 (drw w106)) fun x199 _ =>
  cnd x199 (fun _ => shutK (e 93) (drw w106) fun w201 =>
  some ((.int .i64 2), w201)) (fun _ => evalLoop (cx13 F G) (cdA Go.Proofs.Tryz.f13 [1, 1, 1, 0, 1, 0, 0]) (K13_4 F G) (upd (upd (upd (upd (upd (upd (upd (upd (upd (upd (upd (upd (upd e 9 (e 5)) 10 x101) 11 x102) 12 x103) 13 x105) 52 x194) 53 x195) 54 (e 0)) 55 x196) 56 x197) 57 x198) 58 x199) 7 (.int .i64 0)) (drw w106)))
noncomputable def S13_L2 (F : FnT) (G : RndT) (e : Env) (w0 : World) : R :=
  rd (fldA Pg 36 (e 3) 1) fun x101 =>
  rd (ldV Pg 34 x101 w0) fun x102 =>
  rd2 (lenG false Pg .len #[34] 3 #[false] [x102] w0) fun x103 w104 =>
  rd2 (binG false Pg .lss 3 (.tmp 0) (.tmp 0) (e 7) x103 w104) fun x105 w106 =>
  cnd x105 (fun _ => rd (fldA Pg 36 (e 3) 1) fun x107 =>
  rd (ldV Pg 34 x107 w106) fun x108 =>
  rd (ixA Pg 34 x108 (e 7)) fun x109 =>
  rd (ldV Pg 135 x109 w106) fun x110 =>
  rd2 (rawV Pg (Instr.alloc 135 true (.tuple #[])) w106) fun x111 w112 =>
  rd2 (rawU Pg (Instr.storeAt 135 x111 x110) w112) fun x114 w113 =>
  oneOf (aheadL 10 14 (Region.schedule true (rgA Go.Proofs.Tryz.f13 [1, 1, 1, 0, 1, 0, 0, 1, 0, 0, 1]) (World.tape w113 (World.drawn w113) (.order 13 13)))) (fun _ => rd (fldA Pg 135 x111 0) fun x115 =>
  rd (ldV Pg 9 x115 (drw w113)) fun x116 =>
  rd (fldA Pg 36 (e 3) 0) fun x117 =>
  rd (ldV Pg 23 x117 (drw w113)) fun x118 =>
  rd (fldA Pg 135 x111 1) fun x119 =>
  rd (ldV Pg 4 x119 (drw w113)) fun x120 =>
  rd (fldA Pg 135 x111 2) fun x121 =>
  rd (ldV Pg 82 x121 (drw w113)) fun x122 =>
  rd (bldV Pg 137 [(0, x118), (1, x120), (2, x122)]) fun x123 =>
  rd2 (rawV Pg (Instr.buildSlice 43 1 #[(0, x123)]) (drw w113)) fun x124 w125 =>
  rd (fldA Pg 135 x111 0) fun x126 =>
  rd (ldV Pg 9 x126 w125) fun x127 =>
  chk (holdsAt Pg none (.ld 9) x126 x127 (drw w113)) fun _ =>
  rd2 (F 67 [(e 0), x127] w125) fun x128 w129 =>
  chk (holdsAt Pg none (.ld 9) x115 x116 w129) fun _ =>
  rd2 (lenG false Pg .append #[43, 43] 43 #[false, false] [x124, x128] w129) fun x130 w131 =>
  chk (holdsAt Pg none (.ld 9) x115 x116 w131) fun _ =>
  rd2 (F 66 [(e 0), x116, x130] w131) fun x132 w133 =>
  rd2 (binG false Pg .add 3 (.tmp 0) (.const .nilFunc) (e 7) (.int .i64 1) w133) fun x134 w135 =>
  evalLoop (cx13 F G) (cdA Go.Proofs.Tryz.f13 [1, 1, 1, 0, 1, 0, 0]) (K13_4 F G) (upd (upd (upd (upd (upd (upd (upd (upd (upd (upd (upd (upd (upd (upd (upd (upd (upd (upd (upd (upd (upd (upd (upd (upd (upd (upd (upd (upd (upd (upd (upd e 59 (e 7)) 60 x101) 61 x102) 62 x103) 63 x105) 66 x107) 67 x108) 68 (e 7)) 69 x109) 70 x110) 8 x111) 71 (e 0)) 72 x115) 73 x116) 74 x117) 75 x118) 76 x119) 77 x120) 78 x121) 79 x122) 80 x123) 81 x124) 82 (e 0)) 83 x126) 84 x127) 85 x128) 86 x130) 87 x132) 64 (e 7)) 65 x134) 7 x134) w135) (fun _ => rd (fldA Pg 135 x111 0) fun x136 =>
  rd (ldV Pg 9 x136 (drw w113)) fun x137 =>
  rd2 (F 67 [(e 0), x137] (drw w113)) fun x138 w139 =>
  rd (fldA Pg 135 x111 0) fun x140 =>
  rd (ldV Pg 9 x140 w139) fun x141 =>
  chk (holdsAt Pg none (.ld 9) x140 x141 (drw w113)) fun _ =>
  rd (fldA Pg 36 (e 3) 0) fun x142 =>
  rd (ldV Pg 23 x142 w139) fun x143 =>
  chk (holdsAt Pg none (.ld 23) x142 x143 (drw w113)) fun _ =>
  rd (fldA Pg 135 x111 1) fun x144 =>
  rd (ldV Pg 4 x144 w139) fun x145 =>
  chk (holdsAt Pg none (.ld 4) x144 x145 (drw w113)) fun _ =>
  rd (fldA Pg 135 x111 2) fun x146 =>
  rd (ldV Pg 82 x146 w139) fun x147 =>
  chk (holdsAt Pg none (.ld 82) x146 x147 (drw w113)) fun _ =>
  rd (bldV Pg 137 [(0, x143), (1, x145), (2, x147)]) fun x148 =>
  rd2 (rawV Pg (Instr.buildSlice 43 1 #[(0, x148)]) w139) fun x149 w150 =>
  rd2 (lenG false Pg .append #[43, 43] 43 #[false, false] [x149, x138] w150) fun x151 w152 =>
  chk (holdsAt Pg none (.ld 9) x140 x141 w152) fun _ =>
  rd2 (F 66 [(e 0), x141, x151] w152) fun x153 w154 =>
  rd2 (binG false Pg .add 3 (.tmp 0) (.const .nilFunc) (e 7) (.int .i64 1) w154) fun x155 w156 =>
  evalLoop (cx13 F G) (cdA Go.Proofs.Tryz.f13 [1, 1, 1, 0, 1, 0, 0]) (K13_4 F G) (upd (upd (upd (upd (upd (upd (upd (upd (upd (upd (upd (upd (upd (upd (upd (upd (upd (upd (upd (upd (upd (upd (upd (upd (upd (upd (upd (upd (upd (upd (upd e 59 (e 7)) 60 x101) 61 x102) 62 x103) 63 x105) 66 x107) 67 x108) 68 (e 7)) 69 x109) 70 x110) 8 x111) 82 (e 0)) 83 x136) 84 x137) 85 x138) 71 (e 0)) 72 x140) 73 x141) 74 x142) 75 x143) 76 x144) 77 x145) 78 x146) 79 x147) 80 x148) 81 x149) 86 x151) 87 x153) 64 (e 7)) 65 x155) 7 x155) w156)) (fun _ => rd (fldA Pg 36 (e 3) 0) fun x157 =>
  rd (ldV Pg 23 x157 w106) fun x158 =>
  rd (nilV (e 0)) fun x159 =>
  rd (fldA Pg 33 x159 1) fun x160 =>
  rd2 (rawU Pg (Instr.storeAt 23 x160 x158) w106) fun x162 w161 =>
  shutK (e 93) w161 fun w163 =>
  some ((.int .i64 0), w163))
theorem S13_eq (F : FnT) (G : RndT) (x0 x1 : Value) (w0 : World) : evalCode (cx13 F G) (cdA Go.Proofs.Tryz.f13 []) (endK Pg Go.Proofs.Tryz.f13) (envL [x0, x1]) w0 = S13 F G x0 x1 w0 := by kernel_rfl
theorem F13 (x0 x1 : Value) (w0 : World) : Fn Pg 13 [x0, x1] w0 = S13 (Fn Pg) (Rnd Pg) x0 x1 w0 := (Fn_body (c := cdA Go.Proofs.Tryz.f13 []) Go.Proofs.Tryz.func13 (by kernel_rfl) (by kernel_rfl) [x0, x1] w0 (Nat.le_of_ble_eq_true (by kernel_rfl))).trans (S13_eq _ _ x0 x1 w0)
theorem S13_L1_eq (F : FnT) (G : RndT) (e : Env) (w0 : World) : evalLoop (cx13 F G) (cdA Go.Proofs.Tryz.f13 [1, 0, 1, 0, 0]) (K13_2 F G) e w0 = S13_L1 F G e w0 := by
  rw [evalLoop_eq]
  kernel_rfl
theorem S13_L2_eq (F : FnT) (G : RndT) (e : Env) (w0 : World) : evalLoop (cx13 F G) (cdA Go.Proofs.Tryz.f13 [1, 1, 1, 0, 1, 0, 0]) (K13_4 F G) e w0 = S13_L2 F G e w0 := by
  rw [evalLoop_eq]
  kernel_rfl

-- 15 (*ciborium/ciboriumref24.Store).Vacuum
noncomputable def cx15 (F : FnT) (G : RndT) : Ctx := ⟨Pg, F, G, 15, none, 52⟩
noncomputable def K15_0 : FnT → RndT → Exit → Env → World → R := fun _ _ => endK Pg Go.Proofs.Tryz.f15
noncomputable def K15_1 : FnT → RndT → Exit → Env → World → R := fun F G => thenK (evalCode (cx15 F G) (cdA Go.Proofs.Tryz.f15 [1, 1]) (K15_0 F G)) (K15_0 F G)
noncomputable def K15_2 : FnT → RndT → Exit → Env → World → R := fun F G => blkK 0 (K15_1 F G)
noncomputable def S15 (F : FnT) (G : RndT) (x0 x1 x2 : Value) (w0 : World) : R :=
  evalLoop (cx15 F G) (cdA Go.Proofs.Tryz.f15 [1, 0, 1, 0, 0]) (K15_2 F G) (upd (upd (upd (upd (envL [x0, x1, x2]) 6 (.string { data := #[] })) 7 (.slice none 0 0)) 8 (.bool false)) 9 (.int .i64 0)) w0
noncomputable def S15_L1 (F : FnT) (G : RndT) (e : Env) (w0 : World) : R :=
  rd (nilV (e 0)) fun x101 =>
  rd (fldA Pg 33 x101 0) fun x102 =>
  rd (ldV Pg 31 x102 w0) fun x103 =>
  rd2 (lenG false Pg .len #[31] 3 #[false] [x103] w0) fun x104 w105 =>
  rd2 (binG false Pg .lss 3 (.tmp 0) (.tmp 0) (e 9) x104 w105) fun x106 w107 =>
  cnd x106 (fun _ => rd (nilV (e 0)) fun x108 =>
  rd (fldA Pg 33 x108 0) fun x109 =>
  rd (ldV Pg 31 x109 w107) fun x110 =>
  rd (ixA Pg 31 x110 (e 9)) fun x111 =>
  rd (fldA Pg 159 x111 0) fun x112 =>
  rd (ldV Pg 9 x112 w107) fun x113 =>
  rd2 (binG false Pg .gtr 9 (.tmp 0) (.tmp 0) x113 (e 1) w107) fun x114 w115 =>
  cnd x114 (fun _ => rd (nilV (e 0)) fun x116 =>
  rd (fldA Pg 33 x116 0) fun x117 =>
  rd (ldV Pg 31 x117 w115) fun x118 =>
  rd (ixA Pg 31 x118 (e 9)) fun x119 =>
  rd (fldA Pg 159 x119 1) fun x120 =>
  rd (ldV Pg 43 x120 w115) fun x121 =>
  rd2 (F 72 [x121, (e 2)] w115) fun x122 w123 =>
  rd (extV x122 0) fun x124 =>
  rd (extV x122 1) fun x125 =>
  rd2 (F 66 [(e 0), x113, x124] w123) fun x126 w127 =>
  shutK (e 52) w127 fun w128 =>
  some ((.tuple #[x113, x125, (.bool false)]), w128)) (fun _ => rd2 (binG false Pg .add 3 (.tmp 0) (.const .nilFunc) (e 9) (.int .i64 1) w115) fun x129 w130 =>
  evalLoop (cx15 F G) (cdA Go.Proofs.Tryz.f15 [1, 0, 1, 0, 0]) (K15_2 F G) (upd (upd (upd (upd (upd (upd (upd (upd (upd (upd (upd (upd (upd (upd (upd (upd (upd (upd (upd (upd (upd (upd e 13 (e 9)) 14 (e 0)) 15 x101) 16 x102) 17 x103) 18 x104) 19 x106) 22 (e 0)) 23 x108) 24 x109) 25 x110) 26 (e 9)) 27 x111) 28 x112) 29 x113) 10 x113) 30 x113) 31 (e 1)) 32 x114) 20 (e 9)) 21 x129) 9 x129) w130)) (fun _ => shutK (e 52) w107 fun w131 =>
  some ((.tuple #[(.string { data := #[] }), (.slice none 0 0), (.bool true)]), w131))
theorem S15_eq (F : FnT) (G : RndT) (x0 x1 x2 : Value) (w0 : World) : evalCode (cx15 F G) (cdA Go.Proofs.Tryz.f15 []) (endK Pg Go.Proofs.Tryz.f15) (envL [x0, x1, x2]) w0 = S15 F G x0 x1 x2 w0 := by kernel_rfl
theorem F15 (x0 x1 x2 : Value) (w0 : World) : Fn Pg 15 [x0, x1, x2] w0 = S15 (Fn Pg) (Rnd Pg) x0 x1 x2 w0 := (Fn_body (c := cdA Go.Proofs.Tryz.f15 []) Go.Proofs.Tryz.func15 (by kernel_rfl) (by kernel_rfl) [x0, x1, x2] w0 (Nat.le_of_ble_eq_true (by kernel_rfl))).trans (S15_eq _ _ x0 x1 x2 w0)
theorem S15_L1_eq (F : FnT) (G : RndT) (e : Env) (w0 : World) : evalLoop (cx15 F G) (cdA Go.Proofs.Tryz.f15 [1, 0, 1, 0, 0]) (K15_2 F G) e w0 = S15_L1 F G e w0 := by
  rw [evalLoop_eq]
  kernel_rfl

-- 16 ciborium/ciboriumref22.SameAll
noncomputable def cx16 (F : FnT) (G : RndT) : Ctx := ⟨Pg, F, G, 16, none, 27⟩
noncomputable def K16_0 : FnT → RndT → Exit → Env → World → R := fun _ _ => endK Pg Go.Proofs.Tryz.f16
noncomputable def K16_1 : FnT → RndT → Exit → Env → World → R := fun F G => thenK (evalCode (cx16 F G) (cdA Go.Proofs.Tryz.f16 [1, 1, 1]) (K16_0 F G)) (K16_0 F G)
noncomputable def K16_2 : FnT → RndT → Exit → Env → World → R := fun F G => blkK 0 (K16_1 F G)
noncomputable def S16 (F : FnT) (G : RndT) (x0 x1 : Value) (w0 : World) : R :=
  rd2 (lenG false Pg .len #[43] 3 #[false] [x0] w0) fun x3 w4 =>
  rd2 (lenG false Pg .len #[43] 3 #[false] [x1] w4) fun x5 w6 =>
  rd2 (binG false Pg .neq 3 (.tmp 0) (.tmp 0) x3 x5 w6) fun x7 w8 =>
  cnd x7 (fun _ => some ((.bool false), w8)) (fun _ => evalLoop (cx16 F G) (cdA Go.Proofs.Tryz.f16 [1, 1, 0, 1, 0, 0]) (K16_2 F G) (upd (upd (upd (upd (upd (upd (upd (envL [x0, x1]) 4 (.bool false)) 6 x0) 7 x3) 8 x1) 9 x5) 10 x7) 5 (.int .i64 0)) w8)
noncomputable def S16_L1 (F : FnT) (G : RndT) (e : Env) (w0 : World) : R :=
  rd2 (lenG false Pg .len #[43] 3 #[false] [(e 0)] w0) fun x101 w102 =>
  rd2 (binG false Pg .lss 3 (.tmp 0) (.tmp 0) (e 5) x101 w102) fun x103 w104 =>
  cnd x103 (fun _ => rd (ixA Pg 43 (e 0) (e 5)) fun x105 =>
  rd (ldV Pg 137 x105 (drw w104)) fun x106 =>
  rd (ixA Pg 43 (e 1) (e 5)) fun x107 =>
  rd (ldV Pg 137 x107 (drw w104)) fun x108 =>
  rd2 (F 73 [x106, x108] (drw w104)) fun x109 w110 =>
  rd (unV .not x109) fun x111 =>
  cnd x111 (fun _ => shutK (e 27) w110 fun w112 =>
  some ((.bool false), w112)) (fun _ => rd2 (binG false Pg .add 3 (.tmp 0) (.const .nilFunc) (e 5) (.int .i64 1) w110) fun x113 w114 =>
  evalLoop (cx16 F G) (cdA Go.Proofs.Tryz.f16 [1, 1, 0, 1, 0, 0]) (K16_2 F G) (upd (upd (upd (upd (upd (upd (upd (upd (upd (upd (upd (upd (upd (upd (upd (upd (upd e 11 (e 5)) 12 (e 0)) 13 x101) 14 x103) 17 (e 0)) 18 (e 5)) 19 x105) 20 x106) 21 (e 1)) 22 (e 5)) 23 x107) 24 x108) 25 x109) 26 x111) 15 (e 5)) 16 x113) 5 x113) w114)) (fun _ => shutK (e 27) w104 fun w115 =>
  some ((.bool true), w115))
theorem S16_eq (F : FnT) (G : RndT) (x0 x1 : Value) (w0 : World) : evalCode (cx16 F G) (cdA Go.Proofs.Tryz.f16 []) (endK Pg Go.Proofs.Tryz.f16) (envL [x0, x1]) w0 = S16 F G x0 x1 w0 := by kernel_rfl
theorem F16 (x0 x1 : Value) (w0 : World) : Fn Pg 16 [x0, x1] w0 = S16 (Fn Pg) (Rnd Pg) x0 x1 w0 := (Fn_body (c := cdA Go.Proofs.Tryz.f16 []) Go.Proofs.Tryz.func16 (by kernel_rfl) (by kernel_rfl) [x0, x1] w0 (Nat.le_of_ble_eq_true (by kernel_rfl))).trans (S16_eq _ _ x0 x1 w0)
theorem S16_L1_eq (F : FnT) (G : RndT) (e : Env) (w0 : World) : evalLoop (cx16 F G) (cdA Go.Proofs.Tryz.f16 [1, 1, 0, 1, 0, 0]) (K16_2 F G) e w0 = S16_L1 F G e w0 := by
  rw [evalLoop_eq]
  kernel_rfl

-- 18 ciborium/mvcc.From
noncomputable def cx18 (F : FnT) (G : RndT) : Ctx := ⟨Pg, F, G, 18, none, 53⟩
noncomputable def K18_0 : FnT → RndT → Exit → Env → World → R := fun _ _ => endK Pg Go.Proofs.Tryz.f18
noncomputable def K18_1 : FnT → RndT → Exit → Env → World → R := fun F G => thenK (evalCode (cx18 F G) (cdA Go.Proofs.Tryz.f18 [1, 1, 1, 1]) (K18_0 F G)) (K18_0 F G)
noncomputable def K18_2 : FnT → RndT → Exit → Env → World → R := fun F G => blkK 0 (K18_1 F G)
noncomputable def S18 (F : FnT) (G : RndT) (x0 x1 : Value) (w0 : World) : R :=
  rd2 (F 11 [] w0) fun x3 w4 =>
  rd2 (lenG false Pg .len #[31] 3 #[false] [x0] w4) fun x5 w6 =>
  evalLoop (cx18 F G) (cdA Go.Proofs.Tryz.f18 [1, 1, 1, 0, 1, 0, 0]) (K18_2 F G) (upd (upd (upd (upd (upd (upd (upd (envL [x0, x1]) 4 (.pointer none)) 11 x3) 5 x3) 6 (.string { data := #[] })) 12 x0) 13 x5) 14 (.int .i64 0)) w6
noncomputable def S18_L1 (F : FnT) (G : RndT) (e : Env) (w0 : World) : R :=
  rd2 (binG false Pg .lss 3 (.tmp 0) (.tmp 0) (e 14) (e 13) w0) fun x101 w102 =>
  cnd x101 (fun _ => rd (ixA Pg 31 (e 12) (e 14)) fun x103 =>
  rd (ldV Pg 159 x103 w102) fun x104 =>
  rd2 (rawV Pg (Instr.alloc 159 true (.tuple #[])) w102) fun x105 w106 =>
  rd2 (rawU Pg (Instr.storeAt 159 x105 x104) w106) fun x108 w107 =>
  rd (ldV Pg 159 x105 w107) fun x109 =>
  rd2 (F 75 [x109, (e 1)] w107) fun x110 w111 =>
  rd (unV .not x110) fun x112 =>
  rd2 (gate x112 false (fun _ => rd (fldA Pg 159 x105 0) fun x113 => some (x113, w111)) w111) fun x114 w115 =>
  rd2 (gate x112 false (fun _ => rd (ldV Pg 9 x114 w115) fun x116 => some (x116, w115)) w115) fun x117 w118 =>
  rd2 (gate x112 false (fun _ =>  some ((e 6), w118)) w118) fun x119 w120 =>
  rd2 (gate x112 false (fun _ => rd2 (binG false Pg .leq 9 (.tmp 0) (.tmp 0) x117 x119 w120) fun x121 w122 => some (x121, w122)) w120) fun x123 w124 =>
  rd (pickV x112 (.bool true) x123) fun x125 =>
  cnd x125 (fun _ => shutK (e 53) w124 fun w126 =>
  some ((.pointer none), w126)) (fun _ => rd (fldA Pg 159 x105 0) fun x127 =>
  rd (ldV Pg 9 x127 w124) fun x128 =>
  rd (fldA Pg 159 x105 1) fun x129 =>
  rd (ldV Pg 43 x129 (drw w124)) fun x130 =>
  rd (fldA Pg 159 x105 1) fun x131 =>
  rd (ldV Pg 43 x131 (drw w124)) fun x132 =>
  rd2 (F 76 [x132] (drw w124)) fun x133 w134 =>
  chk (holdsAt Pg none (.ld 43) x129 x130 w134) fun _ =>
  rd2 (F 69 [x130, x133] w134) fun x135 w136 =>
  rd (extV x135 0) fun x137 =>
  rd (extV x135 1) fun x138 =>
  rd (nilV (e 5)) fun x139 =>
  rd (fldA Pg 144 x139 0) fun x140 =>
  rd (ldV Pg 141 x140 (drw w136)) fun x141 =>
  rd (fldA Pg 159 x105 0) fun x142 =>
  rd (ldV Pg 9 x142 (drw w136)) fun x143 =>
  rd2 (F 64 [x141, x143, x137] (drw w136)) fun x144 w145 =>
  rd2 (binG false Pg .add 3 (.tmp 0) (.const .nilFunc) (e 14) (.int .i64 1) w145) fun x146 w147 =>
  evalLoop (cx18 F G) (cdA Go.Proofs.Tryz.f18 [1, 1, 1, 0, 1, 0, 0]) (K18_2 F G) (upd (upd (upd (upd (upd (upd (upd (upd (upd (upd (upd (upd (upd (upd (upd (upd (upd (upd (upd (upd (upd (upd (upd (upd (upd (upd (upd (upd (upd (upd (upd (upd (upd (upd (upd (upd (upd (upd e 15 x101) 16 x103) 17 x104) 8 x105) 18 x109) 19 (e 1)) 20 x110) 21 x112) 22 x112) 23 x114) 24 x117) 25 x119) 26 x123) 27 x125) 28 x127) 29 x128) 6 x128) 31 x129) 32 x130) 33 x131) 34 x132) 35 x133) 36 x135) 30 x135) 37 x137) 38 x138) 9 x137) 10 x138) 39 (e 5)) 40 x139) 41 x140) 42 x141) 43 x142) 44 x143) 45 x137) 46 x144) 47 x146) 14 x146) w147)) (fun _ => rd (nilV (e 5)) fun x148 =>
  rd (fldA Pg 144 x148 1) fun x149 =>
  rd2 (rawU Pg (Instr.storeAt 23 x149 (e 1)) w102) fun x151 w150 =>
  shutK (e 53) w150 fun w152 =>
  some ((e 5), w152))
theorem S18_eq (F : FnT) (G : RndT) (x0 x1 : Value) (w0 : World) : evalCode (cx18 F G) (cdA Go.Proofs.Tryz.f18 []) (endK Pg Go.Proofs.Tryz.f18) (envL [x0, x1]) w0 = S18 F G x0 x1 w0 := by kernel_rfl
theorem F18 (x0 x1 : Value) (w0 : World) : Fn Pg 18 [x0, x1] w0 = S18 (Fn Pg) (Rnd Pg) x0 x1 w0 := (Fn_body (c := cdA Go.Proofs.Tryz.f18 []) Go.Proofs.Tryz.func18 (by kernel_rfl) (by kernel_rfl) [x0, x1] w0 (Nat.le_of_ble_eq_true (by kernel_rfl))).trans (S18_eq _ _ x0 x1 w0)
theorem S18_L1_eq (F : FnT) (G : RndT) (e : Env) (w0 : World) : evalLoop (cx18 F G) (cdA Go.Proofs.Tryz.f18 [1, 1, 1, 0, 1, 0, 0]) (K18_2 F G) e w0 = S18_L1 F G e w0 := by
  rw [evalLoop_eq]
  kernel_rfl

-- 21 ciborium/ciboriumlaw24.same
noncomputable def cx21 (F : FnT) (G : RndT) : Ctx := ⟨Pg, F, G, 21, none, 101⟩
noncomputable def S21 (F : FnT) (G : RndT) (x0 x1 x2 x3 x4 x5 : Value) (w0 : World) : R :=
  rd2 (rawV Pg (Instr.box 25 x4) w0) fun x7 w8 =>
  rd2 (F 57 [x0, x2, x3] w8) fun x9 w10 =>
  rd (extV x9 0) fun x11 =>
  rd (extV x9 1) fun x12 =>
  rd2 (rawV Pg (Instr.alloc 137 true (.tuple #[])) w10) fun x13 w14 =>
  rd2 (rawU Pg (Instr.storeAt 137 x13 x11) w14) fun x16 w15 =>
  rd2 (F 79 [x1, x2, x3] w15) fun x17 w18 =>
  rd (extV x17 0) fun x19 =>
  rd (extV x17 1) fun x20 =>
  rd2 (rawV Pg (Instr.alloc 137 true (.tuple #[])) w18) fun x21 w22 =>
  rd2 (rawU Pg (Instr.storeAt 137 x21 x19) w22) fun x24 w23 =>
  rd2 (F 80 [x0, x2] w23) fun x25 w26 =>
  rd (extV x25 0) fun x27 =>
  rd (extV x25 1) fun x28 =>
  rd2 (rawV Pg (Instr.alloc 137 true (.tuple #[])) w26) fun x29 w30 =>
  rd2 (rawU Pg (Instr.storeAt 137 x29 x27) w30) fun x32 w31 =>
  rd2 (F 81 [x1, x2] w31) fun x33 w34 =>
  rd (extV x33 0) fun x35 =>
  rd (extV x33 1) fun x36 =>
  rd2 (rawV Pg (Instr.alloc 137 true (.tuple #[])) w34) fun x37 w38 =>
  rd2 (rawU Pg (Instr.storeAt 137 x37 x35) w38) fun x40 w39 =>
  rd (ldV Pg 137 x13 (drw w39)) fun x41 =>
  rd (ldV Pg 137 x21 (drw w39)) fun x42 =>
  rd2 (F 73 [x41, x42] (drw w39)) fun x43 w44 =>
  rd2 (gate x43 true (fun _ =>  some (x12, w44)) w44) fun x45 _ =>
  rd2 (gate x43 true (fun _ =>  some (x20, w44)) w44) fun x47 _ =>
  rd2 (gate x43 true (fun _ => rd2 (binG true Pg .eql 4 (.tmp 0) (.tmp 0) x45 x47 w44) fun x49 w50 => some (x49, w50)) w44) fun x51 _ =>
  rd (pickV x43 x51 (.bool false)) fun x53 =>
  rd2 (gate x53 true (fun _ => rd (ldV Pg 137 x29 w44) fun x54 => some (x54, w44)) w44) fun x55 _ =>
  rd2 (gate x53 true (fun _ => rd (ldV Pg 137 x37 w44) fun x57 => some (x57, w44)) w44) fun x58 _ =>
  rd2 (gate x53 true (fun _ => rd2 (F 73 [x55, x58] w44) fun x60 w61 => some (x60, w61)) w44) fun x62 w63 =>
  rd (pickV x53 x62 (.bool false)) fun x64 =>
  rd2 (gate x64 true (fun _ =>  some (x28, w63)) w63) fun x65 _ =>
  rd2 (gate x64 true (fun _ =>  some (x36, w63)) w63) fun x67 _ =>
  rd2 (gate x64 true (fun _ => rd2 (binG true Pg .eql 4 (.tmp 0) (.tmp 0) x65 x67 w63) fun x69 w70 => some (x69, w70)) w63) fun x71 _ =>
  rd (pickV x64 x71 (.bool false)) fun x73 =>
  rd2 (gate x73 true (fun _ =>  some (x0, w63)) w63) fun x74 _ =>
  rd2 (gate x73 true (fun _ => rd (ldV Pg 25 x7 w63) fun x76 => some (x76, w63)) w63) fun x77 _ =>
  rd2 (gate x73 true (fun _ =>  some (x3, w63)) w63) fun x79 _ =>
  rd2 (gate x73 true (fun _ =>  some (x5, w63)) w63) fun x81 _ =>
  rd2 (gate x73 true (fun _ => rd2 (F 60 [x74, x77, x79, x81] w63) fun x83 w84 => some (x83, w84)) w63) fun x85 w86 =>
  rd2 (gate x73 true (fun _ =>  some (x1, w86)) w86) fun x87 _ =>
  rd2 (gate x73 true (fun _ => rd (ldV Pg 25 x7 w86) fun x89 => some (x89, w86)) w86) fun x90 _ =>
  chk (holdsAt Pg (some (x73, true)) (.ld 25) x7 x90 w63) fun _ =>
  rd2 (gate x73 true (fun _ =>  some (x3, w86)) w86) fun x92 _ =>
  rd2 (gate x73 true (fun _ =>  some (x5, w86)) w86) fun x94 _ =>
  rd2 (gate x73 true (fun _ => rd2 (F 83 [x87, x90, x92, x94] w86) fun x96 w97 => some (x96, w97)) w86) fun x98 w99 =>
  rd2 (gate x73 true (fun _ => rd2 (F 82 [x85, x98] w99) fun x100 w101 => some (x100, w101)) w99) fun x102 w103 =>
  rd (pickV x73 x102 (.bool false)) fun x104 =>
  rd2 (gate x104 true (fun _ =>  some (x0, w103)) w103) fun x105 _ =>
  rd2 (gate x104 true (fun _ => rd2 (F 20 [x105] w103) fun x107 w108 => some (x107, w108)) w103) fun x109 w110 =>
  rd2 (gate x104 true (fun _ =>  some (x1, w110)) w110) fun x111 _ =>
  rd2 (gate x104 true (fun _ => rd (nilV x111) fun x113 => some (x113, w110)) w110) fun x114 _ =>
  rd2 (gate x104 true (fun _ => rd (fldA Pg 33 x114 1) fun x116 => some (x116, w110)) w110) fun x117 _ =>
  rd2 (gate x104 true (fun _ => rd (ldV Pg 23 x117 w110) fun x119 => some (x119, w110)) w110) fun x120 _ =>
  chk (holdsAt Pg (some (x104, true)) (.ld 23) x117 x120 w103) fun _ =>
  rd2 (gate x104 true (fun _ => rd2 (binG true Pg .eql 23 (.tmp 0) (.tmp 0) x109 x120 w110) fun x122 w123 => some (x122, w123)) w110) fun x124 _ =>
  rd (pickV x104 x124 (.bool false)) fun x126 =>
  rd2 (gate x126 true (fun _ =>  some (x0, w110)) w110) fun x127 _ =>
  rd2 (gate x126 true (fun _ => rd2 (F 59 [x127] w110) fun x129 w130 => some (x129, w130)) w110) fun x131 w132 =>
  rd2 (gate x126 true (fun _ =>  some (x1, w132)) w132) fun x133 _ =>
  rd2 (gate x126 true (fun _ => rd2 (F 84 [x133] w132) fun x135 w136 => some (x135, w136)) w132) fun x137 w138 =>
  rd2 (gate x126 true (fun _ => rd2 (binG true Pg .eql 3 (.tmp 0) (.tmp 0) x131 x137 w138) fun x139 w140 => some (x139, w140)) w138) fun x141 _ =>
  rd (pickV x126 x141 (.bool false)) fun x143 =>
  rd2 (gate x143 true (fun _ =>  some (x0, w138)) w138) fun x144 _ =>
  rd2 (gate x143 true (fun _ => rd2 (F 58 [x144] w138) fun x146 w147 => some (x146, w147)) w138) fun x148 w149 =>
  rd2 (gate x143 true (fun _ =>  some (x1, w149)) w149) fun x150 _ =>
  rd2 (gate x143 true (fun _ => rd2 (F 85 [x150] w149) fun x152 w153 => some (x152, w153)) w149) fun x154 w155 =>
  rd2 (gate x143 true (fun _ => rd2 (binG true Pg .eql 3 (.tmp 0) (.tmp 0) x148 x154 w155) fun x156 w157 => some (x156, w157)) w155) fun x158 _ =>
  rd (pickV x143 x158 (.bool false)) fun x160 =>
  some (x160, w155)
theorem S21_eq (F : FnT) (G : RndT) (x0 x1 x2 x3 x4 x5 : Value) (w0 : World) : evalCode (cx21 F G) (cdA Go.Proofs.Tryz.f21 []) (endK Pg Go.Proofs.Tryz.f21) (envL [x0, x1, x2, x3, x4, x5]) w0 = S21 F G x0 x1 x2 x3 x4 x5 w0 := by kernel_rfl
theorem F21 (x0 x1 x2 x3 x4 x5 : Value) (w0 : World) : Fn Pg 21 [x0, x1, x2, x3, x4, x5] w0 = S21 (Fn Pg) (Rnd Pg) x0 x1 x2 x3 x4 x5 w0 := (Fn_body (c := cdA Go.Proofs.Tryz.f21 []) Go.Proofs.Tryz.func21 (by kernel_rfl) (by kernel_rfl) [x0, x1, x2, x3, x4, x5] w0 (Nat.le_of_ble_eq_true (by kernel_rfl))).trans (S21_eq _ _ x0 x1 x2 x3 x4 x5 w0)

-- 22 ciborium/ciboriumref24.SameRows
noncomputable def cx22 (F : FnT) (G : RndT) : Ctx := ⟨Pg, F, G, 22, none, 42⟩
noncomputable def K22_0 : FnT → RndT → Exit → Env → World → R := fun _ _ => endK Pg Go.Proofs.Tryz.f22
noncomputable def K22_1 : FnT → RndT → Exit → Env → World → R := fun F G => thenK (evalCode (cx22 F G) (cdA Go.Proofs.Tryz.f22 [1, 1, 1]) (K22_0 F G)) (K22_0 F G)
noncomputable def K22_2 : FnT → RndT → Exit → Env → World → R := fun F G => blkK 0 (K22_1 F G)
noncomputable def S22 (F : FnT) (G : RndT) (x0 x1 : Value) (w0 : World) : R :=
  rd2 (lenG false Pg .len #[31] 3 #[false] [x0] w0) fun x3 w4 =>
  rd2 (lenG false Pg .len #[31] 3 #[false] [x1] w4) fun x5 w6 =>
  rd2 (binG false Pg .neq 3 (.tmp 0) (.tmp 0) x3 x5 w6) fun x7 w8 =>
  cnd x7 (fun _ => some ((.bool false), w8)) (fun _ => evalLoop (cx22 F G) (cdA Go.Proofs.Tryz.f22 [1, 1, 0, 1, 0, 0]) (K22_2 F G) (upd (upd (upd (upd (upd (upd (upd (envL [x0, x1]) 4 (.bool false)) 6 x0) 7 x3) 8 x1) 9 x5) 10 x7) 5 (.int .i64 0)) w8)
noncomputable def S22_L1 (F : FnT) (G : RndT) (e : Env) (w0 : World) : R :=
  rd2 (lenG false Pg .len #[31] 3 #[false] [(e 0)] w0) fun x101 w102 =>
  rd2 (binG false Pg .lss 3 (.tmp 0) (.tmp 0) (e 5) x101 w102) fun x103 w104 =>
  cnd x103 (fun _ => rd (ixA Pg 31 (e 0) (e 5)) fun x105 =>
  rd (fldA Pg 159 x105 0) fun x106 =>
  rd (ldV Pg 9 x106 (drw w104)) fun x107 =>
  rd (ixA Pg 31 (e 1) (e 5)) fun x108 =>
  rd (fldA Pg 159 x108 0) fun x109 =>
  rd (ldV Pg 9 x109 (drw w104)) fun x110 =>
  rd2 (binG true Pg .neq 9 (.tmp 0) (.tmp 0) x107 x110 (drw w104)) fun x111 _ =>
  rd2 (gate x111 false (fun _ =>  some ((e 0), (drw w104))) (drw w104)) fun x113 _ =>
  rd2 (gate x111 false (fun _ =>  some ((e 5), (drw w104))) (drw w104)) fun x115 _ =>
  rd2 (gate x111 false (fun _ => rd (ixA Pg 31 x113 x115) fun x117 => some (x117, (drw w104))) (drw w104)) fun x118 _ =>
  rd2 (gate x111 false (fun _ => rd (fldA Pg 159 x118 1) fun x120 => some (x120, (drw w104))) (drw w104)) fun x121 _ =>
  rd2 (gate x111 false (fun _ => rd (ldV Pg 43 x121 (drw w104)) fun x123 => some (x123, (drw w104))) (drw w104)) fun x124 _ =>
  rd2 (gate x111 false (fun _ =>  some ((e 1), (drw w104))) (drw w104)) fun x126 _ =>
  rd2 (gate x111 false (fun _ =>  some ((e 5), (drw w104))) (drw w104)) fun x128 _ =>
  rd2 (gate x111 false (fun _ => rd (ixA Pg 31 x126 x128) fun x130 => some (x130, (drw w104))) (drw w104)) fun x131 _ =>
  rd2 (gate x111 false (fun _ => rd (fldA Pg 159 x131 1) fun x133 => some (x133, (drw w104))) (drw w104)) fun x134 _ =>
  rd2 (gate x111 false (fun _ => rd (ldV Pg 43 x134 (drw w104)) fun x136 => some (x136, (drw w104))) (drw w104)) fun x137 _ =>
  rd2 (gate x111 false (fun _ => rd2 (F 16 [x124, x137] (drw w104)) fun x139 w140 => some (x139, w140)) (drw w104)) fun x141 w142 =>
  rd2 (gate x111 false (fun _ => rd (unV .not x141) fun x143 => some (x143, w142)) w142) fun x144 _ =>
  rd (pickV x111 (.bool true) x144) fun x146 =>
  cnd x146 (fun _ => shutK (e 42) w142 fun w147 =>
  some ((.bool false), w147)) (fun _ => rd2 (binG false Pg .add 3 (.tmp 0) (.const .nilFunc) (e 5) (.int .i64 1) w142) fun x148 w149 =>
  evalLoop (cx22 F G) (cdA Go.Proofs.Tryz.f22 [1, 1, 0, 1, 0, 0]) (K22_2 F G) (upd (upd (upd (upd (upd (upd (upd (upd (upd (upd (upd (upd (upd (upd (upd (upd (upd (upd (upd (upd (upd (upd (upd (upd (upd (upd (upd (upd (upd (upd (upd (upd e 11 (e 5)) 12 (e 0)) 13 x101) 14 x103) 17 (e 0)) 18 (e 5)) 19 x105) 20 x106) 21 x107) 22 (e 1)) 23 (e 5)) 24 x108) 25 x109) 26 x110) 27 x111) 28 x111) 29 x113) 30 x115) 31 x118) 32 x121) 33 x124) 34 x126) 35 x128) 36 x131) 37 x134) 38 x137) 39 x141) 40 x144) 41 x146) 15 (e 5)) 16 x148) 5 x148) w149)) (fun _ => shutK (e 42) w104 fun w150 =>
  some ((.bool true), w150))
theorem S22_eq (F : FnT) (G : RndT) (x0 x1 : Value) (w0 : World) : evalCode (cx22 F G) (cdA Go.Proofs.Tryz.f22 []) (endK Pg Go.Proofs.Tryz.f22) (envL [x0, x1]) w0 = S22 F G x0 x1 w0 := by kernel_rfl
theorem F22 (x0 x1 : Value) (w0 : World) : Fn Pg 22 [x0, x1] w0 = S22 (Fn Pg) (Rnd Pg) x0 x1 w0 := (Fn_body (c := cdA Go.Proofs.Tryz.f22 []) Go.Proofs.Tryz.func22 (by kernel_rfl) (by kernel_rfl) [x0, x1] w0 (Nat.le_of_ble_eq_true (by kernel_rfl))).trans (S22_eq _ _ x0 x1 w0)
theorem S22_L1_eq (F : FnT) (G : RndT) (e : Env) (w0 : World) : evalLoop (cx22 F G) (cdA Go.Proofs.Tryz.f22 [1, 1, 0, 1, 0, 0]) (K22_2 F G) e w0 = S22_L1 F G e w0 := by
  rw [evalLoop_eq]
  kernel_rfl

-- 65 ciborium/ciboriumref24.key
noncomputable def cx65 (F : FnT) (G : RndT) : Ctx := ⟨Pg, F, G, 65, none, 11⟩
noncomputable def S65 (F : FnT) (G : RndT) (x0 : Value) (w0 : World) : R :=
  rd2 (lenG false Pg .len #[9] 3 #[false] [x0] w0) fun x2 w3 =>
  rd2 (binG false Pg .geq 3 (.tmp 0) (.const .nilFunc) x2 (.int .i64 1) w3) fun x4 w5 =>
  rd2 (gate x4 true (fun _ =>  some (x0, w5)) w5) fun x6 w7 =>
  rd2 (gate x4 true (fun _ => rd2 (lenG false Pg .len #[9] 3 #[false] [x6] w7) fun x8 w9 => some (x8, w9)) w7) fun x10 w11 =>
  rd2 (gate x4 true (fun _ => rd2 (binG false Pg .leq 3 (.tmp 0) (.const .nilFunc) x10 (.int .i64 16) w11) fun x12 w13 => some (x12, w13)) w11) fun x14 w15 =>
  rd (pickV x4 x14 (.bool false)) fun x16 =>
  some (x16, w15)
theorem S65_eq (F : FnT) (G : RndT) (x0 : Value) (w0 : World) : evalCode (cx65 F G) (cdA Go.Proofs.Tryz.f65 []) (endK Pg Go.Proofs.Tryz.f65) (envL [x0]) w0 = S65 F G x0 w0 := by kernel_rfl
theorem F65 (x0 : Value) (w0 : World) : Fn Pg 65 [x0] w0 = S65 (Fn Pg) (Rnd Pg) x0 w0 := (Fn_body (c := cdA Go.Proofs.Tryz.f65 []) Go.Proofs.Tryz.func65 (by kernel_rfl) (by kernel_rfl) [x0] w0 (Nat.le_of_ble_eq_true (by kernel_rfl))).trans (S65_eq _ _ x0 w0)

-- 66 (*ciborium/ciboriumref24.Store).set
noncomputable def cx66 (F : FnT) (G : RndT) : Ctx := ⟨Pg, F, G, 66, none, 46⟩
noncomputable def S66 (F : FnT) (G : RndT) (x0 x1 x2 : Value) (w0 : World) : R :=
  rd2 (F 141 [x0, x1] w0) fun x4 w5 =>
  rd (extV x4 0) fun x6 =>
  rd (extV x4 1) fun x7 =>
  rd2 (rawV Pg (Instr.buildSlice 31 0 #[]) w5) fun x8 w9 =>
  rd (nilV x0) fun x10 =>
  rd (fldA Pg 33 x10 0) fun x11 =>
  rd (ldV Pg 31 x11 w9) fun x12 =>
  rd (slV Pg 31 x12 none (some x6) none) fun x13 =>
  rd2 (lenG false Pg .append #[31, 31] 31 #[false, false] [x8, x13] w9) fun x14 w15 =>
  rd2 (lenG false Pg .len #[43] 3 #[false] [x2] w15) fun x16 w17 =>
  rd2 (binG false Pg .gtr 3 (.tmp 0) (.const .nilFunc) x16 (.int .i64 0) w17) fun x18 w19 =>
  cnd x18 (fun _ => rd (bldV Pg 159 [(0, x1), (1, x2)]) fun x20 =>
  rd2 (rawV Pg (Instr.buildSlice 31 1 #[(0, x20)]) w19) fun x21 w22 =>
  rd2 (lenG false Pg .append #[31, 31] 31 #[false, false] [x14, x21] w22) fun x23 w24 =>
  cnd x7 (fun _ => rd2 (binG false Pg .add 3 (.tmp 0) (.const .nilFunc) x6 (.int .i64 1) w24) fun x25 w26 =>
  rd (nilV x0) fun x27 =>
  rd (fldA Pg 33 x27 0) fun x28 =>
  rd (ldV Pg 31 x28 w26) fun x29 =>
  rd (slV Pg 31 x29 (some x25) none none) fun x30 =>
  rd2 (lenG false Pg .append #[31, 31] 31 #[false, false] [x23, x30] w26) fun x31 w32 =>
  rd (nilV x0) fun x33 =>
  rd (fldA Pg 33 x33 0) fun x34 =>
  rd2 (rawU Pg (Instr.storeAt 31 x34 x31) w32) fun x36 w35 =>
  some ((.tuple #[]), w35)) (fun _ => rd (nilV x0) fun x37 =>
  rd (fldA Pg 33 x37 0) fun x38 =>
  rd (ldV Pg 31 x38 w24) fun x39 =>
  rd (slV Pg 31 x39 (some x6) none none) fun x40 =>
  rd2 (lenG false Pg .append #[31, 31] 31 #[false, false] [x23, x40] w24) fun x41 w42 =>
  rd (nilV x0) fun x43 =>
  rd (fldA Pg 33 x43 0) fun x44 =>
  rd2 (rawU Pg (Instr.storeAt 31 x44 x41) w42) fun x46 w45 =>
  some ((.tuple #[]), w45))) (fun _ => cnd x7 (fun _ => rd2 (binG false Pg .add 3 (.tmp 0) (.const .nilFunc) x6 (.int .i64 1) w19) fun x47 w48 =>
  rd (nilV x0) fun x49 =>
  rd (fldA Pg 33 x49 0) fun x50 =>
  rd (ldV Pg 31 x50 w48) fun x51 =>
  rd (slV Pg 31 x51 (some x47) none none) fun x52 =>
  rd2 (lenG false Pg .append #[31, 31] 31 #[false, false] [x14, x52] w48) fun x53 w54 =>
  rd (nilV x0) fun x55 =>
  rd (fldA Pg 33 x55 0) fun x56 =>
  rd2 (rawU Pg (Instr.storeAt 31 x56 x53) w54) fun x58 w57 =>
  some ((.tuple #[]), w57)) (fun _ => rd (nilV x0) fun x59 =>
  rd (fldA Pg 33 x59 0) fun x60 =>
  rd (ldV Pg 31 x60 w19) fun x61 =>
  rd (slV Pg 31 x61 (some x6) none none) fun x62 =>
  rd2 (lenG false Pg .append #[31, 31] 31 #[false, false] [x14, x62] w19) fun x63 w64 =>
  rd (nilV x0) fun x65 =>
  rd (fldA Pg 33 x65 0) fun x66 =>
  rd2 (rawU Pg (Instr.storeAt 31 x66 x63) w64) fun x68 w67 =>
  some ((.tuple #[]), w67)))
theorem S66_eq (F : FnT) (G : RndT) (x0 x1 x2 : Value) (w0 : World) : evalCode (cx66 F G) (cdA Go.Proofs.Tryz.f66 []) (endK Pg Go.Proofs.Tryz.f66) (envL [x0, x1, x2]) w0 = S66 F G x0 x1 x2 w0 := by kernel_rfl
theorem F66 (x0 x1 x2 : Value) (w0 : World) : Fn Pg 66 [x0, x1, x2] w0 = S66 (Fn Pg) (Rnd Pg) x0 x1 x2 w0 := (Fn_body (c := cdA Go.Proofs.Tryz.f66 []) Go.Proofs.Tryz.func66 (by kernel_rfl) (by kernel_rfl) [x0, x1, x2] w0 (Nat.le_of_ble_eq_true (by kernel_rfl))).trans (S66_eq _ _ x0 x1 x2 w0)

-- 67 (*ciborium/ciboriumref24.Store).versions
noncomputable def cx67 (F : FnT) (G : RndT) : Ctx := ⟨Pg, F, G, 67, none, 23⟩
noncomputable def S67 (F : FnT) (G : RndT) (x0 x1 : Value) (w0 : World) : R :=
  rd2 (F 141 [x0, x1] w0) fun x3 w4 =>
  rd (extV x3 0) fun x5 =>
  rd (extV x3 1) fun x6 =>
  rd (unV .not x6) fun x7 =>
  cnd x7 (fun _ => some ((.slice none 0 0), w4)) (fun _ => rd (nilV x0) fun x8 =>
  rd (fldA Pg 33 x8 0) fun x9 =>
  rd (ldV Pg 31 x9 w4) fun x10 =>
  rd (ixA Pg 31 x10 x5) fun x11 =>
  rd (fldA Pg 159 x11 1) fun x12 =>
  rd (ldV Pg 43 x12 w4) fun x13 =>
  some (x13, w4))
theorem S67_eq (F : FnT) (G : RndT) (x0 x1 : Value) (w0 : World) : evalCode (cx67 F G) (cdA Go.Proofs.Tryz.f67 []) (endK Pg Go.Proofs.Tryz.f67) (envL [x0, x1]) w0 = S67 F G x0 x1 w0 := by kernel_rfl
theorem F67 (x0 x1 : Value) (w0 : World) : Fn Pg 67 [x0, x1] w0 = S67 (Fn Pg) (Rnd Pg) x0 x1 w0 := (Fn_body (c := cdA Go.Proofs.Tryz.f67 []) Go.Proofs.Tryz.func67 (by kernel_rfl) (by kernel_rfl) [x0, x1] w0 (Nat.le_of_ble_eq_true (by kernel_rfl))).trans (S67_eq _ _ x0 x1 w0)

-- 72 ciborium/ciboriumref22.Prune
noncomputable def cx72 (F : FnT) (G : RndT) : Ctx := ⟨Pg, F, G, 72, none, 74⟩
noncomputable def K72_0 : FnT → RndT → Exit → Env → World → R := fun _ _ => endK Pg Go.Proofs.Tryz.f72
noncomputable def K72_1 : FnT → RndT → Exit → Env → World → R := fun F G => thenK (evalCode (cx72 F G) (cdA Go.Proofs.Tryz.f72 [1, 1, 1, 1]) (K72_0 F G)) (K72_0 F G)
noncomputable def K72_2 : FnT → RndT → Exit → Env → World → R := fun F G => blkK 0 (K72_1 F G)
noncomputable def K72_3 : FnT → RndT → Exit → Env → World → R := fun F G => thenK (evalCode (cx72 F G) (cdA Go.Proofs.Tryz.f72 [1, 1, 1, 1, 1, 1]) (K72_0 F G)) (K72_0 F G)
noncomputable def K72_4 : FnT → RndT → Exit → Env → World → R := fun F G => blkK 2 (K72_3 F G)
noncomputable def S72 (F : FnT) (G : RndT) (x0 x1 : Value) (w0 : World) : R :=
  evalLoop (cx72 F G) (cdA Go.Proofs.Tryz.f72 [1, 1, 1, 0, 1, 0, 0]) (K72_2 F G) (upd (upd (upd (upd (upd (envL [x0, x1]) 4 (.slice none 0 0)) 5 (.slice none 0 0)) 6 (.slice none 0 0)) 7 (.slice none 0 0)) 8 (.int .i64 0)) w0
noncomputable def S72_L1 (F : FnT) (G : RndT) (e : Env) (w0 : World) : R :=
  rd2 (lenG false Pg .len #[43] 3 #[false] [(e 0)] w0) fun x101 w102 =>
  rd2 (binG false Pg .lss 3 (.tmp 0) (.tmp 0) (e 8) x101 w102) fun x103 w104 =>
  cnd x103 (fun _ => rd2 (F 151 [(e 0)] w104) fun x105 w106 =>
  rd (unV .not x105) fun x107 =>
  rd2 (gate x107 false (fun _ =>  some ((e 0), w106)) w106) fun x108 w109 =>
  rd2 (gate x107 false (fun _ =>  some ((e 8), w109)) w109) fun x110 w111 =>
  rd2 (gate x107 false (fun _ =>  some ((e 1), w111)) w111) fun x112 w113 =>
  rd2 (gate x107 false (fun _ => rd2 (F 152 [x108, x110, x112] w113) fun x114 w115 => some (x114, w115)) w113) fun x116 w117 =>
  rd (pickV x107 (.bool true) x116) fun x118 =>
  cnd x118 (fun _ => rd (ixA Pg 43 (e 0) (e 8)) fun x119 =>
  rd (ldV Pg 137 x119 w117) fun x120 =>
  rd2 (rawV Pg (Instr.buildSlice 43 1 #[(0, x120)]) w117) fun x121 w122 =>
  rd2 (lenG false Pg .append #[43, 43] 43 #[false, false] [(e 6), x121] w122) fun x123 w124 =>
  rd2 (binG false Pg .add 3 (.tmp 0) (.const .nilFunc) (e 8) (.int .i64 1) w124) fun x125 w126 =>
  evalLoop (cx72 F G) (cdA Go.Proofs.Tryz.f72 [1, 1, 1, 0, 1, 0, 0]) (K72_2 F G) (upd (upd (upd (upd (upd (upd (upd (upd (upd (upd (upd (upd (upd (upd (upd (upd (upd (upd (upd (upd (upd (upd (upd (upd e 10 (e 8)) 11 (e 0)) 12 x101) 13 x103) 16 (e 0)) 17 x105) 18 x107) 19 x107) 20 x108) 21 x110) 22 x112) 23 x116) 24 x118) 25 (e 6)) 26 (e 0)) 27 (e 8)) 28 x119) 29 x120) 30 x121) 31 x123) 6 x123) 14 (e 8)) 15 x125) 8 x125) w126) (fun _ => rd (ixA Pg 43 (e 0) (e 8)) fun x127 =>
  rd (ldV Pg 137 x127 w117) fun x128 =>
  rd2 (rawV Pg (Instr.buildSlice 43 1 #[(0, x128)]) w117) fun x129 w130 =>
  rd2 (lenG false Pg .append #[43, 43] 43 #[false, false] [(e 7), x129] w130) fun x131 w132 =>
  rd2 (binG false Pg .add 3 (.tmp 0) (.const .nilFunc) (e 8) (.int .i64 1) w132) fun x133 w134 =>
  evalLoop (cx72 F G) (cdA Go.Proofs.Tryz.f72 [1, 1, 1, 0, 1, 0, 0]) (K72_2 F G) (upd (upd (upd (upd (upd (upd (upd (upd (upd (upd (upd (upd (upd (upd (upd (upd (upd (upd (upd (upd (upd (upd (upd (upd e 10 (e 8)) 11 (e 0)) 12 x101) 13 x103) 16 (e 0)) 17 x105) 18 x107) 19 x107) 20 x108) 21 x110) 22 x112) 23 x116) 24 x118) 32 (e 7)) 33 (e 0)) 34 (e 8)) 35 x127) 36 x128) 37 x129) 38 x131) 7 x131) 14 (e 8)) 15 x133) 8 x133) w134)) (fun _ => rd2 (F 151 [(e 0)] w104) fun x135 w136 =>
  rd (unV .not x135) fun x137 =>
  rd2 (gate x137 false (fun _ =>  some ((e 6), w136)) w136) fun x138 w139 =>
  rd2 (gate x137 false (fun _ => rd2 (lenG false Pg .len #[43] 3 #[false] [x138] w139) fun x140 w141 => some (x140, w141)) w139) fun x142 w143 =>
  rd2 (gate x137 false (fun _ => rd2 (binG false Pg .neq 3 (.tmp 0) (.const .nilFunc) x142 (.int .i64 1) w143) fun x144 w145 => some (x144, w145)) w143) fun x146 w147 =>
  rd (pickV x137 (.bool true) x146) fun x148 =>
  rd2 (gate x148 false (fun _ =>  some ((e 6), w147)) w147) fun x149 w150 =>
  rd2 (gate x148 false (fun _ => rd (ixA Pg 43 x149 (.int .i64 0)) fun x151 => some (x151, w150)) w150) fun x152 w153 =>
  rd2 (gate x148 false (fun _ => rd (fldA Pg 137 x152 1) fun x154 => some (x154, w153)) w153) fun x155 w156 =>
  rd2 (gate x148 false (fun _ => rd (ldV Pg 4 x155 w156) fun x157 => some (x157, w156)) w156) fun x158 w159 =>
  rd2 (gate x148 false (fun _ => rd (unV .not x158) fun x160 => some (x160, w159)) w159) fun x161 w162 =>
  rd (pickV x148 (.bool true) x161) fun x163 =>
  cnd x163 (fun _ => shutK (e 74) w162 fun w164 =>
  some ((.tuple #[(e 6), (e 7)]), w164)) (fun _ => evalLoop (cx72 F G) (cdA Go.Proofs.Tryz.f72 [1, 1, 1, 1, 1, 0, 1, 0, 0]) (K72_4 F G) (upd (upd (upd (upd (upd (upd (upd (upd (upd (upd (upd (upd (upd (upd (upd (upd (upd (upd (upd (upd e 10 (e 8)) 11 (e 0)) 12 x101) 13 x103) 39 (e 0)) 40 x135) 41 x137) 42 x137) 43 x138) 44 x142) 45 x146) 46 x148) 47 x148) 48 x149) 49 x152) 50 x155) 51 x158) 52 x161) 53 x163) 9 (.int .i64 0)) w162))
noncomputable def S72_L2 (F : FnT) (G : RndT) (e : Env) (w0 : World) : R :=
  rd2 (lenG false Pg .len #[37] 3 #[false] [(e 1)] w0) fun x101 w102 =>
  rd2 (binG false Pg .lss 3 (.tmp 0) (.tmp 0) (e 9) x101 w102) fun x103 w104 =>
  cnd x103 (fun _ => rd (ixA Pg 43 (e 6) (.int .i64 0)) fun x105 =>
  rd (fldA Pg 137 x105 0) fun x106 =>
  rd (ldV Pg 23 x106 (drw w104)) fun x107 =>
  rd (ixA Pg 37 (e 1) (e 9)) fun x108 =>
  rd (ldV Pg 23 x108 (drw w104)) fun x109 =>
  rd2 (binG true Pg .gtr 23 (.tmp 0) (.tmp 0) x107 x109 (drw w104)) fun x110 _ =>
  cnd x110 (fun _ => shutK (e 74) (drw w104) fun w112 =>
  some ((.tuple #[(e 6), (e 7)]), w112)) (fun _ => rd2 (binG false Pg .add 3 (.tmp 0) (.const .nilFunc) (e 9) (.int .i64 1) (drw w104)) fun x113 w114 =>
  evalLoop (cx72 F G) (cdA Go.Proofs.Tryz.f72 [1, 1, 1, 1, 1, 0, 1, 0, 0]) (K72_4 F G) (upd (upd (upd (upd (upd (upd (upd (upd (upd (upd (upd (upd (upd (upd (upd (upd e 56 (e 9)) 57 (e 1)) 58 x101) 59 x103) 62 (e 6)) 63 x105) 64 x106) 65 x107) 66 (e 1)) 67 (e 9)) 68 x108) 69 x109) 70 x110) 60 (e 9)) 61 x113) 9 x113) w114)) (fun _ => shutK (e 74) w104 fun w115 =>
  some ((.tuple #[(.slice none 0 0), (e 0)]), w115))
theorem S72_eq (F : FnT) (G : RndT) (x0 x1 : Value) (w0 : World) : evalCode (cx72 F G) (cdA Go.Proofs.Tryz.f72 []) (endK Pg Go.Proofs.Tryz.f72) (envL [x0, x1]) w0 = S72 F G x0 x1 w0 := by kernel_rfl
theorem F72 (x0 x1 : Value) (w0 : World) : Fn Pg 72 [x0, x1] w0 = S72 (Fn Pg) (Rnd Pg) x0 x1 w0 := (Fn_body (c := cdA Go.Proofs.Tryz.f72 []) Go.Proofs.Tryz.func72 (by kernel_rfl) (by kernel_rfl) [x0, x1] w0 (Nat.le_of_ble_eq_true (by kernel_rfl))).trans (S72_eq _ _ x0 x1 w0)
theorem S72_L1_eq (F : FnT) (G : RndT) (e : Env) (w0 : World) : evalLoop (cx72 F G) (cdA Go.Proofs.Tryz.f72 [1, 1, 1, 0, 1, 0, 0]) (K72_2 F G) e w0 = S72_L1 F G e w0 := by
  rw [evalLoop_eq]
  kernel_rfl
theorem S72_L2_eq (F : FnT) (G : RndT) (e : Env) (w0 : World) : evalLoop (cx72 F G) (cdA Go.Proofs.Tryz.f72 [1, 1, 1, 1, 1, 0, 1, 0, 0]) (K72_4 F G) e w0 = S72_L2 F G e w0 := by
  rw [evalLoop_eq]
  kernel_rfl

-- 75 ciborium/mvcc.fits
noncomputable def cx75 (F : FnT) (G : RndT) : Ctx := ⟨Pg, F, G, 75, none, 40⟩
noncomputable def S75 (F : FnT) (G : RndT) (x0 x1 : Value) (w0 : World) : R :=
  rd2 (rawV Pg (Instr.box 159 x0) w0) fun x3 w4 =>
  rd (fldA Pg 159 x3 1) fun x5 =>
  rd (ldV Pg 43 x5 w4) fun x6 =>
  rd2 (lenG false Pg .len #[43] 3 #[false] [x6] w4) fun x7 w8 =>
  rd (fldA Pg 159 x3 0) fun x9 =>
  rd (ldV Pg 9 x9 w8) fun x10 =>
  rd2 (F 102 [x10] w8) fun x11 w12 =>
  rd2 (gate x11 true (fun _ =>  some (x7, w12)) w12) fun x13 w14 =>
  rd2 (gate x11 true (fun _ => rd2 (binG false Pg .gtr 3 (.tmp 0) (.const .nilFunc) x13 (.int .i64 0) w14) fun x15 w16 => some (x15, w16)) w14) fun x17 w18 =>
  rd (pickV x11 x17 (.bool false)) fun x19 =>
  rd2 (gate x19 true (fun _ => rd (fldA Pg 159 x3 1) fun x20 => some (x20, w18)) w18) fun x21 w22 =>
  rd2 (gate x19 true (fun _ => rd (ldV Pg 43 x21 w22) fun x23 => some (x23, w22)) w22) fun x24 w25 =>
  rd2 (gate x19 true (fun _ => rd2 (F 144 [x24] w25) fun x26 w27 => some (x26, w27)) w25) fun x28 w29 =>
  rd (pickV x19 x28 (.bool false)) fun x30 =>
  rd2 (gate x30 true (fun _ => rd (fldA Pg 159 x3 1) fun x31 => some (x31, w29)) w29) fun x32 w33 =>
  rd2 (gate x30 true (fun _ => rd (ldV Pg 43 x32 w33) fun x34 => some (x34, w33)) w33) fun x35 w36 =>
  rd2 (gate x30 true (fun _ => rd (ixA Pg 43 x35 (.int .i64 0)) fun x37 => some (x37, w36)) w36) fun x38 w39 =>
  rd2 (gate x30 true (fun _ => rd (fldA Pg 137 x38 0) fun x40 => some (x40, w39)) w39) fun x41 w42 =>
  rd2 (gate x30 true (fun _ => rd (ldV Pg 23 x41 w42) fun x43 => some (x43, w42)) w42) fun x44 w45 =>
  rd2 (gate x30 true (fun _ =>  some (x1, w45)) w45) fun x46 w47 =>
  rd2 (gate x30 true (fun _ => rd2 (binG false Pg .leq 23 (.tmp 0) (.tmp 0) x44 x46 w47) fun x48 w49 => some (x48, w49)) w47) fun x50 w51 =>
  rd (pickV x30 x50 (.bool false)) fun x52 =>
  rd2 (gate x52 true (fun _ => rd (fldA Pg 159 x3 1) fun x53 => some (x53, w51)) w51) fun x54 w55 =>
  rd2 (gate x52 true (fun _ => rd (ldV Pg 43 x54 w55) fun x56 => some (x56, w55)) w55) fun x57 w58 =>
  rd2 (gate x52 true (fun _ =>  some (x7, w58)) w58) fun x59 w60 =>
  rd2 (gate x52 true (fun _ => rd2 (binG false Pg .sub 3 (.tmp 0) (.const .nilFunc) x59 (.int .i64 1) w60) fun x61 w62 => some (x61, w62)) w60) fun x63 w64 =>
  rd2 (gate x52 true (fun _ => rd (ixA Pg 43 x57 x63) fun x65 => some (x65, w64)) w64) fun x66 w67 =>
  rd2 (gate x52 true (fun _ => rd (fldA Pg 137 x66 0) fun x68 => some (x68, w67)) w67) fun x69 w70 =>
  rd2 (gate x52 true (fun _ => rd (ldV Pg 23 x69 w70) fun x71 => some (x71, w70)) w70) fun x72 w73 =>
  rd2 (gate x52 true (fun _ => rd2 (binG false Pg .gtr 23 (.tmp 0) (.const .nilFunc) x72 (.int .u64 0) w73) fun x74 w75 => some (x74, w75)) w73) fun x76 w77 =>
  rd (pickV x52 x76 (.bool false)) fun x78 =>
  some (x78, w77)
theorem S75_eq (F : FnT) (G : RndT) (x0 x1 : Value) (w0 : World) : evalCode (cx75 F G) (cdA Go.Proofs.Tryz.f75 []) (endK Pg Go.Proofs.Tryz.f75) (envL [x0, x1]) w0 = S75 F G x0 x1 w0 := by kernel_rfl
theorem F75 (x0 x1 : Value) (w0 : World) : Fn Pg 75 [x0, x1] w0 = S75 (Fn Pg) (Rnd Pg) x0 x1 w0 := (Fn_body (c := cdA Go.Proofs.Tryz.f75 []) Go.Proofs.Tryz.func75 (by kernel_rfl) (by kernel_rfl) [x0, x1] w0 (Nat.le_of_ble_eq_true (by kernel_rfl))).trans (S75_eq _ _ x0 x1 w0)

-- 79 (*ciborium/ciboriumref24.Store).Read
noncomputable def cx79 (F : FnT) (G : RndT) : Ctx := ⟨Pg, F, G, 79, none, 15⟩
noncomputable def S79 (F : FnT) (G : RndT) (x0 x1 x2 : Value) (w0 : World) : R :=
  rd2 (rawV Pg (Instr.alloc 137 true (.tuple #[])) w0) fun x4 w5 =>
  rd2 (F 67 [x0, x1] w5) fun x6 w7 =>
  rd2 (F 156 [x6, x2] w7) fun x8 w9 =>
  rd (extV x8 0) fun x10 =>
  rd (extV x8 1) fun x11 =>
  rd2 (rawU Pg (Instr.storeAt 137 x4 x10) w9) fun x13 w12 =>
  rd (ldV Pg 137 x4 w12) fun x14 =>
  some ((.tuple #[x14, x11]), w12)
theorem S79_eq (F : FnT) (G : RndT) (x0 x1 x2 : Value) (w0 : World) : evalCode (cx79 F G) (cdA Go.Proofs.Tryz.f79 []) (endK Pg Go.Proofs.Tryz.f79) (envL [x0, x1, x2]) w0 = S79 F G x0 x1 x2 w0 := by kernel_rfl
theorem F79 (x0 x1 x2 : Value) (w0 : World) : Fn Pg 79 [x0, x1, x2] w0 = S79 (Fn Pg) (Rnd Pg) x0 x1 x2 w0 := (Fn_body (c := cdA Go.Proofs.Tryz.f79 []) Go.Proofs.Tryz.func79 (by kernel_rfl) (by kernel_rfl) [x0, x1, x2] w0 (Nat.le_of_ble_eq_true (by kernel_rfl))).trans (S79_eq _ _ x0 x1 x2 w0)

-- 81 (*ciborium/ciboriumref24.Store).Newest
noncomputable def cx81 (F : FnT) (G : RndT) : Ctx := ⟨Pg, F, G, 81, none, 17⟩
noncomputable def S81 (F : FnT) (G : RndT) (x0 x1 : Value) (w0 : World) : R :=
  rd2 (rawV Pg (Instr.alloc 137 true (.tuple #[])) w0) fun x3 w4 =>
  rd2 (F 67 [x0, x1] w4) fun x5 w6 =>
  rd2 (lenG false Pg .len #[43] 3 #[false] [x5] w6) fun x7 w8 =>
  rd2 (binG false Pg .eql 3 (.tmp 0) (.const .nilFunc) x7 (.int .i64 0) w8) fun x9 w10 =>
  cnd x9 (fun _ => rd (bldV Pg 137 []) fun x11 =>
  rd2 (rawU Pg (Instr.storeAt 137 x3 x11) w10) fun x13 w12 =>
  rd (ldV Pg 137 x3 w12) fun x14 =>
  some ((.tuple #[x14, (.bool false)]), w12)) (fun _ => rd (ixA Pg 43 x5 (.int .i64 0)) fun x15 =>
  rd (ldV Pg 137 x15 w10) fun x16 =>
  rd2 (rawU Pg (Instr.storeAt 137 x3 x16) w10) fun x18 w17 =>
  rd (ldV Pg 137 x3 w17) fun x19 =>
  some ((.tuple #[x19, (.bool true)]), w17))
theorem S81_eq (F : FnT) (G : RndT) (x0 x1 : Value) (w0 : World) : evalCode (cx81 F G) (cdA Go.Proofs.Tryz.f81 []) (endK Pg Go.Proofs.Tryz.f81) (envL [x0, x1]) w0 = S81 F G x0 x1 w0 := by kernel_rfl
theorem F81 (x0 x1 : Value) (w0 : World) : Fn Pg 81 [x0, x1] w0 = S81 (Fn Pg) (Rnd Pg) x0 x1 w0 := (Fn_body (c := cdA Go.Proofs.Tryz.f81 []) Go.Proofs.Tryz.func81 (by kernel_rfl) (by kernel_rfl) [x0, x1] w0 (Nat.le_of_ble_eq_true (by kernel_rfl))).trans (S81_eq _ _ x0 x1 w0)

-- 83 (*ciborium/ciboriumref24.Store).Scan
noncomputable def cx83 (F : FnT) (G : RndT) : Ctx := ⟨Pg, F, G, 83, none, 75⟩
noncomputable def K83_0 : FnT → RndT → Exit → Env → World → R := fun _ _ => endK Pg Go.Proofs.Tryz.f83
noncomputable def K83_1 : FnT → RndT → Exit → Env → World → R := fun F G => thenK (evalCode (cx83 F G) (cdA Go.Proofs.Tryz.f83 [1, 1, 1]) (K83_0 F G)) (K83_0 F G)
noncomputable def K83_2 : FnT → RndT → Exit → Env → World → R := fun F G => blkK 0 (K83_1 F G)
noncomputable def S83 (F : FnT) (G : RndT) (x0 x1 x2 x3 : Value) (w0 : World) : R :=
  rd2 (rawV Pg (Instr.box 25 x1) w0) fun x5 w6 =>
  evalLoop (cx83 F G) (cdA Go.Proofs.Tryz.f83 [1, 1, 0, 1, 0, 0]) (K83_2 F G) (upd (upd (upd (upd (envL [x0, x1, x2, x3]) 5 x5) 8 (.slice none 0 0)) 9 (.slice none 0 0)) 10 (.int .i64 0)) w6
noncomputable def S83_L1 (F : FnT) (G : RndT) (e : Env) (w0 : World) : R :=
  rd (nilV (e 0)) fun x101 =>
  rd (fldA Pg 33 x101 0) fun x102 =>
  rd (ldV Pg 31 x102 w0) fun x103 =>
  rd2 (lenG false Pg .len #[31] 3 #[false] [x103] w0) fun x104 w105 =>
  rd2 (binG false Pg .lss 3 (.tmp 0) (.tmp 0) (e 10) x104 w105) fun x106 w107 =>
  rd2 (gate x106 true (fun _ =>  some ((e 9), w107)) w107) fun x108 w109 =>
  rd2 (gate x106 true (fun _ => rd2 (lenG false Pg .len #[87] 3 #[false] [x108] w109) fun x110 w111 => some (x110, w111)) w109) fun x112 w113 =>
  rd2 (gate x106 true (fun _ =>  some ((e 3), w113)) w113) fun x114 w115 =>
  rd2 (gate x106 true (fun _ => rd2 (binG false Pg .lss 3 (.tmp 0) (.tmp 0) x112 x114 w115) fun x116 w117 => some (x116, w117)) w115) fun x118 w119 =>
  rd (pickV x106 x118 (.bool false)) fun x120 =>
  cnd x120 (fun _ => rd (nilV (e 0)) fun x121 =>
  rd (fldA Pg 33 x121 0) fun x122 =>
  rd (ldV Pg 31 x122 w119) fun x123 =>
  rd (ixA Pg 31 x123 (e 10)) fun x124 =>
  rd (fldA Pg 159 x124 0) fun x125 =>
  rd (ldV Pg 9 x125 w119) fun x126 =>
  rd2 (F 79 [(e 0), x126, (e 2)] w119) fun x127 w128 =>
  rd (extV x127 0) fun x129 =>
  rd (extV x127 1) fun x130 =>
  rd2 (rawV Pg (Instr.alloc 137 true (.tuple #[])) w128) fun x131 w132 =>
  rd2 (rawU Pg (Instr.storeAt 137 x131 x129) w132) fun x134 w133 =>
  rd2 (gate x130 true (fun _ => rd (fldA Pg 137 x131 1) fun x135 => some (x135, (drw w133))) (drw w133)) fun x136 _ =>
  rd2 (gate x130 true (fun _ => rd (ldV Pg 4 x136 (drw w133)) fun x138 => some (x138, (drw w133))) (drw w133)) fun x139 _ =>
  rd2 (gate x130 true (fun _ => rd (unV .not x139) fun x141 => some (x141, (drw w133))) (drw w133)) fun x142 _ =>
  rd (pickV x130 x142 (.bool false)) fun x144 =>
  rd2 (gate x144 true (fun _ => rd (ldV Pg 25 (e 5) (drw w133)) fun x145 => some (x145, (drw w133))) (drw w133)) fun x146 _ =>
  rd2 (gate x144 true (fun _ =>  some ((e 0), (drw w133))) (drw w133)) fun x148 _ =>
  rd2 (gate x144 true (fun _ => rd (nilV x148) fun x150 => some (x150, (drw w133))) (drw w133)) fun x151 _ =>
  rd2 (gate x144 true (fun _ => rd (fldA Pg 33 x151 0) fun x153 => some (x153, (drw w133))) (drw w133)) fun x154 _ =>
  rd2 (gate x144 true (fun _ => rd (ldV Pg 31 x154 (drw w133)) fun x156 => some (x156, (drw w133))) (drw w133)) fun x157 _ =>
  rd2 (gate x144 true (fun _ =>  some ((e 10), (drw w133))) (drw w133)) fun x159 _ =>
  rd2 (gate x144 true (fun _ => rd (ixA Pg 31 x157 x159) fun x161 => some (x161, (drw w133))) (drw w133)) fun x162 _ =>
  rd2 (gate x144 true (fun _ => rd (fldA Pg 159 x162 0) fun x164 => some (x164, (drw w133))) (drw w133)) fun x165 _ =>
  rd2 (gate x144 true (fun _ => rd (ldV Pg 9 x165 (drw w133)) fun x167 => some (x167, (drw w133))) (drw w133)) fun x168 _ =>
  rd2 (gate x144 true (fun _ => rd2 (F 157 [x146, x168] (drw w133)) fun x170 w171 => some (x170, w171)) (drw w133)) fun x172 w173 =>
  rd (pickV x144 x172 (.bool false)) fun x174 =>
  cnd x174 (fun _ => rd (nilV (e 0)) fun x175 =>
  rd (fldA Pg 33 x175 0) fun x176 =>
  rd (ldV Pg 31 x176 (drw w173)) fun x177 =>
  rd (ixA Pg 31 x177 (e 10)) fun x178 =>
  rd (fldA Pg 159 x178 0) fun x179 =>
  rd (ldV Pg 9 x179 (drw w173)) fun x180 =>
  rd (fldA Pg 137 x131 2) fun x181 =>
  rd (ldV Pg 82 x181 (drw w173)) fun x182 =>
  rd (bldV Pg 84 [(0, x180), (3, x182)]) fun x183 =>
  rd2 (rawV Pg (Instr.buildSlice 87 1 #[(0, x183)]) (drw w173)) fun x184 w185 =>
  rd2 (lenG false Pg .append #[87, 87] 87 #[false, false] [(e 9), x184] w185) fun x186 w187 =>
  rd2 (binG false Pg .add 3 (.tmp 0) (.const .nilFunc) (e 10) (.int .i64 1) w187) fun x188 w189 =>
  evalLoop (cx83 F G) (cdA Go.Proofs.Tryz.f83 [1, 1, 0, 1, 0, 0]) (K83_2 F G) (upd (upd (upd (upd (upd (upd (upd (upd (upd (upd (upd (upd (upd (upd (upd (upd (upd (upd (upd (upd (upd (upd (upd (upd (upd (upd (upd (upd (upd (upd (upd (upd (upd (upd (upd (upd (upd (upd (upd (upd (upd (upd (upd (upd (upd (upd (upd (upd (upd (upd (upd (upd (upd (upd (upd (upd (upd (upd (upd (upd (upd (upd (upd (upd (upd e 13 (e 10)) 14 (e 0)) 15 x101) 16 x102) 17 x103) 18 x104) 19 x106) 20 x106) 21 x108) 22 x112) 23 x114) 24 x118) 25 x120) 29 (e 0)) 30 (e 0)) 31 x121) 32 x122) 33 x123) 34 (e 10)) 35 x124) 36 x125) 37 x126) 38 (e 2)) 39 x127) 28 x127) 40 x129) 41 x130) 11 x131) 12 x130) 42 x130) 43 x130) 44 x136) 45 x139) 46 x142) 47 x144) 48 x144) 49 x146) 50 x148) 51 x151) 52 x154) 53 x157) 54 x159) 55 x162) 56 x165) 57 x168) 58 x172) 59 x174) 60 (e 9)) 61 (e 0)) 62 x175) 63 x176) 64 x177) 65 (e 10)) 66 x178) 67 x179) 68 x180) 69 x181) 70 x182) 71 x183) 72 x184) 73 x186) 9 x186) 26 (e 10)) 27 x188) 10 x188) w189) (fun _ => rd2 (binG false Pg .add 3 (.tmp 0) (.const .nilFunc) (e 10) (.int .i64 1) w173) fun x190 w191 =>
  evalLoop (cx83 F G) (cdA Go.Proofs.Tryz.f83 [1, 1, 0, 1, 0, 0]) (K83_2 F G) (upd (upd (upd (upd (upd (upd (upd (upd (upd (upd (upd (upd (upd (upd (upd (upd (upd (upd (upd (upd (upd (upd (upd (upd (upd (upd (upd (upd (upd (upd (upd (upd (upd (upd (upd (upd (upd (upd (upd (upd (upd (upd (upd (upd (upd (upd (upd (upd (upd (upd e 13 (e 10)) 14 (e 0)) 15 x101) 16 x102) 17 x103) 18 x104) 19 x106) 20 x106) 21 x108) 22 x112) 23 x114) 24 x118) 25 x120) 29 (e 0)) 30 (e 0)) 31 x121) 32 x122) 33 x123) 34 (e 10)) 35 x124) 36 x125) 37 x126) 38 (e 2)) 39 x127) 28 x127) 40 x129) 41 x130) 11 x131) 12 x130) 42 x130) 43 x130) 44 x136) 45 x139) 46 x142) 47 x144) 48 x144) 49 x146) 50 x148) 51 x151) 52 x154) 53 x157) 54 x159) 55 x162) 56 x165) 57 x168) 58 x172) 59 x174) 26 (e 10)) 27 x190) 10 x190) w191)) (fun _ => shutK (e 75) w119 fun w192 =>
  some ((e 9), w192))
theorem S83_eq (F : FnT) (G : RndT) (x0 x1 x2 x3 : Value) (w0 : World) : evalCode (cx83 F G) (cdA Go.Proofs.Tryz.f83 []) (endK Pg Go.Proofs.Tryz.f83) (envL [x0, x1, x2, x3]) w0 = S83 F G x0 x1 x2 x3 w0 := by kernel_rfl
theorem F83 (x0 x1 x2 x3 : Value) (w0 : World) : Fn Pg 83 [x0, x1, x2, x3] w0 = S83 (Fn Pg) (Rnd Pg) x0 x1 x2 x3 w0 := (Fn_body (c := cdA Go.Proofs.Tryz.f83 []) Go.Proofs.Tryz.func83 (by kernel_rfl) (by kernel_rfl) [x0, x1, x2, x3] w0 (Nat.le_of_ble_eq_true (by kernel_rfl))).trans (S83_eq _ _ x0 x1 x2 x3 w0)
theorem S83_L1_eq (F : FnT) (G : RndT) (e : Env) (w0 : World) : evalLoop (cx83 F G) (cdA Go.Proofs.Tryz.f83 [1, 1, 0, 1, 0, 0]) (K83_2 F G) e w0 = S83_L1 F G e w0 := by
  rw [evalLoop_eq]
  kernel_rfl

-- 84 (*ciborium/ciboriumref24.Store).Versions
noncomputable def cx84 (F : FnT) (G : RndT) : Ctx := ⟨Pg, F, G, 84, none, 26⟩
noncomputable def K84_0 : FnT → RndT → Exit → Env → World → R := fun _ _ => endK Pg Go.Proofs.Tryz.f84
noncomputable def K84_1 : FnT → RndT → Exit → Env → World → R := fun F G => thenK (evalCode (cx84 F G) (cdA Go.Proofs.Tryz.f84 [1, 1, 1]) (K84_0 F G)) (K84_0 F G)
noncomputable def K84_2 : FnT → RndT → Exit → Env → World → R := fun F G => blkK 0 (K84_1 F G)
noncomputable def S84 (F : FnT) (G : RndT) (x0 : Value) (w0 : World) : R :=
  evalLoop (cx84 F G) (cdA Go.Proofs.Tryz.f84 [1, 1, 0, 1, 0, 0]) (K84_2 F G) (upd (upd (upd (envL [x0]) 2 (.int .i64 0)) 3 (.int .i64 0)) 4 (.int .i64 0)) w0
noncomputable def S84_L1 (F : FnT) (G : RndT) (e : Env) (w0 : World) : R :=
  rd (nilV (e 0)) fun x101 =>
  rd (fldA Pg 33 x101 0) fun x102 =>
  rd (ldV Pg 31 x102 w0) fun x103 =>
  rd2 (lenG false Pg .len #[31] 3 #[false] [x103] w0) fun x104 w105 =>
  rd2 (binG false Pg .lss 3 (.tmp 0) (.tmp 0) (e 4) x104 w105) fun x106 w107 =>
  cnd x106 (fun _ => rd (nilV (e 0)) fun x108 =>
  rd (fldA Pg 33 x108 0) fun x109 =>
  rd (ldV Pg 31 x109 w107) fun x110 =>
  rd (ixA Pg 31 x110 (e 4)) fun x111 =>
  rd (fldA Pg 159 x111 1) fun x112 =>
  rd (ldV Pg 43 x112 w107) fun x113 =>
  rd2 (lenG false Pg .len #[43] 3 #[false] [x113] w107) fun x114 w115 =>
  rd2 (binG false Pg .add 3 (.tmp 0) (.tmp 0) (e 3) x114 w115) fun x116 w117 =>
  rd2 (binG false Pg .add 3 (.tmp 0) (.const .nilFunc) (e 4) (.int .i64 1) w117) fun x118 w119 =>
  evalLoop (cx84 F G) (cdA Go.Proofs.Tryz.f84 [1, 1, 0, 1, 0, 0]) (K84_2 F G) (upd (upd (upd (upd (upd (upd (upd (upd (upd (upd (upd (upd (upd (upd (upd (upd (upd (upd (upd (upd (upd (upd e 5 (e 4)) 6 (e 0)) 7 x101) 8 x102) 9 x103) 10 x104) 11 x106) 14 (e 3)) 15 (e 0)) 16 x108) 17 x109) 18 x110) 19 (e 4)) 20 x111) 21 x112) 22 x113) 23 x114) 24 x116) 3 x116) 12 (e 4)) 13 x118) 4 x118) w119) (fun _ => shutK (e 26) w107 fun w120 =>
  some ((e 3), w120))
theorem S84_eq (F : FnT) (G : RndT) (x0 : Value) (w0 : World) : evalCode (cx84 F G) (cdA Go.Proofs.Tryz.f84 []) (endK Pg Go.Proofs.Tryz.f84) (envL [x0]) w0 = S84 F G x0 w0 := by kernel_rfl
theorem F84 (x0 : Value) (w0 : World) : Fn Pg 84 [x0] w0 = S84 (Fn Pg) (Rnd Pg) x0 w0 := (Fn_body (c := cdA Go.Proofs.Tryz.f84 []) Go.Proofs.Tryz.func84 (by kernel_rfl) (by kernel_rfl) [x0] w0 (Nat.le_of_ble_eq_true (by kernel_rfl))).trans (S84_eq _ _ x0 w0)
theorem S84_L1_eq (F : FnT) (G : RndT) (e : Env) (w0 : World) : evalLoop (cx84 F G) (cdA Go.Proofs.Tryz.f84 [1, 1, 0, 1, 0, 0]) (K84_2 F G) e w0 = S84_L1 F G e w0 := by
  rw [evalLoop_eq]
  kernel_rfl

-- 85 (*ciborium/ciboriumref24.Store).Live
noncomputable def cx85 (F : FnT) (G : RndT) : Ctx := ⟨Pg, F, G, 85, none, 29⟩
noncomputable def K85_0 : FnT → RndT → Exit → Env → World → R := fun _ _ => endK Pg Go.Proofs.Tryz.f85
noncomputable def K85_1 : FnT → RndT → Exit → Env → World → R := fun F G => thenK (evalCode (cx85 F G) (cdA Go.Proofs.Tryz.f85 [1, 1, 1]) (K85_0 F G)) (K85_0 F G)
noncomputable def K85_2 : FnT → RndT → Exit → Env → World → R := fun F G => blkK 0 (K85_1 F G)
noncomputable def S85 (F : FnT) (G : RndT) (x0 : Value) (w0 : World) : R :=
  evalLoop (cx85 F G) (cdA Go.Proofs.Tryz.f85 [1, 1, 0, 1, 0, 0]) (K85_2 F G) (upd (upd (upd (envL [x0]) 2 (.int .i64 0)) 3 (.int .i64 0)) 4 (.int .i64 0)) w0
noncomputable def S85_L1 (F : FnT) (G : RndT) (e : Env) (w0 : World) : R :=
  rd (nilV (e 0)) fun x101 =>
  rd (fldA Pg 33 x101 0) fun x102 =>
  rd (ldV Pg 31 x102 w0) fun x103 =>
  rd2 (lenG false Pg .len #[31] 3 #[false] [x103] w0) fun x104 w105 =>
  rd2 (binG false Pg .lss 3 (.tmp 0) (.tmp 0) (e 4) x104 w105) fun x106 w107 =>
  cnd x106 (fun _ => rd (nilV (e 0)) fun x108 =>
  rd (fldA Pg 33 x108 0) fun x109 =>
  rd (ldV Pg 31 x109 w107) fun x110 =>
  rd (ixA Pg 31 x110 (e 4)) fun x111 =>
  rd (fldA Pg 159 x111 1) fun x112 =>
  rd (ldV Pg 43 x112 w107) fun x113 =>
  rd (ixA Pg 43 x113 (.int .i64 0)) fun x114 =>
  rd (fldA Pg 137 x114 1) fun x115 =>
  rd (ldV Pg 4 x115 w107) fun x116 =>
  rd (unV .not x116) fun x117 =>
  cnd x117 (fun _ => rd2 (binG false Pg .add 3 (.tmp 0) (.const .nilFunc) (e 3) (.int .i64 1) w107) fun x118 w119 =>
  rd2 (binG false Pg .add 3 (.tmp 0) (.const .nilFunc) (e 4) (.int .i64 1) w119) fun x120 w121 =>
  evalLoop (cx85 F G) (cdA Go.Proofs.Tryz.f85 [1, 1, 0, 1, 0, 0]) (K85_2 F G) (upd (upd (upd (upd (upd (upd (upd (upd (upd (upd (upd (upd (upd (upd (upd (upd (upd (upd (upd (upd (upd (upd (upd (upd (upd e 5 (e 4)) 6 (e 0)) 7 x101) 8 x102) 9 x103) 10 x104) 11 x106) 14 (e 0)) 15 x108) 16 x109) 17 x110) 18 (e 4)) 19 x111) 20 x112) 21 x113) 22 x114) 23 x115) 24 x116) 25 x117) 26 (e 3)) 27 x118) 3 x118) 12 (e 4)) 13 x120) 4 x120) w121) (fun _ => rd2 (binG false Pg .add 3 (.tmp 0) (.const .nilFunc) (e 4) (.int .i64 1) w107) fun x122 w123 =>
  evalLoop (cx85 F G) (cdA Go.Proofs.Tryz.f85 [1, 1, 0, 1, 0, 0]) (K85_2 F G) (upd (upd (upd (upd (upd (upd (upd (upd (upd (upd (upd (upd (upd (upd (upd (upd (upd (upd (upd (upd (upd (upd e 5 (e 4)) 6 (e 0)) 7 x101) 8 x102) 9 x103) 10 x104) 11 x106) 14 (e 0)) 15 x108) 16 x109) 17 x110) 18 (e 4)) 19 x111) 20 x112) 21 x113) 22 x114) 23 x115) 24 x116) 25 x117) 12 (e 4)) 13 x122) 4 x122) w123)) (fun _ => shutK (e 29) w107 fun w124 =>
  some ((e 3), w124))
theorem S85_eq (F : FnT) (G : RndT) (x0 : Value) (w0 : World) : evalCode (cx85 F G) (cdA Go.Proofs.Tryz.f85 []) (endK Pg Go.Proofs.Tryz.f85) (envL [x0]) w0 = S85 F G x0 w0 := by kernel_rfl
theorem F85 (x0 : Value) (w0 : World) : Fn Pg 85 [x0] w0 = S85 (Fn Pg) (Rnd Pg) x0 w0 := (Fn_body (c := cdA Go.Proofs.Tryz.f85 []) Go.Proofs.Tryz.func85 (by kernel_rfl) (by kernel_rfl) [x0] w0 (Nat.le_of_ble_eq_true (by kernel_rfl))).trans (S85_eq _ _ x0 w0)
theorem S85_L1_eq (F : FnT) (G : RndT) (e : Env) (w0 : World) : evalLoop (cx85 F G) (cdA Go.Proofs.Tryz.f85 [1, 1, 0, 1, 0, 0]) (K85_2 F G) e w0 = S85_L1 F G e w0 := by
  rw [evalLoop_eq]
  kernel_rfl

-- 141 (*ciborium/ciboriumref24.Store).place
noncomputable def cx141 (F : FnT) (G : RndT) : Ctx := ⟨Pg, F, G, 141, none, 42⟩
noncomputable def K141_0 : FnT → RndT → Exit → Env → World → R := fun _ _ => endK Pg Go.Proofs.Tryz.f141
noncomputable def K141_1 : FnT → RndT → Exit → Env → World → R := fun F G => thenK (evalCode (cx141 F G) (cdA Go.Proofs.Tryz.f141 [1, 1]) (K141_0 F G)) (K141_0 F G)
noncomputable def K141_2 : FnT → RndT → Exit → Env → World → R := fun F G => blkK 0 (K141_1 F G)
noncomputable def S141 (F : FnT) (G : RndT) (x0 x1 : Value) (w0 : World) : R :=
  evalLoop (cx141 F G) (cdA Go.Proofs.Tryz.f141 [1, 0, 1, 0, 0]) (K141_2 F G) (upd (upd (upd (envL [x0, x1]) 4 (.int .i64 0)) 5 (.bool false)) 6 (.int .i64 0)) w0
noncomputable def S141_L1 (F : FnT) (G : RndT) (e : Env) (w0 : World) : R :=
  rd (nilV (e 0)) fun x101 =>
  rd (fldA Pg 33 x101 0) fun x102 =>
  rd (ldV Pg 31 x102 w0) fun x103 =>
  rd2 (lenG false Pg .len #[31] 3 #[false] [x103] w0) fun x104 w105 =>
  rd2 (binG false Pg .lss 3 (.tmp 0) (.tmp 0) (e 6) x104 w105) fun x106 w107 =>
  cnd x106 (fun _ => rd (nilV (e 0)) fun x108 =>
  rd (fldA Pg 33 x108 0) fun x109 =>
  rd (ldV Pg 31 x109 w107) fun x110 =>
  rd (ixA Pg 31 x110 (e 6)) fun x111 =>
  rd (fldA Pg 159 x111 0) fun x112 =>
  rd (ldV Pg 9 x112 w107) fun x113 =>
  rd2 (binG false Pg .geq 9 (.tmp 0) (.tmp 0) x113 (e 1) w107) fun x114 w115 =>
  cnd x114 (fun _ => rd (nilV (e 0)) fun x116 =>
  rd (fldA Pg 33 x116 0) fun x117 =>
  rd (ldV Pg 31 x117 (drw w115)) fun x118 =>
  rd (ixA Pg 31 x118 (e 6)) fun x119 =>
  rd (fldA Pg 159 x119 0) fun x120 =>
  rd (ldV Pg 9 x120 (drw w115)) fun x121 =>
  rd2 (binG true Pg .eql 9 (.tmp 0) (.tmp 0) x121 (e 1) (drw w115)) fun x122 _ =>
  shutK (e 42) (drw w115) fun w124 =>
  some ((.tuple #[(e 6), x122]), w124)) (fun _ => rd2 (binG false Pg .add 3 (.tmp 0) (.const .nilFunc) (e 6) (.int .i64 1) w115) fun x125 w126 =>
  evalLoop (cx141 F G) (cdA Go.Proofs.Tryz.f141 [1, 0, 1, 0, 0]) (K141_2 F G) (upd (upd (upd (upd (upd (upd (upd (upd (upd (upd (upd (upd (upd (upd (upd (upd (upd (upd (upd (upd e 7 (e 6)) 8 (e 0)) 9 x101) 10 x102) 11 x103) 12 x104) 13 x106) 16 (e 0)) 17 x108) 18 x109) 19 x110) 20 (e 6)) 21 x111) 22 x112) 23 x113) 24 (e 1)) 25 x114) 14 (e 6)) 15 x125) 6 x125) w126)) (fun _ => rd (nilV (e 0)) fun x127 =>
  rd (fldA Pg 33 x127 0) fun x128 =>
  rd (ldV Pg 31 x128 w107) fun x129 =>
  rd2 (lenG false Pg .len #[31] 3 #[false] [x129] w107) fun x130 w131 =>
  shutK (e 42) w131 fun w132 =>
  some ((.tuple #[x130, (.bool false)]), w132))
theorem S141_eq (F : FnT) (G : RndT) (x0 x1 : Value) (w0 : World) : evalCode (cx141 F G) (cdA Go.Proofs.Tryz.f141 []) (endK Pg Go.Proofs.Tryz.f141) (envL [x0, x1]) w0 = S141 F G x0 x1 w0 := by kernel_rfl
theorem F141 (x0 x1 : Value) (w0 : World) : Fn Pg 141 [x0, x1] w0 = S141 (Fn Pg) (Rnd Pg) x0 x1 w0 := (Fn_body (c := cdA Go.Proofs.Tryz.f141 []) Go.Proofs.Tryz.func141 (by kernel_rfl) (by kernel_rfl) [x0, x1] w0 (Nat.le_of_ble_eq_true (by kernel_rfl))).trans (S141_eq _ _ x0 x1 w0)
theorem S141_L1_eq (F : FnT) (G : RndT) (e : Env) (w0 : World) : evalLoop (cx141 F G) (cdA Go.Proofs.Tryz.f141 [1, 0, 1, 0, 0]) (K141_2 F G) e w0 = S141_L1 F G e w0 := by
  rw [evalLoop_eq]
  kernel_rfl

-- 151 ciborium/ciboriumref22.Right
noncomputable def cx151 (F : FnT) (G : RndT) : Ctx := ⟨Pg, F, G, 151, none, 43⟩
noncomputable def K151_0 : FnT → RndT → Exit → Env → World → R := fun _ _ => endK Pg Go.Proofs.Tryz.f151
noncomputable def K151_1 : FnT → RndT → Exit → Env → World → R := fun F G => thenK (evalCode (cx151 F G) (cdA Go.Proofs.Tryz.f151 [1, 1]) (K151_0 F G)) (K151_0 F G)
noncomputable def K151_2 : FnT → RndT → Exit → Env → World → R := fun F G => blkK 0 (K151_1 F G)
noncomputable def S151 (F : FnT) (G : RndT) (x0 : Value) (w0 : World) : R :=
  evalLoop (cx151 F G) (cdA Go.Proofs.Tryz.f151 [1, 0, 1, 0, 0]) (K151_2 F G) (upd (upd (envL [x0]) 2 (.bool false)) 3 (.int .i64 0)) w0
noncomputable def S151_L1 (F : FnT) (G : RndT) (e : Env) (w0 : World) : R :=
  rd2 (lenG false Pg .len #[43] 3 #[false] [(e 0)] w0) fun x101 w102 =>
  rd2 (binG false Pg .lss 3 (.tmp 0) (.tmp 0) (e 3) x101 w102) fun x103 w104 =>
  cnd x103 (fun _ => rd2 (binG true Pg .gtr 3 (.tmp 0) (.const .nilFunc) (e 3) (.int .i64 0) (drw w104)) fun x105 _ =>
  rd2 (gate x105 true (fun _ =>  some ((e 0), (drw w104))) (drw w104)) fun x107 _ =>
  rd2 (gate x105 true (fun _ =>  some ((e 3), (drw w104))) (drw w104)) fun x109 _ =>
  rd2 (gate x105 true (fun _ => rd (ixA Pg 43 x107 x109) fun x111 => some (x111, (drw w104))) (drw w104)) fun x112 _ =>
  rd2 (gate x105 true (fun _ => rd (fldA Pg 137 x112 0) fun x114 => some (x114, (drw w104))) (drw w104)) fun x115 _ =>
  rd2 (gate x105 true (fun _ => rd (ldV Pg 23 x115 (drw w104)) fun x117 => some (x117, (drw w104))) (drw w104)) fun x118 _ =>
  rd2 (gate x105 true (fun _ =>  some ((e 0), (drw w104))) (drw w104)) fun x120 _ =>
  rd2 (gate x105 true (fun _ =>  some ((e 3), (drw w104))) (drw w104)) fun x122 _ =>
  rd2 (gate x105 true (fun _ => rd2 (binG true Pg .sub 3 (.tmp 0) (.const .nilFunc) x122 (.int .i64 1) (drw w104)) fun x124 w125 => some (x124, w125)) (drw w104)) fun x126 _ =>
  rd2 (gate x105 true (fun _ => rd (ixA Pg 43 x120 x126) fun x128 => some (x128, (drw w104))) (drw w104)) fun x129 _ =>
  rd2 (gate x105 true (fun _ => rd (fldA Pg 137 x129 0) fun x131 => some (x131, (drw w104))) (drw w104)) fun x132 _ =>
  rd2 (gate x105 true (fun _ => rd (ldV Pg 23 x132 (drw w104)) fun x134 => some (x134, (drw w104))) (drw w104)) fun x135 _ =>
  rd2 (gate x105 true (fun _ => rd2 (binG true Pg .geq 23 (.tmp 0) (.tmp 0) x118 x135 (drw w104)) fun x137 w138 => some (x137, w138)) (drw w104)) fun x139 _ =>
  rd (pickV x105 x139 (.bool false)) fun x141 =>
  rd2 (gate x141 false (fun _ =>  some ((e 0), (drw w104))) (drw w104)) fun x142 _ =>
  rd2 (gate x141 false (fun _ =>  some ((e 3), (drw w104))) (drw w104)) fun x144 _ =>
  rd2 (gate x141 false (fun _ => rd (ixA Pg 43 x142 x144) fun x146 => some (x146, (drw w104))) (drw w104)) fun x147 _ =>
  rd2 (gate x141 false (fun _ => rd (fldA Pg 137 x147 1) fun x149 => some (x149, (drw w104))) (drw w104)) fun x150 _ =>
  rd2 (gate x141 false (fun _ => rd (ldV Pg 4 x150 (drw w104)) fun x152 => some (x152, (drw w104))) (drw w104)) fun x153 _ =>
  rd2 (gate x141 false (fun _ =>  some (x153, (drw w104))) (drw w104)) fun x155 _ =>
  rd2 (gate x155 true (fun _ =>  some ((e 0), (drw w104))) (drw w104)) fun x157 _ =>
  rd2 (gate x155 true (fun _ =>  some ((e 3), (drw w104))) (drw w104)) fun x159 _ =>
  rd2 (gate x155 true (fun _ => rd (ixA Pg 43 x157 x159) fun x161 => some (x161, (drw w104))) (drw w104)) fun x162 _ =>
  rd2 (gate x155 true (fun _ => rd (fldA Pg 137 x162 2) fun x164 => some (x164, (drw w104))) (drw w104)) fun x165 _ =>
  rd2 (gate x155 true (fun _ => rd (ldV Pg 82 x165 (drw w104)) fun x167 => some (x167, (drw w104))) (drw w104)) fun x168 _ =>
  rd2 (gate x155 true (fun _ => rd (bldV Pg 82 []) fun x170 => some (x170, (drw w104))) (drw w104)) fun x171 _ =>
  rd2 (gate x155 true (fun _ => rd2 (F 43 [x168, x171] (drw w104)) fun x173 w174 => some (x173, w174)) (drw w104)) fun x175 w176 =>
  rd2 (gate x155 true (fun _ => rd (unV .not x175) fun x177 => some (x177, w176)) w176) fun x178 _ =>
  rd2 (gate x141 false (fun _ => rd (pickV x155 x178 (.bool false)) fun x180 => some (x180, w176)) w176) fun x181 _ =>
  rd (pickV x141 (.bool true) x181) fun x183 =>
  cnd x183 (fun _ => shutK (e 43) w176 fun w184 =>
  some ((.bool false), w184)) (fun _ => rd2 (binG false Pg .add 3 (.tmp 0) (.const .nilFunc) (e 3) (.int .i64 1) w176) fun x185 w186 =>
  evalLoop (cx151 F G) (cdA Go.Proofs.Tryz.f151 [1, 0, 1, 0, 0]) (K151_2 F G) (upd (upd (upd (upd (upd (upd (upd (upd (upd (upd (upd (upd (upd (upd (upd (upd (upd (upd (upd (upd (upd (upd (upd (upd (upd (upd (upd (upd (upd (upd (upd (upd (upd (upd (upd (upd (upd (upd (upd (upd e 4 (e 3)) 5 (e 0)) 6 x101) 7 x103) 10 (e 3)) 11 x105) 12 x105) 13 x107) 14 x109) 15 x112) 16 x115) 17 x118) 18 x120) 19 x122) 20 x126) 21 x129) 22 x132) 23 x135) 24 x139) 25 x141) 26 x141) 27 x142) 28 x144) 29 x147) 30 x150) 31 x153) 32 x155) 33 x157) 34 x159) 35 x162) 36 x165) 37 x168) 38 x171) 39 x175) 40 x178) 41 x181) 42 x183) 8 (e 3)) 9 x185) 3 x185) w186)) (fun _ => shutK (e 43) w104 fun w187 =>
  some ((.bool true), w187))
theorem S151_eq (F : FnT) (G : RndT) (x0 : Value) (w0 : World) : evalCode (cx151 F G) (cdA Go.Proofs.Tryz.f151 []) (endK Pg Go.Proofs.Tryz.f151) (envL [x0]) w0 = S151 F G x0 w0 := by kernel_rfl
theorem F151 (x0 : Value) (w0 : World) : Fn Pg 151 [x0] w0 = S151 (Fn Pg) (Rnd Pg) x0 w0 := (Fn_body (c := cdA Go.Proofs.Tryz.f151 []) Go.Proofs.Tryz.func151 (by kernel_rfl) (by kernel_rfl) [x0] w0 (Nat.le_of_ble_eq_true (by kernel_rfl))).trans (S151_eq _ _ x0 w0)
theorem S151_L1_eq (F : FnT) (G : RndT) (e : Env) (w0 : World) : evalLoop (cx151 F G) (cdA Go.Proofs.Tryz.f151 [1, 0, 1, 0, 0]) (K151_2 F G) e w0 = S151_L1 F G e w0 := by
  rw [evalLoop_eq]
  kernel_rfl

-- 152 ciborium/ciboriumref22.needed
noncomputable def cx152 (F : FnT) (G : RndT) : Ctx := ⟨Pg, F, G, 152, none, 24⟩
noncomputable def K152_0 : FnT → RndT → Exit → Env → World → R := fun _ _ => endK Pg Go.Proofs.Tryz.f152
noncomputable def K152_1 : FnT → RndT → Exit → Env → World → R := fun F G => thenK (evalCode (cx152 F G) (cdA Go.Proofs.Tryz.f152 [1, 1]) (K152_0 F G)) (K152_0 F G)
noncomputable def K152_2 : FnT → RndT → Exit → Env → World → R := fun F G => blkK 0 (K152_1 F G)
noncomputable def S152 (F : FnT) (G : RndT) (x0 x1 x2 : Value) (w0 : World) : R :=
  evalLoop (cx152 F G) (cdA Go.Proofs.Tryz.f152 [1, 0, 1, 0, 0]) (K152_2 F G) (upd (upd (envL [x0, x1, x2]) 6 (.bool false)) 7 (.int .i64 0)) w0
noncomputable def S152_L1 (F : FnT) (G : RndT) (e : Env) (w0 : World) : R :=
  rd2 (lenG false Pg .len #[37] 3 #[false] [(e 2)] w0) fun x101 w102 =>
  rd2 (binG false Pg .lss 3 (.tmp 0) (.tmp 0) (e 7) x101 w102) fun x103 w104 =>
  cnd x103 (fun _ => rd (ixA Pg 37 (e 2) (e 7)) fun x105 =>
  rd (ldV Pg 23 x105 w104) fun x106 =>
  rd2 (F 207 [(e 0), x106] w104) fun x107 w108 =>
  rd2 (binG false Pg .eql 3 (.tmp 0) (.tmp 0) x107 (e 1) w108) fun x109 w110 =>
  cnd x109 (fun _ => shutK (e 24) w110 fun w111 =>
  some ((.bool true), w111)) (fun _ => rd2 (binG false Pg .add 3 (.tmp 0) (.const .nilFunc) (e 7) (.int .i64 1) w110) fun x112 w113 =>
  evalLoop (cx152 F G) (cdA Go.Proofs.Tryz.f152 [1, 0, 1, 0, 0]) (K152_2 F G) (upd (upd (upd (upd (upd (upd (upd (upd (upd (upd (upd (upd (upd (upd (upd e 8 (e 7)) 9 (e 2)) 10 x101) 11 x103) 14 (e 0)) 15 (e 2)) 16 (e 7)) 17 x105) 18 x106) 19 x107) 20 (e 1)) 21 x109) 12 (e 7)) 13 x112) 7 x112) w113)) (fun _ => rd2 (binG false Pg .eql 3 (.tmp 0) (.const .nilFunc) (e 1) (.int .i64 0) w104) fun x114 w115 =>
  shutK (e 24) w115 fun w116 =>
  some (x114, w116))
theorem S152_eq (F : FnT) (G : RndT) (x0 x1 x2 : Value) (w0 : World) : evalCode (cx152 F G) (cdA Go.Proofs.Tryz.f152 []) (endK Pg Go.Proofs.Tryz.f152) (envL [x0, x1, x2]) w0 = S152 F G x0 x1 x2 w0 := by kernel_rfl
theorem F152 (x0 x1 x2 : Value) (w0 : World) : Fn Pg 152 [x0, x1, x2] w0 = S152 (Fn Pg) (Rnd Pg) x0 x1 x2 w0 := (Fn_body (c := cdA Go.Proofs.Tryz.f152 []) Go.Proofs.Tryz.func152 (by kernel_rfl) (by kernel_rfl) [x0, x1, x2] w0 (Nat.le_of_ble_eq_true (by kernel_rfl))).trans (S152_eq _ _ x0 x1 x2 w0)
theorem S152_L1_eq (F : FnT) (G : RndT) (e : Env) (w0 : World) : evalLoop (cx152 F G) (cdA Go.Proofs.Tryz.f152 [1, 0, 1, 0, 0]) (K152_2 F G) e w0 = S152_L1 F G e w0 := by
  rw [evalLoop_eq]
  kernel_rfl

-- 156 ciborium/ciboriumref22.At
noncomputable def cx156 (F : FnT) (G : RndT) : Ctx := ⟨Pg, F, G, 156, none, 22⟩
noncomputable def S156 (F : FnT) (G : RndT) (x0 x1 : Value) (w0 : World) : R :=
  rd2 (rawV Pg (Instr.alloc 137 true (.tuple #[])) w0) fun x3 w4 =>
  rd2 (F 207 [x0, x1] w4) fun x5 w6 =>
  rd2 (binG false Pg .lss 3 (.tmp 0) (.const .nilFunc) x5 (.int .i64 0) w6) fun x7 w8 =>
  rd2 (gate x7 false (fun _ =>  some (x0, w8)) w8) fun x9 w10 =>
  rd2 (gate x7 false (fun _ => rd2 (F 151 [x9] w10) fun x11 w12 => some (x11, w12)) w10) fun x13 w14 =>
  rd2 (gate x7 false (fun _ => rd (unV .not x13) fun x15 => some (x15, w14)) w14) fun x16 w17 =>
  rd (pickV x7 (.bool true) x16) fun x18 =>
  cnd x18 (fun _ => rd (bldV Pg 137 []) fun x19 =>
  rd2 (rawU Pg (Instr.storeAt 137 x3 x19) w17) fun x21 w20 =>
  rd (ldV Pg 137 x3 w20) fun x22 =>
  some ((.tuple #[x22, (.bool false)]), w20)) (fun _ => rd (ixA Pg 43 x0 x5) fun x23 =>
  rd (ldV Pg 137 x23 w17) fun x24 =>
  rd2 (rawU Pg (Instr.storeAt 137 x3 x24) w17) fun x26 w25 =>
  rd (ldV Pg 137 x3 w25) fun x27 =>
  some ((.tuple #[x27, (.bool true)]), w25))
theorem S156_eq (F : FnT) (G : RndT) (x0 x1 : Value) (w0 : World) : evalCode (cx156 F G) (cdA Go.Proofs.Tryz.f156 []) (endK Pg Go.Proofs.Tryz.f156) (envL [x0, x1]) w0 = S156 F G x0 x1 w0 := by kernel_rfl
theorem F156 (x0 x1 : Value) (w0 : World) : Fn Pg 156 [x0, x1] w0 = S156 (Fn Pg) (Rnd Pg) x0 x1 w0 := (Fn_body (c := cdA Go.Proofs.Tryz.f156 []) Go.Proofs.Tryz.func156 (by kernel_rfl) (by kernel_rfl) [x0, x1] w0 (Nat.le_of_ble_eq_true (by kernel_rfl))).trans (S156_eq _ _ x0 x1 w0)

-- 207 ciborium/ciboriumref22.seen
noncomputable def cx207 (F : FnT) (G : RndT) : Ctx := ⟨Pg, F, G, 207, none, 20⟩
noncomputable def K207_0 : FnT → RndT → Exit → Env → World → R := fun _ _ => endK Pg Go.Proofs.Tryz.f207
noncomputable def K207_1 : FnT → RndT → Exit → Env → World → R := fun F G => thenK (evalCode (cx207 F G) (cdA Go.Proofs.Tryz.f207 [1, 1]) (K207_0 F G)) (K207_0 F G)
noncomputable def K207_2 : FnT → RndT → Exit → Env → World → R := fun F G => blkK 0 (K207_1 F G)
noncomputable def S207 (F : FnT) (G : RndT) (x0 x1 : Value) (w0 : World) : R :=
  evalLoop (cx207 F G) (cdA Go.Proofs.Tryz.f207 [1, 0, 1, 0, 0]) (K207_2 F G) (upd (upd (envL [x0, x1]) 4 (.int .i64 0)) 5 (.int .i64 0)) w0
noncomputable def S207_L1 (F : FnT) (G : RndT) (e : Env) (w0 : World) : R :=
  rd2 (lenG false Pg .len #[43] 3 #[false] [(e 0)] w0) fun x101 w102 =>
  rd2 (binG false Pg .lss 3 (.tmp 0) (.tmp 0) (e 5) x101 w102) fun x103 w104 =>
  cnd x103 (fun _ => rd (ixA Pg 43 (e 0) (e 5)) fun x105 =>
  rd (fldA Pg 137 x105 0) fun x106 =>
  rd (ldV Pg 23 x106 w104) fun x107 =>
  rd2 (binG false Pg .leq 23 (.tmp 0) (.tmp 0) x107 (e 1) w104) fun x108 w109 =>
  cnd x108 (fun _ => shutK (e 20) w109 fun w110 =>
  some ((e 5), w110)) (fun _ => rd2 (binG false Pg .add 3 (.tmp 0) (.const .nilFunc) (e 5) (.int .i64 1) w109) fun x111 w112 =>
  evalLoop (cx207 F G) (cdA Go.Proofs.Tryz.f207 [1, 0, 1, 0, 0]) (K207_2 F G) (upd (upd (upd (upd (upd (upd (upd (upd (upd (upd (upd (upd (upd (upd e 6 (e 5)) 7 (e 0)) 8 x101) 9 x103) 12 (e 0)) 13 (e 5)) 14 x105) 15 x106) 16 x107) 17 (e 1)) 18 x108) 10 (e 5)) 11 x111) 5 x111) w112)) (fun _ => shutK (e 20) w104 fun w113 =>
  some ((.int .i64 (-1)), w113))
theorem S207_eq (F : FnT) (G : RndT) (x0 x1 : Value) (w0 : World) : evalCode (cx207 F G) (cdA Go.Proofs.Tryz.f207 []) (endK Pg Go.Proofs.Tryz.f207) (envL [x0, x1]) w0 = S207 F G x0 x1 w0 := by kernel_rfl
theorem F207 (x0 x1 : Value) (w0 : World) : Fn Pg 207 [x0, x1] w0 = S207 (Fn Pg) (Rnd Pg) x0 x1 w0 := (Fn_body (c := cdA Go.Proofs.Tryz.f207 []) Go.Proofs.Tryz.func207 (by kernel_rfl) (by kernel_rfl) [x0, x1] w0 (Nat.le_of_ble_eq_true (by kernel_rfl))).trans (S207_eq _ _ x0 x1 w0)
theorem S207_L1_eq (F : FnT) (G : RndT) (e : Env) (w0 : World) : evalLoop (cx207 F G) (cdA Go.Proofs.Tryz.f207 [1, 0, 1, 0, 0]) (K207_2 F G) e w0 = S207_L1 F G e w0 := by
  rw [evalLoop_eq]
  kernel_rfl

end Go.Cb
