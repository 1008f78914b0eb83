import Derived.Test.YtialecgadoepjaaGreatProg
import Derived.Test.YtialecgadoepjaaGreatHp
import Derived.KernelRfl
open Go Go.Proofs
set_option linter.unusedVariables false
set_option linter.unusedSimpArgs false
namespace Go.Cb
noncomputable abbrev Pg : Program := Tryz.prog
/-- a region's operations, by the way to it. -/
def rgA (f : Func) (p : List Nat) : Array Oper :=
  match cdA f p with
  | .region _ ops _ => ops
  | _ => #[]
-- 9 ciborium/ciboriumlaw24.few
noncomputable def cx9 (F : FnT) (G : RndT) : Ctx := ⟨Pg, F, G, 9, none, 42⟩
noncomputable def K9_0 : FnT → RndT → Exit → Env → World → R := fun _ _ => endK Pg Go.Proofs.Tryz.f9
noncomputable def K9_1 : FnT → RndT → Exit → Env → World → R := fun F G => thenK (evalCode (cx9 F G) (cdA Go.Proofs.Tryz.f9 [1, 1]) (K9_0 F G)) (K9_0 F G)
noncomputable def K9_2 : FnT → RndT → Exit → Env → World → R := fun F G => blkK 0 (K9_1 F G)
noncomputable def S9 (F : FnT) (G : RndT) (x0 : Value) (w0 : World) : R :=
  evalLoop (cx9 F G) (cdA Go.Proofs.Tryz.f9 [1, 0, 1, 0, 0]) (K9_2 F G) (upd (upd (envL [x0]) 2 (.bool false)) 3 (.int .i64 0)) w0
noncomputable def S9_L1 (F : FnT) (G : RndT) (e : Env) (w0 : World) : R :=
  rd2 (lenG false Pg .len #[22] 3 #[false] [(e 0)] w0) fun x101 w102 =>
  rd2 (binG false Pg .lss 3 (.tmp 0) (.tmp 0) (e 3) x101 w102) fun x103 w104 =>
  rd2 (gate x103 true (fun _ =>  some ((e 3), w104)) w104) fun x105 w106 =>
  rd2 (gate x103 true (fun _ => rd2 (binG false Pg .lss 3 (.tmp 0) (.const .nilFunc) x105 (.int .i64 60) w106) fun x107 w108 => some (x107, w108)) w106) fun x109 w110 =>
  rd (pickV x103 x109 (.bool false)) fun x111 =>
  cnd x111 (fun _ => rd (ixA Pg 22 (e 0) (e 3)) fun x112 =>
  rd (fldA Pg 39 x112 1) fun x113 =>
  rd (ldV Pg 36 x113 w110) fun x114 =>
  rd2 (F 56 [(.int .i64 0), x114] w110) fun x115 w116 =>
  rd (unV .not x115) fun x117 =>
  rd2 (gate x117 false (fun _ =>  some ((e 0), w116)) w116) fun x118 w119 =>
  rd2 (gate x117 false (fun _ =>  some ((e 3), w119)) w119) fun x120 w121 =>
  rd2 (gate x117 false (fun _ => rd (ixA Pg 22 x118 x120) fun x122 => some (x122, w121)) w121) fun x123 w124 =>
  rd2 (gate x117 false (fun _ => rd (fldA Pg 39 x123 3) fun x125 => some (x125, w124)) w124) fun x126 w127 =>
  rd2 (gate x117 false (fun _ => rd (ldV Pg 37 x126 w127) fun x128 => some (x128, w127)) w127) fun x129 w130 =>
  rd2 (gate x117 false (fun _ => rd2 (lenG false Pg .len #[37] 3 #[false] [x129] w130) fun x131 w132 => some (x131, w132)) w130) fun x133 w134 =>
  rd2 (gate x117 false (fun _ => rd2 (binG false Pg .gtr 3 (.tmp 0) (.const .nilFunc) x133 (.int .i64 20) w134) fun x135 w136 => some (x135, w136)) w134) fun x137 w138 =>
  rd (pickV x117 (.bool true) x137) fun x139 =>
  rd2 (gate x139 false (fun _ =>  some ((e 0), w138)) w138) fun x140 w141 =>
  rd2 (gate x139 false (fun _ =>  some ((e 3), w141)) w141) fun x142 w143 =>
  rd2 (gate x139 false (fun _ => rd (ixA Pg 22 x140 x142) fun x144 => some (x144, w143)) w143) fun x145 w146 =>
  rd2 (gate x139 false (fun _ => rd (fldA Pg 39 x145 2) fun x147 => some (x147, w146)) w146) fun x148 w149 =>
  rd2 (gate x139 false (fun _ => rd (ldV Pg 9 x148 w149) fun x150 => some (x150, w149)) w149) fun x151 w152 =>
  rd2 (gate x139 false (fun _ => rd2 (lenG false Pg .len #[9] 3 #[false] [x151] w152) fun x153 w154 => some (x153, w154)) w152) fun x155 w156 =>
  rd2 (gate x139 false (fun _ => rd2 (binG false Pg .gtr 3 (.tmp 0) (.const .nilFunc) x155 (.int .i64 60) w156) fun x157 w158 => some (x157, w158)) w156) fun x159 w160 =>
  rd (pickV x139 (.bool true) x159) fun x161 =>
  cnd x161 (fun _ => shutK (e 42) w160 fun w162 =>
  some ((.bool false), w162)) (fun _ => rd2 (binG false Pg .add 3 (.tmp 0) (.const .nilFunc) (e 3) (.int .i64 1) w160) fun x163 w164 =>
  evalLoop (cx9 F G) (cdA Go.Proofs.Tryz.f9 [1, 0, 1, 0, 0]) (K9_2 F G) (upd (upd (upd (upd (upd (upd (upd (upd (upd (upd (upd (upd (upd (upd (upd (upd (upd (upd (upd (upd (upd (upd (upd (upd (upd (upd (upd (upd (upd (upd (upd (upd (upd (upd (upd (upd e 4 (e 3)) 5 (e 0)) 6 x101) 7 x103) 8 x103) 9 x105) 10 x109) 11 x111) 14 (e 0)) 15 (e 3)) 16 x112) 17 x113) 18 x114) 19 x115) 20 x117) 21 x117) 22 x118) 23 x120) 24 x123) 25 x126) 26 x129) 27 x133) 28 x137) 29 x139) 30 x139) 31 x140) 32 x142) 33 x145) 34 x148) 35 x151) 36 x155) 37 x159) 38 x161) 12 (e 3)) 13 x163) 3 x163) w164)) (fun _ => rd2 (lenG false Pg .len #[22] 3 #[false] [(e 0)] w110) fun x165 w166 =>
  rd2 (binG false Pg .leq 3 (.tmp 0) (.const .nilFunc) x165 (.int .i64 40) w166) fun x167 w168 =>
  shutK (e 42) w168 fun w169 =>
  some (x167, w169))
theorem S9_eq (F : FnT) (G : RndT) (x0 : Value) (w0 : World) : evalCode (cx9 F G) (cdA Go.Proofs.Tryz.f9 []) (endK Pg Go.Proofs.Tryz.f9) (envL [x0]) w0 = S9 F G x0 w0 := by kernel_rfl
theorem F9 (x0 : Value) (w0 : World) : Fn Pg 9 [x0] w0 = S9 (Fn Pg) (Rnd Pg) x0 w0 := (Fn_body (c := cdA Go.Proofs.Tryz.f9 []) Go.Proofs.Tryz.func9 (by kernel_rfl) (by kernel_rfl) [x0] w0 (Nat.le_of_ble_eq_true (by kernel_rfl))).trans (S9_eq _ _ x0 w0)
theorem S9_L1_eq (F : FnT) (G : RndT) (e : Env) (w0 : World) : evalLoop (cx9 F G) (cdA Go.Proofs.Tryz.f9 [1, 0, 1, 0, 0]) (K9_2 F G) e w0 = S9_L1 F G e w0 := by
  rw [evalLoop_eq]
  kernel_rfl

-- 10 ciborium/ciboriumlaw24.holds
noncomputable def cx10 (F : FnT) (G : RndT) : Ctx := ⟨Pg, F, G, 10, none, 75⟩
noncomputable def S10 (F : FnT) (G : RndT) (w0 : World) : R :=
  rd2 (F 11 [] w0) fun x1 w2 =>
  rd (bldV Pg 82 [(2, (.int .i64 4))]) fun x3 =>
  rd (bldV Pg 135 [(0, (.string { data := #[97] })), (2, x3)]) fun x4 =>
  rd2 (rawV Pg (Instr.buildSlice 34 1 #[(0, x4)]) w2) fun x5 w6 =>
  rd (bldV Pg 36 [(0, (.int .u64 1)), (1, x5)]) fun x7 =>
  rd2 (F 12 [x1, x7] w6) fun x8 w9 =>
  rd (bldV Pg 135 [(0, (.string { data := #[97] })), (1, (.bool true))]) fun x10 =>
  rd2 (rawV Pg (Instr.buildSlice 34 1 #[(0, x10)]) w9) fun x11 w12 =>
  rd (bldV Pg 36 [(0, (.int .u64 2)), (1, x11)]) fun x13 =>
  rd2 (F 12 [x1, x13] w12) fun x14 w15 =>
  rd (bldV Pg 36 [(0, (.int .u64 2))]) fun x16 =>
  rd2 (F 12 [x1, x16] w15) fun x17 w18 =>
  rd2 (F 57 [x1, (.string { data := #[97] }), (.int .u64 1)] w18) fun x19 w20 =>
  rd (extV x19 0) fun x21 =>
  rd (extV x19 1) fun x22 =>
  rd2 (rawV Pg (Instr.alloc 137 true (.tuple #[])) w20) fun x23 w24 =>
  rd2 (rawU Pg (Instr.storeAt 137 x23 x21) w24) fun x26 w25 =>
  rd2 (binG false Pg .eql 40 (.tmp 0) (.const .nilFunc) x8 (.int .i64 0) w25) fun x27 w28 =>
  rd2 (gate x27 true (fun _ =>  some (x14, w28)) w28) fun x29 w30 =>
  rd2 (gate x27 true (fun _ => rd2 (binG false Pg .eql 40 (.tmp 0) (.const .nilFunc) x29 (.int .i64 0) w30) fun x31 w32 => some (x31, w32)) w30) fun x33 w34 =>
  rd (pickV x27 x33 (.bool false)) fun x35 =>
  rd2 (gate x35 true (fun _ =>  some (x17, w34)) w34) fun x36 w37 =>
  rd2 (gate x35 true (fun _ => rd2 (binG false Pg .eql 40 (.tmp 0) (.const .nilFunc) x36 (.int .i64 2) w37) fun x38 w39 => some (x38, w39)) w37) fun x40 w41 =>
  rd (pickV x35 x40 (.bool false)) fun x42 =>
  rd2 (gate x42 true (fun _ =>  some (x22, w41)) w41) fun x43 w44 =>
  rd (pickV x42 x43 (.bool false)) fun x45 =>
  rd2 (gate x45 true (fun _ => rd (fldA Pg 137 x23 2) fun x46 => some (x46, w44)) w44) fun x47 w48 =>
  rd2 (gate x45 true (fun _ => rd (fldA Pg 82 x47 2) fun x49 => some (x49, w48)) w48) fun x50 w51 =>
  rd2 (gate x45 true (fun _ => rd (ldV Pg 3 x50 w51) fun x52 => some (x52, w51)) w51) fun x53 w54 =>
  rd2 (gate x45 true (fun _ => rd2 (binG false Pg .eql 3 (.tmp 0) (.const .nilFunc) x53 (.int .i64 4) w54) fun x55 w56 => some (x55, w56)) w54) fun x57 w58 =>
  rd (pickV x45 x57 (.bool false)) fun x59 =>
  rd2 (gate x59 true (fun _ =>  some (x1, w58)) w58) fun x60 w61 =>
  rd2 (gate x59 true (fun _ => rd2 (F 58 [x60] w61) fun x62 w63 => some (x62, w63)) w61) fun x64 w65 =>
  rd2 (gate x59 true (fun _ => rd2 (binG false Pg .eql 3 (.tmp 0) (.const .nilFunc) x64 (.int .i64 0) w65) fun x66 w67 => some (x66, w67)) w65) fun x68 w69 =>
  rd (pickV x59 x68 (.bool false)) fun x70 =>
  rd2 (gate x70 true (fun _ =>  some (x1, w69)) w69) fun x71 w72 =>
  rd2 (gate x70 true (fun _ => rd2 (F 59 [x71] w72) fun x73 w74 => some (x73, w74)) w72) fun x75 w76 =>
  rd2 (gate x70 true (fun _ => rd2 (binG false Pg .eql 3 (.tmp 0) (.const .nilFunc) x75 (.int .i64 2) w76) fun x77 w78 => some (x77, w78)) w76) fun x79 w80 =>
  rd (pickV x70 x79 (.bool false)) fun x81 =>
  rd2 (gate x81 true (fun _ =>  some (x1, w80)) w80) fun x82 w83 =>
  rd2 (gate x81 true (fun _ => rd2 (F 20 [x82] w83) fun x84 w85 => some (x84, w85)) w83) fun x86 w87 =>
  rd2 (gate x81 true (fun _ => rd2 (binG false Pg .eql 23 (.tmp 0) (.const .nilFunc) x86 (.int .u64 2) w87) fun x88 w89 => some (x88, w89)) w87) fun x90 w91 =>
  rd (pickV x81 x90 (.bool false)) fun x92 =>
  rd2 (gate x92 true (fun _ =>  some (x1, w91)) w91) fun x93 w94 =>
  rd2 (gate x92 true (fun _ => rd (bldV Pg 25 []) fun x95 => some (x95, w94)) w94) fun x96 w97 =>
  rd2 (gate x92 true (fun _ => rd2 (F 60 [x93, x96, (.int .u64 1), (.int .i64 9)] w97) fun x98 w99 => some (x98, w99)) w97) fun x100 w101 =>
  rd2 (gate x92 true (fun _ => rd2 (lenG false Pg .len #[87] 3 #[false] [x100] w101) fun x102 w103 => some (x102, w103)) w101) fun x104 w105 =>
  rd2 (gate x92 true (fun _ => rd2 (binG false Pg .eql 3 (.tmp 0) (.const .nilFunc) x104 (.int .i64 1) w105) fun x106 w107 => some (x106, w107)) w105) fun x108 w109 =>
  rd (pickV x92 x108 (.bool false)) fun x110 =>
  rd2 (gate x110 true (fun _ =>  some (x1, w109)) w109) fun x111 w112 =>
  rd2 (gate x110 true (fun _ => rd (bldV Pg 25 []) fun x113 => some (x113, w112)) w112) fun x114 w115 =>
  rd2 (gate x110 true (fun _ => rd2 (F 60 [x111, x114, (.int .u64 2), (.int .i64 9)] w115) fun x116 w117 => some (x116, w117)) w115) fun x118 w119 =>
  rd2 (gate x110 true (fun _ => rd2 (lenG false Pg .len #[87] 3 #[false] [x118] w119) fun x120 w121 => some (x120, w121)) w119) fun x122 w123 =>
  rd2 (gate x110 true (fun _ => rd2 (binG false Pg .eql 3 (.tmp 0) (.const .nilFunc) x122 (.int .i64 0) w123) fun x124 w125 => some (x124, w125)) w123) fun x126 w127 =>
  rd (pickV x110 x126 (.bool false)) fun x128 =>
  some (x128, w127)
theorem S10_eq (F : FnT) (G : RndT) (w0 : World) : evalCode (cx10 F G) (cdA Go.Proofs.Tryz.f10 []) (endK Pg Go.Proofs.Tryz.f10) (envL []) w0 = S10 F G w0 := by kernel_rfl
theorem F10 (w0 : World) : Fn Pg 10 [] w0 = S10 (Fn Pg) (Rnd Pg) w0 := (Fn_body (c := cdA Go.Proofs.Tryz.f10 []) Go.Proofs.Tryz.func10 (by kernel_rfl) (by kernel_rfl) [] w0 (Nat.le_of_ble_eq_true (by kernel_rfl))).trans (S10_eq _ _ w0)

-- 11 ciborium/mvcc.New
noncomputable def cx11 (F : FnT) (G : RndT) : Ctx := ⟨Pg, F, G, 11, none, 4⟩
noncomputable def S11 (F : FnT) (G : RndT) (w0 : World) : R :=
  rd2 (F 61 [] w0) fun x1 w2 =>
  rd (bldV Pg 144 [(0, x1)]) fun x3 =>
  rd2 (rawV Pg (Instr.box 144 x3) w2) fun x4 w5 =>
  some (x4, w5)
theorem S11_eq (F : FnT) (G : RndT) (w0 : World) : evalCode (cx11 F G) (cdA Go.Proofs.Tryz.f11 []) (endK Pg Go.Proofs.Tryz.f11) (envL []) w0 = S11 F G w0 := by kernel_rfl
theorem F11 (w0 : World) : Fn Pg 11 [] w0 = S11 (Fn Pg) (Rnd Pg) w0 := (Fn_body (c := cdA Go.Proofs.Tryz.f11 []) Go.Proofs.Tryz.func11 (by kernel_rfl) (by kernel_rfl) [] w0 (Nat.le_of_ble_eq_true (by kernel_rfl))).trans (S11_eq _ _ w0)

-- 12 (*ciborium/mvcc.Store).Apply
noncomputable def cx12 (F : FnT) (G : RndT) : Ctx := ⟨Pg, F, G, 12, none, 49⟩
noncomputable def K12_0 : FnT → RndT → Exit → Env → World → R := fun _ _ => endK Pg Go.Proofs.Tryz.f12
noncomputable def K12_1 : FnT → RndT → Exit → Env → World → R := fun F G => thenK (evalCode (cx12 F G) (cdA Go.Proofs.Tryz.f12 [1, 1, 1, 1, 1]) (K12_0 F G)) (K12_0 F G)
noncomputable def K12_2 : FnT → RndT → Exit → Env → World → R := fun F G => blkK 0 (K12_1 F G)
noncomputable def S12 (F : FnT) (G : RndT) (x0 x1 : Value) (w0 : World) : R :=
  rd2 (rawV Pg (Instr.box 36 x1) w0) fun x3 w4 =>
  rd2 (F 62 [x0] w4) fun x5 w6 =>
  cnd x5 (fun _ => some ((.int .i64 1), w6)) (fun _ => rd (ldV Pg 36 x3 w6) fun x7 =>
  rd2 (F 63 [x0, x7] w6) fun x8 w9 =>
  rd (extV x8 0) fun x10 =>
  rd (extV x8 1) fun x11 =>
  rd (unV .not x11) fun x12 =>
  rd2 (gate x12 false (fun _ => rd (fldA Pg 36 x3 0) fun x13 => some (x13, (drw w9))) (drw w9)) fun x14 _ =>
  rd2 (gate x12 false (fun _ => rd (ldV Pg 23 x14 (drw w9)) fun x16 => some (x16, (drw w9))) (drw w9)) fun x17 _ =>
  rd2 (gate x12 false (fun _ =>  some (x0, (drw w9))) (drw w9)) fun x19 _ =>
  rd2 (gate x12 false (fun _ => rd (nilV x19) fun x21 => some (x21, (drw w9))) (drw w9)) fun x22 _ =>
  rd2 (gate x12 false (fun _ => rd (fldA Pg 144 x22 1) fun x24 => some (x24, (drw w9))) (drw w9)) fun x25 _ =>
  rd2 (gate x12 false (fun _ => rd (ldV Pg 23 x25 (drw w9)) fun x27 => some (x27, (drw w9))) (drw w9)) fun x28 _ =>
  rd2 (gate x12 false (fun _ => rd2 (binG true Pg .leq 23 (.tmp 0) (.tmp 0) x17 x28 (drw w9)) fun x30 w31 => some (x30, w31)) (drw w9)) fun x32 _ =>
  rd (pickV x12 (.bool true) x32) fun x34 =>
  cnd x34 (fun _ => some ((.int .i64 2), (drw w9))) (fun _ => rd2 (lenG false Pg .len #[145] 3 #[false] [x10] (drw w9)) fun x35 w36 =>
  evalLoop (cx12 F G) (cdA Go.Proofs.Tryz.f12 [1, 1, 1, 1, 0, 1, 0, 0]) (K12_2 F G) (upd (upd (upd (upd (upd (upd (upd (upd (upd (upd (upd (upd (upd (upd (upd (upd (upd (upd (upd (upd (upd (upd (upd (upd (upd (upd (envL [x0, x1]) 3 x3) 4 (.int .i64 0)) 9 x0) 10 x5) 12 x0) 13 x7) 14 x8) 11 x8) 15 x10) 16 x11) 5 x10) 6 x11) 17 x11) 18 x12) 19 x12) 20 x14) 21 x17) 22 x19) 23 x22) 24 x25) 25 x28) 26 x32) 27 x34) 28 x10) 29 x35) 30 (.int .i64 0)) w36))
noncomputable def S12_L1 (F : FnT) (G : RndT) (e : Env) (w0 : World) : R :=
  rd2 (binG false Pg .lss 3 (.tmp 0) (.tmp 0) (e 30) (e 29) w0) fun x101 w102 =>
  cnd x101 (fun _ => rd (ixA Pg 145 (e 28) (e 30)) fun x103 =>
  rd (ldV Pg 149 x103 w102) fun x104 =>
  rd2 (rawV Pg (Instr.alloc 149 true (.tuple #[])) w102) fun x105 w106 =>
  rd2 (rawU Pg (Instr.storeAt 149 x105 x104) w106) fun x108 w107 =>
  rd (nilV (e 0)) fun x109 =>
  rd (fldA Pg 144 x109 0) fun x110 =>
  rd (ldV Pg 141 x110 (drw w107)) fun x111 =>
  rd (fldA Pg 149 x105 0) fun x112 =>
  rd (ldV Pg 9 x112 (drw w107)) fun x113 =>
  rd (fldA Pg 149 x105 1) fun x114 =>
  rd (ldV Pg 43 x114 (drw w107)) fun x115 =>
  rd2 (F 64 [x111, x113, x115] (drw w107)) fun x116 w117 =>
  rd2 (binG false Pg .add 3 (.tmp 0) (.const .nilFunc) (e 30) (.int .i64 1) w117) fun x118 w119 =>
  evalLoop (cx12 F G) (cdA Go.Proofs.Tryz.f12 [1, 1, 1, 1, 0, 1, 0, 0]) (K12_2 F G) (upd (upd (upd (upd (upd (upd (upd (upd (upd (upd (upd (upd (upd (upd (upd e 31 x101) 32 x103) 33 x104) 8 x105) 34 (e 0)) 35 x109) 36 x110) 37 x111) 38 x112) 39 x113) 40 x114) 41 x115) 42 x116) 43 x118) 30 x118) w119) (fun _ => rd (fldA Pg 36 (e 3) 0) fun x120 =>
  rd (ldV Pg 23 x120 w102) fun x121 =>
  rd (nilV (e 0)) fun x122 =>
  rd (fldA Pg 144 x122 1) fun x123 =>
  rd2 (rawU Pg (Instr.storeAt 23 x123 x121) w102) fun x125 w124 =>
  shutK (e 49) w124 fun w126 =>
  some ((.int .i64 0), w126))
theorem S12_eq (F : FnT) (G : RndT) (x0 x1 : Value) (w0 : World) : evalCode (cx12 F G) (cdA Go.Proofs.Tryz.f12 []) (endK Pg Go.Proofs.Tryz.f12) (envL [x0, x1]) w0 = S12 F G x0 x1 w0 := by kernel_rfl
theorem F12 (x0 x1 : Value) (w0 : World) : Fn Pg 12 [x0, x1] w0 = S12 (Fn Pg) (Rnd Pg) x0 x1 w0 := (Fn_body (c := cdA Go.Proofs.Tryz.f12 []) Go.Proofs.Tryz.func12 (by kernel_rfl) (by kernel_rfl) [x0, x1] w0 (Nat.le_of_ble_eq_true (by kernel_rfl))).trans (S12_eq _ _ x0 x1 w0)
theorem S12_L1_eq (F : FnT) (G : RndT) (e : Env) (w0 : World) : evalLoop (cx12 F G) (cdA Go.Proofs.Tryz.f12 [1, 1, 1, 1, 0, 1, 0, 0]) (K12_2 F G) e w0 = S12_L1 F G e w0 := by
  rw [evalLoop_eq]
  kernel_rfl

-- 19 (*ciborium/mvcc.Store).Rows
noncomputable def cx19 (F : FnT) (G : RndT) : Ctx := ⟨Pg, F, G, 19, none, 9⟩
noncomputable def S19 (F : FnT) (G : RndT) (x0 : Value) (w0 : World) : R :=
  rd2 (rawV Pg (Instr.alloc 31 true (.tuple #[])) w0) fun x2 w3 =>
  rd (bldV Pg 25 []) fun x4 =>
  rd2 (F 77 [x0, x4, (.func (.func 78) #[] #[x2])] w3) fun x5 w6 =>
  rd (ldV Pg 31 x2 w6) fun x7 =>
  some (x7, w6)
theorem S19_eq (F : FnT) (G : RndT) (x0 : Value) (w0 : World) : evalCode (cx19 F G) (cdA Go.Proofs.Tryz.f19 []) (endK Pg Go.Proofs.Tryz.f19) (envL [x0]) w0 = S19 F G x0 w0 := by kernel_rfl
theorem F19 (x0 : Value) (w0 : World) : Fn Pg 19 [x0] w0 = S19 (Fn Pg) (Rnd Pg) x0 w0 := (Fn_body (c := cdA Go.Proofs.Tryz.f19 []) Go.Proofs.Tryz.func19 (by kernel_rfl) (by kernel_rfl) [x0] w0 (Nat.le_of_ble_eq_true (by kernel_rfl))).trans (S19_eq _ _ x0 w0)

-- 59 (*ciborium/mvcc.Store).Versions
noncomputable def cx59 (F : FnT) (G : RndT) : Ctx := ⟨Pg, F, G, 59, none, 6⟩
noncomputable def S59 (F : FnT) (G : RndT) (x0 : Value) (w0 : World) : R :=
  rd2 (F 19 [x0] w0) fun x2 w3 =>
  rd2 (F 130 [x2, (.func (.func 132) #[] #[])] w3) fun x4 w5 =>
  some (x4, w5)
theorem S59_eq (F : FnT) (G : RndT) (x0 : Value) (w0 : World) : evalCode (cx59 F G) (cdA Go.Proofs.Tryz.f59 []) (endK Pg Go.Proofs.Tryz.f59) (envL [x0]) w0 = S59 F G x0 w0 := by kernel_rfl
theorem F59 (x0 : Value) (w0 : World) : Fn Pg 59 [x0] w0 = S59 (Fn Pg) (Rnd Pg) x0 w0 := (Fn_body (c := cdA Go.Proofs.Tryz.f59 []) Go.Proofs.Tryz.func59 (by kernel_rfl) (by kernel_rfl) [x0] w0 (Nat.le_of_ble_eq_true (by kernel_rfl))).trans (S59_eq _ _ x0 w0)

-- 58 (*ciborium/mvcc.Store).Live
noncomputable def cx58 (F : FnT) (G : RndT) : Ctx := ⟨Pg, F, G, 58, none, 6⟩
noncomputable def S58 (F : FnT) (G : RndT) (x0 : Value) (w0 : World) : R :=
  rd2 (F 19 [x0] w0) fun x2 w3 =>
  rd2 (F 130 [x2, (.func (.func 131) #[] #[])] w3) fun x4 w5 =>
  some (x4, w5)
theorem S58_eq (F : FnT) (G : RndT) (x0 : Value) (w0 : World) : evalCode (cx58 F G) (cdA Go.Proofs.Tryz.f58 []) (endK Pg Go.Proofs.Tryz.f58) (envL [x0]) w0 = S58 F G x0 w0 := by kernel_rfl
theorem F58 (x0 : Value) (w0 : World) : Fn Pg 58 [x0] w0 = S58 (Fn Pg) (Rnd Pg) x0 w0 := (Fn_body (c := cdA Go.Proofs.Tryz.f58 []) Go.Proofs.Tryz.func58 (by kernel_rfl) (by kernel_rfl) [x0] w0 (Nat.le_of_ble_eq_true (by kernel_rfl))).trans (S58_eq _ _ x0 w0)

-- 60 (*ciborium/mvcc.Store).Scan
noncomputable def cx60 (F : FnT) (G : RndT) : Ctx := ⟨Pg, F, G, 60, none, 15⟩
noncomputable def S60 (F : FnT) (G : RndT) (x0 x1 x2 x3 : Value) (w0 : World) : R :=
  rd2 (rawV Pg (Instr.box 25 x1) w0) fun x5 w6 =>
  rd2 (rawV Pg (Instr.box 23 x2) w6) fun x7 w8 =>
  rd2 (rawV Pg (Instr.box 3 x3) w8) fun x9 w10 =>
  rd2 (rawV Pg (Instr.alloc 87 true (.tuple #[])) w10) fun x11 w12 =>
  rd (ldV Pg 25 x5 w12) fun x13 =>
  rd2 (F 77 [x0, x13, (.func (.func 133) #[] #[x11, x9, x7])] w12) fun x14 w15 =>
  rd (ldV Pg 87 x11 w15) fun x16 =>
  some (x16, w15)
theorem S60_eq (F : FnT) (G : RndT) (x0 x1 x2 x3 : Value) (w0 : World) : evalCode (cx60 F G) (cdA Go.Proofs.Tryz.f60 []) (endK Pg Go.Proofs.Tryz.f60) (envL [x0, x1, x2, x3]) w0 = S60 F G x0 x1 x2 x3 w0 := by kernel_rfl
theorem F60 (x0 x1 x2 x3 : Value) (w0 : World) : Fn Pg 60 [x0, x1, x2, x3] w0 = S60 (Fn Pg) (Rnd Pg) x0 x1 x2 x3 w0 := (Fn_body (c := cdA Go.Proofs.Tryz.f60 []) Go.Proofs.Tryz.func60 (by kernel_rfl) (by kernel_rfl) [x0, x1, x2, x3] w0 (Nat.le_of_ble_eq_true (by kernel_rfl))).trans (S60_eq _ _ x0 x1 x2 x3 w0)

-- 20 (*ciborium/mvcc.Store).Last
noncomputable def cx20 (F : FnT) (G : RndT) : Ctx := ⟨Pg, F, G, 20, none, 9⟩
noncomputable def S20 (F : FnT) (G : RndT) (x0 : Value) (w0 : World) : R :=
  rd2 (F 62 [x0] w0) fun x2 w3 =>
  cnd x2 (fun _ => some ((.int .u64 0), w3)) (fun _ => rd (nilV x0) fun x4 =>
  rd (fldA Pg 144 x4 1) fun x5 =>
  rd (ldV Pg 23 x5 w3) fun x6 =>
  some (x6, w3))
theorem S20_eq (F : FnT) (G : RndT) (x0 : Value) (w0 : World) : evalCode (cx20 F G) (cdA Go.Proofs.Tryz.f20 []) (endK Pg Go.Proofs.Tryz.f20) (envL [x0]) w0 = S20 F G x0 w0 := by kernel_rfl
theorem F20 (x0 : Value) (w0 : World) : Fn Pg 20 [x0] w0 = S20 (Fn Pg) (Rnd Pg) x0 w0 := (Fn_body (c := cdA Go.Proofs.Tryz.f20 []) Go.Proofs.Tryz.func20 (by kernel_rfl) (by kernel_rfl) [x0] w0 (Nat.le_of_ble_eq_true (by kernel_rfl))).trans (S20_eq _ _ x0 w0)

-- 14 (*ciborium/mvcc.Store).Vacuum
noncomputable def cx14 (F : FnT) (G : RndT) : Ctx := ⟨Pg, F, G, 14, none, 52⟩
noncomputable def S14 (F : FnT) (G : RndT) (x0 x1 x2 : Value) (w0 : World) : R :=
  rd2 (F 62 [x0] w0) fun x4 w5 =>
  cnd x4 (fun _ => some ((.tuple #[(.string { data := #[] }), (.slice none 0 0), (.bool true)]), w5)) (fun _ => rd (nilV x0) fun x6 =>
  rd (fldA Pg 144 x6 0) fun x7 =>
  rd (ldV Pg 141 x7 w5) fun x8 =>
  rd2 (F 68 [x8, x1] w5) fun x9 w10 =>
  rd (extV x9 0) fun x11 =>
  rd (extV x9 1) fun x12 =>
  rd (unV .not x12) fun x13 =>
  cnd x13 (fun _ => some ((.tuple #[(.string { data := #[] }), (.slice none 0 0), (.bool true)]), w10)) (fun _ => rd2 (F 70 [x0, x11] w10) fun x14 w15 =>
  rd2 (F 69 [x14, x2] w15) fun x16 w17 =>
  rd (extV x16 0) fun x18 =>
  rd (extV x16 1) fun x19 =>
  rd2 (lenG false Pg .len #[43] 3 #[false] [x18] w17) fun x20 w21 =>
  rd2 (binG false Pg .eql 3 (.tmp 0) (.const .nilFunc) x20 (.int .i64 0) w21) fun x22 w23 =>
  cnd x22 (fun _ => rd (nilV x0) fun x24 =>
  rd (fldA Pg 144 x24 0) fun x25 =>
  rd (ldV Pg 141 x25 w23) fun x26 =>
  rd2 (F 71 [x26, x11] w23) fun x27 w28 =>
  some ((.tuple #[x11, x19, (.bool false)]), w28)) (fun _ => rd (nilV x0) fun x29 =>
  rd (fldA Pg 144 x29 0) fun x30 =>
  rd (ldV Pg 141 x30 w23) fun x31 =>
  rd2 (F 64 [x31, x11, x18] w23) fun x32 w33 =>
  some ((.tuple #[x11, x19, (.bool false)]), w33))))
theorem S14_eq (F : FnT) (G : RndT) (x0 x1 x2 : Value) (w0 : World) : evalCode (cx14 F G) (cdA Go.Proofs.Tryz.f14 []) (endK Pg Go.Proofs.Tryz.f14) (envL [x0, x1, x2]) w0 = S14 F G x0 x1 x2 w0 := by kernel_rfl
theorem F14 (x0 x1 x2 : Value) (w0 : World) : Fn Pg 14 [x0, x1, x2] w0 = S14 (Fn Pg) (Rnd Pg) x0 x1 x2 w0 := (Fn_body (c := cdA Go.Proofs.Tryz.f14 []) Go.Proofs.Tryz.func14 (by kernel_rfl) (by kernel_rfl) [x0, x1, x2] w0 (Nat.le_of_ble_eq_true (by kernel_rfl))).trans (S14_eq _ _ x0 x1 x2 w0)

-- 82 ciborium/ciboriumref24.SameFound
noncomputable def cx82 (F : FnT) (G : RndT) : Ctx := ⟨Pg, F, G, 82, none, 70⟩
noncomputable def K82_0 : FnT → RndT → Exit → Env → World → R := fun _ _ => endK Pg Go.Proofs.Tryz.f82
noncomputable def K82_1 : FnT → RndT → Exit → Env → World → R := fun F G => thenK (evalCode (cx82 F G) (cdA Go.Proofs.Tryz.f82 [1, 1, 1]) (K82_0 F G)) (K82_0 F G)
noncomputable def K82_2 : FnT → RndT → Exit → Env → World → R := fun F G => blkK 0 (K82_1 F G)
noncomputable def S82 (F : FnT) (G : RndT) (x0 x1 : Value) (w0 : World) : R :=
  rd2 (lenG false Pg .len #[87] 3 #[false] [x0] w0) fun x3 w4 =>
  rd2 (lenG false Pg .len #[87] 3 #[false] [x1] w4) fun x5 w6 =>
  rd2 (binG false Pg .neq 3 (.tmp 0) (.tmp 0) x3 x5 w6) fun x7 w8 =>
  cnd x7 (fun _ => some ((.bool false), w8)) (fun _ => evalLoop (cx82 F G) (cdA Go.Proofs.Tryz.f82 [1, 1, 0, 1, 0, 0]) (K82_2 F G) (upd (upd (upd (upd (upd (upd (upd (envL [x0, x1]) 4 (.bool false)) 6 x0) 7 x3) 8 x1) 9 x5) 10 x7) 5 (.int .i64 0)) w8)
noncomputable def S82_L1 (F : FnT) (G : RndT) (e : Env) (w0 : World) : R :=
  rd2 (lenG false Pg .len #[87] 3 #[false] [(e 0)] w0) fun x101 w102 =>
  rd2 (binG false Pg .lss 3 (.tmp 0) (.tmp 0) (e 5) x101 w102) fun x103 w104 =>
  cnd x103 (fun _ => rd (ixA Pg 87 (e 0) (e 5)) fun x105 =>
  rd (fldA Pg 84 x105 0) fun x106 =>
  rd (ldV Pg 9 x106 (drw w104)) fun x107 =>
  rd (ixA Pg 87 (e 1) (e 5)) fun x108 =>
  rd (fldA Pg 84 x108 0) fun x109 =>
  rd (ldV Pg 9 x109 (drw w104)) fun x110 =>
  rd2 (binG true Pg .neq 9 (.tmp 0) (.tmp 0) x107 x110 (drw w104)) fun x111 _ =>
  rd2 (gate x111 false (fun _ =>  some ((e 0), (drw w104))) (drw w104)) fun x113 _ =>
  rd2 (gate x111 false (fun _ =>  some ((e 5), (drw w104))) (drw w104)) fun x115 _ =>
  rd2 (gate x111 false (fun _ => rd (ixA Pg 87 x113 x115) fun x117 => some (x117, (drw w104))) (drw w104)) fun x118 _ =>
  rd2 (gate x111 false (fun _ => rd (fldA Pg 84 x118 1) fun x120 => some (x120, (drw w104))) (drw w104)) fun x121 _ =>
  rd2 (gate x111 false (fun _ => rd (ldV Pg 4 x121 (drw w104)) fun x123 => some (x123, (drw w104))) (drw w104)) fun x124 _ =>
  rd2 (gate x111 false (fun _ =>  some ((e 1), (drw w104))) (drw w104)) fun x126 _ =>
  rd2 (gate x111 false (fun _ =>  some ((e 5), (drw w104))) (drw w104)) fun x128 _ =>
  rd2 (gate x111 false (fun _ => rd (ixA Pg 87 x126 x128) fun x130 => some (x130, (drw w104))) (drw w104)) fun x131 _ =>
  rd2 (gate x111 false (fun _ => rd (fldA Pg 84 x131 1) fun x133 => some (x133, (drw w104))) (drw w104)) fun x134 _ =>
  rd2 (gate x111 false (fun _ => rd (ldV Pg 4 x134 (drw w104)) fun x136 => some (x136, (drw w104))) (drw w104)) fun x137 _ =>
  rd2 (gate x111 false (fun _ => rd2 (binG true Pg .neq 4 (.tmp 0) (.tmp 0) x124 x137 (drw w104)) fun x139 w140 => some (x139, w140)) (drw w104)) fun x141 _ =>
  rd (pickV x111 (.bool true) x141) fun x143 =>
  rd2 (gate x143 false (fun _ =>  some ((e 0), (drw w104))) (drw w104)) fun x144 _ =>
  rd2 (gate x143 false (fun _ =>  some ((e 5), (drw w104))) (drw w104)) fun x146 _ =>
  rd2 (gate x143 false (fun _ => rd (ixA Pg 87 x144 x146) fun x148 => some (x148, (drw w104))) (drw w104)) fun x149 _ =>
  rd2 (gate x143 false (fun _ => rd (fldA Pg 84 x149 2) fun x151 => some (x151, (drw w104))) (drw w104)) fun x152 _ =>
  rd2 (gate x143 false (fun _ => rd (ldV Pg 59 x152 (drw w104)) fun x154 => some (x154, (drw w104))) (drw w104)) fun x155 _ =>
  rd2 (gate x143 false (fun _ => rd2 (cvG true Pg 59 9 x155 (drw w104)) fun x157 w158 => some (x157, w158)) (drw w104)) fun x159 _ =>
  rd2 (gate x143 false (fun _ =>  some ((e 1), (drw w104))) (drw w104)) fun x161 _ =>
  rd2 (gate x143 false (fun _ =>  some ((e 5), (drw w104))) (drw w104)) fun x163 _ =>
  rd2 (gate x143 false (fun _ => rd (ixA Pg 87 x161 x163) fun x165 => some (x165, (drw w104))) (drw w104)) fun x166 _ =>
  rd2 (gate x143 false (fun _ => rd (fldA Pg 84 x166 2) fun x168 => some (x168, (drw w104))) (drw w104)) fun x169 _ =>
  rd2 (gate x143 false (fun _ => rd (ldV Pg 59 x169 (drw w104)) fun x171 => some (x171, (drw w104))) (drw w104)) fun x172 _ =>
  rd2 (gate x143 false (fun _ => rd2 (cvG true Pg 59 9 x172 (drw w104)) fun x174 w175 => some (x174, w175)) (drw w104)) fun x176 _ =>
  rd2 (gate x143 false (fun _ => rd2 (binG true Pg .neq 9 (.tmp 0) (.tmp 0) x159 x176 (drw w104)) fun x178 w179 => some (x178, w179)) (drw w104)) fun x180 _ =>
  rd (pickV x143 (.bool true) x180) fun x182 =>
  rd2 (gate x182 false (fun _ =>  some ((e 0), (drw w104))) (drw w104)) fun x183 _ =>
  rd2 (gate x182 false (fun _ =>  some ((e 5), (drw w104))) (drw w104)) fun x185 _ =>
  rd2 (gate x182 false (fun _ => rd (ixA Pg 87 x183 x185) fun x187 => some (x187, (drw w104))) (drw w104)) fun x188 _ =>
  rd2 (gate x182 false (fun _ => rd (fldA Pg 84 x188 3) fun x190 => some (x190, (drw w104))) (drw w104)) fun x191 _ =>
  rd2 (gate x182 false (fun _ => rd (ldV Pg 82 x191 (drw w104)) fun x193 => some (x193, (drw w104))) (drw w104)) fun x194 _ =>
  rd2 (gate x182 false (fun _ =>  some ((e 1), (drw w104))) (drw w104)) fun x196 _ =>
  rd2 (gate x182 false (fun _ =>  some ((e 5), (drw w104))) (drw w104)) fun x198 _ =>
  rd2 (gate x182 false (fun _ => rd (ixA Pg 87 x196 x198) fun x200 => some (x200, (drw w104))) (drw w104)) fun x201 _ =>
  rd2 (gate x182 false (fun _ => rd (fldA Pg 84 x201 3) fun x203 => some (x203, (drw w104))) (drw w104)) fun x204 _ =>
  rd2 (gate x182 false (fun _ => rd (ldV Pg 82 x204 (drw w104)) fun x206 => some (x206, (drw w104))) (drw w104)) fun x207 _ =>
  rd2 (gate x182 false (fun _ => rd2 (F 43 [x194, x207] (drw w104)) fun x209 w210 => some (x209, w210)) (drw w104)) fun x211 w212 =>
  rd2 (gate x182 false (fun _ => rd (unV .not x211) fun x213 => some (x213, w212)) w212) fun x214 _ =>
  rd (pickV x182 (.bool true) x214) fun x216 =>
  cnd x216 (fun _ => shutK (e 70) w212 fun w217 =>
  some ((.bool false), w217)) (fun _ => rd2 (binG false Pg .add 3 (.tmp 0) (.const .nilFunc) (e 5) (.int .i64 1) w212) fun x218 w219 =>
  evalLoop (cx82 F G) (cdA Go.Proofs.Tryz.f82 [1, 1, 0, 1, 0, 0]) (K82_2 F G) (upd (upd (upd (upd (upd (upd (upd (upd (upd (upd (upd (upd (upd (upd (upd (upd (upd (upd (upd (upd (upd (upd (upd (upd (upd (upd (upd (upd (upd (upd (upd (upd (upd (upd (upd (upd (upd (upd (upd (upd (upd (upd (upd (upd (upd (upd (upd (upd (upd (upd (upd (upd (upd (upd (upd (upd (upd (upd (upd (upd e 11 (e 5)) 12 (e 0)) 13 x101) 14 x103) 17 (e 0)) 18 (e 5)) 19 x105) 20 x106) 21 x107) 22 (e 1)) 23 (e 5)) 24 x108) 25 x109) 26 x110) 27 x111) 28 x111) 29 x113) 30 x115) 31 x118) 32 x121) 33 x124) 34 x126) 35 x128) 36 x131) 37 x134) 38 x137) 39 x141) 40 x143) 41 x143) 42 x144) 43 x146) 44 x149) 45 x152) 46 x155) 47 x159) 48 x161) 49 x163) 50 x166) 51 x169) 52 x172) 53 x176) 54 x180) 55 x182) 56 x182) 57 x183) 58 x185) 59 x188) 60 x191) 61 x194) 62 x196) 63 x198) 64 x201) 65 x204) 66 x207) 67 x211) 68 x214) 69 x216) 15 (e 5)) 16 x218) 5 x218) w219)) (fun _ => shutK (e 70) w104 fun w220 =>
  some ((.bool true), w220))
theorem S82_eq (F : FnT) (G : RndT) (x0 x1 : Value) (w0 : World) : evalCode (cx82 F G) (cdA Go.Proofs.Tryz.f82 []) (endK Pg Go.Proofs.Tryz.f82) (envL [x0, x1]) w0 = S82 F G x0 x1 w0 := by kernel_rfl
theorem F82 (x0 x1 : Value) (w0 : World) : Fn Pg 82 [x0, x1] w0 = S82 (Fn Pg) (Rnd Pg) x0 x1 w0 := (Fn_body (c := cdA Go.Proofs.Tryz.f82 []) Go.Proofs.Tryz.func82 (by kernel_rfl) (by kernel_rfl) [x0, x1] w0 (Nat.le_of_ble_eq_true (by kernel_rfl))).trans (S82_eq _ _ x0 x1 w0)
theorem S82_L1_eq (F : FnT) (G : RndT) (e : Env) (w0 : World) : evalLoop (cx82 F G) (cdA Go.Proofs.Tryz.f82 [1, 1, 0, 1, 0, 0]) (K82_2 F G) e w0 = S82_L1 F G e w0 := by
  rw [evalLoop_eq]
  kernel_rfl

-- 17 (*ciborium/mvcc.Store).Copy
noncomputable def cx17 (F : FnT) (G : RndT) : Ctx := ⟨Pg, F, G, 17, none, 16⟩
noncomputable def S17 (F : FnT) (G : RndT) (x0 : Value) (w0 : World) : R :=
  rd2 (F 62 [x0] w0) fun x2 w3 =>
  cnd x2 (fun _ => some ((.pointer none), w3)) (fun _ => rd (nilV x0) fun x4 =>
  rd (fldA Pg 144 x4 0) fun x5 =>
  rd (ldV Pg 141 x5 (drw w3)) fun x6 =>
  rd2 (F 74 [x6] (drw w3)) fun x7 w8 =>
  rd (nilV x0) fun x9 =>
  rd (fldA Pg 144 x9 1) fun x10 =>
  rd (ldV Pg 23 x10 w8) fun x11 =>
  chk (holdsAt Pg none (.ld 23) x10 x11 (drw w3)) fun _ =>
  rd (bldV Pg 144 [(0, x7), (1, x11)]) fun x12 =>
  rd2 (rawV Pg (Instr.box 144 x12) w8) fun x13 w14 =>
  some (x13, w14))
theorem S17_eq (F : FnT) (G : RndT) (x0 : Value) (w0 : World) : evalCode (cx17 F G) (cdA Go.Proofs.Tryz.f17 []) (endK Pg Go.Proofs.Tryz.f17) (envL [x0]) w0 = S17 F G x0 w0 := by kernel_rfl
theorem F17 (x0 : Value) (w0 : World) : Fn Pg 17 [x0] w0 = S17 (Fn Pg) (Rnd Pg) x0 w0 := (Fn_body (c := cdA Go.Proofs.Tryz.f17 []) Go.Proofs.Tryz.func17 (by kernel_rfl) (by kernel_rfl) [x0] w0 (Nat.le_of_ble_eq_true (by kernel_rfl))).trans (S17_eq _ _ x0 w0)

-- 57 (*ciborium/mvcc.Store).Read
noncomputable def cx57 (F : FnT) (G : RndT) : Ctx := ⟨Pg, F, G, 57, none, 15⟩
noncomputable def S57 (F : FnT) (G : RndT) (x0 x1 x2 : Value) (w0 : World) : R :=
  rd2 (rawV Pg (Instr.alloc 137 true (.tuple #[])) w0) fun x4 w5 =>
  rd2 (F 70 [x0, x1] w5) fun x6 w7 =>
  rd2 (F 129 [x6, x2] w7) fun x8 w9 =>
  rd (extV x8 0) fun x10 =>
  rd (extV x8 1) fun x11 =>
  rd2 (rawU Pg (Instr.storeAt 137 x4 x10) w9) fun x13 w12 =>
  rd (ldV Pg 137 x4 w12) fun x14 =>
  some ((.tuple #[x14, x11]), w12)
theorem S57_eq (F : FnT) (G : RndT) (x0 x1 x2 : Value) (w0 : World) : evalCode (cx57 F G) (cdA Go.Proofs.Tryz.f57 []) (endK Pg Go.Proofs.Tryz.f57) (envL [x0, x1, x2]) w0 = S57 F G x0 x1 x2 w0 := by kernel_rfl
theorem F57 (x0 x1 x2 : Value) (w0 : World) : Fn Pg 57 [x0, x1, x2] w0 = S57 (Fn Pg) (Rnd Pg) x0 x1 x2 w0 := (Fn_body (c := cdA Go.Proofs.Tryz.f57 []) Go.Proofs.Tryz.func57 (by kernel_rfl) (by kernel_rfl) [x0, x1, x2] w0 (Nat.le_of_ble_eq_true (by kernel_rfl))).trans (S57_eq _ _ x0 x1 x2 w0)

-- 73 ciborium/ciboriumref22.Same
noncomputable def cx73 (F : FnT) (G : RndT) : Ctx := ⟨Pg, F, G, 73, none, 24⟩
noncomputable def K73_0 : FnT → RndT → Exit → Env → World → R := fun _ _ => endK Pg Go.Proofs.Tryz.f73
noncomputable def S73 (F : FnT) (G : RndT) (x0 x1 : Value) (w0 : World) : R :=
  rd2 (rawV Pg (Instr.box 137 x0) w0) fun x3 w4 =>
  rd2 (rawV Pg (Instr.box 137 x1) w4) fun x5 w6 =>
  evalCode (cx73 F G) (cdA Go.Proofs.Tryz.f73 [1]) (K73_0 F G) (upd (upd (upd (envL [x0, x1]) 2 x3) 3 x5) 4 (.bool false)) w6
noncomputable def S73_J1 (F : FnT) (G : RndT) (e : Env) (w0 : World) : R :=
  rd (fldA Pg 137 (e 2) 0) fun x101 =>
  rd (ldV Pg 23 x101 w0) fun x102 =>
  rd (fldA Pg 137 (e 3) 0) fun x103 =>
  rd (ldV Pg 23 x103 w0) fun x104 =>
  rd2 (binG false Pg .eql 23 (.tmp 0) (.tmp 0) x102 x104 w0) fun x105 w106 =>
  rd2 (gate x105 true (fun _ => rd (fldA Pg 137 (e 2) 1) fun x107 => some (x107, w106)) w106) fun x108 w109 =>
  rd2 (gate x105 true (fun _ => rd (ldV Pg 4 x108 w109) fun x110 => some (x110, w109)) w109) fun x111 w112 =>
  rd2 (gate x105 true (fun _ => rd (fldA Pg 137 (e 3) 1) fun x113 => some (x113, w112)) w112) fun x114 w115 =>
  rd2 (gate x105 true (fun _ => rd (ldV Pg 4 x114 w115) fun x116 => some (x116, w115)) w115) fun x117 w118 =>
  rd2 (gate x105 true (fun _ => rd2 (binG false Pg .eql 4 (.tmp 0) (.tmp 0) x111 x117 w118) fun x119 w120 => some (x119, w120)) w118) fun x121 w122 =>
  rd (pickV x105 x121 (.bool false)) fun x123 =>
  rd2 (gate x123 true (fun _ => rd (fldA Pg 137 (e 2) 2) fun x124 => some (x124, w122)) w122) fun x125 w126 =>
  rd2 (gate x123 true (fun _ => rd (ldV Pg 82 x125 w126) fun x127 => some (x127, w126)) w126) fun x128 w129 =>
  rd2 (gate x123 true (fun _ => rd (fldA Pg 137 (e 3) 2) fun x130 => some (x130, w129)) w129) fun x131 w132 =>
  rd2 (gate x123 true (fun _ => rd (ldV Pg 82 x131 w132) fun x133 => some (x133, w132)) w132) fun x134 w135 =>
  rd2 (gate x123 true (fun _ => rd2 (F 43 [x128, x134] w135) fun x136 w137 => some (x136, w137)) w135) fun x138 w139 =>
  rd (pickV x123 x138 (.bool false)) fun x140 =>
  shutK (e 24) w139 fun w141 =>
  some (x140, w141)
theorem S73_A (F : FnT) (G : RndT) (K : Exit → Env → World → R) (x0 x1 : Value) (w0 : World) : evalCode (cx73 F G) (cdA Go.Proofs.Tryz.f73 [0]) K (envL [x0, x1]) w0 = (rd2 (rawV Pg (Instr.box 137 x0) w0) fun x3 w4 =>
  rd2 (rawV Pg (Instr.box 137 x1) w4) fun x5 w6 =>
  K .normal (upd (upd (upd (envL [x0, x1]) 2 x3) 3 x5) 4 (.bool false)) w6) := by kernel_rfl
theorem S73_B (F : FnT) (G : RndT) (K : Exit → Env → World → R) (e : Env) (w0 : World) : evalCode (cx73 F G) (cdA Go.Proofs.Tryz.f73 []) K e w0 = evalCode (cx73 F G) (cdA Go.Proofs.Tryz.f73 [0]) (thenK (evalCode (cx73 F G) (cdA Go.Proofs.Tryz.f73 [1]) K) K) e w0 := by kernel_rfl
theorem S73_C (F : FnT) (G : RndT) (x0 x1 : Value) (w0 : World) : (rd2 (rawV Pg (Instr.box 137 x0) w0) fun x3 w4 =>
  rd2 (rawV Pg (Instr.box 137 x1) w4) fun x5 w6 =>
  thenK (evalCode (cx73 F G) (cdA Go.Proofs.Tryz.f73 [1]) (K73_0 F G)) (K73_0 F G) .normal (upd (upd (upd (envL [x0, x1]) 2 x3) 3 x5) 4 (.bool false)) w6) = S73 F G x0 x1 w0 := by kernel_rfl
theorem S73_D (F : FnT) (G : RndT) : endK Pg Go.Proofs.Tryz.f73 = (K73_0 F G) := by kernel_rfl
theorem S73_eq (F : FnT) (G : RndT) (x0 x1 : Value) (w0 : World) : evalCode (cx73 F G) (cdA Go.Proofs.Tryz.f73 []) (endK Pg Go.Proofs.Tryz.f73) (envL [x0, x1]) w0 = S73 F G x0 x1 w0 := by
  rw [S73_D F G]
  exact (S73_B F G (K73_0 F G) (envL [x0, x1]) w0).trans ((S73_A F G _ x0 x1 w0).trans (S73_C F G x0 x1 w0))
theorem F73 (x0 x1 : Value) (w0 : World) : Fn Pg 73 [x0, x1] w0 = S73 (Fn Pg) (Rnd Pg) x0 x1 w0 := (Fn_body (c := cdA Go.Proofs.Tryz.f73 []) Go.Proofs.Tryz.func73 (by kernel_rfl) (by kernel_rfl) [x0, x1] w0 (Nat.le_of_ble_eq_true (by kernel_rfl))).trans (S73_eq _ _ x0 x1 w0)
theorem S73_J1_eq (F : FnT) (G : RndT) (e : Env) (w0 : World) : evalCode (cx73 F G) (cdA Go.Proofs.Tryz.f73 [1]) (K73_0 F G) e w0 = S73_J1 F G e w0 := by kernel_rfl

-- 80 (*ciborium/mvcc.Store).Newest
noncomputable def cx80 (F : FnT) (G : RndT) : Ctx := ⟨Pg, F, G, 80, none, 22⟩
noncomputable def S80 (F : FnT) (G : RndT) (x0 x1 : Value) (w0 : World) : R :=
  rd2 (rawV Pg (Instr.alloc 137 true (.tuple #[])) w0) fun x3 w4 =>
  rd2 (F 70 [x0, x1] w4) fun x5 w6 =>
  rd2 (lenG false Pg .len #[43] 3 #[false] [x5] w6) fun x7 w8 =>
  rd2 (binG false Pg .eql 3 (.tmp 0) (.const .nilFunc) x7 (.int .i64 0) w8) fun x9 w10 =>
  cnd x9 (fun _ => rd (bldV Pg 137 []) fun x11 =>
  rd2 (rawU Pg (Instr.storeAt 137 x3 x11) w10) fun x13 w12 =>
  rd (ldV Pg 137 x3 w12) fun x14 =>
  some ((.tuple #[x14, (.bool false)]), w12)) (fun _ => rd (ixA Pg 43 x5 (.int .i64 0)) fun x15 =>
  rd (fldA Pg 137 x15 0) fun x16 =>
  rd (ldV Pg 23 x16 w10) fun x17 =>
  rd2 (F 129 [x5, x17] w10) fun x18 w19 =>
  rd (extV x18 0) fun x20 =>
  rd (extV x18 1) fun x21 =>
  rd2 (rawU Pg (Instr.storeAt 137 x3 x20) w19) fun x23 w22 =>
  rd (ldV Pg 137 x3 w22) fun x24 =>
  some ((.tuple #[x24, x21]), w22))
theorem S80_eq (F : FnT) (G : RndT) (x0 x1 : Value) (w0 : World) : evalCode (cx80 F G) (cdA Go.Proofs.Tryz.f80 []) (endK Pg Go.Proofs.Tryz.f80) (envL [x0, x1]) w0 = S80 F G x0 x1 w0 := by kernel_rfl
theorem F80 (x0 x1 : Value) (w0 : World) : Fn Pg 80 [x0, x1] w0 = S80 (Fn Pg) (Rnd Pg) x0 x1 w0 := (Fn_body (c := cdA Go.Proofs.Tryz.f80 []) Go.Proofs.Tryz.func80 (by kernel_rfl) (by kernel_rfl) [x0, x1] w0 (Nat.le_of_ble_eq_true (by kernel_rfl))).trans (S80_eq _ _ x0 x1 w0)

-- 208 ciborium/order.In
noncomputable def cx208 (F : FnT) (G : RndT) : Ctx := ⟨Pg, F, G, 208, none, 15⟩
noncomputable def S208 (F : FnT) (G : RndT) (x0 x1 : Value) (w0 : World) : R :=
  rd2 (rawV Pg (Instr.box 25 x0) w0) fun x3 w4 =>
  rd (fldA Pg 25 x3 0) fun x5 =>
  rd (ldV Pg 9 x5 w4) fun x6 =>
  rd2 (binG false Pg .geq 9 (.tmp 0) (.tmp 0) x1 x6 w4) fun x7 w8 =>
  rd2 (gate x7 true (fun _ =>  some (x1, w8)) w8) fun x9 w10 =>
  rd2 (gate x7 true (fun _ => rd (fldA Pg 25 x3 1) fun x11 => some (x11, w10)) w10) fun x12 w13 =>
  rd2 (gate x7 true (fun _ => rd (ldV Pg 9 x12 w13) fun x14 => some (x14, w13)) w13) fun x15 w16 =>
  rd2 (gate x7 true (fun _ => rd2 (F 231 [x9, x15] w16) fun x17 w18 => some (x17, w18)) w16) fun x19 w20 =>
  rd (pickV x7 x19 (.bool false)) fun x21 =>
  some (x21, w20)
theorem S208_eq (F : FnT) (G : RndT) (x0 x1 : Value) (w0 : World) : evalCode (cx208 F G) (cdA Go.Proofs.Tryz.f208 []) (endK Pg Go.Proofs.Tryz.f208) (envL [x0, x1]) w0 = S208 F G x0 x1 w0 := by kernel_rfl
theorem F208 (x0 x1 : Value) (w0 : World) : Fn Pg 208 [x0, x1] w0 = S208 (Fn Pg) (Rnd Pg) x0 x1 w0 := (Fn_body (c := cdA Go.Proofs.Tryz.f208 []) Go.Proofs.Tryz.func208 (by kernel_rfl) (by kernel_rfl) [x0, x1] w0 (Nat.le_of_ble_eq_true (by kernel_rfl))).trans (S208_eq _ _ x0 x1 w0)

-- 143 ciborium/order.Next
noncomputable def cx143 (F : FnT) (G : RndT) : Ctx := ⟨Pg, F, G, 143, none, 5⟩
noncomputable def S143 (F : FnT) (G : RndT) (x0 : Value) (w0 : World) : R :=
  rd2 (binG false Pg .add 9 (.tmp 0) (.const .nilFunc) x0 (.string { data := #[0] }) w0) fun x2 w3 =>
  some (x2, w3)
theorem S143_eq (F : FnT) (G : RndT) (x0 : Value) (w0 : World) : evalCode (cx143 F G) (cdA Go.Proofs.Tryz.f143 []) (endK Pg Go.Proofs.Tryz.f143) (envL [x0]) w0 = S143 F G x0 w0 := by kernel_rfl
theorem F143 (x0 : Value) (w0 : World) : Fn Pg 143 [x0] w0 = S143 (Fn Pg) (Rnd Pg) x0 w0 := (Fn_body (c := cdA Go.Proofs.Tryz.f143 []) Go.Proofs.Tryz.func143 (by kernel_rfl) (by kernel_rfl) [x0] w0 (Nat.le_of_ble_eq_true (by kernel_rfl))).trans (S143_eq _ _ x0 w0)

-- 157 ciborium/ciboriumref20.In
noncomputable def cx157 (F : FnT) (G : RndT) : Ctx := ⟨Pg, F, G, 157, none, 20⟩
noncomputable def S157 (F : FnT) (G : RndT) (x0 x1 : Value) (w0 : World) : R :=
  rd2 (rawV Pg (Instr.box 25 x0) w0) fun x3 w4 =>
  rd (fldA Pg 25 x3 0) fun x5 =>
  rd (ldV Pg 9 x5 w4) fun x6 =>
  rd2 (binG false Pg .geq 9 (.tmp 0) (.tmp 0) x1 x6 w4) fun x7 w8 =>
  rd2 (gate x7 true (fun _ => rd (fldA Pg 25 x3 1) fun x9 => some (x9, w8)) w8) fun x10 w11 =>
  rd2 (gate x7 true (fun _ => rd (ldV Pg 9 x10 w11) fun x12 => some (x12, w11)) w11) fun x13 w14 =>
  rd2 (gate x7 true (fun _ => rd2 (binG false Pg .eql 9 (.tmp 0) (.const .nilFunc) x13 (.string { data := #[] }) w14) fun x15 w16 => some (x15, w16)) w14) fun x17 w18 =>
  rd2 (gate x7 true (fun _ =>  some (x17, w18)) w18) fun x19 w20 =>
  rd2 (gate x19 false (fun _ =>  some (x1, w20)) w20) fun x21 w22 =>
  rd2 (gate x19 false (fun _ => rd (fldA Pg 25 x3 1) fun x23 => some (x23, w22)) w22) fun x24 w25 =>
  rd2 (gate x19 false (fun _ => rd (ldV Pg 9 x24 w25) fun x26 => some (x26, w25)) w25) fun x27 w28 =>
  rd2 (gate x19 false (fun _ => rd2 (binG false Pg .lss 9 (.tmp 0) (.tmp 0) x21 x27 w28) fun x29 w30 => some (x29, w30)) w28) fun x31 w32 =>
  rd2 (gate x7 true (fun _ => rd (pickV x19 (.bool true) x31) fun x33 => some (x33, w32)) w32) fun x34 w35 =>
  rd (pickV x7 x34 (.bool false)) fun x36 =>
  some (x36, w35)
theorem S157_eq (F : FnT) (G : RndT) (x0 x1 : Value) (w0 : World) : evalCode (cx157 F G) (cdA Go.Proofs.Tryz.f157 []) (endK Pg Go.Proofs.Tryz.f157) (envL [x0, x1]) w0 = S157 F G x0 x1 w0 := by kernel_rfl
theorem F157 (x0 x1 : Value) (w0 : World) : Fn Pg 157 [x0, x1] w0 = S157 (Fn Pg) (Rnd Pg) x0 x1 w0 := (Fn_body (c := cdA Go.Proofs.Tryz.f157 []) Go.Proofs.Tryz.func157 (by kernel_rfl) (by kernel_rfl) [x0, x1] w0 (Nat.le_of_ble_eq_true (by kernel_rfl))).trans (S157_eq _ _ x0 x1 w0)

-- 56 (ciborium/ciboriumlaw17.Looks).Few
noncomputable def cx56 (F : FnT) (G : RndT) : Ctx := ⟨Pg, F, G, 56, none, 62⟩
noncomputable def K56_0 : FnT → RndT → Exit → Env → World → R := fun _ _ => endK Pg Go.Proofs.Tryz.f56
noncomputable def K56_1 : FnT → RndT → Exit → Env → World → R := fun F G => thenK (evalCode (cx56 F G) (cdA Go.Proofs.Tryz.f56 [1, 1]) (K56_0 F G)) (K56_0 F G)
noncomputable def K56_2 : FnT → RndT → Exit → Env → World → R := fun F G => blkK 0 (K56_1 F G)
noncomputable def S56 (F : FnT) (G : RndT) (x0 x1 : Value) (w0 : World) : R :=
  rd2 (rawV Pg (Instr.box 36 x1) w0) fun x3 w4 =>
  evalLoop (cx56 F G) (cdA Go.Proofs.Tryz.f56 [1, 0, 1, 0, 0]) (K56_2 F G) (upd (upd (upd (envL [x0, x1]) 3 x3) 4 (.bool false)) 5 (.int .i64 0)) w4
noncomputable def S56_L1 (F : FnT) (G : RndT) (e : Env) (w0 : World) : R :=
  rd (fldA Pg 36 (e 3) 1) fun x101 =>
  rd (ldV Pg 34 x101 w0) fun x102 =>
  rd2 (lenG false Pg .len #[34] 3 #[false] [x102] w0) fun x103 w104 =>
  rd2 (binG false Pg .lss 3 (.tmp 0) (.tmp 0) (e 5) x103 w104) fun x105 w106 =>
  rd2 (gate x105 true (fun _ =>  some ((e 5), w106)) w106) fun x107 w108 =>
  rd2 (gate x105 true (fun _ => rd2 (binG false Pg .lss 3 (.tmp 0) (.const .nilFunc) x107 (.int .i64 40) w108) fun x109 w110 => some (x109, w110)) w108) fun x111 w112 =>
  rd (pickV x105 x111 (.bool false)) fun x113 =>
  cnd x113 (fun _ => rd (fldA Pg 36 (e 3) 1) fun x114 =>
  rd (ldV Pg 34 x114 w112) fun x115 =>
  rd (ixA Pg 34 x115 (e 5)) fun x116 =>
  rd (fldA Pg 135 x116 2) fun x117 =>
  rd (fldA Pg 82 x117 0) fun x118 =>
  rd (ldV Pg 80 x118 w112) fun x119 =>
  rd2 (lenG false Pg .len #[80] 3 #[false] [x119] w112) fun x120 w121 =>
  rd2 (binG false Pg .gtr 3 (.tmp 0) (.const .nilFunc) x120 (.int .i64 60) w121) fun x122 w123 =>
  rd2 (gate x122 true (fun _ => rd (fldA Pg 36 (e 3) 1) fun x124 => some (x124, w123)) w123) fun x125 w126 =>
  rd2 (gate x122 true (fun _ => rd (ldV Pg 34 x125 w126) fun x127 => some (x127, w126)) w126) fun x128 w129 =>
  rd2 (gate x122 true (fun _ =>  some ((e 5), w129)) w129) fun x130 w131 =>
  rd2 (gate x122 true (fun _ => rd (ixA Pg 34 x128 x130) fun x132 => some (x132, w131)) w131) fun x133 w134 =>
  rd2 (gate x122 true (fun _ => rd (fldA Pg 135 x133 2) fun x135 => some (x135, w134)) w134) fun x136 w137 =>
  rd2 (gate x122 true (fun _ => rd (fldA Pg 82 x136 0) fun x138 => some (x138, w137)) w137) fun x139 w140 =>
  rd2 (gate x122 true (fun _ => rd (ldV Pg 80 x139 w140) fun x141 => some (x141, w140)) w140) fun x142 w143 =>
  rd2 (gate x122 true (fun _ => rd2 (lenG false Pg .len #[80] 3 #[false] [x142] w143) fun x144 w145 => some (x144, w145)) w143) fun x146 w147 =>
  rd2 (gate x122 true (fun _ => rd2 (binG false Pg .lss 3 (.tmp 0) (.const .nilFunc) x146 (.int .i64 400) w147) fun x148 w149 => some (x148, w149)) w147) fun x150 w151 =>
  rd (pickV x122 x150 (.bool false)) fun x152 =>
  rd2 (gate x152 false (fun _ => rd (fldA Pg 36 (e 3) 1) fun x153 => some (x153, w151)) w151) fun x154 w155 =>
  rd2 (gate x152 false (fun _ => rd (ldV Pg 34 x154 w155) fun x156 => some (x156, w155)) w155) fun x157 w158 =>
  rd2 (gate x152 false (fun _ =>  some ((e 5), w158)) w158) fun x159 w160 =>
  rd2 (gate x152 false (fun _ => rd (ixA Pg 34 x157 x159) fun x161 => some (x161, w160)) w160) fun x162 w163 =>
  rd2 (gate x152 false (fun _ => rd (fldA Pg 135 x162 2) fun x164 => some (x164, w163)) w163) fun x165 w166 =>
  rd2 (gate x152 false (fun _ => rd (fldA Pg 82 x165 0) fun x167 => some (x167, w166)) w166) fun x168 w169 =>
  rd2 (gate x152 false (fun _ => rd (ldV Pg 80 x168 w169) fun x170 => some (x170, w169)) w169) fun x171 w172 =>
  rd2 (gate x152 false (fun _ => rd2 (lenG false Pg .len #[80] 3 #[false] [x171] w172) fun x173 w174 => some (x173, w174)) w172) fun x175 w176 =>
  rd2 (gate x152 false (fun _ => rd2 (binG false Pg .gtr 3 (.tmp 0) (.const .nilFunc) x175 (.int .i64 402) w176) fun x177 w178 => some (x177, w178)) w176) fun x179 w180 =>
  rd (pickV x152 (.bool true) x179) fun x181 =>
  rd2 (gate x181 false (fun _ => rd (fldA Pg 36 (e 3) 1) fun x182 => some (x182, w180)) w180) fun x183 w184 =>
  rd2 (gate x181 false (fun _ => rd (ldV Pg 34 x183 w184) fun x185 => some (x185, w184)) w184) fun x186 w187 =>
  rd2 (gate x181 false (fun _ =>  some ((e 5), w187)) w187) fun x188 w189 =>
  rd2 (gate x181 false (fun _ => rd (ixA Pg 34 x186 x188) fun x190 => some (x190, w189)) w189) fun x191 w192 =>
  rd2 (gate x181 false (fun _ => rd (fldA Pg 135 x191 0) fun x193 => some (x193, w192)) w192) fun x194 w195 =>
  rd2 (gate x181 false (fun _ => rd (ldV Pg 9 x194 w195) fun x196 => some (x196, w195)) w195) fun x197 w198 =>
  rd2 (gate x181 false (fun _ => rd2 (lenG false Pg .len #[9] 3 #[false] [x197] w198) fun x199 w200 => some (x199, w200)) w198) fun x201 w202 =>
  rd2 (gate x181 false (fun _ => rd2 (binG false Pg .gtr 3 (.tmp 0) (.const .nilFunc) x201 (.int .i64 100) w202) fun x203 w204 => some (x203, w204)) w202) fun x205 w206 =>
  rd (pickV x181 (.bool true) x205) fun x207 =>
  cnd x207 (fun _ => shutK (e 62) w206 fun w208 =>
  some ((.bool false), w208)) (fun _ => rd2 (binG false Pg .add 3 (.tmp 0) (.const .nilFunc) (e 5) (.int .i64 1) w206) fun x209 w210 =>
  evalLoop (cx56 F G) (cdA Go.Proofs.Tryz.f56 [1, 0, 1, 0, 0]) (K56_2 F G) (upd (upd (upd (upd (upd (upd (upd (upd (upd (upd (upd (upd (upd (upd (upd (upd (upd (upd (upd (upd (upd (upd (upd (upd (upd (upd (upd (upd (upd (upd (upd (upd (upd (upd (upd (upd (upd (upd (upd (upd (upd (upd (upd (upd (upd (upd (upd (upd (upd (upd (upd (upd (upd e 6 (e 5)) 7 x101) 8 x102) 9 x103) 10 x105) 11 x105) 12 x107) 13 x111) 14 x113) 17 x114) 18 x115) 19 (e 5)) 20 x116) 21 x117) 22 x118) 23 x119) 24 x120) 25 x122) 26 x122) 27 x125) 28 x128) 29 x130) 30 x133) 31 x136) 32 x139) 33 x142) 34 x146) 35 x150) 36 x152) 37 x152) 38 x154) 39 x157) 40 x159) 41 x162) 42 x165) 43 x168) 44 x171) 45 x175) 46 x179) 47 x181) 48 x181) 49 x183) 50 x186) 51 x188) 52 x191) 53 x194) 54 x197) 55 x201) 56 x205) 57 x207) 15 (e 5)) 16 x209) 5 x209) w210)) (fun _ => rd (fldA Pg 36 (e 3) 1) fun x211 =>
  rd (ldV Pg 34 x211 w112) fun x212 =>
  rd2 (lenG false Pg .len #[34] 3 #[false] [x212] w112) fun x213 w214 =>
  rd2 (binG false Pg .leq 3 (.tmp 0) (.const .nilFunc) x213 (.int .i64 30) w214) fun x215 w216 =>
  shutK (e 62) w216 fun w217 =>
  some (x215, w217))
theorem S56_eq (F : FnT) (G : RndT) (x0 x1 : Value) (w0 : World) : evalCode (cx56 F G) (cdA Go.Proofs.Tryz.f56 []) (endK Pg Go.Proofs.Tryz.f56) (envL [x0, x1]) w0 = S56 F G x0 x1 w0 := by kernel_rfl
theorem F56 (x0 x1 : Value) (w0 : World) : Fn Pg 56 [x0, x1] w0 = S56 (Fn Pg) (Rnd Pg) x0 x1 w0 := (Fn_body (c := cdA Go.Proofs.Tryz.f56 []) Go.Proofs.Tryz.func56 (by kernel_rfl) (by kernel_rfl) [x0, x1] w0 (Nat.le_of_ble_eq_true (by kernel_rfl))).trans (S56_eq _ _ x0 x1 w0)
theorem S56_L1_eq (F : FnT) (G : RndT) (e : Env) (w0 : World) : evalLoop (cx56 F G) (cdA Go.Proofs.Tryz.f56 [1, 0, 1, 0, 0]) (K56_2 F G) e w0 = S56_L1 F G e w0 := by
  rw [evalLoop_eq]
  kernel_rfl

-- 61 ciborium/tree.New[[]ciborium/api.Version]
noncomputable def cx61 (F : FnT) (G : RndT) : Ctx := ⟨Pg, F, G, 61, none, 5⟩
noncomputable def S61 (F : FnT) (G : RndT) (w0 : World) : R :=
  rd (bldV Pg 232 []) fun x1 =>
  rd2 (rawV Pg (Instr.box 232 x1) w0) fun x2 w3 =>
  rd (bldV Pg 234 [(0, x2)]) fun x4 =>
  rd2 (rawV Pg (Instr.box 234 x4) w3) fun x5 w6 =>
  some (x5, w6)
theorem S61_eq (F : FnT) (G : RndT) (w0 : World) : evalCode (cx61 F G) (cdA Go.Proofs.Tryz.f61 []) (endK Pg Go.Proofs.Tryz.f61) (envL []) w0 = S61 F G w0 := by kernel_rfl
theorem F61 (w0 : World) : Fn Pg 61 [] w0 = S61 (Fn Pg) (Rnd Pg) w0 := (Fn_body (c := cdA Go.Proofs.Tryz.f61 []) Go.Proofs.Tryz.func61 (by kernel_rfl) (by kernel_rfl) [] w0 (Nat.le_of_ble_eq_true (by kernel_rfl))).trans (S61_eq _ _ w0)

-- 62 (*ciborium/mvcc.Store).none
noncomputable def cx62 (F : FnT) (G : RndT) : Ctx := ⟨Pg, F, G, 62, none, 12⟩
noncomputable def S62 (F : FnT) (G : RndT) (x0 : Value) (w0 : World) : R :=
  rd2 (binG false Pg .eql 28 (.tmp 0) (.const .nilFunc) x0 (.pointer none) w0) fun x2 w3 =>
  rd2 (gate x2 false (fun _ =>  some (x0, w3)) w3) fun x4 w5 =>
  rd2 (gate x2 false (fun _ => rd (nilV x4) fun x6 => some (x6, w5)) w5) fun x7 w8 =>
  rd2 (gate x2 false (fun _ => rd (fldA Pg 144 x7 0) fun x9 => some (x9, w8)) w8) fun x10 w11 =>
  rd2 (gate x2 false (fun _ => rd (ldV Pg 141 x10 w11) fun x12 => some (x12, w11)) w11) fun x13 w14 =>
  rd2 (gate x2 false (fun _ => rd2 (binG false Pg .eql 141 (.tmp 0) (.const .nilFunc) x13 (.pointer none) w14) fun x15 w16 => some (x15, w16)) w14) fun x17 w18 =>
  rd (pickV x2 (.bool true) x17) fun x19 =>
  some (x19, w18)
theorem S62_eq (F : FnT) (G : RndT) (x0 : Value) (w0 : World) : evalCode (cx62 F G) (cdA Go.Proofs.Tryz.f62 []) (endK Pg Go.Proofs.Tryz.f62) (envL [x0]) w0 = S62 F G x0 w0 := by kernel_rfl
theorem F62 (x0 : Value) (w0 : World) : Fn Pg 62 [x0] w0 = S62 (Fn Pg) (Rnd Pg) x0 w0 := (Fn_body (c := cdA Go.Proofs.Tryz.f62 []) Go.Proofs.Tryz.func62 (by kernel_rfl) (by kernel_rfl) [x0] w0 (Nat.le_of_ble_eq_true (by kernel_rfl))).trans (S62_eq _ _ x0 w0)

-- 63 (*ciborium/mvcc.Store).changed
noncomputable def cx63 (F : FnT) (G : RndT) : Ctx := ⟨Pg, F, G, 63, none, 59⟩
noncomputable def K63_0 : FnT → RndT → Exit → Env → World → R := fun _ _ => endK Pg Go.Proofs.Tryz.f63
noncomputable def K63_1 : FnT → RndT → Exit → Env → World → R := fun F G => thenK (evalCode (cx63 F G) (cdA Go.Proofs.Tryz.f63 [1, 1, 1, 1]) (K63_0 F G)) (K63_0 F G)
noncomputable def K63_2 : FnT → RndT → Exit → Env → World → R := fun F G => blkK 0 (K63_1 F G)
noncomputable def S63 (F : FnT) (G : RndT) (x0 x1 : Value) (w0 : World) : R :=
  rd2 (rawV Pg (Instr.box 36 x1) w0) fun x3 w4 =>
  rd (fldA Pg 36 x3 1) fun x5 =>
  rd (ldV Pg 34 x5 w4) fun x6 =>
  rd2 (lenG false Pg .len #[34] 3 #[false] [x6] w4) fun x7 w8 =>
  evalLoop (cx63 F G) (cdA Go.Proofs.Tryz.f63 [1, 1, 1, 0, 1, 0, 0]) (K63_2 F G) (upd (upd (upd (upd (upd (upd (upd (upd (upd (envL [x0, x1]) 3 x3) 4 (.slice none 0 0)) 5 (.bool false)) 6 (.slice none 0 0)) 7 (.string { data := #[] })) 12 x5) 13 x6) 14 x7) 15 (.int .i64 0)) w8
noncomputable def S63_L1 (F : FnT) (G : RndT) (e : Env) (w0 : World) : R :=
  rd2 (binG false Pg .lss 3 (.tmp 0) (.tmp 0) (e 15) (e 14) w0) fun x101 w102 =>
  cnd x101 (fun _ => rd (ixA Pg 34 (e 13) (e 15)) fun x103 =>
  rd (ldV Pg 135 x103 w102) fun x104 =>
  rd2 (rawV Pg (Instr.alloc 135 true (.tuple #[])) w102) fun x105 w106 =>
  rd2 (rawU Pg (Instr.storeAt 135 x105 x104) w106) fun x108 w107 =>
  rd (fldA Pg 135 x105 0) fun x109 =>
  rd (ldV Pg 9 x109 (drw w107)) fun x110 =>
  rd2 (F 70 [(e 0), x110] (drw w107)) fun x111 w112 =>
  rd (fldA Pg 36 (e 3) 0) fun x113 =>
  rd (ldV Pg 23 x113 w112) fun x114 =>
  chk (holdsAt Pg none (.ld 23) x113 x114 (drw w107)) fun _ =>
  rd (fldA Pg 135 x105 1) fun x115 =>
  rd (ldV Pg 4 x115 w112) fun x116 =>
  chk (holdsAt Pg none (.ld 4) x115 x116 (drw w107)) fun _ =>
  rd (fldA Pg 135 x105 2) fun x117 =>
  rd (ldV Pg 82 x117 w112) fun x118 =>
  chk (holdsAt Pg none (.ld 82) x117 x118 (drw w107)) fun _ =>
  rd (bldV Pg 137 [(0, x114), (1, x116), (2, x118)]) fun x119 =>
  rd2 (F 135 [x111, x119] w112) fun x120 w121 =>
  rd (extV x120 0) fun x122 =>
  rd (extV x120 1) fun x123 =>
  rd2 (binG false Pg .neq 40 (.tmp 0) (.const .nilFunc) x123 (.int .i64 0) w121) fun x124 w125 =>
  rd2 (gate x124 false (fun _ => rd (fldA Pg 135 x105 0) fun x126 => some (x126, w125)) w125) fun x127 w128 =>
  rd2 (gate x124 false (fun _ => rd (ldV Pg 9 x127 w128) fun x129 => some (x129, w128)) w128) fun x130 w131 =>
  rd2 (gate x124 false (fun _ => rd2 (F 102 [x130] w131) fun x132 w133 => some (x132, w133)) w131) fun x134 w135 =>
  rd2 (gate x124 false (fun _ => rd (unV .not x134) fun x136 => some (x136, w135)) w135) fun x137 w138 =>
  rd (pickV x124 (.bool true) x137) fun x139 =>
  rd2 (gate x139 false (fun _ => rd (fldA Pg 135 x105 0) fun x140 => some (x140, w138)) w138) fun x141 w142 =>
  rd2 (gate x139 false (fun _ => rd (ldV Pg 9 x141 w142) fun x143 => some (x143, w142)) w142) fun x144 w145 =>
  rd2 (gate x139 false (fun _ =>  some ((e 7), w145)) w145) fun x146 w147 =>
  rd2 (gate x139 false (fun _ => rd2 (binG false Pg .leq 9 (.tmp 0) (.tmp 0) x144 x146 w147) fun x148 w149 => some (x148, w149)) w147) fun x150 w151 =>
  rd (pickV x139 (.bool true) x150) fun x152 =>
  cnd x152 (fun _ => shutK (e 59) w151 fun w153 =>
  some ((.tuple #[(.slice none 0 0), (.bool false)]), w153)) (fun _ => rd (fldA Pg 135 x105 0) fun x154 =>
  rd (ldV Pg 9 x154 w151) fun x155 =>
  rd (fldA Pg 135 x105 0) fun x156 =>
  rd (ldV Pg 9 x156 w151) fun x157 =>
  rd (bldV Pg 149 [(0, x157), (1, x122)]) fun x158 =>
  rd2 (rawV Pg (Instr.buildSlice 145 1 #[(0, x158)]) w151) fun x159 w160 =>
  rd2 (lenG false Pg .append #[145, 145] 145 #[false, false] [(e 6), x159] w160) fun x161 w162 =>
  rd2 (binG false Pg .add 3 (.tmp 0) (.const .nilFunc) (e 15) (.int .i64 1) w162) fun x163 w164 =>
  evalLoop (cx63 F G) (cdA Go.Proofs.Tryz.f63 [1, 1, 1, 0, 1, 0, 0]) (K63_2 F G) (upd (upd (upd (upd (upd (upd (upd (upd (upd (upd (upd (upd (upd (upd (upd (upd (upd (upd (upd (upd (upd (upd (upd (upd (upd (upd (upd (upd (upd (upd (upd (upd (upd (upd (upd (upd (upd (upd (upd (upd (upd (upd (upd (upd (upd (upd (upd (upd e 16 x101) 17 x103) 18 x104) 9 x105) 20 (e 0)) 21 x109) 22 x110) 23 x111) 24 x113) 25 x114) 26 x115) 27 x116) 28 x117) 29 x118) 30 x119) 31 x120) 19 x120) 32 x122) 33 x123) 10 x122) 11 x123) 34 x123) 35 x124) 36 x124) 37 x127) 38 x130) 39 x134) 40 x137) 41 x139) 42 x139) 43 x141) 44 x144) 45 x146) 46 x150) 47 x152) 48 x154) 49 x155) 7 x155) 50 (e 6)) 51 x156) 52 x157) 53 x122) 54 x158) 55 x159) 56 x161) 6 x161) 57 x163) 15 x163) w164)) (fun _ => shutK (e 59) w102 fun w165 =>
  some ((.tuple #[(e 6), (.bool true)]), w165))
theorem S63_eq (F : FnT) (G : RndT) (x0 x1 : Value) (w0 : World) : evalCode (cx63 F G) (cdA Go.Proofs.Tryz.f63 []) (endK Pg Go.Proofs.Tryz.f63) (envL [x0, x1]) w0 = S63 F G x0 x1 w0 := by kernel_rfl
theorem F63 (x0 x1 : Value) (w0 : World) : Fn Pg 63 [x0, x1] w0 = S63 (Fn Pg) (Rnd Pg) x0 x1 w0 := (Fn_body (c := cdA Go.Proofs.Tryz.f63 []) Go.Proofs.Tryz.func63 (by kernel_rfl) (by kernel_rfl) [x0, x1] w0 (Nat.le_of_ble_eq_true (by kernel_rfl))).trans (S63_eq _ _ x0 x1 w0)
theorem S63_L1_eq (F : FnT) (G : RndT) (e : Env) (w0 : World) : evalLoop (cx63 F G) (cdA Go.Proofs.Tryz.f63 [1, 1, 1, 0, 1, 0, 0]) (K63_2 F G) e w0 = S63_L1 F G e w0 := by
  rw [evalLoop_eq]
  kernel_rfl

-- 64 (*ciborium/tree.Tree[[]ciborium/api.Version]).Put
noncomputable def cx64 (F : FnT) (G : RndT) : Ctx := ⟨Pg, F, G, 64, none, 54⟩
noncomputable def S64 (F : FnT) (G : RndT) (x0 x1 x2 : Value) (w0 : World) : R :=
  rd2 (F 136 [x0] w0) fun x4 w5 =>
  cnd x4 (fun _ => some ((.bool false), w5)) (fun _ => rd2 (F 137 [x0, x1] w5) fun x6 w7 =>
  rd2 (binG false Pg .neq 237 (.tmp 0) (.const .nilFunc) x6 (.pointer none) w7) fun x8 w9 =>
  cnd x8 (fun _ => rd (nilV x6) fun x10 =>
  rd (fldA Pg 240 x10 1) fun x11 =>
  rd2 (rawU Pg (Instr.storeAt 43 x11 x2) w9) fun x13 w12 =>
  some ((.bool false), w12)) (fun _ => rd (nilV x0) fun x14 =>
  rd (fldA Pg 234 x14 0) fun x15 =>
  rd (ldV Pg 228 x15 w9) fun x16 =>
  rd2 (F 138 [x16] w9) fun x17 w18 =>
  cnd x17 (fun _ => rd (nilV x0) fun x19 =>
  rd (fldA Pg 234 x19 0) fun x20 =>
  rd (ldV Pg 228 x20 w18) fun x21 =>
  rd2 (rawV Pg (Instr.buildSlice 230 1 #[(0, x21)]) w18) fun x22 w23 =>
  rd (bldV Pg 232 [(1, x22)]) fun x24 =>
  rd2 (rawV Pg (Instr.box 232 x24) w23) fun x25 w26 =>
  rd (nilV x0) fun x27 =>
  rd (fldA Pg 234 x27 0) fun x28 =>
  rd2 (rawU Pg (Instr.storeAt 228 x28 x25) w26) fun x30 w29 =>
  rd (nilV x0) fun x31 =>
  rd (fldA Pg 234 x31 0) fun x32 =>
  rd (ldV Pg 228 x32 w29) fun x33 =>
  rd2 (F 139 [x33, (.int .i64 0)] w29) fun x34 w35 =>
  rd (nilV x0) fun x36 =>
  rd (fldA Pg 234 x36 0) fun x37 =>
  rd (ldV Pg 228 x37 w35) fun x38 =>
  rd (bldV Pg 240 [(0, x1), (1, x2)]) fun x39 =>
  rd2 (F 140 [x38, x39] w35) fun x40 w41 =>
  rd (nilV x0) fun x42 =>
  rd (fldA Pg 234 x42 1) fun x43 =>
  rd (ldV Pg 3 x43 w41) fun x44 =>
  rd2 (binG false Pg .add 3 (.tmp 0) (.const .nilFunc) x44 (.int .i64 1) w41) fun x45 w46 =>
  rd (nilV x0) fun x47 =>
  rd (fldA Pg 234 x47 1) fun x48 =>
  rd2 (rawU Pg (Instr.storeAt 3 x48 x45) w46) fun x50 w49 =>
  some ((.bool true), w49)) (fun _ => rd (nilV x0) fun x51 =>
  rd (fldA Pg 234 x51 0) fun x52 =>
  rd (ldV Pg 228 x52 w18) fun x53 =>
  rd (bldV Pg 240 [(0, x1), (1, x2)]) fun x54 =>
  rd2 (F 140 [x53, x54] w18) fun x55 w56 =>
  rd (nilV x0) fun x57 =>
  rd (fldA Pg 234 x57 1) fun x58 =>
  rd (ldV Pg 3 x58 w56) fun x59 =>
  rd2 (binG false Pg .add 3 (.tmp 0) (.const .nilFunc) x59 (.int .i64 1) w56) fun x60 w61 =>
  rd (nilV x0) fun x62 =>
  rd (fldA Pg 234 x62 1) fun x63 =>
  rd2 (rawU Pg (Instr.storeAt 3 x63 x60) w61) fun x65 w64 =>
  some ((.bool true), w64))))
theorem S64_eq (F : FnT) (G : RndT) (x0 x1 x2 : Value) (w0 : World) : evalCode (cx64 F G) (cdA Go.Proofs.Tryz.f64 []) (endK Pg Go.Proofs.Tryz.f64) (envL [x0, x1, x2]) w0 = S64 F G x0 x1 x2 w0 := by kernel_rfl
theorem F64 (x0 x1 x2 : Value) (w0 : World) : Fn Pg 64 [x0, x1, x2] w0 = S64 (Fn Pg) (Rnd Pg) x0 x1 x2 w0 := (Fn_body (c := cdA Go.Proofs.Tryz.f64 []) Go.Proofs.Tryz.func64 (by kernel_rfl) (by kernel_rfl) [x0, x1, x2] w0 (Nat.le_of_ble_eq_true (by kernel_rfl))).trans (S64_eq _ _ x0 x1 x2 w0)

-- 77 (*ciborium/mvcc.Store).rows
noncomputable def cx77 (F : FnT) (G : RndT) : Ctx := ⟨Pg, F, G, 77, none, 34⟩
noncomputable def K77_0 : FnT → RndT → Exit → Env → World → R := fun _ _ => endK Pg Go.Proofs.Tryz.f77
noncomputable def K77_1 : FnT → RndT → Exit → Env → World → R := fun F G => blkK 0 (K77_0 F G)
noncomputable def S77 (F : FnT) (G : RndT) (x0 x1 x2 : Value) (w0 : World) : R :=
  rd2 (rawV Pg (Instr.box 25 x1) w0) fun x4 w5 =>
  rd2 (F 62 [x0] w5) fun x6 w7 =>
  cnd x6 (fun _ => some ((.tuple #[]), w7)) (fun _ => rd (nilV x0) fun x8 =>
  rd (fldA Pg 144 x8 0) fun x9 =>
  rd (ldV Pg 141 x9 (drw w7)) fun x10 =>
  rd (ldV Pg 25 x4 (drw w7)) fun x11 =>
  rd (nilV x0) fun x12 =>
  rd (fldA Pg 144 x12 0) fun x13 =>
  rd (ldV Pg 141 x13 (drw w7)) fun x14 =>
  rd2 (F 155 [x14] (drw w7)) fun x15 w16 =>
  chk (holdsAt Pg none (.ld 25) x4 x11 w16) fun _ =>
  chk (holdsAt Pg none (.ld 141) x9 x10 w16) fun _ =>
  rd2 (F 154 [x10, x11, x15] w16) fun x17 w18 =>
  rd2 (lenG true Pg .len #[229] 3 #[false] [x17] w18) fun x19 _ =>
  evalLoop (cx77 F G) (cdA Go.Proofs.Tryz.f77 [1, 1, 1, 0, 0]) (K77_1 F G) (upd (upd (upd (upd (upd (upd (upd (upd (upd (upd (upd (upd (upd (upd (upd (upd (envL [x0, x1, x2]) 4 x4) 8 x0) 9 x6) 10 x0) 11 x8) 12 x9) 13 x10) 14 x11) 15 x0) 16 x12) 17 x13) 18 x14) 19 x15) 20 x17) 21 x19) 22 (.int .i64 0)) w18)
noncomputable def S77_L1 (F : FnT) (G : RndT) (e : Env) (w0 : World) : R :=
  rd2 (binG false Pg .lss 3 (.tmp 0) (.tmp 0) (e 22) (e 21) w0) fun x101 w102 =>
  cnd x101 (fun _ => rd (ixA Pg 229 (e 20) (e 22)) fun x103 =>
  rd (ldV Pg 240 x103 w102) fun x104 =>
  rd2 (rawV Pg (Instr.alloc 240 true (.tuple #[])) w102) fun x105 w106 =>
  rd2 (rawU Pg (Instr.storeAt 240 x105 x104) w106) fun x108 w107 =>
  rd (fldA Pg 240 x105 0) fun x109 =>
  rd (ldV Pg 9 x109 w107) fun x110 =>
  rd (fldA Pg 240 x105 1) fun x111 =>
  rd (ldV Pg 43 x111 w107) fun x112 =>
  rd2 (callV (cx77 F G) (e 2) [x110, x112] w107) fun x113 w114 =>
  rd (unV .not x113) fun x115 =>
  cnd x115 (fun _ => shutK (e 34) w114 fun w116 =>
  some ((.tuple #[]), w116)) (fun _ => rd2 (binG false Pg .add 3 (.tmp 0) (.const .nilFunc) (e 22) (.int .i64 1) w114) fun x117 w118 =>
  evalLoop (cx77 F G) (cdA Go.Proofs.Tryz.f77 [1, 1, 1, 0, 0]) (K77_1 F G) (upd (upd (upd (upd (upd (upd (upd (upd (upd (upd (upd (upd (upd e 23 x101) 24 x103) 25 x104) 7 x105) 26 (e 2)) 27 x109) 28 x110) 29 x111) 30 x112) 31 x113) 32 x115) 33 x117) 22 x117) w118)) (fun _ => shutK (e 34) w102 fun w119 =>
  some ((.tuple #[]), w119))
theorem S77_eq (F : FnT) (G : RndT) (x0 x1 x2 : Value) (w0 : World) : evalCode (cx77 F G) (cdA Go.Proofs.Tryz.f77 []) (endK Pg Go.Proofs.Tryz.f77) (envL [x0, x1, x2]) w0 = S77 F G x0 x1 x2 w0 := by kernel_rfl
theorem F77 (x0 x1 x2 : Value) (w0 : World) : Fn Pg 77 [x0, x1, x2] w0 = S77 (Fn Pg) (Rnd Pg) x0 x1 x2 w0 := (Fn_body (c := cdA Go.Proofs.Tryz.f77 []) Go.Proofs.Tryz.func77 (by kernel_rfl) (by kernel_rfl) [x0, x1, x2] w0 (Nat.le_of_ble_eq_true (by kernel_rfl))).trans (S77_eq _ _ x0 x1 x2 w0)
theorem S77_L1_eq (F : FnT) (G : RndT) (e : Env) (w0 : World) : evalLoop (cx77 F G) (cdA Go.Proofs.Tryz.f77 [1, 1, 1, 0, 0]) (K77_1 F G) e w0 = S77_L1 F G e w0 := by
  rw [evalLoop_eq]
  kernel_rfl

-- 78 (*ciborium/mvcc.Store).Rows$1
noncomputable def cx78 (F : FnT) (G : RndT) : Ctx := ⟨Pg, F, G, 78, none, 21⟩
noncomputable def S78 (F : FnT) (G : RndT) (x0 x1 x2 : Value) (w0 : World) : R :=
  rd2 (F 76 [x1] w0) fun x4 w5 =>
  rd2 (F 69 [x1, x4] w5) fun x6 w7 =>
  rd (extV x6 0) fun x8 =>
  rd (extV x6 1) fun x9 =>
  rd (ldV Pg 31 x2 w7) fun x10 =>
  rd (bldV Pg 159 [(0, x0), (1, x8)]) fun x11 =>
  rd2 (rawV Pg (Instr.buildSlice 31 1 #[(0, x11)]) w7) fun x12 w13 =>
  rd2 (lenG false Pg .append #[31, 31] 31 #[false, false] [x10, x12] w13) fun x14 w15 =>
  rd2 (rawU Pg (Instr.storeAt 31 x2 x14) w15) fun x17 w16 =>
  some ((.bool true), w16)
theorem S78_eq (F : FnT) (G : RndT) (x0 x1 x2 : Value) (w0 : World) : evalCode (cx78 F G) (cdA Go.Proofs.Tryz.f78 []) (endK Pg Go.Proofs.Tryz.f78) (envL [x0, x1, x2]) w0 = S78 F G x0 x1 x2 w0 := by kernel_rfl
theorem F78 (x0 x1 x2 : Value) (w0 : World) : Fn Pg 78 [x0, x1, x2] w0 = S78 (Fn Pg) (Rnd Pg) x0 x1 x2 w0 := (Fn_body (c := cdA Go.Proofs.Tryz.f78 []) Go.Proofs.Tryz.func78 (by kernel_rfl) (by kernel_rfl) [x0, x1, x2] w0 (Nat.le_of_ble_eq_true (by kernel_rfl))).trans (S78_eq _ _ x0 x1 x2 w0)

-- 69 ciborium/chain.Prune
noncomputable def cx69 (F : FnT) (G : RndT) : Ctx := ⟨Pg, F, G, 69, none, 75⟩
noncomputable def K69_0 : FnT → RndT → Exit → Env → World → R := fun _ _ => endK Pg Go.Proofs.Tryz.f69
noncomputable def K69_1 : FnT → RndT → Exit → Env → World → R := fun F G => thenK (evalCode (cx69 F G) (cdA Go.Proofs.Tryz.f69 [1, 1, 1, 1]) (K69_0 F G)) (K69_0 F G)
noncomputable def K69_2 : FnT → RndT → Exit → Env → World → R := fun F G => blkK 0 (K69_1 F G)
noncomputable def K69_3 : FnT → RndT → Exit → Env → World → R := fun F G => thenK (evalCode (cx69 F G) (cdA Go.Proofs.Tryz.f69 [1, 1, 1, 1, 1, 1, 1]) (K69_0 F G)) (K69_0 F G)
noncomputable def K69_4 : FnT → RndT → Exit → Env → World → R := fun F G => blkK 2 (K69_3 F G)
noncomputable def S69 (F : FnT) (G : RndT) (x0 x1 : Value) (w0 : World) : R :=
  rd2 (rawV Pg (Instr.makeMap 248 none) w0) fun x3 w4 =>
  rd2 (rawU Pg (Instr.mapUpdate 248 x3 (.int .i64 0) (.bool true)) w4) fun x6 w5 =>
  rd2 (F 144 [x0] w5) fun x7 w8 =>
  rd (unV .not x7) fun x9 =>
  rd2 (lenG false Pg .len #[37] 3 #[false] [x1] w8) fun x10 w11 =>
  evalLoop (cx69 F G) (cdA Go.Proofs.Tryz.f69 [1, 1, 1, 0, 1, 0, 0]) (K69_2 F G) (upd (upd (upd (upd (upd (upd (upd (upd (upd (upd (upd (upd (envL [x0, x1]) 4 (.slice none 0 0)) 5 (.slice none 0 0)) 16 x3) 17 x3) 6 x3) 18 x0) 19 x7) 20 x9) 7 x9) 21 x1) 22 x10) 23 (.int .i64 0)) w11
noncomputable def S69_L1 (F : FnT) (G : RndT) (e : Env) (w0 : World) : R :=
  rd2 (binG false Pg .lss 3 (.tmp 0) (.tmp 0) (e 23) (e 22) w0) fun x101 w102 =>
  cnd x101 (fun _ => rd (ixA Pg 37 (e 21) (e 23)) fun x103 =>
  rd (ldV Pg 23 x103 w102) fun x104 =>
  rd2 (F 145 [(e 0), x104] w102) fun x105 w106 =>
  rd2 (lenG false Pg .len #[43] 3 #[false] [(e 0)] w106) fun x107 w108 =>
  rd2 (binG false Pg .lss 3 (.tmp 0) (.tmp 0) x105 x107 w108) fun x109 w110 =>
  cnd x109 (fun _ => rd2 (rawU Pg (Instr.mapUpdate 248 (e 6) x105 (.bool true)) w110) fun x112 w111 =>
  rd2 (binG false Pg .add 3 (.tmp 0) (.const .nilFunc) (e 23) (.int .i64 1) w111) fun x113 w114 =>
  evalLoop (cx69 F G) (cdA Go.Proofs.Tryz.f69 [1, 1, 1, 0, 1, 0, 0]) (K69_2 F G) (upd (upd (upd (upd (upd (upd (upd (upd (upd (upd (upd (upd (upd (upd (upd (upd e 24 x101) 25 x103) 26 x104) 9 x104) 27 (e 0)) 28 x104) 29 x105) 10 x105) 30 x105) 31 (e 0)) 32 x107) 33 x109) 34 (e 6)) 35 x105) 36 x113) 23 x113) w114) (fun _ => rd2 (binG false Pg .add 3 (.tmp 0) (.const .nilFunc) (e 23) (.int .i64 1) w110) fun x115 w116 =>
  evalLoop (cx69 F G) (cdA Go.Proofs.Tryz.f69 [1, 1, 1, 0, 1, 0, 0]) (K69_2 F G) (upd (upd (upd (upd (upd (upd (upd (upd (upd (upd (upd (upd (upd (upd e 24 x101) 25 x103) 26 x104) 9 x104) 27 (e 0)) 28 x104) 29 x105) 10 x105) 30 x105) 31 (e 0)) 32 x107) 33 x109) 36 x115) 23 x115) w116)) (fun _ => rd (unV .not (e 7)) fun x117 =>
  rd2 (gate x117 true (fun _ =>  some ((e 0), w102)) w102) fun x118 w119 =>
  rd2 (gate x117 true (fun _ =>  some ((e 6), w119)) w119) fun x120 w121 =>
  rd2 (gate x117 true (fun _ =>  some ((e 1), w121)) w121) fun x122 w123 =>
  rd2 (gate x117 true (fun _ => rd2 (F 146 [x118, x120, x122] w123) fun x124 w125 => some (x124, w125)) w123) fun x126 w127 =>
  rd (pickV x117 x126 (.bool false)) fun x128 =>
  rd2 (lenG false Pg .len #[43] 3 #[false] [(e 0)] w127) fun x129 w130 =>
  evalLoop (cx69 F G) (cdA Go.Proofs.Tryz.f69 [1, 1, 1, 1, 1, 1, 0, 1, 0, 0]) (K69_4 F G) (upd (upd (upd (upd (upd (upd (upd (upd (upd (upd (upd (upd (upd (upd (upd e 24 x101) 37 (e 7)) 38 x117) 39 x117) 40 x118) 41 x120) 42 x122) 43 x126) 44 x128) 11 x128) 12 (.slice none 0 0)) 13 (.slice none 0 0)) 45 (e 0)) 46 x129) 47 (.int .i64 0)) w130)
noncomputable def S69_L2 (F : FnT) (G : RndT) (e : Env) (w0 : World) : R :=
  rd2 (binG false Pg .lss 3 (.tmp 0) (.tmp 0) (e 47) (e 46) w0) fun x101 w102 =>
  cnd x101 (fun _ => rd (ixA Pg 43 (e 45) (e 47)) fun x103 =>
  rd (ldV Pg 137 x103 w102) fun x104 =>
  rd2 (rawV Pg (Instr.alloc 137 true (.tuple #[])) w102) fun x105 w106 =>
  rd2 (rawU Pg (Instr.storeAt 137 x105 x104) w106) fun x108 w107 =>
  rd2 (gate (e 7) false (fun _ =>  some ((e 6), w107)) w107) fun x109 w110 =>
  rd2 (gate (e 7) false (fun _ =>  some ((e 47), w110)) w110) fun x111 w112 =>
  rd2 (gate (e 7) false (fun _ => rd2 (rawV Pg (Instr.lookup 248 x109 x111 false) w112) fun x113 w114 => some (x113, w114)) w112) fun x115 w116 =>
  rd2 (gate (e 7) false (fun _ =>  some (x115, w116)) w116) fun x117 w118 =>
  rd2 (gate x117 true (fun _ =>  some ((e 11), w118)) w118) fun x119 w120 =>
  rd2 (gate x117 true (fun _ => rd (unV .not x119) fun x121 => some (x121, w120)) w120) fun x122 w123 =>
  rd2 (gate (e 7) false (fun _ => rd (pickV x117 x122 (.bool false)) fun x124 => some (x124, w123)) w123) fun x125 w126 =>
  rd (pickV (e 7) (.bool true) x125) fun x127 =>
  cnd x127 (fun _ => rd (ldV Pg 137 x105 w126) fun x128 =>
  rd2 (F 147 [x128] w126) fun x129 w130 =>
  rd2 (rawV Pg (Instr.buildSlice 43 1 #[(0, x129)]) w130) fun x131 w132 =>
  rd2 (lenG false Pg .append #[43, 43] 43 #[false, false] [(e 12), x131] w132) fun x133 w134 =>
  rd2 (binG false Pg .add 3 (.tmp 0) (.const .nilFunc) (e 47) (.int .i64 1) w134) fun x135 w136 =>
  evalLoop (cx69 F G) (cdA Go.Proofs.Tryz.f69 [1, 1, 1, 1, 1, 1, 0, 1, 0, 0]) (K69_4 F G) (upd (upd (upd (upd (upd (upd (upd (upd (upd (upd (upd (upd (upd (upd (upd (upd (upd (upd (upd (upd (upd (upd (upd (upd e 48 x101) 49 (e 47)) 50 x103) 51 x104) 15 x105) 14 (e 47)) 52 (e 7)) 53 (e 7)) 54 x109) 55 x111) 56 x115) 57 x117) 58 x119) 59 x122) 60 x125) 61 x127) 62 (e 12)) 63 x128) 64 x129) 65 x131) 66 x133) 12 x133) 72 x135) 47 x135) w136) (fun _ => rd (ldV Pg 137 x105 w126) fun x137 =>
  rd2 (F 147 [x137] w126) fun x138 w139 =>
  rd2 (rawV Pg (Instr.buildSlice 43 1 #[(0, x138)]) w139) fun x140 w141 =>
  rd2 (lenG false Pg .append #[43, 43] 43 #[false, false] [(e 13), x140] w141) fun x142 w143 =>
  rd2 (binG false Pg .add 3 (.tmp 0) (.const .nilFunc) (e 47) (.int .i64 1) w143) fun x144 w145 =>
  evalLoop (cx69 F G) (cdA Go.Proofs.Tryz.f69 [1, 1, 1, 1, 1, 1, 0, 1, 0, 0]) (K69_4 F G) (upd (upd (upd (upd (upd (upd (upd (upd (upd (upd (upd (upd (upd (upd (upd (upd (upd (upd (upd (upd (upd (upd (upd (upd e 48 x101) 49 (e 47)) 50 x103) 51 x104) 15 x105) 14 (e 47)) 52 (e 7)) 53 (e 7)) 54 x109) 55 x111) 56 x115) 57 x117) 58 x119) 59 x122) 60 x125) 61 x127) 67 (e 13)) 68 x137) 69 x138) 70 x140) 71 x142) 13 x142) 72 x144) 47 x144) w145)) (fun _ => shutK (e 75) w102 fun w146 =>
  some ((.tuple #[(e 12), (e 13)]), w146))
theorem S69_eq (F : FnT) (G : RndT) (x0 x1 : Value) (w0 : World) : evalCode (cx69 F G) (cdA Go.Proofs.Tryz.f69 []) (endK Pg Go.Proofs.Tryz.f69) (envL [x0, x1]) w0 = S69 F G x0 x1 w0 := by kernel_rfl
theorem F69 (x0 x1 : Value) (w0 : World) : Fn Pg 69 [x0, x1] w0 = S69 (Fn Pg) (Rnd Pg) x0 x1 w0 := (Fn_body (c := cdA Go.Proofs.Tryz.f69 []) Go.Proofs.Tryz.func69 (by kernel_rfl) (by kernel_rfl) [x0, x1] w0 (Nat.le_of_ble_eq_true (by kernel_rfl))).trans (S69_eq _ _ x0 x1 w0)
theorem S69_L1_eq (F : FnT) (G : RndT) (e : Env) (w0 : World) : evalLoop (cx69 F G) (cdA Go.Proofs.Tryz.f69 [1, 1, 1, 0, 1, 0, 0]) (K69_2 F G) e w0 = S69_L1 F G e w0 := by
  rw [evalLoop_eq]
  kernel_rfl
theorem S69_L2_eq (F : FnT) (G : RndT) (e : Env) (w0 : World) : evalLoop (cx69 F G) (cdA Go.Proofs.Tryz.f69 [1, 1, 1, 1, 1, 1, 0, 1, 0, 0]) (K69_4 F G) e w0 = S69_L2 F G e w0 := by
  rw [evalLoop_eq]
  kernel_rfl

-- 76 ciborium/mvcc.everything
noncomputable def cx76 (F : FnT) (G : RndT) : Ctx := ⟨Pg, F, G, 76, none, 26⟩
noncomputable def K76_0 : FnT → RndT → Exit → Env → World → R := fun _ _ => endK Pg Go.Proofs.Tryz.f76
noncomputable def K76_1 : FnT → RndT → Exit → Env → World → R := fun F G => thenK (evalCode (cx76 F G) (cdA Go.Proofs.Tryz.f76 [1, 1, 1, 1]) (K76_0 F G)) (K76_0 F G)
noncomputable def K76_2 : FnT → RndT → Exit → Env → World → R := fun F G => blkK 0 (K76_1 F G)
noncomputable def S76 (F : FnT) (G : RndT) (x0 : Value) (w0 : World) : R :=
  rd2 (lenG false Pg .len #[43] 3 #[false] [x0] w0) fun x2 w3 =>
  rd2 (binG false Pg .add 3 (.tmp 0) (.const .nilFunc) x2 (.int .i64 1) w3) fun x4 w5 =>
  rd2 (rawV Pg (Instr.makeSlice 37 (.int .i64 0) x4) w5) fun x6 w7 =>
  rd2 (rawV Pg (Instr.buildSlice 37 1 #[(0, (.int .u64 0))]) w7) fun x8 w9 =>
  rd2 (lenG false Pg .append #[37, 37] 37 #[false, false] [x6, x8] w9) fun x10 w11 =>
  rd2 (lenG false Pg .len #[43] 3 #[false] [x0] w11) fun x12 w13 =>
  evalLoop (cx76 F G) (cdA Go.Proofs.Tryz.f76 [1, 1, 1, 0, 1, 0, 0]) (K76_2 F G) (upd (upd (upd (upd (upd (upd (upd (upd (upd (upd (upd (upd (upd (envL [x0]) 2 (.slice none 0 0)) 6 x0) 7 x2) 8 x4) 9 x6) 3 x6) 10 x6) 11 x8) 12 x10) 3 x10) 13 x0) 14 x12) 15 (.int .i64 0)) w13
noncomputable def S76_L1 (F : FnT) (G : RndT) (e : Env) (w0 : World) : R :=
  rd2 (binG false Pg .lss 3 (.tmp 0) (.tmp 0) (e 15) (e 14) w0) fun x101 w102 =>
  cnd x101 (fun _ => rd (ixA Pg 43 (e 13) (e 15)) fun x103 =>
  rd (ldV Pg 137 x103 w102) fun x104 =>
  rd2 (rawV Pg (Instr.alloc 137 true (.tuple #[])) w102) fun x105 w106 =>
  rd2 (rawU Pg (Instr.storeAt 137 x105 x104) w106) fun x108 w107 =>
  rd (fldA Pg 137 x105 0) fun x109 =>
  rd (ldV Pg 23 x109 w107) fun x110 =>
  rd2 (rawV Pg (Instr.buildSlice 37 1 #[(0, x110)]) w107) fun x111 w112 =>
  rd2 (lenG false Pg .append #[37, 37] 37 #[false, false] [(e 3), x111] w112) fun x113 w114 =>
  rd2 (binG false Pg .add 3 (.tmp 0) (.const .nilFunc) (e 15) (.int .i64 1) w114) fun x115 w116 =>
  evalLoop (cx76 F G) (cdA Go.Proofs.Tryz.f76 [1, 1, 1, 0, 1, 0, 0]) (K76_2 F G) (upd (upd (upd (upd (upd (upd (upd (upd (upd (upd (upd (upd e 16 x101) 17 x103) 18 x104) 5 x105) 19 (e 3)) 20 x109) 21 x110) 22 x111) 23 x113) 3 x113) 24 x115) 15 x115) w116) (fun _ => shutK (e 26) w102 fun w117 =>
  some ((e 3), w117))
theorem S76_eq (F : FnT) (G : RndT) (x0 : Value) (w0 : World) : evalCode (cx76 F G) (cdA Go.Proofs.Tryz.f76 []) (endK Pg Go.Proofs.Tryz.f76) (envL [x0]) w0 = S76 F G x0 w0 := by kernel_rfl
theorem F76 (x0 : Value) (w0 : World) : Fn Pg 76 [x0] w0 = S76 (Fn Pg) (Rnd Pg) x0 w0 := (Fn_body (c := cdA Go.Proofs.Tryz.f76 []) Go.Proofs.Tryz.func76 (by kernel_rfl) (by kernel_rfl) [x0] w0 (Nat.le_of_ble_eq_true (by kernel_rfl))).trans (S76_eq _ _ x0 w0)
theorem S76_L1_eq (F : FnT) (G : RndT) (e : Env) (w0 : World) : evalLoop (cx76 F G) (cdA Go.Proofs.Tryz.f76 [1, 1, 1, 0, 1, 0, 0]) (K76_2 F G) e w0 = S76_L1 F G e w0 := by
  rw [evalLoop_eq]
  kernel_rfl

-- 130 ciborium/mvcc.added[ciborium/api.Row]
noncomputable def cx130 (F : FnT) (G : RndT) : Ctx := ⟨Pg, F, G, 130, none, 21⟩
noncomputable def K130_0 : FnT → RndT → Exit → Env → World → R := fun _ _ => endK Pg Go.Proofs.Tryz.f130
noncomputable def K130_1 : FnT → RndT → Exit → Env → World → R := fun F G => thenK (evalCode (cx130 F G) (cdA Go.Proofs.Tryz.f130 [1, 1, 1]) (K130_0 F G)) (K130_0 F G)
noncomputable def K130_2 : FnT → RndT → Exit → Env → World → R := fun F G => blkK 0 (K130_1 F G)
noncomputable def S130 (F : FnT) (G : RndT) (x0 x1 : Value) (w0 : World) : R :=
  rd2 (lenG false Pg .len #[31] 3 #[false] [x0] w0) fun x3 w4 =>
  evalLoop (cx130 F G) (cdA Go.Proofs.Tryz.f130 [1, 1, 0, 1, 0, 0]) (K130_2 F G) (upd (upd (upd (upd (upd (envL [x0, x1]) 4 (.int .i64 0)) 5 (.int .i64 0)) 8 x0) 9 x3) 10 (.int .i64 0)) w4
noncomputable def S130_L1 (F : FnT) (G : RndT) (e : Env) (w0 : World) : R :=
  rd2 (binG false Pg .lss 3 (.tmp 0) (.tmp 0) (e 10) (e 9) w0) fun x101 w102 =>
  cnd x101 (fun _ => rd (ixA Pg 31 (e 8) (e 10)) fun x103 =>
  rd (ldV Pg 159 x103 w102) fun x104 =>
  rd2 (rawV Pg (Instr.alloc 159 true (.tuple #[])) w102) fun x105 w106 =>
  rd2 (rawU Pg (Instr.storeAt 159 x105 x104) w106) fun x108 w107 =>
  rd (ldV Pg 159 x105 w107) fun x109 =>
  rd2 (callV (cx130 F G) (e 1) [x109] w107) fun x110 w111 =>
  rd2 (binG false Pg .add 3 (.tmp 0) (.tmp 0) (e 5) x110 w111) fun x112 w113 =>
  rd2 (binG false Pg .add 3 (.tmp 0) (.const .nilFunc) (e 10) (.int .i64 1) w113) fun x114 w115 =>
  evalLoop (cx130 F G) (cdA Go.Proofs.Tryz.f130 [1, 1, 0, 1, 0, 0]) (K130_2 F G) (upd (upd (upd (upd (upd (upd (upd (upd (upd (upd (upd (upd e 11 x101) 12 x103) 13 x104) 7 x105) 14 (e 5)) 15 (e 1)) 16 x109) 17 x110) 18 x112) 5 x112) 19 x114) 10 x114) w115) (fun _ => shutK (e 21) w102 fun w116 =>
  some ((e 5), w116))
theorem S130_eq (F : FnT) (G : RndT) (x0 x1 : Value) (w0 : World) : evalCode (cx130 F G) (cdA Go.Proofs.Tryz.f130 []) (endK Pg Go.Proofs.Tryz.f130) (envL [x0, x1]) w0 = S130 F G x0 x1 w0 := by kernel_rfl
theorem F130 (x0 x1 : Value) (w0 : World) : Fn Pg 130 [x0, x1] w0 = S130 (Fn Pg) (Rnd Pg) x0 x1 w0 := (Fn_body (c := cdA Go.Proofs.Tryz.f130 []) Go.Proofs.Tryz.func130 (by kernel_rfl) (by kernel_rfl) [x0, x1] w0 (Nat.le_of_ble_eq_true (by kernel_rfl))).trans (S130_eq _ _ x0 x1 w0)
theorem S130_L1_eq (F : FnT) (G : RndT) (e : Env) (w0 : World) : evalLoop (cx130 F G) (cdA Go.Proofs.Tryz.f130 [1, 1, 0, 1, 0, 0]) (K130_2 F G) e w0 = S130_L1 F G e w0 := by
  rw [evalLoop_eq]
  kernel_rfl

-- 132 (*ciborium/mvcc.Store).Versions$1
noncomputable def cx132 (F : FnT) (G : RndT) : Ctx := ⟨Pg, F, G, 132, none, 6⟩
noncomputable def S132 (F : FnT) (G : RndT) (x0 : Value) (w0 : World) : R :=
  rd2 (rawV Pg (Instr.box 159 x0) w0) fun x2 w3 =>
  rd (fldA Pg 159 x2 1) fun x4 =>
  rd (ldV Pg 43 x4 w3) fun x5 =>
  rd2 (lenG false Pg .len #[43] 3 #[false] [x5] w3) fun x6 w7 =>
  some (x6, w7)
theorem S132_eq (F : FnT) (G : RndT) (x0 : Value) (w0 : World) : evalCode (cx132 F G) (cdA Go.Proofs.Tryz.f132 []) (endK Pg Go.Proofs.Tryz.f132) (envL [x0]) w0 = S132 F G x0 w0 := by kernel_rfl
theorem F132 (x0 : Value) (w0 : World) : Fn Pg 132 [x0] w0 = S132 (Fn Pg) (Rnd Pg) x0 w0 := (Fn_body (c := cdA Go.Proofs.Tryz.f132 []) Go.Proofs.Tryz.func132 (by kernel_rfl) (by kernel_rfl) [x0] w0 (Nat.le_of_ble_eq_true (by kernel_rfl))).trans (S132_eq _ _ x0 w0)

-- 131 (*ciborium/mvcc.Store).Live$1
noncomputable def cx131 (F : FnT) (G : RndT) : Ctx := ⟨Pg, F, G, 131, none, 8⟩
noncomputable def S131 (F : FnT) (G : RndT) (x0 : Value) (w0 : World) : R :=
  rd2 (rawV Pg (Instr.box 159 x0) w0) fun x2 w3 =>
  rd (fldA Pg 159 x2 1) fun x4 =>
  rd (ldV Pg 43 x4 w3) fun x5 =>
  rd (ixA Pg 43 x5 (.int .i64 0)) fun x6 =>
  rd (fldA Pg 137 x6 1) fun x7 =>
  rd (ldV Pg 4 x7 w3) fun x8 =>
  cnd x8 (fun _ => some ((.int .i64 0), w3)) (fun _ => some ((.int .i64 1), w3))
theorem S131_eq (F : FnT) (G : RndT) (x0 : Value) (w0 : World) : evalCode (cx131 F G) (cdA Go.Proofs.Tryz.f131 []) (endK Pg Go.Proofs.Tryz.f131) (envL [x0]) w0 = S131 F G x0 w0 := by kernel_rfl
theorem F131 (x0 : Value) (w0 : World) : Fn Pg 131 [x0] w0 = S131 (Fn Pg) (Rnd Pg) x0 w0 := (Fn_body (c := cdA Go.Proofs.Tryz.f131 []) Go.Proofs.Tryz.func131 (by kernel_rfl) (by kernel_rfl) [x0] w0 (Nat.le_of_ble_eq_true (by kernel_rfl))).trans (S131_eq _ _ x0 w0)

-- 133 (*ciborium/mvcc.Store).Scan$1
noncomputable def cx133 (F : FnT) (G : RndT) : Ctx := ⟨Pg, F, G, 133, none, 27⟩
noncomputable def S133 (F : FnT) (G : RndT) (x0 x1 x2 x3 x4 : Value) (w0 : World) : R :=
  rd (ldV Pg 87 x2 w0) fun x6 =>
  rd2 (lenG false Pg .len #[87] 3 #[false] [x6] w0) fun x7 w8 =>
  rd (ldV Pg 3 x3 w8) fun x9 =>
  rd2 (binG false Pg .geq 3 (.tmp 0) (.tmp 0) x7 x9 w8) fun x10 w11 =>
  cnd x10 (fun _ => some ((.bool false), w11)) (fun _ => rd (ldV Pg 23 x4 w11) fun x12 =>
  rd2 (F 134 [x1, x12] w11) fun x13 w14 =>
  rd (extV x13 0) fun x15 =>
  rd (extV x13 1) fun x16 =>
  rd2 (rawV Pg (Instr.alloc 82 true (.tuple #[])) w14) fun x17 w18 =>
  rd2 (rawU Pg (Instr.storeAt 82 x17 x15) w18) fun x20 w19 =>
  cnd x16 (fun _ => rd (ldV Pg 87 x2 w19) fun x21 =>
  rd (ldV Pg 82 x17 w19) fun x22 =>
  rd (bldV Pg 84 [(0, x0), (3, x22)]) fun x23 =>
  rd2 (rawV Pg (Instr.buildSlice 87 1 #[(0, x23)]) w19) fun x24 w25 =>
  rd2 (lenG false Pg .append #[87, 87] 87 #[false, false] [x21, x24] w25) fun x26 w27 =>
  rd2 (rawU Pg (Instr.storeAt 87 x2 x26) w27) fun x29 w28 =>
  some ((.bool true), w28)) (fun _ => some ((.bool true), w19)))
theorem S133_eq (F : FnT) (G : RndT) (x0 x1 x2 x3 x4 : Value) (w0 : World) : evalCode (cx133 F G) (cdA Go.Proofs.Tryz.f133 []) (endK Pg Go.Proofs.Tryz.f133) (envL [x0, x1, x2, x3, x4]) w0 = S133 F G x0 x1 x2 x3 x4 w0 := by kernel_rfl
theorem F133 (x0 x1 x2 x3 x4 : Value) (w0 : World) : Fn Pg 133 [x0, x1, x2, x3, x4] w0 = S133 (Fn Pg) (Rnd Pg) x0 x1 x2 x3 x4 w0 := (Fn_body (c := cdA Go.Proofs.Tryz.f133 []) Go.Proofs.Tryz.func133 (by kernel_rfl) (by kernel_rfl) [x0, x1, x2, x3, x4] w0 (Nat.le_of_ble_eq_true (by kernel_rfl))).trans (S133_eq _ _ x0 x1 x2 x3 x4 w0)

-- 134 ciborium/chain.Value
noncomputable def cx134 (F : FnT) (G : RndT) : Ctx := ⟨Pg, F, G, 134, none, 23⟩
noncomputable def S134 (F : FnT) (G : RndT) (x0 x1 : Value) (w0 : World) : R :=
  rd2 (rawV Pg (Instr.alloc 82 true (.tuple #[])) w0) fun x3 w4 =>
  rd2 (F 129 [x0, x1] w4) fun x5 w6 =>
  rd (extV x5 0) fun x7 =>
  rd (extV x5 1) fun x8 =>
  rd2 (rawV Pg (Instr.alloc 137 true (.tuple #[])) w6) fun x9 w10 =>
  rd2 (rawU Pg (Instr.storeAt 137 x9 x7) w10) fun x12 w11 =>
  rd (unV .not x8) fun x13 =>
  rd2 (gate x13 false (fun _ => rd (fldA Pg 137 x9 1) fun x14 => some (x14, w11)) w11) fun x15 w16 =>
  rd2 (gate x13 false (fun _ => rd (ldV Pg 4 x15 w16) fun x17 => some (x17, w16)) w16) fun x18 w19 =>
  rd (pickV x13 (.bool true) x18) fun x20 =>
  cnd x20 (fun _ => rd (bldV Pg 82 []) fun x21 =>
  rd2 (rawU Pg (Instr.storeAt 82 x3 x21) w19) fun x23 w22 =>
  rd (ldV Pg 82 x3 w22) fun x24 =>
  some ((.tuple #[x24, (.bool false)]), w22)) (fun _ => rd (fldA Pg 137 x9 2) fun x25 =>
  rd (ldV Pg 82 x25 w19) fun x26 =>
  rd2 (rawU Pg (Instr.storeAt 82 x3 x26) w19) fun x28 w27 =>
  rd (ldV Pg 82 x3 w27) fun x29 =>
  some ((.tuple #[x29, (.bool true)]), w27))
theorem S134_eq (F : FnT) (G : RndT) (x0 x1 : Value) (w0 : World) : evalCode (cx134 F G) (cdA Go.Proofs.Tryz.f134 []) (endK Pg Go.Proofs.Tryz.f134) (envL [x0, x1]) w0 = S134 F G x0 x1 w0 := by kernel_rfl
theorem F134 (x0 x1 : Value) (w0 : World) : Fn Pg 134 [x0, x1] w0 = S134 (Fn Pg) (Rnd Pg) x0 x1 w0 := (Fn_body (c := cdA Go.Proofs.Tryz.f134 []) Go.Proofs.Tryz.func134 (by kernel_rfl) (by kernel_rfl) [x0, x1] w0 (Nat.le_of_ble_eq_true (by kernel_rfl))).trans (S134_eq _ _ x0 x1 w0)

-- 68 (*ciborium/tree.Tree[[]ciborium/api.Version]).After
noncomputable def rx68 (l : Nat) (F : FnT) (G : RndT) : Ctx := ⟨Pg, F, G, 68, some l, 14⟩
noncomputable def cx68 (F : FnT) (G : RndT) : Ctx := ⟨Pg, F, G, 68, none, 14⟩
noncomputable def K68_0 : FnT → RndT → Exit → Env → World → R := fun _ _ => endK Pg Go.Proofs.Tryz.f68
noncomputable def K68_1 : FnT → RndT → Exit → Env → World → R := fun F G => thenK (evalCode (cx68 F G) (cdA Go.Proofs.Tryz.f68 [1, 1]) (K68_0 F G)) (K68_0 F G)
noncomputable def K68_2 : FnT → RndT → Exit → Env → World → R := fun F G => blkK 0 (K68_1 F G)
noncomputable def S68 (F : FnT) (G : RndT) (x0 x1 : Value) (w0 : World) : R :=
  rd2 (rawV Pg (Instr.alloc 9 true (.tuple #[])) w0) fun x3 w4 =>
  rd2 (rawV Pg (Instr.alloc 4 true (.tuple #[])) w4) fun x5 w6 =>
  rd2 (F 143 [x1] w6) fun x7 w8 =>
  rd2 (F 142 [x0, x7] w8) fun x9 w10 =>
  rngR (cx68 F G) x9 #[11] (cdA Go.Proofs.Tryz.f68 [1, 0, 1, 0, 0]) (cdA Go.Proofs.Tryz.f68 [1, 0, 1, 0, 1]) (K68_2 F G) (upd (upd (upd (upd (upd (upd (envL [x0, x1]) 4 x3) 5 x5) 7 x0) 8 x1) 9 x7) 10 x9) w10
noncomputable def S68_N1 (F : FnT) (G : RndT) (e : Env) (w0 : World) : R :=
  rd2 (rawU Pg (Instr.storeAt 9 (e 4) (.string { data := #[] })) w0) fun x102 w101 =>
  rd2 (rawU Pg (Instr.storeAt 4 (e 5) (.bool false)) w101) fun x104 w103 =>
  shutK (e 14) w103 fun w105 =>
  rd (ldV Pg 9 (e 4) w105) fun x106 =>
  rd (ldV Pg 4 (e 5) w105) fun x107 =>
  some ((.tuple #[x106, x107]), w105)
noncomputable def S68_T1 (F : FnT) (G : RndT) (e : Env) (w0 : World) : R :=
  shutK (e 14) w0 fun w101 =>
  rd (ldV Pg 9 (e 4) w101) fun x102 =>
  rd (ldV Pg 4 (e 5) w101) fun x103 =>
  some ((.tuple #[x102, x103]), w101)
noncomputable def S68_X0_1 (F : FnT) (G : RndT) (e : Env) (w0 : World) : R :=
  rd2 (rawU Pg (Instr.storeAt 9 (e 4) (.string { data := #[] })) w0) fun x102 w101 =>
  rd2 (rawU Pg (Instr.storeAt 4 (e 5) (.bool false)) w101) fun x104 w103 =>
  shutK (e 14) w103 fun w105 =>
  rd (ldV Pg 9 (e 4) w105) fun x106 =>
  rd (ldV Pg 4 (e 5) w105) fun x107 =>
  some ((.tuple #[x106, x107]), w105)
noncomputable def S68_R1 (F : FnT) (G : RndT) (l : Nat) (e : Env) (w0 : World) : R :=
  rd2 (rawV Pg (Instr.alloc 240 true (.tuple #[])) w0) fun x101 w102 =>
  rd2 (rawU Pg (Instr.storeAt 240 x101 (e 11)) w102) fun x104 w103 =>
  begR l w103 fun w105 =>
  rd (fldA Pg 240 x101 0) fun x106 =>
  rd (ldV Pg 9 x106 w105) fun x107 =>
  rd2 (rawU Pg (Instr.storeAt 9 (e 4) x107) w105) fun x109 w108 =>
  rd2 (rawU Pg (Instr.storeAt 4 (e 5) (.bool true)) w108) fun x111 w110 =>
  finR l (some .ret) w110
theorem S68_eq (F : FnT) (G : RndT) (x0 x1 : Value) (w0 : World) : evalCode (cx68 F G) (cdA Go.Proofs.Tryz.f68 []) (endK Pg Go.Proofs.Tryz.f68) (envL [x0, x1]) w0 = S68 F G x0 x1 w0 := by kernel_rfl
theorem F68 (x0 x1 : Value) (w0 : World) : Fn Pg 68 [x0, x1] w0 = S68 (Fn Pg) (Rnd Pg) x0 x1 w0 := (Fn_body (c := cdA Go.Proofs.Tryz.f68 []) Go.Proofs.Tryz.func68 (by kernel_rfl) (by kernel_rfl) [x0, x1] w0 (Nat.le_of_ble_eq_true (by kernel_rfl))).trans (S68_eq _ _ x0 x1 w0)
theorem S68_N1_eq (F : FnT) (G : RndT) (e : Env) (w0 : World) : K68_2 F G .normal e w0 = S68_N1 F G e w0 := by kernel_rfl
theorem S68_T1_eq (F : FnT) (G : RndT) (e : Env) (w0 : World) : K68_2 F G .ret e w0 = S68_T1 F G e w0 := by kernel_rfl
theorem S68_X0_1_eq (F : FnT) (G : RndT) (e : Env) (w0 : World) : K68_2 F G (.exit 0) e w0 = S68_X0_1 F G e w0 := by kernel_rfl
theorem S68_R1_eq (F : FnT) (G : RndT) (l : Nat) (ts : List Value) (w0 : World) : evalRound (rx68 l F G) l ts (cdA Go.Proofs.Tryz.f68 [1, 0, 1, 0, 0]) (cdA Go.Proofs.Tryz.f68 [1, 0, 1, 0, 1]) w0 = S68_R1 F G l (envL ts) w0 := by kernel_rfl
theorem R68_1 {l : Nat} {ts : List Value} (w0 : World) (h : ts.length = 14) : Rnd Pg l 68 ts (cdA Go.Proofs.Tryz.f68 [1, 0, 1, 0, 0]) (cdA Go.Proofs.Tryz.f68 [1, 0, 1, 0, 1]) w0 = S68_R1 (Fn Pg) (Rnd Pg) l (envL ts) w0 := by
  rw [Rnd_eq]; unfold rndS; rw [h]; exact S68_R1_eq _ _ _ _ _

-- 70 (*ciborium/mvcc.Store).chain
noncomputable def cx70 (F : FnT) (G : RndT) : Ctx := ⟨Pg, F, G, 70, none, 19⟩
noncomputable def S70 (F : FnT) (G : RndT) (x0 x1 : Value) (w0 : World) : R :=
  rd2 (F 62 [x0] w0) fun x3 w4 =>
  cnd x3 (fun _ => some ((.slice none 0 0), w4)) (fun _ => rd (nilV x0) fun x5 =>
  rd (fldA Pg 144 x5 0) fun x6 =>
  rd (ldV Pg 141 x6 w4) fun x7 =>
  rd2 (F 148 [x7, x1] w4) fun x8 w9 =>
  rd (extV x8 0) fun x10 =>
  rd (extV x8 1) fun x11 =>
  some (x10, w9))
theorem S70_eq (F : FnT) (G : RndT) (x0 x1 : Value) (w0 : World) : evalCode (cx70 F G) (cdA Go.Proofs.Tryz.f70 []) (endK Pg Go.Proofs.Tryz.f70) (envL [x0, x1]) w0 = S70 F G x0 x1 w0 := by kernel_rfl
theorem F70 (x0 x1 : Value) (w0 : World) : Fn Pg 70 [x0, x1] w0 = S70 (Fn Pg) (Rnd Pg) x0 x1 w0 := (Fn_body (c := cdA Go.Proofs.Tryz.f70 []) Go.Proofs.Tryz.func70 (by kernel_rfl) (by kernel_rfl) [x0, x1] w0 (Nat.le_of_ble_eq_true (by kernel_rfl))).trans (S70_eq _ _ x0 x1 w0)

-- 71 (*ciborium/tree.Tree[[]ciborium/api.Version]).Delete
noncomputable def cx71 (F : FnT) (G : RndT) : Ctx := ⟨Pg, F, G, 71, none, 55⟩
noncomputable def S71 (F : FnT) (G : RndT) (x0 x1 : Value) (w0 : World) : R :=
  rd2 (F 136 [x0] w0) fun x3 w4 =>
  rd2 (gate x3 false (fun _ =>  some (x0, w4)) w4) fun x5 w6 =>
  rd2 (gate x3 false (fun _ =>  some (x1, w6)) w6) fun x7 w8 =>
  rd2 (gate x3 false (fun _ => rd2 (F 137 [x5, x7] w8) fun x9 w10 => some (x9, w10)) w8) fun x11 w12 =>
  rd2 (gate x3 false (fun _ => rd2 (binG false Pg .eql 237 (.tmp 0) (.const .nilFunc) x11 (.pointer none) w12) fun x13 w14 => some (x13, w14)) w12) fun x15 w16 =>
  rd (pickV x3 (.bool true) x15) fun x17 =>
  cnd x17 (fun _ => some ((.bool false), w16)) (fun _ => rd (nilV x0) fun x18 =>
  rd (fldA Pg 234 x18 0) fun x19 =>
  rd (ldV Pg 228 x19 w16) fun x20 =>
  rd2 (F 149 [x20, x1] w16) fun x21 w22 =>
  rd (nilV x0) fun x23 =>
  rd (fldA Pg 234 x23 0) fun x24 =>
  rd (ldV Pg 228 x24 w22) fun x25 =>
  rd (nilV x25) fun x26 =>
  rd (fldA Pg 232 x26 0) fun x27 =>
  rd (ldV Pg 229 x27 w22) fun x28 =>
  rd2 (lenG false Pg .len #[229] 3 #[false] [x28] w22) fun x29 w30 =>
  rd2 (binG false Pg .eql 3 (.tmp 0) (.const .nilFunc) x29 (.int .i64 0) w30) fun x31 w32 =>
  rd2 (gate x31 true (fun _ =>  some (x0, w32)) w32) fun x33 w34 =>
  rd2 (gate x31 true (fun _ => rd (nilV x33) fun x35 => some (x35, w34)) w34) fun x36 w37 =>
  rd2 (gate x31 true (fun _ => rd (fldA Pg 234 x36 0) fun x38 => some (x38, w37)) w37) fun x39 w40 =>
  rd2 (gate x31 true (fun _ => rd (ldV Pg 228 x39 w40) fun x41 => some (x41, w40)) w40) fun x42 w43 =>
  rd2 (gate x31 true (fun _ => rd2 (F 150 [x42] w43) fun x44 w45 => some (x44, w45)) w43) fun x46 w47 =>
  rd2 (gate x31 true (fun _ => rd (unV .not x46) fun x48 => some (x48, w47)) w47) fun x49 w50 =>
  rd (pickV x31 x49 (.bool false)) fun x51 =>
  cnd x51 (fun _ => rd (nilV x0) fun x52 =>
  rd (fldA Pg 234 x52 0) fun x53 =>
  rd (ldV Pg 228 x53 w50) fun x54 =>
  rd (nilV x54) fun x55 =>
  rd (fldA Pg 232 x55 1) fun x56 =>
  rd (ldV Pg 230 x56 w50) fun x57 =>
  rd (ixA Pg 230 x57 (.int .i64 0)) fun x58 =>
  rd (ldV Pg 228 x58 w50) fun x59 =>
  rd (nilV x0) fun x60 =>
  rd (fldA Pg 234 x60 0) fun x61 =>
  rd2 (rawU Pg (Instr.storeAt 228 x61 x59) w50) fun x63 w62 =>
  rd (nilV x0) fun x64 =>
  rd (fldA Pg 234 x64 1) fun x65 =>
  rd (ldV Pg 3 x65 w62) fun x66 =>
  rd2 (binG false Pg .sub 3 (.tmp 0) (.const .nilFunc) x66 (.int .i64 1) w62) fun x67 w68 =>
  rd (nilV x0) fun x69 =>
  rd (fldA Pg 234 x69 1) fun x70 =>
  rd2 (rawU Pg (Instr.storeAt 3 x70 x67) w68) fun x72 w71 =>
  some ((.bool true), w71)) (fun _ => rd (nilV x0) fun x73 =>
  rd (fldA Pg 234 x73 1) fun x74 =>
  rd (ldV Pg 3 x74 w50) fun x75 =>
  rd2 (binG false Pg .sub 3 (.tmp 0) (.const .nilFunc) x75 (.int .i64 1) w50) fun x76 w77 =>
  rd (nilV x0) fun x78 =>
  rd (fldA Pg 234 x78 1) fun x79 =>
  rd2 (rawU Pg (Instr.storeAt 3 x79 x76) w77) fun x81 w80 =>
  some ((.bool true), w80)))
theorem S71_eq (F : FnT) (G : RndT) (x0 x1 : Value) (w0 : World) : evalCode (cx71 F G) (cdA Go.Proofs.Tryz.f71 []) (endK Pg Go.Proofs.Tryz.f71) (envL [x0, x1]) w0 = S71 F G x0 x1 w0 := by kernel_rfl
theorem F71 (x0 x1 : Value) (w0 : World) : Fn Pg 71 [x0, x1] w0 = S71 (Fn Pg) (Rnd Pg) x0 x1 w0 := (Fn_body (c := cdA Go.Proofs.Tryz.f71 []) Go.Proofs.Tryz.func71 (by kernel_rfl) (by kernel_rfl) [x0, x1] w0 (Nat.le_of_ble_eq_true (by kernel_rfl))).trans (S71_eq _ _ x0 x1 w0)

-- 43 ciborium/ciboriumref15.Same
noncomputable def cx43 (F : FnT) (G : RndT) : Ctx := ⟨Pg, F, G, 43, none, 45⟩
noncomputable def K43_0 : FnT → RndT → Exit → Env → World → R := fun _ _ => endK Pg Go.Proofs.Tryz.f43
noncomputable def K43_1 : FnT → RndT → Exit → Env → World → R := fun F G => thenK (evalCode (cx43 F G) (cdA Go.Proofs.Tryz.f43 [1, 1, 1]) (K43_0 F G)) (K43_0 F G)
noncomputable def K43_2 : FnT → RndT → Exit → Env → World → R := fun F G => blkK 0 (K43_1 F G)
noncomputable def S43 (F : FnT) (G : RndT) (x0 x1 : Value) (w0 : World) : R :=
  rd2 (rawV Pg (Instr.box 82 x0) w0) fun x3 w4 =>
  rd2 (rawV Pg (Instr.box 82 x1) w4) fun x5 w6 =>
  evalCode (cx43 F G) (cdA Go.Proofs.Tryz.f43 [1]) (K43_0 F G) (upd (upd (upd (envL [x0, x1]) 2 x3) 3 x5) 4 (.bool false)) w6
noncomputable def S43_J1 (F : FnT) (G : RndT) (e : Env) (w0 : World) : R :=
  rd (fldA Pg 82 (e 2) 2) fun x101 =>
  rd (ldV Pg 3 x101 w0) fun x102 =>
  rd (fldA Pg 82 (e 3) 2) fun x103 =>
  rd (ldV Pg 3 x103 w0) fun x104 =>
  rd2 (binG false Pg .neq 3 (.tmp 0) (.tmp 0) x102 x104 w0) fun x105 w106 =>
  rd2 (gate x105 false (fun _ => rd (fldA Pg 82 (e 2) 1) fun x107 => some (x107, w106)) w106) fun x108 w109 =>
  rd2 (gate x105 false (fun _ => rd (ldV Pg 23 x108 w109) fun x110 => some (x110, w109)) w109) fun x111 w112 =>
  rd2 (gate x105 false (fun _ => rd (fldA Pg 82 (e 3) 1) fun x113 => some (x113, w112)) w112) fun x114 w115 =>
  rd2 (gate x105 false (fun _ => rd (ldV Pg 23 x114 w115) fun x116 => some (x116, w115)) w115) fun x117 w118 =>
  rd2 (gate x105 false (fun _ => rd2 (binG false Pg .neq 23 (.tmp 0) (.tmp 0) x111 x117 w118) fun x119 w120 => some (x119, w120)) w118) fun x121 w122 =>
  rd (pickV x105 (.bool true) x121) fun x123 =>
  rd2 (gate x123 false (fun _ => rd (fldA Pg 82 (e 2) 0) fun x124 => some (x124, w122)) w122) fun x125 w126 =>
  rd2 (gate x123 false (fun _ => rd (ldV Pg 80 x125 w126) fun x127 => some (x127, w126)) w126) fun x128 w129 =>
  rd2 (gate x123 false (fun _ => rd2 (lenG false Pg .len #[80] 3 #[false] [x128] w129) fun x130 w131 => some (x130, w131)) w129) fun x132 w133 =>
  rd2 (gate x123 false (fun _ => rd (fldA Pg 82 (e 3) 0) fun x134 => some (x134, w133)) w133) fun x135 w136 =>
  rd2 (gate x123 false (fun _ => rd (ldV Pg 80 x135 w136) fun x137 => some (x137, w136)) w136) fun x138 w139 =>
  rd2 (gate x123 false (fun _ => rd2 (lenG false Pg .len #[80] 3 #[false] [x138] w139) fun x140 w141 => some (x140, w141)) w139) fun x142 w143 =>
  rd2 (gate x123 false (fun _ => rd2 (binG false Pg .neq 3 (.tmp 0) (.tmp 0) x132 x142 w143) fun x144 w145 => some (x144, w145)) w143) fun x146 w147 =>
  rd (pickV x123 (.bool true) x146) fun x148 =>
  cnd x148 (fun _ => shutK (e 45) w147 fun w149 =>
  some ((.bool false), w149)) (fun _ => evalLoop (cx43 F G) (cdA Go.Proofs.Tryz.f43 [1, 1, 0, 1, 0, 0]) (K43_2 F G) (upd (upd (upd (upd (upd (upd (upd (upd (upd (upd (upd (upd (upd (upd (upd (upd (upd (upd (upd (upd (upd (upd e 6 x101) 7 x102) 8 x103) 9 x104) 10 x105) 11 x105) 12 x108) 13 x111) 14 x114) 15 x117) 16 x121) 17 x123) 18 x123) 19 x125) 20 x128) 21 x132) 22 x135) 23 x138) 24 x142) 25 x146) 26 x148) 5 (.int .i64 0)) w147)
noncomputable def S43_L2 (F : FnT) (G : RndT) (e : Env) (w0 : World) : R :=
  rd (fldA Pg 82 (e 2) 0) fun x101 =>
  rd (ldV Pg 80 x101 w0) fun x102 =>
  rd2 (lenG false Pg .len #[80] 3 #[false] [x102] w0) fun x103 w104 =>
  rd2 (binG false Pg .lss 3 (.tmp 0) (.tmp 0) (e 5) x103 w104) fun x105 w106 =>
  cnd x105 (fun _ => rd (fldA Pg 82 (e 2) 0) fun x107 =>
  rd (ldV Pg 80 x107 (drw w106)) fun x108 =>
  rd (ixA Pg 80 x108 (e 5)) fun x109 =>
  rd (ldV Pg 3 x109 (drw w106)) fun x110 =>
  rd (fldA Pg 82 (e 3) 0) fun x111 =>
  rd (ldV Pg 80 x111 (drw w106)) fun x112 =>
  rd (ixA Pg 80 x112 (e 5)) fun x113 =>
  rd (ldV Pg 3 x113 (drw w106)) fun x114 =>
  rd2 (binG true Pg .neq 3 (.tmp 0) (.tmp 0) x110 x114 (drw w106)) fun x115 _ =>
  cnd x115 (fun _ => shutK (e 45) (drw w106) fun w117 =>
  some ((.bool false), w117)) (fun _ => rd2 (binG false Pg .add 3 (.tmp 0) (.const .nilFunc) (e 5) (.int .i64 1) (drw w106)) fun x118 w119 =>
  evalLoop (cx43 F G) (cdA Go.Proofs.Tryz.f43 [1, 1, 0, 1, 0, 0]) (K43_2 F G) (upd (upd (upd (upd (upd (upd (upd (upd (upd (upd (upd (upd (upd (upd (upd (upd (upd (upd (upd e 27 (e 5)) 28 x101) 29 x102) 30 x103) 31 x105) 34 x107) 35 x108) 36 (e 5)) 37 x109) 38 x110) 39 x111) 40 x112) 41 (e 5)) 42 x113) 43 x114) 44 x115) 32 (e 5)) 33 x118) 5 x118) w119)) (fun _ => shutK (e 45) w106 fun w120 =>
  some ((.bool true), w120))
theorem S43_A (F : FnT) (G : RndT) (K : Exit → Env → World → R) (x0 x1 : Value) (w0 : World) : evalCode (cx43 F G) (cdA Go.Proofs.Tryz.f43 [0]) K (envL [x0, x1]) w0 = (rd2 (rawV Pg (Instr.box 82 x0) w0) fun x3 w4 =>
  rd2 (rawV Pg (Instr.box 82 x1) w4) fun x5 w6 =>
  K .normal (upd (upd (upd (envL [x0, x1]) 2 x3) 3 x5) 4 (.bool false)) w6) := by kernel_rfl
theorem S43_B (F : FnT) (G : RndT) (K : Exit → Env → World → R) (e : Env) (w0 : World) : evalCode (cx43 F G) (cdA Go.Proofs.Tryz.f43 []) K e w0 = evalCode (cx43 F G) (cdA Go.Proofs.Tryz.f43 [0]) (thenK (evalCode (cx43 F G) (cdA Go.Proofs.Tryz.f43 [1]) K) K) e w0 := by kernel_rfl
theorem S43_C (F : FnT) (G : RndT) (x0 x1 : Value) (w0 : World) : (rd2 (rawV Pg (Instr.box 82 x0) w0) fun x3 w4 =>
  rd2 (rawV Pg (Instr.box 82 x1) w4) fun x5 w6 =>
  thenK (evalCode (cx43 F G) (cdA Go.Proofs.Tryz.f43 [1]) (K43_0 F G)) (K43_0 F G) .normal (upd (upd (upd (envL [x0, x1]) 2 x3) 3 x5) 4 (.bool false)) w6) = S43 F G x0 x1 w0 := by kernel_rfl
theorem S43_D (F : FnT) (G : RndT) : endK Pg Go.Proofs.Tryz.f43 = (K43_0 F G) := by kernel_rfl
theorem S43_eq (F : FnT) (G : RndT) (x0 x1 : Value) (w0 : World) : evalCode (cx43 F G) (cdA Go.Proofs.Tryz.f43 []) (endK Pg Go.Proofs.Tryz.f43) (envL [x0, x1]) w0 = S43 F G x0 x1 w0 := by
  rw [S43_D F G]
  exact (S43_B F G (K43_0 F G) (envL [x0, x1]) w0).trans ((S43_A F G _ x0 x1 w0).trans (S43_C F G x0 x1 w0))
theorem F43 (x0 x1 : Value) (w0 : World) : Fn Pg 43 [x0, x1] w0 = S43 (Fn Pg) (Rnd Pg) x0 x1 w0 := (Fn_body (c := cdA Go.Proofs.Tryz.f43 []) Go.Proofs.Tryz.func43 (by kernel_rfl) (by kernel_rfl) [x0, x1] w0 (Nat.le_of_ble_eq_true (by kernel_rfl))).trans (S43_eq _ _ x0 x1 w0)
theorem S43_J1_eq (F : FnT) (G : RndT) (e : Env) (w0 : World) : evalCode (cx43 F G) (cdA Go.Proofs.Tryz.f43 [1]) (K43_0 F G) e w0 = S43_J1 F G e w0 := by kernel_rfl
theorem S43_L2_eq (F : FnT) (G : RndT) (e : Env) (w0 : World) : evalLoop (cx43 F G) (cdA Go.Proofs.Tryz.f43 [1, 1, 0, 1, 0, 0]) (K43_2 F G) e w0 = S43_L2 F G e w0 := by
  rw [evalLoop_eq]
  kernel_rfl

-- 74 (*ciborium/tree.Tree[[]ciborium/api.Version]).Copy
noncomputable def cx74 (F : FnT) (G : RndT) : Ctx := ⟨Pg, F, G, 74, none, 16⟩
noncomputable def S74 (F : FnT) (G : RndT) (x0 : Value) (w0 : World) : R :=
  rd2 (F 136 [x0] w0) fun x2 w3 =>
  cnd x2 (fun _ => some ((.pointer none), w3)) (fun _ => rd (nilV x0) fun x4 =>
  rd (fldA Pg 234 x4 0) fun x5 =>
  rd (ldV Pg 228 x5 (drw w3)) fun x6 =>
  rd2 (F 153 [x6] (drw w3)) fun x7 w8 =>
  rd (nilV x0) fun x9 =>
  rd (fldA Pg 234 x9 1) fun x10 =>
  rd (ldV Pg 3 x10 w8) fun x11 =>
  chk (holdsAt Pg none (.ld 3) x10 x11 (drw w3)) fun _ =>
  rd (bldV Pg 234 [(0, x7), (1, x11)]) fun x12 =>
  rd2 (rawV Pg (Instr.box 234 x12) w8) fun x13 w14 =>
  some (x13, w14))
theorem S74_eq (F : FnT) (G : RndT) (x0 : Value) (w0 : World) : evalCode (cx74 F G) (cdA Go.Proofs.Tryz.f74 []) (endK Pg Go.Proofs.Tryz.f74) (envL [x0]) w0 = S74 F G x0 w0 := by kernel_rfl
theorem F74 (x0 : Value) (w0 : World) : Fn Pg 74 [x0] w0 = S74 (Fn Pg) (Rnd Pg) x0 w0 := (Fn_body (c := cdA Go.Proofs.Tryz.f74 []) Go.Proofs.Tryz.func74 (by kernel_rfl) (by kernel_rfl) [x0] w0 (Nat.le_of_ble_eq_true (by kernel_rfl))).trans (S74_eq _ _ x0 w0)

-- 129 ciborium/chain.At
noncomputable def cx129 (F : FnT) (G : RndT) : Ctx := ⟨Pg, F, G, 129, none, 24⟩
noncomputable def S129 (F : FnT) (G : RndT) (x0 x1 : Value) (w0 : World) : R :=
  rd2 (rawV Pg (Instr.alloc 137 true (.tuple #[])) w0) fun x3 w4 =>
  rd2 (F 144 [x0] w4) fun x5 w6 =>
  rd (unV .not x5) fun x7 =>
  cnd x7 (fun _ => rd (bldV Pg 137 []) fun x8 =>
  rd2 (rawU Pg (Instr.storeAt 137 x3 x8) w6) fun x10 w9 =>
  rd (ldV Pg 137 x3 w9) fun x11 =>
  some ((.tuple #[x11, (.bool false)]), w9)) (fun _ => rd2 (F 145 [x0, x1] w6) fun x12 w13 =>
  rd2 (lenG false Pg .len #[43] 3 #[false] [x0] w13) fun x14 w15 =>
  rd2 (binG false Pg .eql 3 (.tmp 0) (.tmp 0) x12 x14 w15) fun x16 w17 =>
  cnd x16 (fun _ => rd (bldV Pg 137 []) fun x18 =>
  rd2 (rawU Pg (Instr.storeAt 137 x3 x18) w17) fun x20 w19 =>
  rd (ldV Pg 137 x3 w19) fun x21 =>
  some ((.tuple #[x21, (.bool false)]), w19)) (fun _ => rd (ixA Pg 43 x0 x12) fun x22 =>
  rd (ldV Pg 137 x22 w17) fun x23 =>
  rd2 (F 147 [x23] w17) fun x24 w25 =>
  rd2 (rawU Pg (Instr.storeAt 137 x3 x24) w25) fun x27 w26 =>
  rd (ldV Pg 137 x3 w26) fun x28 =>
  some ((.tuple #[x28, (.bool true)]), w26)))
theorem S129_eq (F : FnT) (G : RndT) (x0 x1 : Value) (w0 : World) : evalCode (cx129 F G) (cdA Go.Proofs.Tryz.f129 []) (endK Pg Go.Proofs.Tryz.f129) (envL [x0, x1]) w0 = S129 F G x0 x1 w0 := by kernel_rfl
theorem F129 (x0 x1 : Value) (w0 : World) : Fn Pg 129 [x0, x1] w0 = S129 (Fn Pg) (Rnd Pg) x0 x1 w0 := (Fn_body (c := cdA Go.Proofs.Tryz.f129 []) Go.Proofs.Tryz.func129 (by kernel_rfl) (by kernel_rfl) [x0, x1] w0 (Nat.le_of_ble_eq_true (by kernel_rfl))).trans (S129_eq _ _ x0 x1 w0)

-- 231 ciborium/order.ahead
noncomputable def cx231 (F : FnT) (G : RndT) : Ctx := ⟨Pg, F, G, 231, none, 12⟩
noncomputable def S231 (F : FnT) (G : RndT) (x0 x1 : Value) (w0 : World) : R :=
  rd2 (binG false Pg .eql 9 (.tmp 0) (.const .nilFunc) x1 (.string { data := #[] }) w0) fun x3 w4 =>
  rd2 (gate x3 false (fun _ =>  some (x0, w4)) w4) fun x5 w6 =>
  rd2 (gate x3 false (fun _ =>  some (x1, w6)) w6) fun x7 w8 =>
  rd2 (gate x3 false (fun _ => rd2 (binG false Pg .lss 9 (.tmp 0) (.tmp 0) x5 x7 w8) fun x9 w10 => some (x9, w10)) w8) fun x11 w12 =>
  rd (pickV x3 (.bool true) x11) fun x13 =>
  some (x13, w12)
theorem S231_eq (F : FnT) (G : RndT) (x0 x1 : Value) (w0 : World) : evalCode (cx231 F G) (cdA Go.Proofs.Tryz.f231 []) (endK Pg Go.Proofs.Tryz.f231) (envL [x0, x1]) w0 = S231 F G x0 x1 w0 := by kernel_rfl
theorem F231 (x0 x1 : Value) (w0 : World) : Fn Pg 231 [x0, x1] w0 = S231 (Fn Pg) (Rnd Pg) x0 x1 w0 := (Fn_body (c := cdA Go.Proofs.Tryz.f231 []) Go.Proofs.Tryz.func231 (by kernel_rfl) (by kernel_rfl) [x0, x1] w0 (Nat.le_of_ble_eq_true (by kernel_rfl))).trans (S231_eq _ _ x0 x1 w0)

-- 135 ciborium/chain.Add
noncomputable def cx135 (F : FnT) (G : RndT) : Ctx := ⟨Pg, F, G, 135, none, 34⟩
noncomputable def K135_0 : FnT → RndT → Exit → Env → World → R := fun _ _ => endK Pg Go.Proofs.Tryz.f135
noncomputable def K135_1 : FnT → RndT → Exit → Env → World → R := fun F G => thenK (evalCode (cx135 F G) (cdA Go.Proofs.Tryz.f135 [1, 1, 1, 1]) (K135_0 F G)) (K135_0 F G)
noncomputable def K135_2 : FnT → RndT → Exit → Env → World → R := fun F G => blkK 0 (K135_1 F G)
noncomputable def S135 (F : FnT) (G : RndT) (x0 x1 : Value) (w0 : World) : R :=
  rd2 (rawV Pg (Instr.box 137 x1) w0) fun x3 w4 =>
  rd2 (lenG false Pg .len #[43] 3 #[false] [x0] w4) fun x5 w6 =>
  rd2 (binG false Pg .add 3 (.tmp 0) (.const .nilFunc) x5 (.int .i64 1) w6) fun x7 w8 =>
  rd2 (rawV Pg (Instr.makeSlice 43 (.int .i64 0) x7) w8) fun x9 w10 =>
  rd (ldV Pg 137 x3 w10) fun x11 =>
  rd2 (F 147 [x11] w10) fun x12 w13 =>
  rd2 (rawV Pg (Instr.buildSlice 43 1 #[(0, x12)]) w13) fun x14 w15 =>
  rd2 (lenG false Pg .append #[43, 43] 43 #[false, false] [x9, x14] w15) fun x16 w17 =>
  rd2 (lenG false Pg .len #[43] 3 #[false] [x0] w17) fun x18 w19 =>
  evalLoop (cx135 F G) (cdA Go.Proofs.Tryz.f135 [1, 1, 1, 0, 1, 0, 0]) (K135_2 F G) (upd (upd (upd (upd (upd (upd (upd (upd (upd (upd (upd (upd (upd (upd (upd (upd (upd (envL [x0, x1]) 3 x3) 4 (.slice none 0 0)) 5 (.int .i64 0)) 9 x0) 10 x5) 11 x7) 12 x9) 6 x9) 13 x9) 14 x11) 15 x12) 16 x14) 17 x16) 6 x16) 18 x0) 19 x18) 20 (.int .i64 0)) w19
noncomputable def S135_L1 (F : FnT) (G : RndT) (e : Env) (w0 : World) : R :=
  rd2 (binG false Pg .lss 3 (.tmp 0) (.tmp 0) (e 20) (e 19) w0) fun x101 w102 =>
  cnd x101 (fun _ => rd (ixA Pg 43 (e 18) (e 20)) fun x103 =>
  rd (ldV Pg 137 x103 w102) fun x104 =>
  rd2 (rawV Pg (Instr.alloc 137 true (.tuple #[])) w102) fun x105 w106 =>
  rd2 (rawU Pg (Instr.storeAt 137 x105 x104) w106) fun x108 w107 =>
  rd (ldV Pg 137 x105 w107) fun x109 =>
  rd2 (F 147 [x109] w107) fun x110 w111 =>
  rd2 (rawV Pg (Instr.buildSlice 43 1 #[(0, x110)]) w111) fun x112 w113 =>
  rd2 (lenG false Pg .append #[43, 43] 43 #[false, false] [(e 6), x112] w113) fun x114 w115 =>
  rd2 (binG false Pg .add 3 (.tmp 0) (.const .nilFunc) (e 20) (.int .i64 1) w115) fun x116 w117 =>
  evalLoop (cx135 F G) (cdA Go.Proofs.Tryz.f135 [1, 1, 1, 0, 1, 0, 0]) (K135_2 F G) (upd (upd (upd (upd (upd (upd (upd (upd (upd (upd (upd (upd e 21 x101) 22 x103) 23 x104) 8 x105) 24 (e 6)) 25 x109) 26 x110) 27 x112) 28 x114) 6 x114) 29 x116) 20 x116) w117) (fun _ => rd2 (F 144 [(e 6)] w102) fun x118 w119 =>
  rd (unV .not x118) fun x120 =>
  cnd x120 (fun _ => shutK (e 34) w119 fun w121 =>
  some ((.tuple #[(.slice none 0 0), (.int .i64 2)]), w121)) (fun _ => shutK (e 34) w119 fun w122 =>
  some ((.tuple #[(e 6), (.int .i64 0)]), w122)))
theorem S135_eq (F : FnT) (G : RndT) (x0 x1 : Value) (w0 : World) : evalCode (cx135 F G) (cdA Go.Proofs.Tryz.f135 []) (endK Pg Go.Proofs.Tryz.f135) (envL [x0, x1]) w0 = S135 F G x0 x1 w0 := by kernel_rfl
theorem F135 (x0 x1 : Value) (w0 : World) : Fn Pg 135 [x0, x1] w0 = S135 (Fn Pg) (Rnd Pg) x0 x1 w0 := (Fn_body (c := cdA Go.Proofs.Tryz.f135 []) Go.Proofs.Tryz.func135 (by kernel_rfl) (by kernel_rfl) [x0, x1] w0 (Nat.le_of_ble_eq_true (by kernel_rfl))).trans (S135_eq _ _ x0 x1 w0)
theorem S135_L1_eq (F : FnT) (G : RndT) (e : Env) (w0 : World) : evalLoop (cx135 F G) (cdA Go.Proofs.Tryz.f135 [1, 1, 1, 0, 1, 0, 0]) (K135_2 F G) e w0 = S135_L1 F G e w0 := by
  rw [evalLoop_eq]
  kernel_rfl

-- 102 ciborium/order.Right
noncomputable def cx102 (F : FnT) (G : RndT) : Ctx := ⟨Pg, F, G, 102, none, 11⟩
noncomputable def S102 (F : FnT) (G : RndT) (x0 : Value) (w0 : World) : R :=
  rd2 (lenG false Pg .len #[9] 3 #[false] [x0] w0) fun x2 w3 =>
  rd2 (binG false Pg .gtr 3 (.tmp 0) (.const .nilFunc) x2 (.int .i64 0) w3) fun x4 w5 =>
  rd2 (gate x4 true (fun _ =>  some (x0, w5)) w5) fun x6 w7 =>
  rd2 (gate x4 true (fun _ => rd2 (lenG false Pg .len #[9] 3 #[false] [x6] w7) fun x8 w9 => some (x8, w9)) w7) fun x10 w11 =>
  rd2 (gate x4 true (fun _ => rd2 (binG false Pg .leq 3 (.tmp 0) (.const .nilFunc) x10 (.int .i64 16) w11) fun x12 w13 => some (x12, w13)) w11) fun x14 w15 =>
  rd (pickV x4 x14 (.bool false)) fun x16 =>
  some (x16, w15)
theorem S102_eq (F : FnT) (G : RndT) (x0 : Value) (w0 : World) : evalCode (cx102 F G) (cdA Go.Proofs.Tryz.f102 []) (endK Pg Go.Proofs.Tryz.f102) (envL [x0]) w0 = S102 F G x0 w0 := by kernel_rfl
theorem F102 (x0 : Value) (w0 : World) : Fn Pg 102 [x0] w0 = S102 (Fn Pg) (Rnd Pg) x0 w0 := (Fn_body (c := cdA Go.Proofs.Tryz.f102 []) Go.Proofs.Tryz.func102 (by kernel_rfl) (by kernel_rfl) [x0] w0 (Nat.le_of_ble_eq_true (by kernel_rfl))).trans (S102_eq _ _ x0 w0)

-- 136 (*ciborium/tree.Tree[[]ciborium/api.Version]).none
noncomputable def cx136 (F : FnT) (G : RndT) : Ctx := ⟨Pg, F, G, 136, none, 12⟩
noncomputable def S136 (F : FnT) (G : RndT) (x0 : Value) (w0 : World) : R :=
  rd2 (binG false Pg .eql 141 (.tmp 0) (.const .nilFunc) x0 (.pointer none) w0) fun x2 w3 =>
  rd2 (gate x2 false (fun _ =>  some (x0, w3)) w3) fun x4 w5 =>
  rd2 (gate x2 false (fun _ => rd (nilV x4) fun x6 => some (x6, w5)) w5) fun x7 w8 =>
  rd2 (gate x2 false (fun _ => rd (fldA Pg 234 x7 0) fun x9 => some (x9, w8)) w8) fun x10 w11 =>
  rd2 (gate x2 false (fun _ => rd (ldV Pg 228 x10 w11) fun x12 => some (x12, w11)) w11) fun x13 w14 =>
  rd2 (gate x2 false (fun _ => rd2 (binG false Pg .eql 228 (.tmp 0) (.const .nilFunc) x13 (.pointer none) w14) fun x15 w16 => some (x15, w16)) w14) fun x17 w18 =>
  rd (pickV x2 (.bool true) x17) fun x19 =>
  some (x19, w18)
theorem S136_eq (F : FnT) (G : RndT) (x0 : Value) (w0 : World) : evalCode (cx136 F G) (cdA Go.Proofs.Tryz.f136 []) (endK Pg Go.Proofs.Tryz.f136) (envL [x0]) w0 = S136 F G x0 w0 := by kernel_rfl
theorem F136 (x0 : Value) (w0 : World) : Fn Pg 136 [x0] w0 = S136 (Fn Pg) (Rnd Pg) x0 w0 := (Fn_body (c := cdA Go.Proofs.Tryz.f136 []) Go.Proofs.Tryz.func136 (by kernel_rfl) (by kernel_rfl) [x0] w0 (Nat.le_of_ble_eq_true (by kernel_rfl))).trans (S136_eq _ _ x0 w0)

-- 137 (*ciborium/tree.Tree[[]ciborium/api.Version]).seek
noncomputable def cx137 (F : FnT) (G : RndT) : Ctx := ⟨Pg, F, G, 137, none, 36⟩
noncomputable def K137_0 : FnT → RndT → Exit → Env → World → R := fun _ _ => endK Pg Go.Proofs.Tryz.f137
noncomputable def K137_1 : FnT → RndT → Exit → Env → World → R := fun F G => blkK 0 (K137_0 F G)
noncomputable def S137 (F : FnT) (G : RndT) (x0 x1 : Value) (w0 : World) : R :=
  rd (nilV x0) fun x3 =>
  rd (fldA Pg 234 x3 0) fun x4 =>
  rd (ldV Pg 228 x4 w0) fun x5 =>
  evalLoop (cx137 F G) (cdA Go.Proofs.Tryz.f137 [1, 1, 0, 0]) (K137_1 F G) (upd (upd (upd (upd (upd (upd (envL [x0, x1]) 4 (.pointer none)) 8 x0) 9 x3) 10 x4) 11 x5) 5 x5) w0
noncomputable def S137_L1 (F : FnT) (G : RndT) (e : Env) (w0 : World) : R :=
  rd2 (F 193 [(e 5), (e 1)] w0) fun x101 w102 =>
  rd (extV x101 0) fun x103 =>
  rd (extV x101 1) fun x104 =>
  cnd x104 (fun _ => rd (nilV (e 5)) fun x105 =>
  rd (fldA Pg 232 x105 0) fun x106 =>
  rd (ldV Pg 229 x106 w102) fun x107 =>
  rd (ixA Pg 229 x107 x103) fun x108 =>
  shutK (e 36) w102 fun w109 =>
  some (x108, w109)) (fun _ => rd2 (F 150 [(e 5)] w102) fun x110 w111 =>
  cnd x110 (fun _ => shutK (e 36) w111 fun w112 =>
  some ((.pointer none), w112)) (fun _ => rd (nilV (e 5)) fun x113 =>
  rd (fldA Pg 232 x113 1) fun x114 =>
  rd (ldV Pg 230 x114 w111) fun x115 =>
  rd (ixA Pg 230 x115 x103) fun x116 =>
  rd (ldV Pg 228 x116 w111) fun x117 =>
  evalLoop (cx137 F G) (cdA Go.Proofs.Tryz.f137 [1, 1, 0, 0]) (K137_1 F G) (upd (upd (upd (upd (upd (upd (upd (upd (upd (upd (upd (upd (upd (upd (upd (upd (upd (upd (upd (upd (upd e 13 (e 5)) 14 (e 1)) 15 x101) 12 x101) 16 x103) 17 x104) 6 x103) 7 x104) 19 x104) 18 x104) 27 (e 5)) 28 x110) 26 x110) 29 (e 5)) 30 x113) 31 x114) 32 x115) 33 x103) 34 x116) 35 x117) 5 x117) w111))
theorem S137_eq (F : FnT) (G : RndT) (x0 x1 : Value) (w0 : World) : evalCode (cx137 F G) (cdA Go.Proofs.Tryz.f137 []) (endK Pg Go.Proofs.Tryz.f137) (envL [x0, x1]) w0 = S137 F G x0 x1 w0 := by kernel_rfl
theorem F137 (x0 x1 : Value) (w0 : World) : Fn Pg 137 [x0, x1] w0 = S137 (Fn Pg) (Rnd Pg) x0 x1 w0 := (Fn_body (c := cdA Go.Proofs.Tryz.f137 []) Go.Proofs.Tryz.func137 (by kernel_rfl) (by kernel_rfl) [x0, x1] w0 (Nat.le_of_ble_eq_true (by kernel_rfl))).trans (S137_eq _ _ x0 x1 w0)
theorem S137_L1_eq (F : FnT) (G : RndT) (e : Env) (w0 : World) : evalLoop (cx137 F G) (cdA Go.Proofs.Tryz.f137 [1, 1, 0, 0]) (K137_1 F G) e w0 = S137_L1 F G e w0 := by
  rw [evalLoop_eq]
  kernel_rfl

-- 138 (*ciborium/tree.node[[]ciborium/api.Version]).full
noncomputable def cx138 (F : FnT) (G : RndT) : Ctx := ⟨Pg, F, G, 138, none, 9⟩
noncomputable def S138 (F : FnT) (G : RndT) (x0 : Value) (w0 : World) : R :=
  rd (nilV x0) fun x2 =>
  rd (fldA Pg 232 x2 0) fun x3 =>
  rd (ldV Pg 229 x3 w0) fun x4 =>
  rd2 (lenG false Pg .len #[229] 3 #[false] [x4] w0) fun x5 w6 =>
  rd2 (binG false Pg .eql 3 (.tmp 0) (.const .nilFunc) x5 (.int .i64 5) w6) fun x7 w8 =>
  some (x7, w8)
theorem S138_eq (F : FnT) (G : RndT) (x0 : Value) (w0 : World) : evalCode (cx138 F G) (cdA Go.Proofs.Tryz.f138 []) (endK Pg Go.Proofs.Tryz.f138) (envL [x0]) w0 = S138 F G x0 w0 := by kernel_rfl
theorem F138 (x0 : Value) (w0 : World) : Fn Pg 138 [x0] w0 = S138 (Fn Pg) (Rnd Pg) x0 w0 := (Fn_body (c := cdA Go.Proofs.Tryz.f138 []) Go.Proofs.Tryz.func138 (by kernel_rfl) (by kernel_rfl) [x0] w0 (Nat.le_of_ble_eq_true (by kernel_rfl))).trans (S138_eq _ _ x0 w0)

-- 139 (*ciborium/tree.node[[]ciborium/api.Version]).split
noncomputable def cx139 (F : FnT) (G : RndT) : Ctx := ⟨Pg, F, G, 139, none, 79⟩
noncomputable def S139 (F : FnT) (G : RndT) (x0 x1 : Value) (w0 : World) : R :=
  rd (nilV x0) fun x3 =>
  rd (fldA Pg 232 x3 1) fun x4 =>
  rd (ldV Pg 230 x4 w0) fun x5 =>
  rd (ixA Pg 230 x5 x1) fun x6 =>
  rd (ldV Pg 228 x6 w0) fun x7 =>
  rd (nilV x7) fun x8 =>
  rd (fldA Pg 232 x8 0) fun x9 =>
  rd (ldV Pg 229 x9 w0) fun x10 =>
  rd (slV Pg 229 x10 (some (.int .i64 3)) none none) fun x11 =>
  rd2 (F 194 [x11] w0) fun x12 w13 =>
  rd (bldV Pg 232 [(0, x12)]) fun x14 =>
  rd2 (rawV Pg (Instr.box 232 x14) w13) fun x15 w16 =>
  rd2 (F 150 [x7] w16) fun x17 w18 =>
  rd (unV .not x17) fun x19 =>
  cnd x19 (fun _ => rd (nilV x7) fun x20 =>
  rd (fldA Pg 232 x20 1) fun x21 =>
  rd (ldV Pg 230 x21 w18) fun x22 =>
  rd (slV Pg 230 x22 (some (.int .i64 3)) none none) fun x23 =>
  rd2 (F 195 [x23] w18) fun x24 w25 =>
  rd (nilV x15) fun x26 =>
  rd (fldA Pg 232 x26 1) fun x27 =>
  rd2 (rawU Pg (Instr.storeAt 230 x27 x24) w25) fun x29 w28 =>
  rd (nilV x7) fun x30 =>
  rd (fldA Pg 232 x30 1) fun x31 =>
  rd (ldV Pg 230 x31 w28) fun x32 =>
  rd (slV Pg 230 x32 none (some (.int .i64 3)) none) fun x33 =>
  rd2 (F 195 [x33] w28) fun x34 w35 =>
  rd (nilV x7) fun x36 =>
  rd (fldA Pg 232 x36 1) fun x37 =>
  rd2 (rawU Pg (Instr.storeAt 230 x37 x34) w35) fun x39 w38 =>
  rd (nilV x0) fun x40 =>
  rd (fldA Pg 232 x40 0) fun x41 =>
  rd (ldV Pg 229 x41 (drw w38)) fun x42 =>
  rd (nilV x7) fun x43 =>
  rd (fldA Pg 232 x43 0) fun x44 =>
  rd (ldV Pg 229 x44 (drw w38)) fun x45 =>
  rd (ixA Pg 229 x45 (.int .i64 2)) fun x46 =>
  rd (ldV Pg 240 x46 (drw w38)) fun x47 =>
  rd2 (rawV Pg (Instr.buildSlice 229 1 #[(0, x47)]) (drw w38)) fun x48 w49 =>
  rd2 (F 196 [x42, x1, x48] w49) fun x50 w51 =>
  rd (nilV x0) fun x52 =>
  rd (fldA Pg 232 x52 0) fun x53 =>
  rd2 (rawU Pg (Instr.storeAt 229 x53 x50) w51) fun x55 w54 =>
  rd (nilV x0) fun x56 =>
  rd (fldA Pg 232 x56 1) fun x57 =>
  rd (ldV Pg 230 x57 w54) fun x58 =>
  rd2 (binG false Pg .add 3 (.tmp 0) (.const .nilFunc) x1 (.int .i64 1) w54) fun x59 w60 =>
  rd2 (rawV Pg (Instr.buildSlice 230 1 #[(0, x15)]) w60) fun x61 w62 =>
  rd2 (F 197 [x58, x59, x61] w62) fun x63 w64 =>
  rd (nilV x0) fun x65 =>
  rd (fldA Pg 232 x65 1) fun x66 =>
  rd2 (rawU Pg (Instr.storeAt 230 x66 x63) w64) fun x68 w67 =>
  rd (nilV x7) fun x69 =>
  rd (fldA Pg 232 x69 0) fun x70 =>
  rd (ldV Pg 229 x70 w67) fun x71 =>
  rd (slV Pg 229 x71 none (some (.int .i64 2)) none) fun x72 =>
  rd2 (F 194 [x72] w67) fun x73 w74 =>
  rd (nilV x7) fun x75 =>
  rd (fldA Pg 232 x75 0) fun x76 =>
  rd2 (rawU Pg (Instr.storeAt 229 x76 x73) w74) fun x78 w77 =>
  some ((.tuple #[]), w77)) (fun _ => rd (nilV x0) fun x79 =>
  rd (fldA Pg 232 x79 0) fun x80 =>
  rd (ldV Pg 229 x80 (drw w18)) fun x81 =>
  rd (nilV x7) fun x82 =>
  rd (fldA Pg 232 x82 0) fun x83 =>
  rd (ldV Pg 229 x83 (drw w18)) fun x84 =>
  rd (ixA Pg 229 x84 (.int .i64 2)) fun x85 =>
  rd (ldV Pg 240 x85 (drw w18)) fun x86 =>
  rd2 (rawV Pg (Instr.buildSlice 229 1 #[(0, x86)]) (drw w18)) fun x87 w88 =>
  rd2 (F 196 [x81, x1, x87] w88) fun x89 w90 =>
  rd (nilV x0) fun x91 =>
  rd (fldA Pg 232 x91 0) fun x92 =>
  rd2 (rawU Pg (Instr.storeAt 229 x92 x89) w90) fun x94 w93 =>
  rd (nilV x0) fun x95 =>
  rd (fldA Pg 232 x95 1) fun x96 =>
  rd (ldV Pg 230 x96 w93) fun x97 =>
  rd2 (binG false Pg .add 3 (.tmp 0) (.const .nilFunc) x1 (.int .i64 1) w93) fun x98 w99 =>
  rd2 (rawV Pg (Instr.buildSlice 230 1 #[(0, x15)]) w99) fun x100 w101 =>
  rd2 (F 197 [x97, x98, x100] w101) fun x102 w103 =>
  rd (nilV x0) fun x104 =>
  rd (fldA Pg 232 x104 1) fun x105 =>
  rd2 (rawU Pg (Instr.storeAt 230 x105 x102) w103) fun x107 w106 =>
  rd (nilV x7) fun x108 =>
  rd (fldA Pg 232 x108 0) fun x109 =>
  rd (ldV Pg 229 x109 w106) fun x110 =>
  rd (slV Pg 229 x110 none (some (.int .i64 2)) none) fun x111 =>
  rd2 (F 194 [x111] w106) fun x112 w113 =>
  rd (nilV x7) fun x114 =>
  rd (fldA Pg 232 x114 0) fun x115 =>
  rd2 (rawU Pg (Instr.storeAt 229 x115 x112) w113) fun x117 w116 =>
  some ((.tuple #[]), w116))
theorem S139_eq (F : FnT) (G : RndT) (x0 x1 : Value) (w0 : World) : evalCode (cx139 F G) (cdA Go.Proofs.Tryz.f139 []) (endK Pg Go.Proofs.Tryz.f139) (envL [x0, x1]) w0 = S139 F G x0 x1 w0 := by kernel_rfl
theorem F139 (x0 x1 : Value) (w0 : World) : Fn Pg 139 [x0, x1] w0 = S139 (Fn Pg) (Rnd Pg) x0 x1 w0 := (Fn_body (c := cdA Go.Proofs.Tryz.f139 []) Go.Proofs.Tryz.func139 (by kernel_rfl) (by kernel_rfl) [x0, x1] w0 (Nat.le_of_ble_eq_true (by kernel_rfl))).trans (S139_eq _ _ x0 x1 w0)

-- 140 (*ciborium/tree.node[[]ciborium/api.Version]).insert
noncomputable def cx140 (F : FnT) (G : RndT) : Ctx := ⟨Pg, F, G, 140, none, 57⟩
noncomputable def K140_0 : FnT → RndT → Exit → Env → World → R := fun _ _ => endK Pg Go.Proofs.Tryz.f140
noncomputable def K140_1 : FnT → RndT → Exit → Env → World → R := fun F G => blkK 0 (K140_0 F G)
noncomputable def S140 (F : FnT) (G : RndT) (x0 x1 : Value) (w0 : World) : R :=
  rd2 (rawV Pg (Instr.box 240 x1) w0) fun x3 w4 =>
  evalLoop (cx140 F G) (cdA Go.Proofs.Tryz.f140 [1, 0, 0]) (K140_1 F G) (upd (envL [x0, x1]) 3 x3) w4
noncomputable def S140_L1 (F : FnT) (G : RndT) (e : Env) (w0 : World) : R :=
  rd (fldA Pg 240 (e 3) 0) fun x101 =>
  rd (ldV Pg 9 x101 w0) fun x102 =>
  rd2 (F 193 [(e 0), x102] w0) fun x103 w104 =>
  rd (extV x103 0) fun x105 =>
  rd (extV x103 1) fun x106 =>
  rd2 (F 150 [(e 0)] w104) fun x107 w108 =>
  cnd x107 (fun _ => rd (nilV (e 0)) fun x109 =>
  rd (fldA Pg 232 x109 0) fun x110 =>
  rd (ldV Pg 229 x110 (drw w108)) fun x111 =>
  rd (ldV Pg 240 (e 3) (drw w108)) fun x112 =>
  rd2 (rawV Pg (Instr.buildSlice 229 1 #[(0, x112)]) (drw w108)) fun x113 w114 =>
  rd2 (F 196 [x111, x105, x113] w114) fun x115 w116 =>
  rd (nilV (e 0)) fun x117 =>
  rd (fldA Pg 232 x117 0) fun x118 =>
  rd2 (rawU Pg (Instr.storeAt 229 x118 x115) w116) fun x120 w119 =>
  shutK (e 57) w119 fun w121 =>
  some ((.tuple #[]), w121)) (fun _ => rd (nilV (e 0)) fun x122 =>
  rd (fldA Pg 232 x122 1) fun x123 =>
  rd (ldV Pg 230 x123 w108) fun x124 =>
  rd (ixA Pg 230 x124 x105) fun x125 =>
  rd (ldV Pg 228 x125 w108) fun x126 =>
  rd2 (F 138 [x126] w108) fun x127 w128 =>
  cnd x127 (fun _ => rd2 (F 139 [(e 0), x105] w128) fun x129 w130 =>
  rd (nilV (e 0)) fun x131 =>
  rd (fldA Pg 232 x131 0) fun x132 =>
  rd (ldV Pg 229 x132 (drw w130)) fun x133 =>
  rd (ixA Pg 229 x133 x105) fun x134 =>
  rd (fldA Pg 240 x134 0) fun x135 =>
  rd (ldV Pg 9 x135 (drw w130)) fun x136 =>
  rd (fldA Pg 240 (e 3) 0) fun x137 =>
  rd (ldV Pg 9 x137 (drw w130)) fun x138 =>
  rd2 (binG true Pg .lss 9 (.tmp 0) (.tmp 0) x136 x138 (drw w130)) fun x139 _ =>
  cnd x139 (fun _ => rd2 (binG false Pg .add 3 (.tmp 0) (.const .nilFunc) x105 (.int .i64 1) (drw w130)) fun x141 w142 =>
  rd (nilV (e 0)) fun x143 =>
  rd (fldA Pg 232 x143 1) fun x144 =>
  rd (ldV Pg 230 x144 w142) fun x145 =>
  rd (ixA Pg 230 x145 x141) fun x146 =>
  rd (ldV Pg 228 x146 w142) fun x147 =>
  evalLoop (cx140 F G) (cdA Go.Proofs.Tryz.f140 [1, 0, 0]) (K140_1 F G) (upd (upd (upd (upd (upd (upd (upd (upd (upd (upd (upd (upd (upd (upd (upd (upd (upd (upd (upd (upd (upd (upd (upd (upd (upd (upd (upd (upd (upd (upd (upd (upd (upd (upd (upd (upd (upd (upd (upd (upd (upd (upd (upd (upd e 7 (e 0)) 8 x101) 9 x102) 10 x103) 6 x103) 11 x105) 12 x106) 4 x105) 5 x106) 13 (e 0)) 14 x107) 26 (e 0)) 27 x122) 28 x123) 29 x124) 30 x105) 31 x125) 32 x126) 33 x127) 34 (e 0)) 35 x105) 36 x129) 37 (e 0)) 38 x131) 39 x132) 40 x133) 41 x105) 42 x134) 43 x135) 44 x136) 45 x137) 46 x138) 47 x139) 48 x105) 49 x141) 4 x141) 50 (e 0)) 51 x143) 52 x144) 53 x145) 54 x141) 55 x146) 56 x147) 0 x147) w142) (fun _ => rd (nilV (e 0)) fun x148 =>
  rd (fldA Pg 232 x148 1) fun x149 =>
  rd (ldV Pg 230 x149 (drw w130)) fun x150 =>
  rd (ixA Pg 230 x150 x105) fun x151 =>
  rd (ldV Pg 228 x151 (drw w130)) fun x152 =>
  evalLoop (cx140 F G) (cdA Go.Proofs.Tryz.f140 [1, 0, 0]) (K140_1 F G) (upd (upd (upd (upd (upd (upd (upd (upd (upd (upd (upd (upd (upd (upd (upd (upd (upd (upd (upd (upd (upd (upd (upd (upd (upd (upd (upd (upd (upd (upd (upd (upd (upd (upd (upd (upd (upd (upd (upd (upd (upd e 7 (e 0)) 8 x101) 9 x102) 10 x103) 6 x103) 11 x105) 12 x106) 4 x105) 5 x106) 13 (e 0)) 14 x107) 26 (e 0)) 27 x122) 28 x123) 29 x124) 30 x105) 31 x125) 32 x126) 33 x127) 34 (e 0)) 35 x105) 36 x129) 37 (e 0)) 38 x131) 39 x132) 40 x133) 41 x105) 42 x134) 43 x135) 44 x136) 45 x137) 46 x138) 47 x139) 50 (e 0)) 51 x148) 52 x149) 53 x150) 54 x105) 55 x151) 56 x152) 0 x152) (drw w130))) (fun _ => rd (nilV (e 0)) fun x153 =>
  rd (fldA Pg 232 x153 1) fun x154 =>
  rd (ldV Pg 230 x154 w128) fun x155 =>
  rd (ixA Pg 230 x155 x105) fun x156 =>
  rd (ldV Pg 228 x156 w128) fun x157 =>
  evalLoop (cx140 F G) (cdA Go.Proofs.Tryz.f140 [1, 0, 0]) (K140_1 F G) (upd (upd (upd (upd (upd (upd (upd (upd (upd (upd (upd (upd (upd (upd (upd (upd (upd (upd (upd (upd (upd (upd (upd (upd (upd (upd (upd e 7 (e 0)) 8 x101) 9 x102) 10 x103) 6 x103) 11 x105) 12 x106) 4 x105) 5 x106) 13 (e 0)) 14 x107) 26 (e 0)) 27 x122) 28 x123) 29 x124) 30 x105) 31 x125) 32 x126) 33 x127) 50 (e 0)) 51 x153) 52 x154) 53 x155) 54 x105) 55 x156) 56 x157) 0 x157) w128))
theorem S140_eq (F : FnT) (G : RndT) (x0 x1 : Value) (w0 : World) : evalCode (cx140 F G) (cdA Go.Proofs.Tryz.f140 []) (endK Pg Go.Proofs.Tryz.f140) (envL [x0, x1]) w0 = S140 F G x0 x1 w0 := by kernel_rfl
theorem F140 (x0 x1 : Value) (w0 : World) : Fn Pg 140 [x0, x1] w0 = S140 (Fn Pg) (Rnd Pg) x0 x1 w0 := (Fn_body (c := cdA Go.Proofs.Tryz.f140 []) Go.Proofs.Tryz.func140 (by kernel_rfl) (by kernel_rfl) [x0, x1] w0 (Nat.le_of_ble_eq_true (by kernel_rfl))).trans (S140_eq _ _ x0 x1 w0)
theorem S140_L1_eq (F : FnT) (G : RndT) (e : Env) (w0 : World) : evalLoop (cx140 F G) (cdA Go.Proofs.Tryz.f140 [1, 0, 0]) (K140_1 F G) e w0 = S140_L1 F G e w0 := by
  rw [evalLoop_eq]
  kernel_rfl

-- 154 (*ciborium/tree.Tree[[]ciborium/api.Version]).Walk
noncomputable def rx154 (l : Nat) (F : FnT) (G : RndT) : Ctx := ⟨Pg, F, G, 154, some l, 30⟩
noncomputable def cx154 (F : FnT) (G : RndT) : Ctx := ⟨Pg, F, G, 154, none, 30⟩
noncomputable def K154_0 : FnT → RndT → Exit → Env → World → R := fun _ _ => endK Pg Go.Proofs.Tryz.f154
noncomputable def K154_1 : FnT → RndT → Exit → Env → World → R := fun F G => thenK (evalCode (cx154 F G) (cdA Go.Proofs.Tryz.f154 [1, 1, 1]) (K154_0 F G)) (K154_0 F G)
noncomputable def K154_2 : FnT → RndT → Exit → Env → World → R := fun F G => blkK 0 (K154_1 F G)
noncomputable def S154 (F : FnT) (G : RndT) (x0 x1 x2 : Value) (w0 : World) : R :=
  rd2 (rawV Pg (Instr.box 25 x1) w0) fun x4 w5 =>
  rd2 (rawV Pg (Instr.box 3 x2) w5) fun x6 w7 =>
  rd2 (rawV Pg (Instr.alloc 229 true (.tuple #[])) w7) fun x8 w9 =>
  rd (fldA Pg 25 x4 0) fun x10 =>
  rd (ldV Pg 9 x10 w9) fun x11 =>
  rd2 (F 142 [x0, x11] w9) fun x12 w13 =>
  rngR (cx154 F G) x12 #[13] (cdA Go.Proofs.Tryz.f154 [1, 1, 0, 1, 0, 0]) (cdA Go.Proofs.Tryz.f154 [1, 1, 0, 1, 0, 1]) (K154_2 F G) (upd (upd (upd (upd (upd (upd (upd (upd (envL [x0, x1, x2]) 4 x4) 5 x6) 6 (.slice none 0 0)) 7 x8) 9 x0) 10 x10) 11 x11) 12 x12) w13
noncomputable def S154_N1 (F : FnT) (G : RndT) (e : Env) (w0 : World) : R :=
  rd (ldV Pg 229 (e 7) w0) fun x101 =>
  shutK (e 30) w0 fun w102 =>
  some (x101, w102)
noncomputable def S154_T1 (F : FnT) (G : RndT) (e : Env) (w0 : World) : R :=
  shutK (e 30) w0 fun w101 =>
  some ((e 6), w101)
noncomputable def S154_X0_1 (F : FnT) (G : RndT) (e : Env) (w0 : World) : R :=
  rd (ldV Pg 229 (e 7) w0) fun x101 =>
  shutK (e 30) w0 fun w102 =>
  some (x101, w102)
noncomputable def S154_R1 (F : FnT) (G : RndT) (l : Nat) (e : Env) (w0 : World) : R :=
  rd2 (rawV Pg (Instr.alloc 240 true (.tuple #[])) w0) fun x101 w102 =>
  rd2 (rawU Pg (Instr.storeAt 240 x101 (e 13)) w102) fun x104 w103 =>
  begR l w103 fun w105 =>
  rd (ldV Pg 229 (e 7) w105) fun x106 =>
  rd2 (lenG false Pg .len #[229] 3 #[false] [x106] w105) fun x107 w108 =>
  rd (ldV Pg 3 (e 5) w108) fun x109 =>
  rd2 (binG false Pg .geq 3 (.tmp 0) (.tmp 0) x107 x109 w108) fun x110 w111 =>
  rd2 (gate x110 false (fun _ => rd (ldV Pg 25 (e 4) w111) fun x112 => some (x112, w111)) w111) fun x113 w114 =>
  rd2 (gate x110 false (fun _ => rd (fldA Pg 240 x101 0) fun x115 => some (x115, w114)) w114) fun x116 w117 =>
  rd2 (gate x110 false (fun _ => rd (ldV Pg 9 x116 w117) fun x118 => some (x118, w117)) w117) fun x119 w120 =>
  rd2 (gate x110 false (fun _ => rd2 (F 208 [x113, x119] w120) fun x121 w122 => some (x121, w122)) w120) fun x123 w124 =>
  rd2 (gate x110 false (fun _ => rd (unV .not x123) fun x125 => some (x125, w124)) w124) fun x126 w127 =>
  rd (pickV x110 (.bool true) x126) fun x128 =>
  cnd x128 (fun _ => finR l (some (.exit 0)) w127) (fun _ => rd (ldV Pg 229 (e 7) w127) fun x129 =>
  rd (ldV Pg 240 x101 w127) fun x130 =>
  rd2 (rawV Pg (Instr.buildSlice 229 1 #[(0, x130)]) w127) fun x131 w132 =>
  rd2 (lenG false Pg .append #[229, 229] 229 #[false, false] [x129, x131] w132) fun x133 w134 =>
  rd2 (rawU Pg (Instr.storeAt 229 (e 7) x133) w134) fun x136 w135 =>
  finR l none w135)
theorem S154_eq (F : FnT) (G : RndT) (x0 x1 x2 : Value) (w0 : World) : evalCode (cx154 F G) (cdA Go.Proofs.Tryz.f154 []) (endK Pg Go.Proofs.Tryz.f154) (envL [x0, x1, x2]) w0 = S154 F G x0 x1 x2 w0 := by kernel_rfl
theorem F154 (x0 x1 x2 : Value) (w0 : World) : Fn Pg 154 [x0, x1, x2] w0 = S154 (Fn Pg) (Rnd Pg) x0 x1 x2 w0 := (Fn_body (c := cdA Go.Proofs.Tryz.f154 []) Go.Proofs.Tryz.func154 (by kernel_rfl) (by kernel_rfl) [x0, x1, x2] w0 (Nat.le_of_ble_eq_true (by kernel_rfl))).trans (S154_eq _ _ x0 x1 x2 w0)
theorem S154_N1_eq (F : FnT) (G : RndT) (e : Env) (w0 : World) : K154_2 F G .normal e w0 = S154_N1 F G e w0 := by kernel_rfl
theorem S154_T1_eq (F : FnT) (G : RndT) (e : Env) (w0 : World) : K154_2 F G .ret e w0 = S154_T1 F G e w0 := by kernel_rfl
theorem S154_X0_1_eq (F : FnT) (G : RndT) (e : Env) (w0 : World) : K154_2 F G (.exit 0) e w0 = S154_X0_1 F G e w0 := by kernel_rfl
theorem S154_R1_eq (F : FnT) (G : RndT) (l : Nat) (ts : List Value) (w0 : World) : evalRound (rx154 l F G) l ts (cdA Go.Proofs.Tryz.f154 [1, 1, 0, 1, 0, 0]) (cdA Go.Proofs.Tryz.f154 [1, 1, 0, 1, 0, 1]) w0 = S154_R1 F G l (envL ts) w0 := by kernel_rfl
theorem R154_1 {l : Nat} {ts : List Value} (w0 : World) (h : ts.length = 30) : Rnd Pg l 154 ts (cdA Go.Proofs.Tryz.f154 [1, 1, 0, 1, 0, 0]) (cdA Go.Proofs.Tryz.f154 [1, 1, 0, 1, 0, 1]) w0 = S154_R1 (Fn Pg) (Rnd Pg) l (envL ts) w0 := by
  rw [Rnd_eq]; unfold rndS; rw [h]; exact S154_R1_eq _ _ _ _ _

-- 155 (*ciborium/tree.Tree[[]ciborium/api.Version]).Len
noncomputable def cx155 (F : FnT) (G : RndT) : Ctx := ⟨Pg, F, G, 155, none, 9⟩
noncomputable def S155 (F : FnT) (G : RndT) (x0 : Value) (w0 : World) : R :=
  rd2 (F 136 [x0] w0) fun x2 w3 =>
  cnd x2 (fun _ => some ((.int .i64 0), w3)) (fun _ => rd (nilV x0) fun x4 =>
  rd (fldA Pg 234 x4 1) fun x5 =>
  rd (ldV Pg 3 x5 w3) fun x6 =>
  some (x6, w3))
theorem S155_eq (F : FnT) (G : RndT) (x0 : Value) (w0 : World) : evalCode (cx155 F G) (cdA Go.Proofs.Tryz.f155 []) (endK Pg Go.Proofs.Tryz.f155) (envL [x0]) w0 = S155 F G x0 w0 := by kernel_rfl
theorem F155 (x0 : Value) (w0 : World) : Fn Pg 155 [x0] w0 = S155 (Fn Pg) (Rnd Pg) x0 w0 := (Fn_body (c := cdA Go.Proofs.Tryz.f155 []) Go.Proofs.Tryz.func155 (by kernel_rfl) (by kernel_rfl) [x0] w0 (Nat.le_of_ble_eq_true (by kernel_rfl))).trans (S155_eq _ _ x0 w0)

-- 144 ciborium/chain.Right
noncomputable def cx144 (F : FnT) (G : RndT) : Ctx := ⟨Pg, F, G, 144, none, 35⟩
noncomputable def K144_0 : FnT → RndT → Exit → Env → World → R := fun _ _ => endK Pg Go.Proofs.Tryz.f144
noncomputable def K144_1 : FnT → RndT → Exit → Env → World → R := fun F G => thenK (evalCode (cx144 F G) (cdA Go.Proofs.Tryz.f144 [1, 1]) (K144_0 F G)) (K144_0 F G)
noncomputable def K144_2 : FnT → RndT → Exit → Env → World → R := fun F G => blkK 0 (K144_1 F G)
noncomputable def S144 (F : FnT) (G : RndT) (x0 : Value) (w0 : World) : R :=
  rd2 (lenG false Pg .len #[43] 3 #[false] [x0] w0) fun x2 w3 =>
  evalLoop (cx144 F G) (cdA Go.Proofs.Tryz.f144 [1, 0, 1, 0, 0]) (K144_2 F G) (upd (upd (upd (upd (envL [x0]) 2 (.bool false)) 5 x0) 6 x2) 7 (.int .i64 0)) w3
noncomputable def S144_L1 (F : FnT) (G : RndT) (e : Env) (w0 : World) : R :=
  rd2 (binG false Pg .lss 3 (.tmp 0) (.tmp 0) (e 7) (e 6) w0) fun x101 w102 =>
  cnd x101 (fun _ => rd (ixA Pg 43 (e 5) (e 7)) fun x103 =>
  rd (ldV Pg 137 x103 w102) fun x104 =>
  rd2 (rawV Pg (Instr.alloc 137 true (.tuple #[])) w102) fun x105 w106 =>
  rd2 (rawU Pg (Instr.storeAt 137 x105 x104) w106) fun x108 w107 =>
  rd (fldA Pg 137 x105 1) fun x109 =>
  rd (ldV Pg 4 x109 (drw w107)) fun x110 =>
  rd2 (gate x110 true (fun _ => rd (ldV Pg 137 x105 (drw w107)) fun x111 => some (x111, (drw w107))) (drw w107)) fun x112 _ =>
  rd2 (gate x110 true (fun _ => rd2 (F 200 [x112] (drw w107)) fun x114 w115 => some (x114, w115)) (drw w107)) fun x116 w117 =>
  rd2 (gate x110 true (fun _ => rd (unV .not x116) fun x118 => some (x118, w117)) w117) fun x119 _ =>
  rd (pickV x110 x119 (.bool false)) fun x121 =>
  rd2 (gate x121 false (fun _ =>  some ((e 7), w117)) w117) fun x122 _ =>
  rd2 (gate x121 false (fun _ => rd2 (binG true Pg .gtr 3 (.tmp 0) (.const .nilFunc) x122 (.int .i64 0) w117) fun x124 w125 => some (x124, w125)) w117) fun x126 _ =>
  rd2 (gate x121 false (fun _ =>  some (x126, w117)) w117) fun x128 _ =>
  rd2 (gate x128 true (fun _ => rd (fldA Pg 137 x105 0) fun x130 => some (x130, w117)) w117) fun x131 _ =>
  rd2 (gate x128 true (fun _ => rd (ldV Pg 23 x131 w117) fun x133 => some (x133, w117)) w117) fun x134 _ =>
  rd2 (gate x128 true (fun _ =>  some ((e 0), w117)) w117) fun x136 _ =>
  rd2 (gate x128 true (fun _ =>  some ((e 7), w117)) w117) fun x138 _ =>
  rd2 (gate x128 true (fun _ => rd2 (binG true Pg .sub 3 (.tmp 0) (.const .nilFunc) x138 (.int .i64 1) w117) fun x140 w141 => some (x140, w141)) w117) fun x142 _ =>
  rd2 (gate x128 true (fun _ => rd (ixA Pg 43 x136 x142) fun x144 => some (x144, w117)) w117) fun x145 _ =>
  rd2 (gate x128 true (fun _ => rd (fldA Pg 137 x145 0) fun x147 => some (x147, w117)) w117) fun x148 _ =>
  rd2 (gate x128 true (fun _ => rd (ldV Pg 23 x148 w117) fun x150 => some (x150, w117)) w117) fun x151 _ =>
  rd2 (gate x128 true (fun _ => rd2 (binG true Pg .geq 23 (.tmp 0) (.tmp 0) x134 x151 w117) fun x153 w154 => some (x153, w154)) w117) fun x155 _ =>
  rd2 (gate x121 false (fun _ => rd (pickV x128 x155 (.bool false)) fun x157 => some (x157, w117)) w117) fun x158 _ =>
  rd (pickV x121 (.bool true) x158) fun x160 =>
  cnd x160 (fun _ => shutK (e 35) w117 fun w161 =>
  some ((.bool false), w161)) (fun _ => rd2 (binG false Pg .add 3 (.tmp 0) (.const .nilFunc) (e 7) (.int .i64 1) w117) fun x162 w163 =>
  evalLoop (cx144 F G) (cdA Go.Proofs.Tryz.f144 [1, 0, 1, 0, 0]) (K144_2 F G) (upd (upd (upd (upd (upd (upd (upd (upd (upd (upd (upd (upd (upd (upd (upd (upd (upd (upd (upd (upd (upd (upd (upd (upd (upd (upd (upd (upd (upd (upd e 8 x101) 9 (e 7)) 10 x103) 11 x104) 4 x105) 3 (e 7)) 12 x109) 13 x110) 14 x110) 15 x112) 16 x116) 17 x119) 18 x121) 19 x121) 20 x122) 21 x126) 22 x128) 23 x131) 24 x134) 25 x136) 26 x138) 27 x142) 28 x145) 29 x148) 30 x151) 31 x155) 32 x158) 33 x160) 34 x162) 7 x162) w163)) (fun _ => shutK (e 35) w102 fun w164 =>
  some ((.bool true), w164))
theorem S144_eq (F : FnT) (G : RndT) (x0 : Value) (w0 : World) : evalCode (cx144 F G) (cdA Go.Proofs.Tryz.f144 []) (endK Pg Go.Proofs.Tryz.f144) (envL [x0]) w0 = S144 F G x0 w0 := by kernel_rfl
theorem F144 (x0 : Value) (w0 : World) : Fn Pg 144 [x0] w0 = S144 (Fn Pg) (Rnd Pg) x0 w0 := (Fn_body (c := cdA Go.Proofs.Tryz.f144 []) Go.Proofs.Tryz.func144 (by kernel_rfl) (by kernel_rfl) [x0] w0 (Nat.le_of_ble_eq_true (by kernel_rfl))).trans (S144_eq _ _ x0 w0)
theorem S144_L1_eq (F : FnT) (G : RndT) (e : Env) (w0 : World) : evalLoop (cx144 F G) (cdA Go.Proofs.Tryz.f144 [1, 0, 1, 0, 0]) (K144_2 F G) e w0 = S144_L1 F G e w0 := by
  rw [evalLoop_eq]
  kernel_rfl

-- 145 ciborium/chain.place
noncomputable def cx145 (F : FnT) (G : RndT) : Ctx := ⟨Pg, F, G, 145, none, 9⟩
noncomputable def S145 (F : FnT) (G : RndT) (x0 x1 : Value) (w0 : World) : R :=
  rd2 (rawV Pg (Instr.box 43 x0) w0) fun x3 w4 =>
  rd2 (rawV Pg (Instr.box 23 x1) w4) fun x5 w6 =>
  rd (ldV Pg 43 x3 w6) fun x7 =>
  rd2 (lenG false Pg .len #[43] 3 #[false] [x7] w6) fun x8 w9 =>
  rd2 (F 201 [x8, (.func (.func 202) #[] #[x3, x5])] w9) fun x10 w11 =>
  some (x10, w11)
theorem S145_eq (F : FnT) (G : RndT) (x0 x1 : Value) (w0 : World) : evalCode (cx145 F G) (cdA Go.Proofs.Tryz.f145 []) (endK Pg Go.Proofs.Tryz.f145) (envL [x0, x1]) w0 = S145 F G x0 x1 w0 := by kernel_rfl
theorem F145 (x0 x1 : Value) (w0 : World) : Fn Pg 145 [x0, x1] w0 = S145 (Fn Pg) (Rnd Pg) x0 x1 w0 := (Fn_body (c := cdA Go.Proofs.Tryz.f145 []) Go.Proofs.Tryz.func145 (by kernel_rfl) (by kernel_rfl) [x0, x1] w0 (Nat.le_of_ble_eq_true (by kernel_rfl))).trans (S145_eq _ _ x0 x1 w0)

-- 146 ciborium/chain.gone
noncomputable def cx146 (F : FnT) (G : RndT) : Ctx := ⟨Pg, F, G, 146, none, 41⟩
noncomputable def K146_0 : FnT → RndT → Exit → Env → World → R := fun _ _ => endK Pg Go.Proofs.Tryz.f146
noncomputable def K146_1 : FnT → RndT → Exit → Env → World → R := fun F G => scpK (K146_0 F G)
noncomputable def K146_2 : FnT → RndT → Exit → Env → World → R := fun F G => thenK (evalCode (cx146 F G) (cdA Go.Proofs.Tryz.f146 [1, 0, 1, 1, 1]) (K146_1 F G)) (K146_1 F G)
noncomputable def K146_3 : FnT → RndT → Exit → Env → World → R := fun F G => blkK 0 (K146_2 F G)
noncomputable def K146_4 : FnT → RndT → Exit → Env → World → R := fun F G => thenK (evalCode (cx146 F G) (cdA Go.Proofs.Tryz.f146 [1, 0, 1, 1, 1, 1]) (K146_1 F G)) (K146_1 F G)
noncomputable def K146_5 : FnT → RndT → Exit → Env → World → R := fun F G => blkK 2 (K146_4 F G)
noncomputable def S146 (F : FnT) (G : RndT) (x0 x1 x2 : Value) (w0 : World) : R :=
  rd2 (lenG false Pg .len #[43] 3 #[false] [x0] w0) fun x4 w5 =>
  rd2 (binG false Pg .eql 3 (.tmp 0) (.const .nilFunc) x4 (.int .i64 0) w5) fun x6 w7 =>
  rd2 (gate x6 false (fun _ =>  some (x0, w7)) w7) fun x8 w9 =>
  rd2 (gate x6 false (fun _ => rd (ixA Pg 43 x8 (.int .i64 0)) fun x10 => some (x10, w9)) w9) fun x11 w12 =>
  rd2 (gate x6 false (fun _ => rd (fldA Pg 137 x11 1) fun x13 => some (x13, w12)) w12) fun x14 w15 =>
  rd2 (gate x6 false (fun _ => rd (ldV Pg 4 x14 w15) fun x16 => some (x16, w15)) w15) fun x17 w18 =>
  rd2 (gate x6 false (fun _ => rd (unV .not x17) fun x19 => some (x19, w18)) w18) fun x20 w21 =>
  rd (pickV x6 (.bool true) x20) fun x22 =>
  cnd x22 (fun _ => some ((.bool false), w21)) (fun _ => rd2 (rawV Pg (Instr.range 248 x1) w21) fun x23 w24 =>
  evalLoop (cx146 F G) (cdA Go.Proofs.Tryz.f146 [1, 0, 1, 1, 0, 1, 0, 0]) (K146_3 F G) (upd (upd (upd (upd (upd (upd (upd (upd (upd (upd (upd (upd (upd (envL [x0, x1, x2]) 6 (.bool false)) 10 x0) 11 x4) 12 x6) 13 x6) 14 x8) 15 x11) 16 x14) 17 x17) 18 x20) 19 x22) 20 x1) 21 x23) w24)
noncomputable def S146_L1 (F : FnT) (G : RndT) (e : Env) (w0 : World) : R :=
  rd2 (rawV Pg (Instr.next (e 21) false 0) w0) fun x101 w102 =>
  rd (extV x101 0) fun x103 =>
  cnd x103 (fun _ => rd2 (rawV Pg (Instr.entry (e 21)) w102) fun x104 w105 =>
  rd (extV x104 0) fun x106 =>
  rd2 (binG false Pg .eql 3 (.tmp 0) (.const .nilFunc) x106 (.int .i64 0) w105) fun x107 w108 =>
  cnd x107 (fun _ => evalLoop (cx146 F G) (cdA Go.Proofs.Tryz.f146 [1, 0, 1, 1, 0, 1, 0, 0]) (K146_3 F G) (upd (upd (upd (upd (upd (upd (upd e 22 x101) 23 x103) 24 x104) 25 x106) 7 x106) 26 x106) 27 x107) w108) (fun _ => shutK (e 41) w108 fun w109 =>
  some ((.bool false), w109))) (fun _ => rd2 (lenG false Pg .len #[37] 3 #[false] [(e 2)] w102) fun x110 w111 =>
  evalLoop (cx146 F G) (cdA Go.Proofs.Tryz.f146 [1, 0, 1, 1, 1, 0, 1, 0, 0]) (K146_5 F G) (upd (upd (upd (upd (upd e 22 x101) 23 x103) 28 (e 2)) 29 x110) 30 (.int .i64 0)) w111)
noncomputable def S146_L2 (F : FnT) (G : RndT) (e : Env) (w0 : World) : R :=
  rd2 (binG false Pg .lss 3 (.tmp 0) (.tmp 0) (e 30) (e 29) w0) fun x101 w102 =>
  cnd x101 (fun _ => rd (ixA Pg 37 (e 28) (e 30)) fun x103 =>
  rd (ldV Pg 23 x103 w102) fun x104 =>
  rd (ixA Pg 43 (e 0) (.int .i64 0)) fun x105 =>
  rd (fldA Pg 137 x105 0) fun x106 =>
  rd (ldV Pg 23 x106 w102) fun x107 =>
  rd2 (binG false Pg .lss 23 (.tmp 0) (.tmp 0) x104 x107 w102) fun x108 w109 =>
  cnd x108 (fun _ => shutK (e 41) w109 fun w110 =>
  some ((.bool false), w110)) (fun _ => rd2 (binG false Pg .add 3 (.tmp 0) (.const .nilFunc) (e 30) (.int .i64 1) w109) fun x111 w112 =>
  evalLoop (cx146 F G) (cdA Go.Proofs.Tryz.f146 [1, 0, 1, 1, 1, 0, 1, 0, 0]) (K146_5 F G) (upd (upd (upd (upd (upd (upd (upd (upd (upd (upd (upd (upd e 31 x101) 32 x103) 33 x104) 9 x104) 34 x104) 35 (e 0)) 36 x105) 37 x106) 38 x107) 39 x108) 40 x111) 30 x111) w112)) (fun _ => shutK (e 41) w102 fun w113 =>
  some ((.bool true), w113))
theorem S146_eq (F : FnT) (G : RndT) (x0 x1 x2 : Value) (w0 : World) : evalCode (cx146 F G) (cdA Go.Proofs.Tryz.f146 []) (endK Pg Go.Proofs.Tryz.f146) (envL [x0, x1, x2]) w0 = S146 F G x0 x1 x2 w0 := by kernel_rfl
theorem F146 (x0 x1 x2 : Value) (w0 : World) : Fn Pg 146 [x0, x1, x2] w0 = S146 (Fn Pg) (Rnd Pg) x0 x1 x2 w0 := (Fn_body (c := cdA Go.Proofs.Tryz.f146 []) Go.Proofs.Tryz.func146 (by kernel_rfl) (by kernel_rfl) [x0, x1, x2] w0 (Nat.le_of_ble_eq_true (by kernel_rfl))).trans (S146_eq _ _ x0 x1 x2 w0)
theorem S146_L1_eq (F : FnT) (G : RndT) (e : Env) (w0 : World) : evalLoop (cx146 F G) (cdA Go.Proofs.Tryz.f146 [1, 0, 1, 1, 0, 1, 0, 0]) (K146_3 F G) e w0 = S146_L1 F G e w0 := by
  rw [evalLoop_eq]
  kernel_rfl
theorem S146_L2_eq (F : FnT) (G : RndT) (e : Env) (w0 : World) : evalLoop (cx146 F G) (cdA Go.Proofs.Tryz.f146 [1, 0, 1, 1, 1, 0, 1, 0, 0]) (K146_5 F G) e w0 = S146_L2 F G e w0 := by
  rw [evalLoop_eq]
  kernel_rfl

-- 147 ciborium/chain.own
noncomputable def cx147 (F : FnT) (G : RndT) : Ctx := ⟨Pg, F, G, 147, none, 10⟩
noncomputable def S147 (F : FnT) (G : RndT) (x0 : Value) (w0 : World) : R :=
  rd2 (rawV Pg (Instr.box 137 x0) w0) fun x2 w3 =>
  rd2 (rawV Pg (Instr.alloc 137 true (.tuple #[])) w3) fun x4 w5 =>
  rd (fldA Pg 137 x2 2) fun x6 =>
  rd (fldA Pg 82 x6 0) fun x7 =>
  rd (ldV Pg 80 x7 w5) fun x8 =>
  rd2 (lenG false Pg .append #[80, 80] 80 #[true, false] [(.slice none 0 0), x8] w5) fun x9 w10 =>
  rd (fldA Pg 137 x2 2) fun x11 =>
  rd (fldA Pg 82 x11 0) fun x12 =>
  rd2 (rawU Pg (Instr.storeAt 80 x12 x9) w10) fun x14 w13 =>
  rd (ldV Pg 137 x2 w13) fun x15 =>
  rd2 (rawU Pg (Instr.storeAt 137 x4 x15) w13) fun x17 w16 =>
  rd (ldV Pg 137 x4 w16) fun x18 =>
  some (x18, w16)
theorem S147_eq (F : FnT) (G : RndT) (x0 : Value) (w0 : World) : evalCode (cx147 F G) (cdA Go.Proofs.Tryz.f147 []) (endK Pg Go.Proofs.Tryz.f147) (envL [x0]) w0 = S147 F G x0 w0 := by kernel_rfl
theorem F147 (x0 : Value) (w0 : World) : Fn Pg 147 [x0] w0 = S147 (Fn Pg) (Rnd Pg) x0 w0 := (Fn_body (c := cdA Go.Proofs.Tryz.f147 []) Go.Proofs.Tryz.func147 (by kernel_rfl) (by kernel_rfl) [x0] w0 (Nat.le_of_ble_eq_true (by kernel_rfl))).trans (S147_eq _ _ x0 w0)

-- 142 (*ciborium/tree.Tree[[]ciborium/api.Version]).from
noncomputable def cx142 (F : FnT) (G : RndT) : Ctx := ⟨Pg, F, G, 142, none, 6⟩
noncomputable def S142 (F : FnT) (G : RndT) (x0 x1 : Value) (w0 : World) : R :=
  rd2 (rawV Pg (Instr.box 141 x0) w0) fun x3 w4 =>
  rd2 (rawV Pg (Instr.box 9 x1) w4) fun x5 w6 =>
  some ((.func (.func 198) #[] #[x3, x5]), w6)
theorem S142_eq (F : FnT) (G : RndT) (x0 x1 : Value) (w0 : World) : evalCode (cx142 F G) (cdA Go.Proofs.Tryz.f142 []) (endK Pg Go.Proofs.Tryz.f142) (envL [x0, x1]) w0 = S142 F G x0 x1 w0 := by kernel_rfl
theorem F142 (x0 x1 : Value) (w0 : World) : Fn Pg 142 [x0, x1] w0 = S142 (Fn Pg) (Rnd Pg) x0 x1 w0 := (Fn_body (c := cdA Go.Proofs.Tryz.f142 []) Go.Proofs.Tryz.func142 (by kernel_rfl) (by kernel_rfl) [x0, x1] w0 (Nat.le_of_ble_eq_true (by kernel_rfl))).trans (S142_eq _ _ x0 x1 w0)

-- 148 (*ciborium/tree.Tree[[]ciborium/api.Version]).Get
noncomputable def cx148 (F : FnT) (G : RndT) : Ctx := ⟨Pg, F, G, 148, none, 21⟩
noncomputable def S148 (F : FnT) (G : RndT) (x0 x1 : Value) (w0 : World) : R :=
  rd2 (F 136 [x0] w0) fun x3 w4 =>
  cnd x3 (fun _ => some ((.tuple #[(.slice none 0 0), (.bool false)]), w4)) (fun _ => rd2 (F 137 [x0, x1] w4) fun x5 w6 =>
  rd2 (binG false Pg .eql 237 (.tmp 0) (.const .nilFunc) x5 (.pointer none) w6) fun x7 w8 =>
  cnd x7 (fun _ => some ((.tuple #[(.slice none 0 0), (.bool false)]), w8)) (fun _ => rd (nilV x5) fun x9 =>
  rd (fldA Pg 240 x9 1) fun x10 =>
  rd (ldV Pg 43 x10 w8) fun x11 =>
  some ((.tuple #[x11, (.bool true)]), w8)))
theorem S148_eq (F : FnT) (G : RndT) (x0 x1 : Value) (w0 : World) : evalCode (cx148 F G) (cdA Go.Proofs.Tryz.f148 []) (endK Pg Go.Proofs.Tryz.f148) (envL [x0, x1]) w0 = S148 F G x0 x1 w0 := by kernel_rfl
theorem F148 (x0 x1 : Value) (w0 : World) : Fn Pg 148 [x0, x1] w0 = S148 (Fn Pg) (Rnd Pg) x0 x1 w0 := (Fn_body (c := cdA Go.Proofs.Tryz.f148 []) Go.Proofs.Tryz.func148 (by kernel_rfl) (by kernel_rfl) [x0, x1] w0 (Nat.le_of_ble_eq_true (by kernel_rfl))).trans (S148_eq _ _ x0 x1 w0)

-- 149 (*ciborium/tree.node[[]ciborium/api.Version]).remove
noncomputable def cx149 (F : FnT) (G : RndT) : Ctx := ⟨Pg, F, G, 149, none, 151⟩
noncomputable def S149 (F : FnT) (G : RndT) (x0 x1 : Value) (w0 : World) : R :=
  rd2 (F 193 [x0, x1] w0) fun x3 w4 =>
  rd (extV x3 0) fun x5 =>
  rd (extV x3 1) fun x6 =>
  rd2 (gate x6 true (fun _ =>  some (x0, w4)) w4) fun x7 w8 =>
  rd2 (gate x6 true (fun _ => rd2 (F 150 [x7] w8) fun x9 w10 => some (x9, w10)) w8) fun x11 w12 =>
  rd (pickV x6 x11 (.bool false)) fun x13 =>
  cnd x13 (fun _ => rd (nilV x0) fun x14 =>
  rd (fldA Pg 232 x14 0) fun x15 =>
  rd (ldV Pg 229 x15 w12) fun x16 =>
  rd2 (binG false Pg .add 3 (.tmp 0) (.const .nilFunc) x5 (.int .i64 1) w12) fun x17 w18 =>
  rd2 (F 203 [x16, x5, x17] w18) fun x19 w20 =>
  rd (nilV x0) fun x21 =>
  rd (fldA Pg 232 x21 0) fun x22 =>
  rd2 (rawU Pg (Instr.storeAt 229 x22 x19) w20) fun x24 w23 =>
  some ((.tuple #[]), w23)) (fun _ => rd2 (gate x6 true (fun _ =>  some (x0, w12)) w12) fun x25 w26 =>
  rd2 (gate x6 true (fun _ => rd (nilV x25) fun x27 => some (x27, w26)) w26) fun x28 w29 =>
  rd2 (gate x6 true (fun _ => rd (fldA Pg 232 x28 1) fun x30 => some (x30, w29)) w29) fun x31 w32 =>
  rd2 (gate x6 true (fun _ => rd (ldV Pg 230 x31 w32) fun x33 => some (x33, w32)) w32) fun x34 w35 =>
  rd2 (gate x6 true (fun _ =>  some (x5, w35)) w35) fun x36 w37 =>
  rd2 (gate x6 true (fun _ => rd (ixA Pg 230 x34 x36) fun x38 => some (x38, w37)) w37) fun x39 w40 =>
  rd2 (gate x6 true (fun _ => rd (ldV Pg 228 x39 w40) fun x41 => some (x41, w40)) w40) fun x42 w43 =>
  rd2 (gate x6 true (fun _ => rd (nilV x42) fun x44 => some (x44, w43)) w43) fun x45 w46 =>
  rd2 (gate x6 true (fun _ => rd (fldA Pg 232 x45 0) fun x47 => some (x47, w46)) w46) fun x48 w49 =>
  rd2 (gate x6 true (fun _ => rd (ldV Pg 229 x48 w49) fun x50 => some (x50, w49)) w49) fun x51 w52 =>
  rd2 (gate x6 true (fun _ => rd2 (lenG false Pg .len #[229] 3 #[false] [x51] w52) fun x53 w54 => some (x53, w54)) w52) fun x55 w56 =>
  rd2 (gate x6 true (fun _ => rd2 (binG false Pg .gtr 3 (.tmp 0) (.const .nilFunc) x55 (.int .i64 2) w56) fun x57 w58 => some (x57, w58)) w56) fun x59 w60 =>
  rd (pickV x6 x59 (.bool false)) fun x61 =>
  cnd x61 (fun _ => rd (nilV x0) fun x62 =>
  rd (fldA Pg 232 x62 0) fun x63 =>
  rd (ldV Pg 229 x63 (drw w60)) fun x64 =>
  rd (nilV x0) fun x65 =>
  rd (fldA Pg 232 x65 1) fun x66 =>
  rd (ldV Pg 230 x66 (drw w60)) fun x67 =>
  rd (ixA Pg 230 x67 x5) fun x68 =>
  rd (ldV Pg 228 x68 (drw w60)) fun x69 =>
  rd2 (F 204 [x69, (.bool true)] (drw w60)) fun x70 w71 =>
  chk (holdsAt Pg none (.ld 229) x63 x64 w71) fun _ =>
  rd (ixA Pg 229 x64 x5) fun x72 =>
  rd2 (rawU Pg (Instr.storeAt 240 x72 x70) w71) fun x74 w73 =>
  rd (nilV x0) fun x75 =>
  rd (fldA Pg 232 x75 1) fun x76 =>
  rd (ldV Pg 230 x76 (drw w73)) fun x77 =>
  rd (ixA Pg 230 x77 x5) fun x78 =>
  rd (ldV Pg 228 x78 (drw w73)) fun x79 =>
  rd (nilV x0) fun x80 =>
  rd (fldA Pg 232 x80 0) fun x81 =>
  rd (ldV Pg 229 x81 (drw w73)) fun x82 =>
  rd (ixA Pg 229 x82 x5) fun x83 =>
  rd (fldA Pg 240 x83 0) fun x84 =>
  rd (ldV Pg 9 x84 (drw w73)) fun x85 =>
  rd2 (F 149 [x79, x85] (drw w73)) fun x86 w87 =>
  some ((.tuple #[]), w87)) (fun _ => rd2 (gate x6 true (fun _ =>  some (x0, w60)) w60) fun x88 w89 =>
  rd2 (gate x6 true (fun _ => rd (nilV x88) fun x90 => some (x90, w89)) w89) fun x91 w92 =>
  rd2 (gate x6 true (fun _ => rd (fldA Pg 232 x91 1) fun x93 => some (x93, w92)) w92) fun x94 w95 =>
  rd2 (gate x6 true (fun _ => rd (ldV Pg 230 x94 w95) fun x96 => some (x96, w95)) w95) fun x97 w98 =>
  rd2 (gate x6 true (fun _ =>  some (x5, w98)) w98) fun x99 w100 =>
  rd2 (gate x6 true (fun _ => rd2 (binG false Pg .add 3 (.tmp 0) (.const .nilFunc) x99 (.int .i64 1) w100) fun x101 w102 => some (x101, w102)) w100) fun x103 w104 =>
  rd2 (gate x6 true (fun _ => rd (ixA Pg 230 x97 x103) fun x105 => some (x105, w104)) w104) fun x106 w107 =>
  rd2 (gate x6 true (fun _ => rd (ldV Pg 228 x106 w107) fun x108 => some (x108, w107)) w107) fun x109 w110 =>
  rd2 (gate x6 true (fun _ => rd (nilV x109) fun x111 => some (x111, w110)) w110) fun x112 w113 =>
  rd2 (gate x6 true (fun _ => rd (fldA Pg 232 x112 0) fun x114 => some (x114, w113)) w113) fun x115 w116 =>
  rd2 (gate x6 true (fun _ => rd (ldV Pg 229 x115 w116) fun x117 => some (x117, w116)) w116) fun x118 w119 =>
  rd2 (gate x6 true (fun _ => rd2 (lenG false Pg .len #[229] 3 #[false] [x118] w119) fun x120 w121 => some (x120, w121)) w119) fun x122 w123 =>
  rd2 (gate x6 true (fun _ => rd2 (binG false Pg .gtr 3 (.tmp 0) (.const .nilFunc) x122 (.int .i64 2) w123) fun x124 w125 => some (x124, w125)) w123) fun x126 w127 =>
  rd (pickV x6 x126 (.bool false)) fun x128 =>
  cnd x128 (fun _ => rd (nilV x0) fun x129 =>
  rd (fldA Pg 232 x129 0) fun x130 =>
  rd (ldV Pg 229 x130 (drw w127)) fun x131 =>
  rd (nilV x0) fun x132 =>
  rd (fldA Pg 232 x132 1) fun x133 =>
  rd (ldV Pg 230 x133 (drw w127)) fun x134 =>
  rd2 (binG true Pg .add 3 (.tmp 0) (.const .nilFunc) x5 (.int .i64 1) (drw w127)) fun x135 _ =>
  rd (ixA Pg 230 x134 x135) fun x137 =>
  rd (ldV Pg 228 x137 (drw w127)) fun x138 =>
  rd2 (F 204 [x138, (.bool false)] (drw w127)) fun x139 w140 =>
  chk (holdsAt Pg none (.ld 229) x130 x131 w140) fun _ =>
  rd (ixA Pg 229 x131 x5) fun x141 =>
  rd2 (rawU Pg (Instr.storeAt 240 x141 x139) w140) fun x143 w142 =>
  rd (nilV x0) fun x144 =>
  rd (fldA Pg 232 x144 1) fun x145 =>
  rd (ldV Pg 230 x145 (drw w142)) fun x146 =>
  rd2 (binG true Pg .add 3 (.tmp 0) (.const .nilFunc) x5 (.int .i64 1) (drw w142)) fun x147 _ =>
  rd (ixA Pg 230 x146 x147) fun x149 =>
  rd (ldV Pg 228 x149 (drw w142)) fun x150 =>
  rd (nilV x0) fun x151 =>
  rd (fldA Pg 232 x151 0) fun x152 =>
  rd (ldV Pg 229 x152 (drw w142)) fun x153 =>
  rd (ixA Pg 229 x153 x5) fun x154 =>
  rd (fldA Pg 240 x154 0) fun x155 =>
  rd (ldV Pg 9 x155 (drw w142)) fun x156 =>
  rd2 (F 149 [x150, x156] (drw w142)) fun x157 w158 =>
  some ((.tuple #[]), w158)) (fun _ => cnd x6 (fun _ => rd2 (F 205 [x0, x5] w127) fun x159 w160 =>
  rd (nilV x0) fun x161 =>
  rd (fldA Pg 232 x161 1) fun x162 =>
  rd (ldV Pg 230 x162 w160) fun x163 =>
  rd (ixA Pg 230 x163 x5) fun x164 =>
  rd (ldV Pg 228 x164 w160) fun x165 =>
  rd2 (F 149 [x165, x1] w160) fun x166 w167 =>
  some ((.tuple #[]), w167)) (fun _ => rd2 (F 206 [x0, x5] w127) fun x168 w169 =>
  rd (nilV x0) fun x170 =>
  rd (fldA Pg 232 x170 1) fun x171 =>
  rd (ldV Pg 230 x171 w169) fun x172 =>
  rd (ixA Pg 230 x172 x168) fun x173 =>
  rd (ldV Pg 228 x173 w169) fun x174 =>
  rd2 (F 149 [x174, x1] w169) fun x175 w176 =>
  some ((.tuple #[]), w176)))))
theorem S149_eq (F : FnT) (G : RndT) (x0 x1 : Value) (w0 : World) : evalCode (cx149 F G) (cdA Go.Proofs.Tryz.f149 []) (endK Pg Go.Proofs.Tryz.f149) (envL [x0, x1]) w0 = S149 F G x0 x1 w0 := by kernel_rfl
theorem F149 (x0 x1 : Value) (w0 : World) : Fn Pg 149 [x0, x1] w0 = S149 (Fn Pg) (Rnd Pg) x0 x1 w0 := (Fn_body (c := cdA Go.Proofs.Tryz.f149 []) Go.Proofs.Tryz.func149 (by kernel_rfl) (by kernel_rfl) [x0, x1] w0 (Nat.le_of_ble_eq_true (by kernel_rfl))).trans (S149_eq _ _ x0 x1 w0)

-- 150 (*ciborium/tree.node[[]ciborium/api.Version]).leaf
noncomputable def cx150 (F : FnT) (G : RndT) : Ctx := ⟨Pg, F, G, 150, none, 9⟩
noncomputable def S150 (F : FnT) (G : RndT) (x0 : Value) (w0 : World) : R :=
  rd (nilV x0) fun x2 =>
  rd (fldA Pg 232 x2 1) fun x3 =>
  rd (ldV Pg 230 x3 w0) fun x4 =>
  rd2 (lenG false Pg .len #[230] 3 #[false] [x4] w0) fun x5 w6 =>
  rd2 (binG false Pg .eql 3 (.tmp 0) (.const .nilFunc) x5 (.int .i64 0) w6) fun x7 w8 =>
  some (x7, w8)
theorem S150_eq (F : FnT) (G : RndT) (x0 : Value) (w0 : World) : evalCode (cx150 F G) (cdA Go.Proofs.Tryz.f150 []) (endK Pg Go.Proofs.Tryz.f150) (envL [x0]) w0 = S150 F G x0 w0 := by kernel_rfl
theorem F150 (x0 : Value) (w0 : World) : Fn Pg 150 [x0] w0 = S150 (Fn Pg) (Rnd Pg) x0 w0 := (Fn_body (c := cdA Go.Proofs.Tryz.f150 []) Go.Proofs.Tryz.func150 (by kernel_rfl) (by kernel_rfl) [x0] w0 (Nat.le_of_ble_eq_true (by kernel_rfl))).trans (S150_eq _ _ x0 w0)

-- 153 (*ciborium/tree.node[[]ciborium/api.Version]).copied
noncomputable def cx153 (F : FnT) (G : RndT) : Ctx := ⟨Pg, F, G, 153, none, 35⟩
noncomputable def K153_0 : FnT → RndT → Exit → Env → World → R := fun _ _ => endK Pg Go.Proofs.Tryz.f153
noncomputable def K153_1 : FnT → RndT → Exit → Env → World → R := fun F G => thenK (evalCode (cx153 F G) (cdA Go.Proofs.Tryz.f153 [1, 1, 1]) (K153_0 F G)) (K153_0 F G)
noncomputable def K153_2 : FnT → RndT → Exit → Env → World → R := fun F G => blkK 0 (K153_1 F G)
noncomputable def S153 (F : FnT) (G : RndT) (x0 : Value) (w0 : World) : R :=
  rd (nilV x0) fun x2 =>
  rd (fldA Pg 232 x2 0) fun x3 =>
  rd (ldV Pg 229 x3 w0) fun x4 =>
  rd2 (F 194 [x4] w0) fun x5 w6 =>
  rd (bldV Pg 232 [(0, x5)]) fun x7 =>
  rd2 (rawV Pg (Instr.box 232 x7) w6) fun x8 w9 =>
  rd (nilV x0) fun x10 =>
  rd (fldA Pg 232 x10 1) fun x11 =>
  rd (ldV Pg 230 x11 w9) fun x12 =>
  rd2 (lenG false Pg .len #[230] 3 #[false] [x12] w9) fun x13 w14 =>
  evalLoop (cx153 F G) (cdA Go.Proofs.Tryz.f153 [1, 1, 0, 1, 0, 0]) (K153_2 F G) (upd (upd (upd (upd (upd (upd (upd (upd (upd (upd (upd (upd (upd (upd (upd (envL [x0]) 2 (.pointer none)) 6 x0) 7 x2) 8 x3) 9 x4) 10 x5) 11 x7) 12 x8) 3 x8) 13 x0) 14 x10) 15 x11) 16 x12) 17 x13) 18 (.int .i64 0)) w14
noncomputable def S153_L1 (F : FnT) (G : RndT) (e : Env) (w0 : World) : R :=
  rd2 (binG false Pg .lss 3 (.tmp 0) (.tmp 0) (e 18) (e 17) w0) fun x101 w102 =>
  cnd x101 (fun _ => rd (ixA Pg 230 (e 16) (e 18)) fun x103 =>
  rd (ldV Pg 228 x103 w102) fun x104 =>
  rd (nilV (e 3)) fun x105 =>
  rd (fldA Pg 232 x105 1) fun x106 =>
  rd (ldV Pg 230 x106 (drw w102)) fun x107 =>
  rd2 (F 153 [x104] (drw w102)) fun x108 w109 =>
  chk (holdsAt Pg none (.ld 230) x106 x107 w109) fun _ =>
  rd2 (rawV Pg (Instr.buildSlice 230 1 #[(0, x108)]) w109) fun x110 w111 =>
  rd2 (lenG false Pg .append #[230, 230] 230 #[false, false] [x107, x110] w111) fun x112 w113 =>
  rd (nilV (e 3)) fun x114 =>
  rd (fldA Pg 232 x114 1) fun x115 =>
  rd2 (rawU Pg (Instr.storeAt 230 x115 x112) w113) fun x117 w116 =>
  rd2 (binG false Pg .add 3 (.tmp 0) (.const .nilFunc) (e 18) (.int .i64 1) w116) fun x118 w119 =>
  evalLoop (cx153 F G) (cdA Go.Proofs.Tryz.f153 [1, 1, 0, 1, 0, 0]) (K153_2 F G) (upd (upd (upd (upd (upd (upd (upd (upd (upd (upd (upd (upd (upd (upd (upd (upd (upd e 19 x101) 20 x103) 21 x104) 5 x104) 22 (e 3)) 23 (e 3)) 24 x105) 25 x106) 26 x107) 27 x104) 28 x108) 29 x110) 30 x112) 31 x114) 32 x115) 33 x118) 18 x118) w119) (fun _ => shutK (e 35) w102 fun w120 =>
  some ((e 3), w120))
theorem S153_eq (F : FnT) (G : RndT) (x0 : Value) (w0 : World) : evalCode (cx153 F G) (cdA Go.Proofs.Tryz.f153 []) (endK Pg Go.Proofs.Tryz.f153) (envL [x0]) w0 = S153 F G x0 w0 := by kernel_rfl
theorem F153 (x0 : Value) (w0 : World) : Fn Pg 153 [x0] w0 = S153 (Fn Pg) (Rnd Pg) x0 w0 := (Fn_body (c := cdA Go.Proofs.Tryz.f153 []) Go.Proofs.Tryz.func153 (by kernel_rfl) (by kernel_rfl) [x0] w0 (Nat.le_of_ble_eq_true (by kernel_rfl))).trans (S153_eq _ _ x0 w0)
theorem S153_L1_eq (F : FnT) (G : RndT) (e : Env) (w0 : World) : evalLoop (cx153 F G) (cdA Go.Proofs.Tryz.f153 [1, 1, 0, 1, 0, 0]) (K153_2 F G) e w0 = S153_L1 F G e w0 := by
  rw [evalLoop_eq]
  kernel_rfl

-- 193 (*ciborium/tree.node[[]ciborium/api.Version]).find
noncomputable def cx193 (F : FnT) (G : RndT) : Ctx := ⟨Pg, F, G, 193, none, 33⟩
noncomputable def K193_0 : FnT → RndT → Exit → Env → World → R := fun _ _ => endK Pg Go.Proofs.Tryz.f193
noncomputable def K193_1 : FnT → RndT → Exit → Env → World → R := fun F G => thenK (evalCode (cx193 F G) (cdA Go.Proofs.Tryz.f193 [1, 1]) (K193_0 F G)) (K193_0 F G)
noncomputable def K193_2 : FnT → RndT → Exit → Env → World → R := fun F G => blkK 0 (K193_1 F G)
noncomputable def S193 (F : FnT) (G : RndT) (x0 x1 : Value) (w0 : World) : R :=
  rd (nilV x0) fun x3 =>
  rd (fldA Pg 232 x3 0) fun x4 =>
  rd (ldV Pg 229 x4 w0) fun x5 =>
  rd2 (lenG false Pg .len #[229] 3 #[false] [x5] w0) fun x6 w7 =>
  evalLoop (cx193 F G) (cdA Go.Proofs.Tryz.f193 [1, 0, 1, 0, 0]) (K193_2 F G) (upd (upd (upd (upd (upd (upd (upd (upd (envL [x0, x1]) 4 (.int .i64 0)) 5 (.bool false)) 8 x0) 9 x3) 10 x4) 11 x5) 12 x6) 13 (.int .i64 0)) w7
noncomputable def S193_L1 (F : FnT) (G : RndT) (e : Env) (w0 : World) : R :=
  rd2 (binG false Pg .lss 3 (.tmp 0) (.tmp 0) (e 13) (e 12) w0) fun x101 w102 =>
  cnd x101 (fun _ => rd (ixA Pg 229 (e 11) (e 13)) fun x103 =>
  rd (ldV Pg 240 x103 w102) fun x104 =>
  rd2 (rawV Pg (Instr.alloc 240 true (.tuple #[])) w102) fun x105 w106 =>
  rd2 (rawU Pg (Instr.storeAt 240 x105 x104) w106) fun x108 w107 =>
  rd (fldA Pg 240 x105 0) fun x109 =>
  rd (ldV Pg 9 x109 w107) fun x110 =>
  rd2 (binG false Pg .geq 9 (.tmp 0) (.tmp 0) x110 (e 1) w107) fun x111 w112 =>
  cnd x111 (fun _ => rd (fldA Pg 240 x105 0) fun x113 =>
  rd (ldV Pg 9 x113 (drw w112)) fun x114 =>
  rd2 (binG true Pg .eql 9 (.tmp 0) (.tmp 0) x114 (e 1) (drw w112)) fun x115 _ =>
  shutK (e 33) (drw w112) fun w117 =>
  some ((.tuple #[(e 13), x115]), w117)) (fun _ => rd2 (binG false Pg .add 3 (.tmp 0) (.const .nilFunc) (e 13) (.int .i64 1) w112) fun x118 w119 =>
  evalLoop (cx193 F G) (cdA Go.Proofs.Tryz.f193 [1, 0, 1, 0, 0]) (K193_2 F G) (upd (upd (upd (upd (upd (upd (upd (upd (upd (upd (upd (upd e 14 x101) 15 (e 13)) 16 x103) 17 x104) 7 x105) 6 (e 13)) 18 x109) 19 x110) 20 (e 1)) 21 x111) 27 x118) 13 x118) w119)) (fun _ => rd (nilV (e 0)) fun x120 =>
  rd (fldA Pg 232 x120 0) fun x121 =>
  rd (ldV Pg 229 x121 w102) fun x122 =>
  rd2 (lenG false Pg .len #[229] 3 #[false] [x122] w102) fun x123 w124 =>
  shutK (e 33) w124 fun w125 =>
  some ((.tuple #[x123, (.bool false)]), w125))
theorem S193_eq (F : FnT) (G : RndT) (x0 x1 : Value) (w0 : World) : evalCode (cx193 F G) (cdA Go.Proofs.Tryz.f193 []) (endK Pg Go.Proofs.Tryz.f193) (envL [x0, x1]) w0 = S193 F G x0 x1 w0 := by kernel_rfl
theorem F193 (x0 x1 : Value) (w0 : World) : Fn Pg 193 [x0, x1] w0 = S193 (Fn Pg) (Rnd Pg) x0 x1 w0 := (Fn_body (c := cdA Go.Proofs.Tryz.f193 []) Go.Proofs.Tryz.func193 (by kernel_rfl) (by kernel_rfl) [x0, x1] w0 (Nat.le_of_ble_eq_true (by kernel_rfl))).trans (S193_eq _ _ x0 x1 w0)
theorem S193_L1_eq (F : FnT) (G : RndT) (e : Env) (w0 : World) : evalLoop (cx193 F G) (cdA Go.Proofs.Tryz.f193 [1, 0, 1, 0, 0]) (K193_2 F G) e w0 = S193_L1 F G e w0 := by
  rw [evalLoop_eq]
  kernel_rfl

-- 194 slices.Clone[[]ciborium/tree.Entry[[]ciborium/api.Version],ciborium/tree.Entry[[]ciborium/api.Version]]
noncomputable def cx194 (F : FnT) (G : RndT) : Ctx := ⟨Pg, F, G, 194, none, 8⟩
noncomputable def S194 (F : FnT) (G : RndT) (x0 : Value) (w0 : World) : R :=
  rd2 (binG false Pg .eql 229 (.tmp 0) (.const .nilFunc) x0 (.slice none 0 0) w0) fun x2 w3 =>
  cnd x2 (fun _ => some ((.slice none 0 0), w3)) (fun _ => rd2 (rawV Pg (Instr.buildSlice 229 0 #[]) w3) fun x4 w5 =>
  rd2 (lenG false Pg .append #[229, 229] 229 #[false, false] [x4, x0] w5) fun x6 w7 =>
  some (x6, w7))
theorem S194_eq (F : FnT) (G : RndT) (x0 : Value) (w0 : World) : evalCode (cx194 F G) (cdA Go.Proofs.Tryz.f194 []) (endK Pg Go.Proofs.Tryz.f194) (envL [x0]) w0 = S194 F G x0 w0 := by kernel_rfl
theorem F194 (x0 : Value) (w0 : World) : Fn Pg 194 [x0] w0 = S194 (Fn Pg) (Rnd Pg) x0 w0 := (Fn_body (c := cdA Go.Proofs.Tryz.f194 []) Go.Proofs.Tryz.func194 (by kernel_rfl) (by kernel_rfl) [x0] w0 (Nat.le_of_ble_eq_true (by kernel_rfl))).trans (S194_eq _ _ x0 w0)

-- 195 slices.Clone[[]*ciborium/tree.node[[]ciborium/api.Version],*ciborium/tree.node[[]ciborium/api.Version]]
noncomputable def cx195 (F : FnT) (G : RndT) : Ctx := ⟨Pg, F, G, 195, none, 8⟩
noncomputable def S195 (F : FnT) (G : RndT) (x0 : Value) (w0 : World) : R :=
  rd2 (binG false Pg .eql 230 (.tmp 0) (.const .nilFunc) x0 (.slice none 0 0) w0) fun x2 w3 =>
  cnd x2 (fun _ => some ((.slice none 0 0), w3)) (fun _ => rd2 (rawV Pg (Instr.buildSlice 230 0 #[]) w3) fun x4 w5 =>
  rd2 (lenG false Pg .append #[230, 230] 230 #[false, false] [x4, x0] w5) fun x6 w7 =>
  some (x6, w7))
theorem S195_eq (F : FnT) (G : RndT) (x0 : Value) (w0 : World) : evalCode (cx195 F G) (cdA Go.Proofs.Tryz.f195 []) (endK Pg Go.Proofs.Tryz.f195) (envL [x0]) w0 = S195 F G x0 w0 := by kernel_rfl
theorem F195 (x0 : Value) (w0 : World) : Fn Pg 195 [x0] w0 = S195 (Fn Pg) (Rnd Pg) x0 w0 := (Fn_body (c := cdA Go.Proofs.Tryz.f195 []) Go.Proofs.Tryz.func195 (by kernel_rfl) (by kernel_rfl) [x0] w0 (Nat.le_of_ble_eq_true (by kernel_rfl))).trans (S195_eq _ _ x0 w0)

-- 196 slices.Insert[[]ciborium/tree.Entry[[]ciborium/api.Version],ciborium/tree.Entry[[]ciborium/api.Version]]
noncomputable def cx196 (F : FnT) (G : RndT) : Ctx := ⟨Pg, F, G, 196, none, 95⟩
noncomputable def S196 (F : FnT) (G : RndT) (x0 x1 x2 : Value) (w0 : World) : R :=
  rd (slV Pg 229 x0 (some x1) none none) fun x4 =>
  rd2 (lenG false Pg .len #[229] 3 #[false] [x2] w0) fun x5 w6 =>
  rd2 (binG false Pg .eql 3 (.tmp 0) (.const .nilFunc) x5 (.int .i64 0) w6) fun x7 w8 =>
  cnd x7 (fun _ => some (x0, w8)) (fun _ => rd2 (lenG false Pg .len #[229] 3 #[false] [x0] w8) fun x9 w10 =>
  rd2 (binG false Pg .eql 3 (.tmp 0) (.tmp 0) x1 x9 w10) fun x11 w12 =>
  cnd x11 (fun _ => rd2 (lenG false Pg .append #[229, 229] 229 #[false, false] [x0, x2] w12) fun x13 w14 =>
  some (x13, w14)) (fun _ => rd2 (binG false Pg .add 3 (.tmp 0) (.tmp 0) x9 x5 w12) fun x15 w16 =>
  rd2 (lenG false Pg .cap #[229] 3 #[false] [x0] w16) fun x17 w18 =>
  rd2 (binG false Pg .gtr 3 (.tmp 0) (.tmp 0) x15 x17 w18) fun x19 w20 =>
  cnd x19 (fun _ => rd (slV Pg 229 x0 none (some x1) none) fun x21 =>
  rd2 (binG false Pg .add 3 (.tmp 0) (.tmp 0) x9 x5 w20) fun x22 w23 =>
  rd2 (binG false Pg .sub 3 (.tmp 0) (.tmp 0) x22 x1 w23) fun x24 w25 =>
  rd2 (lenG false Pg .append #[229, 3] 229 #[false, false] [x21, x24] w25) fun x26 w27 =>
  rd (slV Pg 229 x26 (some x1) none none) fun x28 =>
  rd2 (lenG false Pg .copy #[229, 229] 3 #[false, false] [x28, x2] w27) fun x29 w30 =>
  rd2 (binG true Pg .add 3 (.tmp 0) (.tmp 0) x1 x5 (drw w30)) fun x31 _ =>
  rd (slV Pg 229 x26 (some x31) none none) fun x33 =>
  rd (slV Pg 229 x0 (some x1) none none) fun x34 =>
  rd2 (lenG false Pg .copy #[229, 229] 3 #[false, false] [x33, x34] (drw w30)) fun x35 w36 =>
  some (x26, w36)) (fun _ => rd2 (binG false Pg .add 3 (.tmp 0) (.tmp 0) x9 x5 w20) fun x37 w38 =>
  rd (slV Pg 229 x0 none (some x37) none) fun x39 =>
  rd2 (binG false Pg .add 3 (.tmp 0) (.tmp 0) x1 x5 w38) fun x40 w41 =>
  rd (slV Pg 229 x39 (some x40) none none) fun x42 =>
  rd2 (F 225 [x2, x42] w41) fun x43 w44 =>
  rd (unV .not x43) fun x45 =>
  cnd x45 (fun _ => rd2 (binG true Pg .add 3 (.tmp 0) (.tmp 0) x1 x5 (drw w44)) fun x46 _ =>
  rd (slV Pg 229 x39 (some x46) none none) fun x48 =>
  rd (slV Pg 229 x39 (some x1) none none) fun x49 =>
  rd2 (lenG false Pg .copy #[229, 229] 3 #[false, false] [x48, x49] (drw w44)) fun x50 w51 =>
  rd (slV Pg 229 x39 (some x1) none none) fun x52 =>
  rd2 (lenG false Pg .copy #[229, 229] 3 #[false, false] [x52, x2] w51) fun x53 w54 =>
  some (x39, w54)) (fun _ => rd (slV Pg 229 x39 (some x9) none none) fun x55 =>
  rd2 (lenG false Pg .copy #[229, 229] 3 #[false, false] [x55, x2] w44) fun x56 w57 =>
  rd (slV Pg 229 x39 (some x1) none none) fun x58 =>
  rd2 (F 226 [x58, x5] w57) fun x59 w60 =>
  some (x39, w60)))))
theorem S196_eq (F : FnT) (G : RndT) (x0 x1 x2 : Value) (w0 : World) : evalCode (cx196 F G) (cdA Go.Proofs.Tryz.f196 []) (endK Pg Go.Proofs.Tryz.f196) (envL [x0, x1, x2]) w0 = S196 F G x0 x1 x2 w0 := by kernel_rfl
theorem F196 (x0 x1 x2 : Value) (w0 : World) : Fn Pg 196 [x0, x1, x2] w0 = S196 (Fn Pg) (Rnd Pg) x0 x1 x2 w0 := (Fn_body (c := cdA Go.Proofs.Tryz.f196 []) Go.Proofs.Tryz.func196 (by kernel_rfl) (by kernel_rfl) [x0, x1, x2] w0 (Nat.le_of_ble_eq_true (by kernel_rfl))).trans (S196_eq _ _ x0 x1 x2 w0)

-- 197 slices.Insert[[]*ciborium/tree.node[[]ciborium/api.Version],*ciborium/tree.node[[]ciborium/api.Version]]
noncomputable def cx197 (F : FnT) (G : RndT) : Ctx := ⟨Pg, F, G, 197, none, 95⟩
noncomputable def S197 (F : FnT) (G : RndT) (x0 x1 x2 : Value) (w0 : World) : R :=
  rd (slV Pg 230 x0 (some x1) none none) fun x4 =>
  rd2 (lenG false Pg .len #[230] 3 #[false] [x2] w0) fun x5 w6 =>
  rd2 (binG false Pg .eql 3 (.tmp 0) (.const .nilFunc) x5 (.int .i64 0) w6) fun x7 w8 =>
  cnd x7 (fun _ => some (x0, w8)) (fun _ => rd2 (lenG false Pg .len #[230] 3 #[false] [x0] w8) fun x9 w10 =>
  rd2 (binG false Pg .eql 3 (.tmp 0) (.tmp 0) x1 x9 w10) fun x11 w12 =>
  cnd x11 (fun _ => rd2 (lenG false Pg .append #[230, 230] 230 #[false, false] [x0, x2] w12) fun x13 w14 =>
  some (x13, w14)) (fun _ => rd2 (binG false Pg .add 3 (.tmp 0) (.tmp 0) x9 x5 w12) fun x15 w16 =>
  rd2 (lenG false Pg .cap #[230] 3 #[false] [x0] w16) fun x17 w18 =>
  rd2 (binG false Pg .gtr 3 (.tmp 0) (.tmp 0) x15 x17 w18) fun x19 w20 =>
  cnd x19 (fun _ => rd (slV Pg 230 x0 none (some x1) none) fun x21 =>
  rd2 (binG false Pg .add 3 (.tmp 0) (.tmp 0) x9 x5 w20) fun x22 w23 =>
  rd2 (binG false Pg .sub 3 (.tmp 0) (.tmp 0) x22 x1 w23) fun x24 w25 =>
  rd2 (lenG false Pg .append #[230, 3] 230 #[false, false] [x21, x24] w25) fun x26 w27 =>
  rd (slV Pg 230 x26 (some x1) none none) fun x28 =>
  rd2 (lenG false Pg .copy #[230, 230] 3 #[false, false] [x28, x2] w27) fun x29 w30 =>
  rd2 (binG true Pg .add 3 (.tmp 0) (.tmp 0) x1 x5 (drw w30)) fun x31 _ =>
  rd (slV Pg 230 x26 (some x31) none none) fun x33 =>
  rd (slV Pg 230 x0 (some x1) none none) fun x34 =>
  rd2 (lenG false Pg .copy #[230, 230] 3 #[false, false] [x33, x34] (drw w30)) fun x35 w36 =>
  some (x26, w36)) (fun _ => rd2 (binG false Pg .add 3 (.tmp 0) (.tmp 0) x9 x5 w20) fun x37 w38 =>
  rd (slV Pg 230 x0 none (some x37) none) fun x39 =>
  rd2 (binG false Pg .add 3 (.tmp 0) (.tmp 0) x1 x5 w38) fun x40 w41 =>
  rd (slV Pg 230 x39 (some x40) none none) fun x42 =>
  rd2 (F 227 [x2, x42] w41) fun x43 w44 =>
  rd (unV .not x43) fun x45 =>
  cnd x45 (fun _ => rd2 (binG true Pg .add 3 (.tmp 0) (.tmp 0) x1 x5 (drw w44)) fun x46 _ =>
  rd (slV Pg 230 x39 (some x46) none none) fun x48 =>
  rd (slV Pg 230 x39 (some x1) none none) fun x49 =>
  rd2 (lenG false Pg .copy #[230, 230] 3 #[false, false] [x48, x49] (drw w44)) fun x50 w51 =>
  rd (slV Pg 230 x39 (some x1) none none) fun x52 =>
  rd2 (lenG false Pg .copy #[230, 230] 3 #[false, false] [x52, x2] w51) fun x53 w54 =>
  some (x39, w54)) (fun _ => rd (slV Pg 230 x39 (some x9) none none) fun x55 =>
  rd2 (lenG false Pg .copy #[230, 230] 3 #[false, false] [x55, x2] w44) fun x56 w57 =>
  rd (slV Pg 230 x39 (some x1) none none) fun x58 =>
  rd2 (F 228 [x58, x5] w57) fun x59 w60 =>
  some (x39, w60)))))
theorem S197_eq (F : FnT) (G : RndT) (x0 x1 x2 : Value) (w0 : World) : evalCode (cx197 F G) (cdA Go.Proofs.Tryz.f197 []) (endK Pg Go.Proofs.Tryz.f197) (envL [x0, x1, x2]) w0 = S197 F G x0 x1 x2 w0 := by kernel_rfl
theorem F197 (x0 x1 x2 : Value) (w0 : World) : Fn Pg 197 [x0, x1, x2] w0 = S197 (Fn Pg) (Rnd Pg) x0 x1 x2 w0 := (Fn_body (c := cdA Go.Proofs.Tryz.f197 []) Go.Proofs.Tryz.func197 (by kernel_rfl) (by kernel_rfl) [x0, x1, x2] w0 (Nat.le_of_ble_eq_true (by kernel_rfl))).trans (S197_eq _ _ x0 x1 x2 w0)

-- 200 ciborium/chain.bare
noncomputable def cx200 (F : FnT) (G : RndT) : Ctx := ⟨Pg, F, G, 200, none, 20⟩
noncomputable def S200 (F : FnT) (G : RndT) (x0 : Value) (w0 : World) : R :=
  rd2 (rawV Pg (Instr.box 137 x0) w0) fun x2 w3 =>
  rd (fldA Pg 137 x2 2) fun x4 =>
  rd (fldA Pg 82 x4 2) fun x5 =>
  rd (ldV Pg 3 x5 w3) fun x6 =>
  rd2 (binG false Pg .eql 3 (.tmp 0) (.const .nilFunc) x6 (.int .i64 0) w3) fun x7 w8 =>
  rd2 (gate x7 true (fun _ => rd (fldA Pg 137 x2 2) fun x9 => some (x9, w8)) w8) fun x10 w11 =>
  rd2 (gate x7 true (fun _ => rd (fldA Pg 82 x10 1) fun x12 => some (x12, w11)) w11) fun x13 w14 =>
  rd2 (gate x7 true (fun _ => rd (ldV Pg 23 x13 w14) fun x15 => some (x15, w14)) w14) fun x16 w17 =>
  rd2 (gate x7 true (fun _ => rd2 (binG false Pg .eql 23 (.tmp 0) (.const .nilFunc) x16 (.int .u64 0) w17) fun x18 w19 => some (x18, w19)) w17) fun x20 w21 =>
  rd (pickV x7 x20 (.bool false)) fun x22 =>
  rd2 (gate x22 true (fun _ => rd (fldA Pg 137 x2 2) fun x23 => some (x23, w21)) w21) fun x24 w25 =>
  rd2 (gate x22 true (fun _ => rd (fldA Pg 82 x24 0) fun x26 => some (x26, w25)) w25) fun x27 w28 =>
  rd2 (gate x22 true (fun _ => rd (ldV Pg 80 x27 w28) fun x29 => some (x29, w28)) w28) fun x30 w31 =>
  rd2 (gate x22 true (fun _ => rd2 (lenG false Pg .len #[80] 3 #[false] [x30] w31) fun x32 w33 => some (x32, w33)) w31) fun x34 w35 =>
  rd2 (gate x22 true (fun _ => rd2 (binG false Pg .eql 3 (.tmp 0) (.const .nilFunc) x34 (.int .i64 0) w35) fun x36 w37 => some (x36, w37)) w35) fun x38 w39 =>
  rd (pickV x22 x38 (.bool false)) fun x40 =>
  some (x40, w39)
theorem S200_eq (F : FnT) (G : RndT) (x0 : Value) (w0 : World) : evalCode (cx200 F G) (cdA Go.Proofs.Tryz.f200 []) (endK Pg Go.Proofs.Tryz.f200) (envL [x0]) w0 = S200 F G x0 w0 := by kernel_rfl
theorem F200 (x0 : Value) (w0 : World) : Fn Pg 200 [x0] w0 = S200 (Fn Pg) (Rnd Pg) x0 w0 := (Fn_body (c := cdA Go.Proofs.Tryz.f200 []) Go.Proofs.Tryz.func200 (by kernel_rfl) (by kernel_rfl) [x0] w0 (Nat.le_of_ble_eq_true (by kernel_rfl))).trans (S200_eq _ _ x0 w0)

-- 201 sort.Search
noncomputable def cx201 (F : FnT) (G : RndT) : Ctx := ⟨Pg, F, G, 201, none, 26⟩
noncomputable def K201_0 : FnT → RndT → Exit → Env → World → R := fun _ _ => endK Pg Go.Proofs.Tryz.f201
noncomputable def K201_1 : FnT → RndT → Exit → Env → World → R := fun F G => thenK (evalCode (cx201 F G) (cdA Go.Proofs.Tryz.f201 [1, 1, 1]) (K201_0 F G)) (K201_0 F G)
noncomputable def K201_2 : FnT → RndT → Exit → Env → World → R := fun F G => blkK 0 (K201_1 F G)
noncomputable def S201 (F : FnT) (G : RndT) (x0 x1 : Value) (w0 : World) : R :=
  evalLoop (cx201 F G) (cdA Go.Proofs.Tryz.f201 [1, 1, 0, 0, 0]) (K201_2 F G) (upd (upd (upd (upd (envL [x0, x1]) 4 (.int .i64 0)) 8 x0) 5 (.int .i64 0)) 6 x0) w0
noncomputable def S201_L1 (F : FnT) (G : RndT) (e : Env) (w0 : World) : R :=
  rd2 (binG false Pg .lss 3 (.tmp 0) (.tmp 0) (e 5) (e 6) w0) fun x101 w102 =>
  cnd x101 (fun _ => rd2 (binG false Pg .add 3 (.tmp 0) (.tmp 0) (e 5) (e 6) w102) fun x103 w104 =>
  rd2 (cvG false Pg 3 348 x103 w104) fun x105 w106 =>
  rd2 (binG false Pg .shr 348 (.tmp 0) (.const .nilFunc) x105 (.int .u64 1) w106) fun x107 w108 =>
  rd2 (cvG false Pg 348 3 x107 w108) fun x109 w110 =>
  rd2 (callV (cx201 F G) (e 1) [x109] w110) fun x111 w112 =>
  rd (unV .not x111) fun x113 =>
  cnd x113 (fun _ => rd2 (binG false Pg .add 3 (.tmp 0) (.const .nilFunc) x109 (.int .i64 1) w112) fun x114 w115 =>
  evalLoop (cx201 F G) (cdA Go.Proofs.Tryz.f201 [1, 1, 0, 0, 0]) (K201_2 F G) (upd (upd (upd (upd (upd (upd (upd (upd (upd (upd (upd (upd (upd (upd (upd (upd (upd e 9 (e 5)) 10 (e 6)) 11 x101) 12 (e 5)) 13 (e 6)) 14 x103) 15 x105) 16 x107) 17 x109) 7 x109) 18 (e 1)) 19 x109) 20 x111) 21 x113) 22 x109) 23 x114) 5 x114) w115) (fun _ => evalLoop (cx201 F G) (cdA Go.Proofs.Tryz.f201 [1, 1, 0, 0, 0]) (K201_2 F G) (upd (upd (upd (upd (upd (upd (upd (upd (upd (upd (upd (upd (upd (upd (upd (upd e 9 (e 5)) 10 (e 6)) 11 x101) 12 (e 5)) 13 (e 6)) 14 x103) 15 x105) 16 x107) 17 x109) 7 x109) 18 (e 1)) 19 x109) 20 x111) 21 x113) 24 x109) 6 x109) w112)) (fun _ => shutK (e 26) w102 fun w116 =>
  some ((e 5), w116))
theorem S201_eq (F : FnT) (G : RndT) (x0 x1 : Value) (w0 : World) : evalCode (cx201 F G) (cdA Go.Proofs.Tryz.f201 []) (endK Pg Go.Proofs.Tryz.f201) (envL [x0, x1]) w0 = S201 F G x0 x1 w0 := by kernel_rfl
theorem F201 (x0 x1 : Value) (w0 : World) : Fn Pg 201 [x0, x1] w0 = S201 (Fn Pg) (Rnd Pg) x0 x1 w0 := (Fn_body (c := cdA Go.Proofs.Tryz.f201 []) Go.Proofs.Tryz.func201 (by kernel_rfl) (by kernel_rfl) [x0, x1] w0 (Nat.le_of_ble_eq_true (by kernel_rfl))).trans (S201_eq _ _ x0 x1 w0)
theorem S201_L1_eq (F : FnT) (G : RndT) (e : Env) (w0 : World) : evalLoop (cx201 F G) (cdA Go.Proofs.Tryz.f201 [1, 1, 0, 0, 0]) (K201_2 F G) e w0 = S201_L1 F G e w0 := by
  rw [evalLoop_eq]
  kernel_rfl

-- 202 ciborium/chain.place$1
noncomputable def cx202 (F : FnT) (G : RndT) : Ctx := ⟨Pg, F, G, 202, none, 12⟩
noncomputable def S202 (F : FnT) (G : RndT) (x0 x1 x2 : Value) (w0 : World) : R :=
  rd (ldV Pg 43 x1 (drw w0)) fun x4 =>
  rd (ixA Pg 43 x4 x0) fun x5 =>
  rd (fldA Pg 137 x5 0) fun x6 =>
  rd (ldV Pg 23 x6 (drw w0)) fun x7 =>
  rd (ldV Pg 23 x2 (drw w0)) fun x8 =>
  rd2 (binG true Pg .leq 23 (.tmp 0) (.tmp 0) x7 x8 (drw w0)) fun x9 _ =>
  some (x9, (drw w0))
theorem S202_eq (F : FnT) (G : RndT) (x0 x1 x2 : Value) (w0 : World) : evalCode (cx202 F G) (cdA Go.Proofs.Tryz.f202 []) (endK Pg Go.Proofs.Tryz.f202) (envL [x0, x1, x2]) w0 = S202 F G x0 x1 x2 w0 := by kernel_rfl
theorem F202 (x0 x1 x2 : Value) (w0 : World) : Fn Pg 202 [x0, x1, x2] w0 = S202 (Fn Pg) (Rnd Pg) x0 x1 x2 w0 := (Fn_body (c := cdA Go.Proofs.Tryz.f202 []) Go.Proofs.Tryz.func202 (by kernel_rfl) (by kernel_rfl) [x0, x1, x2] w0 (Nat.le_of_ble_eq_true (by kernel_rfl))).trans (S202_eq _ _ x0 x1 x2 w0)

-- 198 (*ciborium/tree.Tree[[]ciborium/api.Version]).from$1
noncomputable def cx198 (F : FnT) (G : RndT) : Ctx := ⟨Pg, F, G, 198, none, 14⟩
noncomputable def S198 (F : FnT) (G : RndT) (x0 x1 x2 : Value) (w0 : World) : R :=
  rd (ldV Pg 141 x1 w0) fun x4 =>
  rd2 (F 136 [x4] w0) fun x5 w6 =>
  rd (unV .not x5) fun x7 =>
  cnd x7 (fun _ => rd (ldV Pg 141 x1 (drw w6)) fun x8 =>
  rd (nilV x8) fun x9 =>
  rd (fldA Pg 234 x9 0) fun x10 =>
  rd (ldV Pg 228 x10 (drw w6)) fun x11 =>
  rd (ldV Pg 9 x2 (drw w6)) fun x12 =>
  rd2 (F 199 [x11, x12, x0] (drw w6)) fun x13 w14 =>
  some ((.tuple #[]), w14)) (fun _ => some ((.tuple #[]), w6))
theorem S198_eq (F : FnT) (G : RndT) (x0 x1 x2 : Value) (w0 : World) : evalCode (cx198 F G) (cdA Go.Proofs.Tryz.f198 []) (endK Pg Go.Proofs.Tryz.f198) (envL [x0, x1, x2]) w0 = S198 F G x0 x1 x2 w0 := by kernel_rfl
theorem F198 (x0 x1 x2 : Value) (w0 : World) : Fn Pg 198 [x0, x1, x2] w0 = S198 (Fn Pg) (Rnd Pg) x0 x1 x2 w0 := (Fn_body (c := cdA Go.Proofs.Tryz.f198 []) Go.Proofs.Tryz.func198 (by kernel_rfl) (by kernel_rfl) [x0, x1, x2] w0 (Nat.le_of_ble_eq_true (by kernel_rfl))).trans (S198_eq _ _ x0 x1 x2 w0)

-- 199 (*ciborium/tree.node[[]ciborium/api.Version]).walk
noncomputable def cx199 (F : FnT) (G : RndT) : Ctx := ⟨Pg, F, G, 199, none, 50⟩
noncomputable def K199_0 : FnT → RndT → Exit → Env → World → R := fun _ _ => endK Pg Go.Proofs.Tryz.f199
noncomputable def K199_1 : FnT → RndT → Exit → Env → World → R := fun F G => blkK 0 (K199_0 F G)
noncomputable def S199 (F : FnT) (G : RndT) (x0 x1 x2 : Value) (w0 : World) : R :=
  rd2 (F 193 [x0, x1] w0) fun x4 w5 =>
  rd (extV x4 0) fun x6 =>
  rd (extV x4 1) fun x7 =>
  evalLoop (cx199 F G) (cdA Go.Proofs.Tryz.f199 [1, 1, 0, 0]) (K199_1 F G) (upd (upd (upd (upd (upd (upd (upd (upd (upd (envL [x0, x1, x2]) 6 (.bool false)) 10 x0) 11 x1) 12 x4) 9 x4) 13 x6) 14 x7) 7 x6) 8 x7) w5
noncomputable def S199_L1 (F : FnT) (G : RndT) (e : Env) (w0 : World) : R :=
  rd2 (F 150 [(e 0)] w0) fun x101 w102 =>
  rd (unV .not x101) fun x103 =>
  rd2 (gate x103 true (fun _ =>  some ((e 0), w102)) w102) fun x104 w105 =>
  rd2 (gate x103 true (fun _ => rd (nilV x104) fun x106 => some (x106, w105)) w105) fun x107 w108 =>
  rd2 (gate x103 true (fun _ => rd (fldA Pg 232 x107 1) fun x109 => some (x109, w108)) w108) fun x110 w111 =>
  rd2 (gate x103 true (fun _ => rd (ldV Pg 230 x110 w111) fun x112 => some (x112, w111)) w111) fun x113 w114 =>
  rd2 (gate x103 true (fun _ =>  some ((e 7), w114)) w114) fun x115 w116 =>
  rd2 (gate x103 true (fun _ => rd (ixA Pg 230 x113 x115) fun x117 => some (x117, w116)) w116) fun x118 w119 =>
  rd2 (gate x103 true (fun _ => rd (ldV Pg 228 x118 w119) fun x120 => some (x120, w119)) w119) fun x121 w122 =>
  rd2 (gate x103 true (fun _ =>  some ((e 1), w122)) w122) fun x123 w124 =>
  rd2 (gate x103 true (fun _ =>  some ((e 2), w124)) w124) fun x125 w126 =>
  rd2 (gate x103 true (fun _ => rd2 (F 199 [x121, x123, x125] w126) fun x127 w128 => some (x127, w128)) w126) fun x129 w130 =>
  rd2 (gate x103 true (fun _ => rd (unV .not x129) fun x131 => some (x131, w130)) w130) fun x132 w133 =>
  rd (pickV x103 x132 (.bool false)) fun x134 =>
  cnd x134 (fun _ => shutK (e 50) w133 fun w135 =>
  some ((.bool false), w135)) (fun _ => rd (nilV (e 0)) fun x136 =>
  rd (fldA Pg 232 x136 0) fun x137 =>
  rd (ldV Pg 229 x137 w133) fun x138 =>
  rd2 (lenG false Pg .len #[229] 3 #[false] [x138] w133) fun x139 w140 =>
  rd2 (binG false Pg .eql 3 (.tmp 0) (.tmp 0) (e 7) x139 w140) fun x141 w142 =>
  cnd x141 (fun _ => shutK (e 50) w142 fun w143 =>
  some ((.bool true), w143)) (fun _ => rd (nilV (e 0)) fun x144 =>
  rd (fldA Pg 232 x144 0) fun x145 =>
  rd (ldV Pg 229 x145 w142) fun x146 =>
  rd (ixA Pg 229 x146 (e 7)) fun x147 =>
  rd (ldV Pg 240 x147 w142) fun x148 =>
  rd2 (callV (cx199 F G) (e 2) [x148] w142) fun x149 w150 =>
  rd (unV .not x149) fun x151 =>
  cnd x151 (fun _ => shutK (e 50) w150 fun w152 =>
  some ((.bool false), w152)) (fun _ => rd2 (binG false Pg .add 3 (.tmp 0) (.const .nilFunc) (e 7) (.int .i64 1) w150) fun x153 w154 =>
  evalLoop (cx199 F G) (cdA Go.Proofs.Tryz.f199 [1, 1, 0, 0]) (K199_1 F G) (upd (upd (upd (upd (upd (upd (upd (upd (upd (upd (upd (upd (upd (upd (upd (upd (upd (upd (upd (upd (upd (upd (upd (upd (upd (upd (upd (upd (upd (upd (upd (upd (upd (upd (upd (upd e 17 (e 0)) 18 x101) 19 x103) 20 x103) 21 x104) 22 x107) 23 x110) 24 x113) 25 x115) 26 x118) 27 x121) 28 x123) 29 x125) 30 x129) 31 x132) 32 x134) 33 (e 7)) 34 (e 0)) 35 x136) 36 x137) 37 x138) 38 x139) 39 x141) 40 (e 2)) 41 (e 0)) 42 x144) 43 x145) 44 x146) 45 (e 7)) 46 x147) 47 x148) 48 x149) 49 x151) 15 (e 7)) 16 x153) 7 x153) w154)))
theorem S199_eq (F : FnT) (G : RndT) (x0 x1 x2 : Value) (w0 : World) : evalCode (cx199 F G) (cdA Go.Proofs.Tryz.f199 []) (endK Pg Go.Proofs.Tryz.f199) (envL [x0, x1, x2]) w0 = S199 F G x0 x1 x2 w0 := by kernel_rfl
theorem F199 (x0 x1 x2 : Value) (w0 : World) : Fn Pg 199 [x0, x1, x2] w0 = S199 (Fn Pg) (Rnd Pg) x0 x1 x2 w0 := (Fn_body (c := cdA Go.Proofs.Tryz.f199 []) Go.Proofs.Tryz.func199 (by kernel_rfl) (by kernel_rfl) [x0, x1, x2] w0 (Nat.le_of_ble_eq_true (by kernel_rfl))).trans (S199_eq _ _ x0 x1 x2 w0)
theorem S199_L1_eq (F : FnT) (G : RndT) (e : Env) (w0 : World) : evalLoop (cx199 F G) (cdA Go.Proofs.Tryz.f199 [1, 1, 0, 0]) (K199_1 F G) e w0 = S199_L1 F G e w0 := by
  rw [evalLoop_eq]
  kernel_rfl

-- 203 slices.Delete[[]ciborium/tree.Entry[[]ciborium/api.Version],ciborium/tree.Entry[[]ciborium/api.Version]]
noncomputable def cx203 (F : FnT) (G : RndT) : Ctx := ⟨Pg, F, G, 203, none, 33⟩
noncomputable def S203 (F : FnT) (G : RndT) (x0 x1 x2 : Value) (w0 : World) : R :=
  rd2 (lenG false Pg .len #[229] 3 #[false] [x0] w0) fun x4 w5 =>
  rd (slV Pg 229 x0 (some x1) (some x2) (some x4)) fun x6 =>
  rd2 (binG false Pg .eql 3 (.tmp 0) (.tmp 0) x1 x2 w5) fun x7 w8 =>
  cnd x7 (fun _ => some (x0, w8)) (fun _ => rd2 (lenG false Pg .len #[229] 3 #[false] [x0] w8) fun x9 w10 =>
  rd (slV Pg 229 x0 none (some x1) none) fun x11 =>
  rd (slV Pg 229 x0 (some x2) none none) fun x12 =>
  rd2 (lenG false Pg .append #[229, 229] 229 #[false, false] [x11, x12] (drw w10)) fun x13 w14 =>
  rd2 (lenG false Pg .len #[229] 3 #[false] [x13] w14) fun x15 w16 =>
  rd (slV Pg 229 x13 (some x15) (some x9) none) fun x17 =>
  rd2 (lenG false Pg .clear #[229] 0 #[false] [x17] w16) fun x18 w19 =>
  some (x13, w19))
theorem S203_eq (F : FnT) (G : RndT) (x0 x1 x2 : Value) (w0 : World) : evalCode (cx203 F G) (cdA Go.Proofs.Tryz.f203 []) (endK Pg Go.Proofs.Tryz.f203) (envL [x0, x1, x2]) w0 = S203 F G x0 x1 x2 w0 := by kernel_rfl
theorem F203 (x0 x1 x2 : Value) (w0 : World) : Fn Pg 203 [x0, x1, x2] w0 = S203 (Fn Pg) (Rnd Pg) x0 x1 x2 w0 := (Fn_body (c := cdA Go.Proofs.Tryz.f203 []) Go.Proofs.Tryz.func203 (by kernel_rfl) (by kernel_rfl) [x0, x1, x2] w0 (Nat.le_of_ble_eq_true (by kernel_rfl))).trans (S203_eq _ _ x0 x1 x2 w0)

-- 204 (*ciborium/tree.node[[]ciborium/api.Version]).edge
noncomputable def cx204 (F : FnT) (G : RndT) : Ctx := ⟨Pg, F, G, 204, none, 45⟩
noncomputable def K204_0 : FnT → RndT → Exit → Env → World → R := fun _ _ => endK Pg Go.Proofs.Tryz.f204
noncomputable def K204_1 : FnT → RndT → Exit → Env → World → R := fun F G => thenK (evalCode (cx204 F G) (cdA Go.Proofs.Tryz.f204 [1, 1]) (K204_0 F G)) (K204_0 F G)
noncomputable def K204_2 : FnT → RndT → Exit → Env → World → R := fun F G => blkK 0 (K204_1 F G)
noncomputable def S204 (F : FnT) (G : RndT) (x0 x1 : Value) (w0 : World) : R :=
  rd2 (rawV Pg (Instr.alloc 240 true (.tuple #[])) w0) fun x3 w4 =>
  evalLoop (cx204 F G) (cdA Go.Proofs.Tryz.f204 [1, 0, 0, 0]) (K204_2 F G) (upd (envL [x0, x1]) 4 x3) w4
noncomputable def S204_L1 (F : FnT) (G : RndT) (e : Env) (w0 : World) : R :=
  rd2 (F 150 [(e 0)] w0) fun x101 w102 =>
  rd (unV .not x101) fun x103 =>
  cnd x103 (fun _ => cnd (e 1) (fun _ => rd (nilV (e 0)) fun x104 =>
  rd (fldA Pg 232 x104 1) fun x105 =>
  rd (ldV Pg 230 x105 (drw w102)) fun x106 =>
  rd (nilV (e 0)) fun x107 =>
  rd (fldA Pg 232 x107 0) fun x108 =>
  rd (ldV Pg 229 x108 (drw w102)) fun x109 =>
  rd2 (lenG true Pg .len #[229] 3 #[false] [x109] (drw w102)) fun x110 _ =>
  rd (ixA Pg 230 x106 x110) fun x112 =>
  rd (ldV Pg 228 x112 (drw w102)) fun x113 =>
  evalLoop (cx204 F G) (cdA Go.Proofs.Tryz.f204 [1, 0, 0, 0]) (K204_2 F G) (upd (upd (upd (upd (upd (upd (upd (upd (upd (upd (upd (upd (upd (upd (upd (upd e 5 (e 0)) 6 x101) 7 x103) 8 (e 1)) 9 (e 0)) 10 x104) 11 x105) 12 x106) 13 (e 0)) 14 x107) 15 x108) 16 x109) 17 x110) 18 x112) 19 x113) 0 x113) (drw w102)) (fun _ => rd (nilV (e 0)) fun x114 =>
  rd (fldA Pg 232 x114 1) fun x115 =>
  rd (ldV Pg 230 x115 w102) fun x116 =>
  rd (ixA Pg 230 x116 (.int .i64 0)) fun x117 =>
  rd (ldV Pg 228 x117 w102) fun x118 =>
  evalLoop (cx204 F G) (cdA Go.Proofs.Tryz.f204 [1, 0, 0, 0]) (K204_2 F G) (upd (upd (upd (upd (upd (upd (upd (upd (upd (upd (upd e 5 (e 0)) 6 x101) 7 x103) 8 (e 1)) 20 (e 0)) 21 x114) 22 x115) 23 x116) 24 x117) 25 x118) 0 x118) w102)) (fun _ => cnd (e 1) (fun _ => rd (nilV (e 0)) fun x119 =>
  rd (fldA Pg 232 x119 0) fun x120 =>
  rd (ldV Pg 229 x120 (drw w102)) fun x121 =>
  rd (nilV (e 0)) fun x122 =>
  rd (fldA Pg 232 x122 0) fun x123 =>
  rd (ldV Pg 229 x123 (drw w102)) fun x124 =>
  rd2 (lenG true Pg .len #[229] 3 #[false] [x124] (drw w102)) fun x125 _ =>
  rd2 (binG true Pg .sub 3 (.tmp 0) (.const .nilFunc) x125 (.int .i64 1) (drw w102)) fun x127 _ =>
  rd (ixA Pg 229 x121 x127) fun x129 =>
  rd (ldV Pg 240 x129 (drw w102)) fun x130 =>
  rd2 (rawU Pg (Instr.storeAt 240 (e 4) x130) (drw w102)) fun x132 w131 =>
  shutK (e 45) w131 fun w133 =>
  rd (ldV Pg 240 (e 4) w133) fun x134 =>
  some (x134, w133)) (fun _ => rd (nilV (e 0)) fun x135 =>
  rd (fldA Pg 232 x135 0) fun x136 =>
  rd (ldV Pg 229 x136 w102) fun x137 =>
  rd (ixA Pg 229 x137 (.int .i64 0)) fun x138 =>
  rd (ldV Pg 240 x138 w102) fun x139 =>
  rd2 (rawU Pg (Instr.storeAt 240 (e 4) x139) w102) fun x141 w140 =>
  shutK (e 45) w140 fun w142 =>
  rd (ldV Pg 240 (e 4) w142) fun x143 =>
  some (x143, w142)))
theorem S204_eq (F : FnT) (G : RndT) (x0 x1 : Value) (w0 : World) : evalCode (cx204 F G) (cdA Go.Proofs.Tryz.f204 []) (endK Pg Go.Proofs.Tryz.f204) (envL [x0, x1]) w0 = S204 F G x0 x1 w0 := by kernel_rfl
theorem F204 (x0 x1 : Value) (w0 : World) : Fn Pg 204 [x0, x1] w0 = S204 (Fn Pg) (Rnd Pg) x0 x1 w0 := (Fn_body (c := cdA Go.Proofs.Tryz.f204 []) Go.Proofs.Tryz.func204 (by kernel_rfl) (by kernel_rfl) [x0, x1] w0 (Nat.le_of_ble_eq_true (by kernel_rfl))).trans (S204_eq _ _ x0 x1 w0)
theorem S204_L1_eq (F : FnT) (G : RndT) (e : Env) (w0 : World) : evalLoop (cx204 F G) (cdA Go.Proofs.Tryz.f204 [1, 0, 0, 0]) (K204_2 F G) e w0 = S204_L1 F G e w0 := by
  rw [evalLoop_eq]
  kernel_rfl

-- 205 (*ciborium/tree.node[[]ciborium/api.Version]).merge
noncomputable def cx205 (F : FnT) (G : RndT) : Ctx := ⟨Pg, F, G, 205, none, 77⟩
noncomputable def S205 (F : FnT) (G : RndT) (x0 x1 : Value) (w0 : World) : R :=
  rd (nilV x0) fun x3 =>
  rd (fldA Pg 232 x3 1) fun x4 =>
  rd (ldV Pg 230 x4 (drw w0)) fun x5 =>
  rd (ixA Pg 230 x5 x1) fun x6 =>
  rd (ldV Pg 228 x6 (drw w0)) fun x7 =>
  rd (nilV x0) fun x8 =>
  rd (fldA Pg 232 x8 1) fun x9 =>
  rd (ldV Pg 230 x9 (drw w0)) fun x10 =>
  rd2 (binG true Pg .add 3 (.tmp 0) (.const .nilFunc) x1 (.int .i64 1) (drw w0)) fun x11 _ =>
  rd (ixA Pg 230 x10 x11) fun x13 =>
  rd (ldV Pg 228 x13 (drw w0)) fun x14 =>
  rd (nilV x7) fun x15 =>
  rd (fldA Pg 232 x15 0) fun x16 =>
  rd (ldV Pg 229 x16 (drw (drw w0))) fun x17 =>
  rd (nilV x0) fun x18 =>
  rd (fldA Pg 232 x18 0) fun x19 =>
  rd (ldV Pg 229 x19 (drw (drw w0))) fun x20 =>
  rd (ixA Pg 229 x20 x1) fun x21 =>
  rd (ldV Pg 240 x21 (drw (drw w0))) fun x22 =>
  rd2 (rawV Pg (Instr.buildSlice 229 1 #[(0, x22)]) (drw (drw w0))) fun x23 w24 =>
  rd2 (lenG false Pg .append #[229, 229] 229 #[false, false] [x17, x23] w24) fun x25 w26 =>
  rd (nilV x14) fun x27 =>
  rd (fldA Pg 232 x27 0) fun x28 =>
  rd (ldV Pg 229 x28 w26) fun x29 =>
  chk (holdsAt Pg none (.ld 229) x28 x29 w24) fun _ =>
  chk (holdsAt Pg none (.ld 229) x28 x29 (drw (drw w0))) fun _ =>
  rd2 (lenG false Pg .append #[229, 229] 229 #[false, false] [x25, x29] w26) fun x30 w31 =>
  rd (nilV x7) fun x32 =>
  rd (fldA Pg 232 x32 0) fun x33 =>
  rd2 (rawU Pg (Instr.storeAt 229 x33 x30) w31) fun x35 w34 =>
  rd (nilV x7) fun x36 =>
  rd (fldA Pg 232 x36 1) fun x37 =>
  rd (ldV Pg 230 x37 (drw w34)) fun x38 =>
  rd (nilV x14) fun x39 =>
  rd (fldA Pg 232 x39 1) fun x40 =>
  rd (ldV Pg 230 x40 (drw w34)) fun x41 =>
  rd2 (lenG false Pg .append #[230, 230] 230 #[false, false] [x38, x41] (drw w34)) fun x42 w43 =>
  rd (nilV x7) fun x44 =>
  rd (fldA Pg 232 x44 1) fun x45 =>
  rd2 (rawU Pg (Instr.storeAt 230 x45 x42) w43) fun x47 w46 =>
  rd (nilV x0) fun x48 =>
  rd (fldA Pg 232 x48 0) fun x49 =>
  rd (ldV Pg 229 x49 w46) fun x50 =>
  rd2 (binG false Pg .add 3 (.tmp 0) (.const .nilFunc) x1 (.int .i64 1) w46) fun x51 w52 =>
  rd2 (F 203 [x50, x1, x51] w52) fun x53 w54 =>
  rd (nilV x0) fun x55 =>
  rd (fldA Pg 232 x55 0) fun x56 =>
  rd2 (rawU Pg (Instr.storeAt 229 x56 x53) w54) fun x58 w57 =>
  rd (nilV x0) fun x59 =>
  rd (fldA Pg 232 x59 1) fun x60 =>
  rd (ldV Pg 230 x60 w57) fun x61 =>
  rd2 (binG false Pg .add 3 (.tmp 0) (.const .nilFunc) x1 (.int .i64 1) w57) fun x62 w63 =>
  rd2 (binG false Pg .add 3 (.tmp 0) (.const .nilFunc) x1 (.int .i64 2) w63) fun x64 w65 =>
  rd2 (F 229 [x61, x62, x64] w65) fun x66 w67 =>
  rd (nilV x0) fun x68 =>
  rd (fldA Pg 232 x68 1) fun x69 =>
  rd2 (rawU Pg (Instr.storeAt 230 x69 x66) w67) fun x71 w70 =>
  some ((.tuple #[]), w70)
theorem S205_eq (F : FnT) (G : RndT) (x0 x1 : Value) (w0 : World) : evalCode (cx205 F G) (cdA Go.Proofs.Tryz.f205 []) (endK Pg Go.Proofs.Tryz.f205) (envL [x0, x1]) w0 = S205 F G x0 x1 w0 := by kernel_rfl
theorem F205 (x0 x1 : Value) (w0 : World) : Fn Pg 205 [x0, x1] w0 = S205 (Fn Pg) (Rnd Pg) x0 x1 w0 := (Fn_body (c := cdA Go.Proofs.Tryz.f205 []) Go.Proofs.Tryz.func205 (by kernel_rfl) (by kernel_rfl) [x0, x1] w0 (Nat.le_of_ble_eq_true (by kernel_rfl))).trans (S205_eq _ _ x0 x1 w0)

-- 206 (*ciborium/tree.node[[]ciborium/api.Version]).rich
noncomputable def cx206 (F : FnT) (G : RndT) : Ctx := ⟨Pg, F, G, 206, none, 87⟩
noncomputable def S206 (F : FnT) (G : RndT) (x0 x1 : Value) (w0 : World) : R :=
  rd (nilV x0) fun x3 =>
  rd (fldA Pg 232 x3 1) fun x4 =>
  rd (ldV Pg 230 x4 w0) fun x5 =>
  rd (ixA Pg 230 x5 x1) fun x6 =>
  rd (ldV Pg 228 x6 w0) fun x7 =>
  rd (nilV x7) fun x8 =>
  rd (fldA Pg 232 x8 0) fun x9 =>
  rd (ldV Pg 229 x9 w0) fun x10 =>
  rd2 (lenG false Pg .len #[229] 3 #[false] [x10] w0) fun x11 w12 =>
  rd2 (binG false Pg .gtr 3 (.tmp 0) (.const .nilFunc) x11 (.int .i64 2) w12) fun x13 w14 =>
  cnd x13 (fun _ => some (x1, w14)) (fun _ => rd2 (binG false Pg .gtr 3 (.tmp 0) (.const .nilFunc) x1 (.int .i64 0) w14) fun x15 w16 =>
  rd2 (gate x15 true (fun _ =>  some (x0, w16)) w16) fun x17 w18 =>
  rd2 (gate x15 true (fun _ => rd (nilV x17) fun x19 => some (x19, w18)) w18) fun x20 w21 =>
  rd2 (gate x15 true (fun _ => rd (fldA Pg 232 x20 1) fun x22 => some (x22, w21)) w21) fun x23 w24 =>
  rd2 (gate x15 true (fun _ => rd (ldV Pg 230 x23 w24) fun x25 => some (x25, w24)) w24) fun x26 w27 =>
  rd2 (gate x15 true (fun _ =>  some (x1, w27)) w27) fun x28 w29 =>
  rd2 (gate x15 true (fun _ => rd2 (binG false Pg .sub 3 (.tmp 0) (.const .nilFunc) x28 (.int .i64 1) w29) fun x30 w31 => some (x30, w31)) w29) fun x32 w33 =>
  rd2 (gate x15 true (fun _ => rd (ixA Pg 230 x26 x32) fun x34 => some (x34, w33)) w33) fun x35 w36 =>
  rd2 (gate x15 true (fun _ => rd (ldV Pg 228 x35 w36) fun x37 => some (x37, w36)) w36) fun x38 w39 =>
  rd2 (gate x15 true (fun _ => rd (nilV x38) fun x40 => some (x40, w39)) w39) fun x41 w42 =>
  rd2 (gate x15 true (fun _ => rd (fldA Pg 232 x41 0) fun x43 => some (x43, w42)) w42) fun x44 w45 =>
  rd2 (gate x15 true (fun _ => rd (ldV Pg 229 x44 w45) fun x46 => some (x46, w45)) w45) fun x47 w48 =>
  rd2 (gate x15 true (fun _ => rd2 (lenG false Pg .len #[229] 3 #[false] [x47] w48) fun x49 w50 => some (x49, w50)) w48) fun x51 w52 =>
  rd2 (gate x15 true (fun _ => rd2 (binG false Pg .gtr 3 (.tmp 0) (.const .nilFunc) x51 (.int .i64 2) w52) fun x53 w54 => some (x53, w54)) w52) fun x55 w56 =>
  rd (pickV x15 x55 (.bool false)) fun x57 =>
  cnd x57 (fun _ => rd2 (binG false Pg .sub 3 (.tmp 0) (.const .nilFunc) x1 (.int .i64 1) w56) fun x58 w59 =>
  rd2 (F 230 [x0, x1, x58] w59) fun x60 w61 =>
  some (x1, w61)) (fun _ => rd (nilV x0) fun x62 =>
  rd (fldA Pg 232 x62 0) fun x63 =>
  rd (ldV Pg 229 x63 w56) fun x64 =>
  rd2 (lenG false Pg .len #[229] 3 #[false] [x64] w56) fun x65 w66 =>
  rd2 (binG false Pg .lss 3 (.tmp 0) (.tmp 0) x1 x65 w66) fun x67 w68 =>
  rd2 (gate x67 true (fun _ =>  some (x0, w68)) w68) fun x69 w70 =>
  rd2 (gate x67 true (fun _ => rd (nilV x69) fun x71 => some (x71, w70)) w70) fun x72 w73 =>
  rd2 (gate x67 true (fun _ => rd (fldA Pg 232 x72 1) fun x74 => some (x74, w73)) w73) fun x75 w76 =>
  rd2 (gate x67 true (fun _ => rd (ldV Pg 230 x75 w76) fun x77 => some (x77, w76)) w76) fun x78 w79 =>
  rd2 (gate x67 true (fun _ =>  some (x1, w79)) w79) fun x80 w81 =>
  rd2 (gate x67 true (fun _ => rd2 (binG false Pg .add 3 (.tmp 0) (.const .nilFunc) x80 (.int .i64 1) w81) fun x82 w83 => some (x82, w83)) w81) fun x84 w85 =>
  rd2 (gate x67 true (fun _ => rd (ixA Pg 230 x78 x84) fun x86 => some (x86, w85)) w85) fun x87 w88 =>
  rd2 (gate x67 true (fun _ => rd (ldV Pg 228 x87 w88) fun x89 => some (x89, w88)) w88) fun x90 w91 =>
  rd2 (gate x67 true (fun _ => rd (nilV x90) fun x92 => some (x92, w91)) w91) fun x93 w94 =>
  rd2 (gate x67 true (fun _ => rd (fldA Pg 232 x93 0) fun x95 => some (x95, w94)) w94) fun x96 w97 =>
  rd2 (gate x67 true (fun _ => rd (ldV Pg 229 x96 w97) fun x98 => some (x98, w97)) w97) fun x99 w100 =>
  rd2 (gate x67 true (fun _ => rd2 (lenG false Pg .len #[229] 3 #[false] [x99] w100) fun x101 w102 => some (x101, w102)) w100) fun x103 w104 =>
  rd2 (gate x67 true (fun _ => rd2 (binG false Pg .gtr 3 (.tmp 0) (.const .nilFunc) x103 (.int .i64 2) w104) fun x105 w106 => some (x105, w106)) w104) fun x107 w108 =>
  rd (pickV x67 x107 (.bool false)) fun x109 =>
  cnd x109 (fun _ => rd2 (binG false Pg .add 3 (.tmp 0) (.const .nilFunc) x1 (.int .i64 1) w108) fun x110 w111 =>
  rd2 (F 230 [x0, x1, x110] w111) fun x112 w113 =>
  some (x1, w113)) (fun _ => rd (nilV x0) fun x114 =>
  rd (fldA Pg 232 x114 0) fun x115 =>
  rd (ldV Pg 229 x115 w108) fun x116 =>
  rd2 (lenG false Pg .len #[229] 3 #[false] [x116] w108) fun x117 w118 =>
  rd2 (binG false Pg .lss 3 (.tmp 0) (.tmp 0) x1 x117 w118) fun x119 w120 =>
  cnd x119 (fun _ => rd2 (F 205 [x0, x1] w120) fun x121 w122 =>
  some (x1, w122)) (fun _ => rd2 (binG false Pg .sub 3 (.tmp 0) (.const .nilFunc) x1 (.int .i64 1) w120) fun x123 w124 =>
  rd2 (F 205 [x0, x123] w124) fun x125 w126 =>
  rd2 (binG false Pg .sub 3 (.tmp 0) (.const .nilFunc) x1 (.int .i64 1) w126) fun x127 w128 =>
  some (x127, w128)))))
theorem S206_eq (F : FnT) (G : RndT) (x0 x1 : Value) (w0 : World) : evalCode (cx206 F G) (cdA Go.Proofs.Tryz.f206 []) (endK Pg Go.Proofs.Tryz.f206) (envL [x0, x1]) w0 = S206 F G x0 x1 w0 := by kernel_rfl
theorem F206 (x0 x1 : Value) (w0 : World) : Fn Pg 206 [x0, x1] w0 = S206 (Fn Pg) (Rnd Pg) x0 x1 w0 := (Fn_body (c := cdA Go.Proofs.Tryz.f206 []) Go.Proofs.Tryz.func206 (by kernel_rfl) (by kernel_rfl) [x0, x1] w0 (Nat.le_of_ble_eq_true (by kernel_rfl))).trans (S206_eq _ _ x0 x1 w0)

-- 229 slices.Delete[[]*ciborium/tree.node[[]ciborium/api.Version],*ciborium/tree.node[[]ciborium/api.Version]]
noncomputable def cx229 (F : FnT) (G : RndT) : Ctx := ⟨Pg, F, G, 229, none, 33⟩
noncomputable def S229 (F : FnT) (G : RndT) (x0 x1 x2 : Value) (w0 : World) : R :=
  rd2 (lenG false Pg .len #[230] 3 #[false] [x0] w0) fun x4 w5 =>
  rd (slV Pg 230 x0 (some x1) (some x2) (some x4)) fun x6 =>
  rd2 (binG false Pg .eql 3 (.tmp 0) (.tmp 0) x1 x2 w5) fun x7 w8 =>
  cnd x7 (fun _ => some (x0, w8)) (fun _ => rd2 (lenG false Pg .len #[230] 3 #[false] [x0] w8) fun x9 w10 =>
  rd (slV Pg 230 x0 none (some x1) none) fun x11 =>
  rd (slV Pg 230 x0 (some x2) none none) fun x12 =>
  rd2 (lenG false Pg .append #[230, 230] 230 #[false, false] [x11, x12] (drw w10)) fun x13 w14 =>
  rd2 (lenG false Pg .len #[230] 3 #[false] [x13] w14) fun x15 w16 =>
  rd (slV Pg 230 x13 (some x15) (some x9) none) fun x17 =>
  rd2 (lenG false Pg .clear #[230] 0 #[false] [x17] w16) fun x18 w19 =>
  some (x13, w19))
theorem S229_eq (F : FnT) (G : RndT) (x0 x1 x2 : Value) (w0 : World) : evalCode (cx229 F G) (cdA Go.Proofs.Tryz.f229 []) (endK Pg Go.Proofs.Tryz.f229) (envL [x0, x1, x2]) w0 = S229 F G x0 x1 x2 w0 := by kernel_rfl
theorem F229 (x0 x1 x2 : Value) (w0 : World) : Fn Pg 229 [x0, x1, x2] w0 = S229 (Fn Pg) (Rnd Pg) x0 x1 x2 w0 := (Fn_body (c := cdA Go.Proofs.Tryz.f229 []) Go.Proofs.Tryz.func229 (by kernel_rfl) (by kernel_rfl) [x0, x1, x2] w0 (Nat.le_of_ble_eq_true (by kernel_rfl))).trans (S229_eq _ _ x0 x1 x2 w0)

-- 230 (*ciborium/tree.node[[]ciborium/api.Version]).lend
noncomputable def cx230 (F : FnT) (G : RndT) : Ctx := ⟨Pg, F, G, 230, none, 162⟩
noncomputable def S230 (F : FnT) (G : RndT) (x0 x1 x2 : Value) (w0 : World) : R :=
  rd (nilV x0) fun x4 =>
  rd (fldA Pg 232 x4 1) fun x5 =>
  rd (ldV Pg 230 x5 (drw w0)) fun x6 =>
  rd (ixA Pg 230 x6 x1) fun x7 =>
  rd (ldV Pg 228 x7 (drw w0)) fun x8 =>
  rd (nilV x0) fun x9 =>
  rd (fldA Pg 232 x9 1) fun x10 =>
  rd (ldV Pg 230 x10 (drw w0)) fun x11 =>
  rd (ixA Pg 230 x11 x2) fun x12 =>
  rd (ldV Pg 228 x12 (drw w0)) fun x13 =>
  rd2 (binG false Pg .lss 3 (.tmp 0) (.tmp 0) x2 x1 (drw w0)) fun x14 w15 =>
  cnd x14 (fun _ => rd (nilV x13) fun x16 =>
  rd (fldA Pg 232 x16 0) fun x17 =>
  rd (ldV Pg 229 x17 w15) fun x18 =>
  rd2 (lenG false Pg .len #[229] 3 #[false] [x18] w15) fun x19 w20 =>
  rd2 (binG false Pg .sub 3 (.tmp 0) (.const .nilFunc) x19 (.int .i64 1) w20) fun x21 w22 =>
  rd (nilV x8) fun x23 =>
  rd (fldA Pg 232 x23 0) fun x24 =>
  rd (ldV Pg 229 x24 (drw w22)) fun x25 =>
  rd (nilV x0) fun x26 =>
  rd (fldA Pg 232 x26 0) fun x27 =>
  rd (ldV Pg 229 x27 (drw w22)) fun x28 =>
  rd (ixA Pg 229 x28 x2) fun x29 =>
  rd (ldV Pg 240 x29 (drw w22)) fun x30 =>
  rd2 (rawV Pg (Instr.buildSlice 229 1 #[(0, x30)]) (drw w22)) fun x31 w32 =>
  rd2 (F 196 [x25, (.int .i64 0), x31] w32) fun x33 w34 =>
  rd (nilV x8) fun x35 =>
  rd (fldA Pg 232 x35 0) fun x36 =>
  rd2 (rawU Pg (Instr.storeAt 229 x36 x33) w34) fun x38 w37 =>
  rd (nilV x0) fun x39 =>
  rd (fldA Pg 232 x39 0) fun x40 =>
  rd (ldV Pg 229 x40 (drw w37)) fun x41 =>
  rd (nilV x13) fun x42 =>
  rd (fldA Pg 232 x42 0) fun x43 =>
  rd (ldV Pg 229 x43 (drw w37)) fun x44 =>
  rd (ixA Pg 229 x44 x21) fun x45 =>
  rd (ldV Pg 240 x45 (drw w37)) fun x46 =>
  rd (ixA Pg 229 x41 x2) fun x47 =>
  rd2 (rawU Pg (Instr.storeAt 240 x47 x46) (drw w37)) fun x49 w48 =>
  rd (nilV x13) fun x50 =>
  rd (fldA Pg 232 x50 0) fun x51 =>
  rd (ldV Pg 229 x51 w48) fun x52 =>
  rd (slV Pg 229 x52 none (some x21) none) fun x53 =>
  rd (nilV x13) fun x54 =>
  rd (fldA Pg 232 x54 0) fun x55 =>
  rd2 (rawU Pg (Instr.storeAt 229 x55 x53) w48) fun x57 w56 =>
  rd2 (F 150 [x13] w56) fun x58 w59 =>
  rd (unV .not x58) fun x60 =>
  cnd x60 (fun _ => rd (nilV x8) fun x61 =>
  rd (fldA Pg 232 x61 1) fun x62 =>
  rd (ldV Pg 230 x62 (drw w59)) fun x63 =>
  rd (nilV x13) fun x64 =>
  rd (fldA Pg 232 x64 1) fun x65 =>
  rd (ldV Pg 230 x65 (drw w59)) fun x66 =>
  rd2 (binG true Pg .add 3 (.tmp 0) (.const .nilFunc) x21 (.int .i64 1) (drw w59)) fun x67 _ =>
  rd (ixA Pg 230 x66 x67) fun x69 =>
  rd (ldV Pg 228 x69 (drw w59)) fun x70 =>
  rd2 (rawV Pg (Instr.buildSlice 230 1 #[(0, x70)]) (drw w59)) fun x71 w72 =>
  rd2 (F 197 [x63, (.int .i64 0), x71] w72) fun x73 w74 =>
  rd (nilV x8) fun x75 =>
  rd (fldA Pg 232 x75 1) fun x76 =>
  rd2 (rawU Pg (Instr.storeAt 230 x76 x73) w74) fun x78 w77 =>
  rd (nilV x13) fun x79 =>
  rd (fldA Pg 232 x79 1) fun x80 =>
  rd (ldV Pg 230 x80 w77) fun x81 =>
  rd2 (binG false Pg .add 3 (.tmp 0) (.const .nilFunc) x21 (.int .i64 1) w77) fun x82 w83 =>
  rd (slV Pg 230 x81 none (some x82) none) fun x84 =>
  rd (nilV x13) fun x85 =>
  rd (fldA Pg 232 x85 1) fun x86 =>
  rd2 (rawU Pg (Instr.storeAt 230 x86 x84) w83) fun x88 w87 =>
  some ((.tuple #[]), w87)) (fun _ => some ((.tuple #[]), w59))) (fun _ => rd (nilV x8) fun x89 =>
  rd (fldA Pg 232 x89 0) fun x90 =>
  rd (ldV Pg 229 x90 (drw w15)) fun x91 =>
  rd (nilV x0) fun x92 =>
  rd (fldA Pg 232 x92 0) fun x93 =>
  rd (ldV Pg 229 x93 (drw w15)) fun x94 =>
  rd (ixA Pg 229 x94 x1) fun x95 =>
  rd (ldV Pg 240 x95 (drw w15)) fun x96 =>
  rd2 (rawV Pg (Instr.buildSlice 229 1 #[(0, x96)]) (drw w15)) fun x97 w98 =>
  rd2 (lenG false Pg .append #[229, 229] 229 #[false, false] [x91, x97] w98) fun x99 w100 =>
  rd (nilV x8) fun x101 =>
  rd (fldA Pg 232 x101 0) fun x102 =>
  rd2 (rawU Pg (Instr.storeAt 229 x102 x99) w100) fun x104 w103 =>
  rd (nilV x0) fun x105 =>
  rd (fldA Pg 232 x105 0) fun x106 =>
  rd (ldV Pg 229 x106 (drw w103)) fun x107 =>
  rd (nilV x13) fun x108 =>
  rd (fldA Pg 232 x108 0) fun x109 =>
  rd (ldV Pg 229 x109 (drw w103)) fun x110 =>
  rd (ixA Pg 229 x110 (.int .i64 0)) fun x111 =>
  rd (ldV Pg 240 x111 (drw w103)) fun x112 =>
  rd (ixA Pg 229 x107 x1) fun x113 =>
  rd2 (rawU Pg (Instr.storeAt 240 x113 x112) (drw w103)) fun x115 w114 =>
  rd (nilV x13) fun x116 =>
  rd (fldA Pg 232 x116 0) fun x117 =>
  rd (ldV Pg 229 x117 w114) fun x118 =>
  rd2 (F 203 [x118, (.int .i64 0), (.int .i64 1)] w114) fun x119 w120 =>
  rd (nilV x13) fun x121 =>
  rd (fldA Pg 232 x121 0) fun x122 =>
  rd2 (rawU Pg (Instr.storeAt 229 x122 x119) w120) fun x124 w123 =>
  rd2 (F 150 [x13] w123) fun x125 w126 =>
  rd (unV .not x125) fun x127 =>
  cnd x127 (fun _ => rd (nilV x8) fun x128 =>
  rd (fldA Pg 232 x128 1) fun x129 =>
  rd (ldV Pg 230 x129 (drw w126)) fun x130 =>
  rd (nilV x13) fun x131 =>
  rd (fldA Pg 232 x131 1) fun x132 =>
  rd (ldV Pg 230 x132 (drw w126)) fun x133 =>
  rd (ixA Pg 230 x133 (.int .i64 0)) fun x134 =>
  rd (ldV Pg 228 x134 (drw w126)) fun x135 =>
  rd2 (rawV Pg (Instr.buildSlice 230 1 #[(0, x135)]) (drw w126)) fun x136 w137 =>
  rd2 (lenG false Pg .append #[230, 230] 230 #[false, false] [x130, x136] w137) fun x138 w139 =>
  rd (nilV x8) fun x140 =>
  rd (fldA Pg 232 x140 1) fun x141 =>
  rd2 (rawU Pg (Instr.storeAt 230 x141 x138) w139) fun x143 w142 =>
  rd (nilV x13) fun x144 =>
  rd (fldA Pg 232 x144 1) fun x145 =>
  rd (ldV Pg 230 x145 w142) fun x146 =>
  rd2 (F 229 [x146, (.int .i64 0), (.int .i64 1)] w142) fun x147 w148 =>
  rd (nilV x13) fun x149 =>
  rd (fldA Pg 232 x149 1) fun x150 =>
  rd2 (rawU Pg (Instr.storeAt 230 x150 x147) w148) fun x152 w151 =>
  some ((.tuple #[]), w151)) (fun _ => some ((.tuple #[]), w126)))
theorem S230_eq (F : FnT) (G : RndT) (x0 x1 x2 : Value) (w0 : World) : evalCode (cx230 F G) (cdA Go.Proofs.Tryz.f230 []) (endK Pg Go.Proofs.Tryz.f230) (envL [x0, x1, x2]) w0 = S230 F G x0 x1 x2 w0 := by kernel_rfl
theorem F230 (x0 x1 x2 : Value) (w0 : World) : Fn Pg 230 [x0, x1, x2] w0 = S230 (Fn Pg) (Rnd Pg) x0 x1 x2 w0 := (Fn_body (c := cdA Go.Proofs.Tryz.f230 []) Go.Proofs.Tryz.func230 (by kernel_rfl) (by kernel_rfl) [x0, x1, x2] w0 (Nat.le_of_ble_eq_true (by kernel_rfl))).trans (S230_eq _ _ x0 x1 x2 w0)

end Go.Cb
