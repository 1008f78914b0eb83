import Derived.Test.YtialecgadoepjaaProg
import Derived.Test.YtialecgadoepjaaHp
import Derived.KernelRfl
open Go Go.Proofs
set_option linter.unusedVariables false
set_option linter.unusedSimpArgs false
namespace Go.Cb
noncomputable abbrev Pg : Program := Try.prog
/-- a region's operations, by the way to it. -/
def rgA (f : Func) (p : List Nat) : Array Oper :=
  match cdA f p with
  | .region _ ops _ => ops
  | _ => #[]
-- 8 ciborium/ciboriumlaw24.MvccVacuums
noncomputable def cx8 (F : FnT) (G : RndT) : Ctx := ⟨Pg, F, G, 8, none, 152⟩
noncomputable def K8_0 : FnT → RndT → Exit → Env → World → R := fun _ _ => endK Pg Go.Proofs.Try.f8
noncomputable def K8_1 : FnT → RndT → Exit → Env → World → R := fun F G => thenK (evalCode (cx8 F G) (cdA Go.Proofs.Try.f8 [1, 1, 1, 1]) (K8_0 F G)) (K8_0 F G)
noncomputable def K8_2 : FnT → RndT → Exit → Env → World → R := fun F G => blkK 0 (K8_1 F G)
noncomputable def K8_3 : FnT → RndT → Exit → Env → World → R := fun F G => thenK (evalCode (cx8 F G) (cdA Go.Proofs.Try.f8 [1, 1, 1, 1, 1, 1, 1, 1, 1, 1]) (K8_0 F G)) (K8_0 F G)
noncomputable def K8_4 : FnT → RndT → Exit → Env → World → R := fun F G => blkK 2 (K8_3 F G)
noncomputable def K8_5 : FnT → RndT → Exit → Env → World → R := fun F G => thenK (evalCode (cx8 F G) (cdA Go.Proofs.Try.f8 [1, 1, 1, 1, 1, 1, 1, 1, 1, 1, 1, 1, 1]) (K8_0 F G)) (K8_0 F G)
noncomputable def K8_6 : FnT → RndT → Exit → Env → World → R := fun F G => blkK 4 (K8_5 F G)
noncomputable def S8 (F : FnT) (G : RndT) (x0 : Value) (w0 : World) : R :=
  rd2 (F 29 [x0] w0) fun x2 w3 =>
  rd (unV .not x2) fun x4 =>
  cnd x4 (fun _ => rd2 (F 30 [] w3) fun x5 w6 =>
  some (x5, w6)) (fun _ => rd2 (F 31 [] w3) fun x7 w8 =>
  evalLoop (cx8 F G) (cdA Go.Proofs.Try.f8 [1, 1, 1, 0, 1, 0, 0]) (K8_2 F G) (upd (upd (upd (upd (upd (upd (upd (envL [x0]) 2 (.bool false)) 20 x0) 21 x2) 22 x4) 24 x7) 3 x7) 4 (.int .i64 0)) w8)
noncomputable def S8_L1 (F : FnT) (G : RndT) (e : Env) (w0 : World) : R :=
  rd2 (lenG false Pg .len #[58] 3 #[false] [(e 0)] w0) fun x101 w102 =>
  rd2 (binG false Pg .lss 3 (.tmp 0) (.tmp 0) (e 4) x101 w102) fun x103 w104 =>
  cnd x103 (fun _ => rd (ixA Pg 58 (e 0) (e 4)) fun x105 =>
  rd (fldA Pg 70 x105 1) fun x106 =>
  rd (ldV Pg 67 x106 w104) fun x107 =>
  rd2 (F 32 [(e 3), x107] w104) fun x108 w109 =>
  rd2 (binG false Pg .add 3 (.tmp 0) (.const .nilFunc) (e 4) (.int .i64 1) w109) fun x110 w111 =>
  evalLoop (cx8 F G) (cdA Go.Proofs.Try.f8 [1, 1, 1, 0, 1, 0, 0]) (K8_2 F G) (upd (upd (upd (upd (upd (upd (upd (upd (upd (upd (upd (upd (upd (upd e 25 (e 4)) 26 (e 0)) 27 x101) 28 x103) 31 (e 3)) 32 (e 0)) 33 (e 4)) 34 x105) 35 x106) 36 x107) 37 x108) 29 (e 4)) 30 x110) 4 x110) w111) (fun _ => rd2 (F 33 [(e 3)] w104) fun x112 w113 =>
  rd2 (F 34 [(e 3)] w113) fun x114 w115 =>
  rd2 (F 35 [(e 3)] w115) fun x116 w117 =>
  rd (bldV Pg 36 []) fun x118 =>
  rd2 (F 37 [(e 3)] w117) fun x119 w120 =>
  rd2 (F 36 [(e 3), x118, x119, (.int .i64 1000)] w120) fun x121 w122 =>
  evalLoop (cx8 F G) (cdA Go.Proofs.Try.f8 [1, 1, 1, 1, 1, 1, 1, 1, 1, 0, 1, 0, 0]) (K8_4 F G) (upd (upd (upd (upd (upd (upd (upd (upd (upd (upd (upd (upd (upd (upd (upd (upd (upd (upd (upd (upd (upd (upd e 25 (e 4)) 26 (e 0)) 27 x101) 28 x103) 38 (e 3)) 39 x112) 5 x112) 40 (e 3)) 41 x114) 42 (e 3)) 43 x116) 6 x114) 7 x116) 44 (e 3)) 45 x118) 46 (e 3)) 47 x119) 48 x121) 8 x121) 9 (.string { data := #[] })) 10 (.int .i64 0)) 11 (.int .i64 0)) w122)
noncomputable def S8_L2 (F : FnT) (G : RndT) (e : Env) (w0 : World) : R :=
  rd2 (lenG false Pg .len #[71] 3 #[false] [(e 5)] w0) fun x101 w102 =>
  rd2 (binG false Pg .lss 3 (.tmp 0) (.tmp 0) (e 11) x101 w102) fun x103 w104 =>
  cnd x103 (fun _ => rd2 (F 38 [(e 3), (e 9), (.slice none 0 0)] w104) fun x105 w106 =>
  rd (extV x105 0) fun x107 =>
  rd (extV x105 1) fun x108 =>
  rd (extV x105 2) fun x109 =>
  rd2 (gate x109 false (fun _ =>  some (x107, w106)) w106) fun x110 w111 =>
  rd2 (gate x109 false (fun _ =>  some ((e 5), w111)) w111) fun x112 w113 =>
  rd2 (gate x109 false (fun _ =>  some ((e 11), w113)) w113) fun x114 w115 =>
  rd2 (gate x109 false (fun _ => rd (ixA Pg 71 x112 x114) fun x116 => some (x116, w115)) w115) fun x117 w118 =>
  rd2 (gate x109 false (fun _ => rd (fldA Pg 80 x117 0) fun x119 => some (x119, w118)) w118) fun x120 w121 =>
  rd2 (gate x109 false (fun _ => rd (ldV Pg 9 x120 w121) fun x122 => some (x122, w121)) w121) fun x123 w124 =>
  rd2 (gate x109 false (fun _ => rd2 (binG false Pg .neq 9 (.tmp 0) (.tmp 0) x110 x123 w124) fun x125 w126 => some (x125, w126)) w124) fun x127 w128 =>
  rd (pickV x109 (.bool true) x127) fun x129 =>
  cnd x129 (fun _ => shutK (e 152) w128 fun w130 =>
  some ((.bool false), w130)) (fun _ => rd2 (lenG false Pg .len #[76] 3 #[false] [x108] w128) fun x131 w132 =>
  rd2 (binG false Pg .add 3 (.tmp 0) (.tmp 0) (e 10) x131 w132) fun x133 w134 =>
  rd2 (binG false Pg .add 3 (.tmp 0) (.const .nilFunc) (e 11) (.int .i64 1) w134) fun x135 w136 =>
  evalLoop (cx8 F G) (cdA Go.Proofs.Try.f8 [1, 1, 1, 1, 1, 1, 1, 1, 1, 0, 1, 0, 0]) (K8_4 F G) (upd (upd (upd (upd (upd (upd (upd (upd (upd (upd (upd (upd (upd (upd (upd (upd (upd (upd (upd (upd (upd (upd (upd (upd (upd (upd (upd (upd (upd (upd (upd (upd (upd (upd e 49 (e 11)) 50 (e 5)) 51 x101) 52 x103) 56 (e 3)) 57 (e 9)) 58 x105) 55 x105) 59 x107) 60 x108) 61 x109) 12 x107) 13 x108) 14 x109) 62 x109) 63 x109) 64 x110) 65 x112) 66 x114) 67 x117) 68 x120) 69 x123) 70 x127) 71 x129) 72 (e 10)) 73 x108) 74 x131) 75 x133) 10 x133) 76 x107) 9 x107) 53 (e 11)) 54 x135) 11 x135) w136)) (fun _ => rd2 (F 38 [(e 3), (e 9), (.slice none 0 0)] w104) fun x137 w138 =>
  rd (extV x137 0) fun x139 =>
  rd (extV x137 1) fun x140 =>
  rd (extV x137 2) fun x141 =>
  rd2 (F 33 [(e 3)] w138) fun x142 w143 =>
  evalLoop (cx8 F G) (cdA Go.Proofs.Try.f8 [1, 1, 1, 1, 1, 1, 1, 1, 1, 1, 1, 1, 0, 1, 0, 0]) (K8_6 F G) (upd (upd (upd (upd (upd (upd (upd (upd (upd (upd (upd (upd (upd (upd (upd (upd (upd (upd e 49 (e 11)) 50 (e 5)) 51 x101) 52 x103) 78 (e 3)) 79 (e 9)) 80 x137) 77 x137) 81 x139) 82 x140) 83 x141) 15 x139) 16 x140) 17 x141) 84 (e 3)) 85 x142) 18 x142) 19 (.int .i64 0)) w143)
noncomputable def S8_L3 (F : FnT) (G : RndT) (e : Env) (w0 : World) : R :=
  rd2 (lenG false Pg .len #[71] 3 #[false] [(e 18)] w0) fun x101 w102 =>
  rd2 (binG false Pg .lss 3 (.tmp 0) (.tmp 0) (e 19) x101 w102) fun x103 w104 =>
  cnd x103 (fun _ => rd (ixA Pg 71 (e 18) (e 19)) fun x105 =>
  rd (fldA Pg 80 x105 1) fun x106 =>
  rd (ldV Pg 76 x106 w104) fun x107 =>
  rd2 (lenG false Pg .len #[76] 3 #[false] [x107] w104) fun x108 w109 =>
  rd2 (binG false Pg .neq 3 (.tmp 0) (.const .nilFunc) x108 (.int .i64 1) w109) fun x110 w111 =>
  rd2 (gate x110 false (fun _ =>  some ((e 18), w111)) w111) fun x112 w113 =>
  rd2 (gate x110 false (fun _ =>  some ((e 19), w113)) w113) fun x114 w115 =>
  rd2 (gate x110 false (fun _ => rd (ixA Pg 71 x112 x114) fun x116 => some (x116, w115)) w115) fun x117 w118 =>
  rd2 (gate x110 false (fun _ => rd (fldA Pg 80 x117 1) fun x119 => some (x119, w118)) w118) fun x120 w121 =>
  rd2 (gate x110 false (fun _ => rd (ldV Pg 76 x120 w121) fun x122 => some (x122, w121)) w121) fun x123 w124 =>
  rd2 (gate x110 false (fun _ => rd (ixA Pg 76 x123 (.int .i64 0)) fun x125 => some (x125, w124)) w124) fun x126 w127 =>
  rd2 (gate x110 false (fun _ => rd (fldA Pg 85 x126 1) fun x128 => some (x128, w127)) w127) fun x129 w130 =>
  rd2 (gate x110 false (fun _ => rd (ldV Pg 4 x129 w130) fun x131 => some (x131, w130)) w130) fun x132 w133 =>
  rd (pickV x110 (.bool true) x132) fun x134 =>
  cnd x134 (fun _ => shutK (e 152) w133 fun w135 =>
  some ((.bool false), w135)) (fun _ => rd2 (binG false Pg .add 3 (.tmp 0) (.const .nilFunc) (e 19) (.int .i64 1) w133) fun x136 w137 =>
  evalLoop (cx8 F G) (cdA Go.Proofs.Try.f8 [1, 1, 1, 1, 1, 1, 1, 1, 1, 1, 1, 1, 0, 1, 0, 0]) (K8_6 F G) (upd (upd (upd (upd (upd (upd (upd (upd (upd (upd (upd (upd (upd (upd (upd (upd (upd (upd (upd (upd (upd (upd (upd (upd e 86 (e 19)) 87 (e 18)) 88 x101) 89 x103) 92 (e 18)) 93 (e 19)) 94 x105) 95 x106) 96 x107) 97 x108) 98 x110) 99 x110) 100 x112) 101 x114) 102 x117) 103 x120) 104 x123) 105 x126) 106 x129) 107 x132) 108 x134) 90 (e 19)) 91 x136) 19 x136) w137)) (fun _ => rd2 (gate (e 17) true (fun _ =>  some ((e 16), w104)) w104) fun x138 w139 =>
  rd2 (gate (e 17) true (fun _ => rd2 (lenG false Pg .len #[76] 3 #[false] [x138] w139) fun x140 w141 => some (x140, w141)) w139) fun x142 w143 =>
  rd2 (gate (e 17) true (fun _ => rd2 (binG false Pg .eql 3 (.tmp 0) (.const .nilFunc) x142 (.int .i64 0) w143) fun x144 w145 => some (x144, w145)) w143) fun x146 w147 =>
  rd (pickV (e 17) x146 (.bool false)) fun x148 =>
  rd2 (gate x148 true (fun _ =>  some ((e 3), w147)) w147) fun x149 w150 =>
  rd2 (gate x148 true (fun _ => rd2 (F 34 [x149] w150) fun x151 w152 => some (x151, w152)) w150) fun x153 w154 =>
  rd2 (gate x148 true (fun _ =>  some ((e 7), w154)) w154) fun x155 w156 =>
  rd2 (gate x148 true (fun _ => rd2 (binG false Pg .eql 3 (.tmp 0) (.tmp 0) x153 x155 w156) fun x157 w158 => some (x157, w158)) w156) fun x159 w160 =>
  rd (pickV x148 x159 (.bool false)) fun x161 =>
  rd2 (gate x161 true (fun _ =>  some ((e 3), w160)) w160) fun x162 w163 =>
  rd2 (gate x161 true (fun _ => rd2 (F 35 [x162] w163) fun x164 w165 => some (x164, w165)) w163) fun x166 w167 =>
  rd2 (gate x161 true (fun _ =>  some ((e 7), w167)) w167) fun x168 w169 =>
  rd2 (gate x161 true (fun _ => rd2 (binG false Pg .eql 3 (.tmp 0) (.tmp 0) x166 x168 w169) fun x170 w171 => some (x170, w171)) w169) fun x172 w173 =>
  rd (pickV x161 x172 (.bool false)) fun x174 =>
  rd2 (gate x174 true (fun _ =>  some ((e 18), w173)) w173) fun x175 w176 =>
  rd2 (gate x174 true (fun _ => rd2 (lenG false Pg .len #[71] 3 #[false] [x175] w176) fun x177 w178 => some (x177, w178)) w176) fun x179 w180 =>
  rd2 (gate x174 true (fun _ =>  some ((e 7), w180)) w180) fun x181 w182 =>
  rd2 (gate x174 true (fun _ => rd2 (binG false Pg .eql 3 (.tmp 0) (.tmp 0) x179 x181 w182) fun x183 w184 => some (x183, w184)) w182) fun x185 w186 =>
  rd (pickV x174 x185 (.bool false)) fun x187 =>
  rd2 (gate x187 true (fun _ =>  some ((e 10), w186)) w186) fun x188 w189 =>
  rd2 (gate x187 true (fun _ =>  some ((e 6), w189)) w189) fun x190 w191 =>
  rd2 (gate x187 true (fun _ =>  some ((e 7), w191)) w191) fun x192 w193 =>
  rd2 (gate x187 true (fun _ => rd2 (binG false Pg .sub 3 (.tmp 0) (.tmp 0) x190 x192 w193) fun x194 w195 => some (x194, w195)) w193) fun x196 w197 =>
  rd2 (gate x187 true (fun _ => rd2 (binG false Pg .eql 3 (.tmp 0) (.tmp 0) x188 x196 w197) fun x198 w199 => some (x198, w199)) w197) fun x200 w201 =>
  rd (pickV x187 x200 (.bool false)) fun x202 =>
  rd2 (gate x202 true (fun _ =>  some ((e 3), w201)) w201) fun x203 w204 =>
  rd2 (gate x202 true (fun _ => rd (bldV Pg 36 []) fun x205 => some (x205, w204)) w204) fun x206 w207 =>
  rd2 (gate x202 true (fun _ =>  some ((e 3), w207)) w207) fun x208 w209 =>
  rd2 (gate x202 true (fun _ => rd2 (F 37 [x208] w209) fun x210 w211 => some (x210, w211)) w209) fun x212 w213 =>
  rd2 (gate x202 true (fun _ => rd2 (F 36 [x203, x206, x212, (.int .i64 1000)] w213) fun x214 w215 => some (x214, w215)) w213) fun x216 w217 =>
  rd2 (gate x202 true (fun _ =>  some ((e 8), w217)) w217) fun x218 w219 =>
  rd2 (gate x202 true (fun _ => rd2 (F 39 [x216, x218] w219) fun x220 w221 => some (x220, w221)) w219) fun x222 w223 =>
  rd (pickV x202 x222 (.bool false)) fun x224 =>
  rd2 (gate x224 true (fun _ => rd2 (F 30 [] w223) fun x225 w226 => some (x225, w226)) w223) fun x227 w228 =>
  rd (pickV x224 x227 (.bool false)) fun x229 =>
  shutK (e 152) w228 fun w230 =>
  some (x229, w230))
theorem S8_eq (F : FnT) (G : RndT) (x0 : Value) (w0 : World) : evalCode (cx8 F G) (cdA Go.Proofs.Try.f8 []) (endK Pg Go.Proofs.Try.f8) (envL [x0]) w0 = S8 F G x0 w0 := by kernel_rfl
theorem F8 (x0 : Value) (w0 : World) : Fn Pg 8 [x0] w0 = S8 (Fn Pg) (Rnd Pg) x0 w0 := (Fn_body (c := cdA Go.Proofs.Try.f8 []) Go.Proofs.Try.func8 (by kernel_rfl) (by kernel_rfl) [x0] w0 (Nat.le_of_ble_eq_true (by kernel_rfl))).trans (S8_eq _ _ x0 w0)
theorem S8_L1_eq (F : FnT) (G : RndT) (e : Env) (w0 : World) : evalLoop (cx8 F G) (cdA Go.Proofs.Try.f8 [1, 1, 1, 0, 1, 0, 0]) (K8_2 F G) e w0 = S8_L1 F G e w0 := by
  rw [evalLoop_eq]
  kernel_rfl
theorem S8_L2_eq (F : FnT) (G : RndT) (e : Env) (w0 : World) : evalLoop (cx8 F G) (cdA Go.Proofs.Try.f8 [1, 1, 1, 1, 1, 1, 1, 1, 1, 0, 1, 0, 0]) (K8_4 F G) e w0 = S8_L2 F G e w0 := by
  rw [evalLoop_eq]
  kernel_rfl
theorem S8_L3_eq (F : FnT) (G : RndT) (e : Env) (w0 : World) : evalLoop (cx8 F G) (cdA Go.Proofs.Try.f8 [1, 1, 1, 1, 1, 1, 1, 1, 1, 1, 1, 1, 0, 1, 0, 0]) (K8_6 F G) e w0 = S8_L3 F G e w0 := by
  rw [evalLoop_eq]
  kernel_rfl

-- 9 ciborium/ciboriumlaw24.MvccStays
noncomputable def cx9 (F : FnT) (G : RndT) : Ctx := ⟨Pg, F, G, 9, none, 153⟩
noncomputable def K9_0 : FnT → RndT → Exit → Env → World → R := fun _ _ => endK Pg Go.Proofs.Try.f9
noncomputable def K9_1 : FnT → RndT → Exit → Env → World → R := fun F G => thenK (evalCode (cx9 F G) (cdA Go.Proofs.Try.f9 [1, 1, 1, 1]) (K9_0 F G)) (K9_0 F G)
noncomputable def K9_2 : FnT → RndT → Exit → Env → World → R := fun F G => blkK 0 (K9_1 F G)
noncomputable def K9_3 : FnT → RndT → Exit → Env → World → R := fun F G => thenK (evalCode (cx9 F G) (cdA Go.Proofs.Try.f9 [1, 1, 1, 1, 1, 1, 1]) (K9_0 F G)) (K9_0 F G)
noncomputable def K9_4 : FnT → RndT → Exit → Env → World → R := fun F G => blkK 2 (K9_3 F G)
noncomputable def K9_5 : FnT → RndT → Exit → Env → World → R := fun F G => thenK (evalCode (cx9 F G) (cdA Go.Proofs.Try.f9 [1, 1, 1, 1, 1, 1, 1, 1]) (K9_0 F G)) (K9_0 F G)
noncomputable def K9_6 : FnT → RndT → Exit → Env → World → R := fun F G => blkK 4 (K9_5 F G)
noncomputable def S9 (F : FnT) (G : RndT) (x0 x1 x2 : Value) (w0 : World) : R :=
  rd2 (F 29 [x0] w0) fun x4 w5 =>
  rd (unV .not x4) fun x6 =>
  rd2 (gate x6 false (fun _ =>  some (x1, w5)) w5) fun x7 w8 =>
  rd2 (gate x6 false (fun _ => rd2 (F 29 [x7] w8) fun x9 w10 => some (x9, w10)) w8) fun x11 w12 =>
  rd2 (gate x6 false (fun _ => rd (unV .not x11) fun x13 => some (x13, w12)) w12) fun x14 w15 =>
  rd (pickV x6 (.bool true) x14) fun x16 =>
  rd2 (gate x16 false (fun _ =>  some (x2, w15)) w15) fun x17 w18 =>
  rd2 (gate x16 false (fun _ => rd2 (lenG false Pg .len #[87] 3 #[false] [x17] w18) fun x19 w20 => some (x19, w20)) w18) fun x21 w22 =>
  rd2 (gate x16 false (fun _ => rd2 (binG false Pg .gtr 3 (.tmp 0) (.const .nilFunc) x21 (.int .i64 30) w22) fun x23 w24 => some (x23, w24)) w22) fun x25 w26 =>
  rd (pickV x16 (.bool true) x25) fun x27 =>
  cnd x27 (fun _ => rd2 (F 30 [] w26) fun x28 w29 =>
  some (x28, w29)) (fun _ => rd2 (F 31 [] w26) fun x30 w31 =>
  evalLoop (cx9 F G) (cdA Go.Proofs.Try.f9 [1, 1, 1, 0, 1, 0, 0]) (K9_2 F G) (upd (upd (upd (upd (upd (upd (upd (upd (upd (upd (upd (upd (upd (upd (upd (upd (upd (envL [x0, x1, x2]) 6 (.bool false)) 19 x0) 20 x4) 21 x6) 22 x6) 23 x7) 24 x11) 25 x14) 26 x16) 27 x16) 28 x17) 29 x21) 30 x25) 31 x27) 33 x30) 7 x30) 8 (.int .i64 0)) w31)
noncomputable def S9_L1 (F : FnT) (G : RndT) (e : Env) (w0 : World) : R :=
  rd2 (lenG false Pg .len #[58] 3 #[false] [(e 0)] w0) fun x101 w102 =>
  rd2 (binG false Pg .lss 3 (.tmp 0) (.tmp 0) (e 8) x101 w102) fun x103 w104 =>
  cnd x103 (fun _ => rd (ixA Pg 58 (e 0) (e 8)) fun x105 =>
  rd (fldA Pg 70 x105 1) fun x106 =>
  rd (ldV Pg 67 x106 w104) fun x107 =>
  rd2 (F 32 [(e 7), x107] w104) fun x108 w109 =>
  rd2 (binG false Pg .add 3 (.tmp 0) (.const .nilFunc) (e 8) (.int .i64 1) w109) fun x110 w111 =>
  evalLoop (cx9 F G) (cdA Go.Proofs.Try.f9 [1, 1, 1, 0, 1, 0, 0]) (K9_2 F G) (upd (upd (upd (upd (upd (upd (upd (upd (upd (upd (upd (upd (upd (upd e 34 (e 8)) 35 (e 0)) 36 x101) 37 x103) 40 (e 7)) 41 (e 0)) 42 (e 8)) 43 x105) 44 x106) 45 x107) 46 x108) 38 (e 8)) 39 x110) 8 x110) w111) (fun _ => rd2 (F 37 [(e 7)] w104) fun x112 w113 =>
  rd2 (F 40 [(e 7)] w113) fun x114 w115 =>
  evalLoop (cx9 F G) (cdA Go.Proofs.Try.f9 [1, 1, 1, 1, 1, 1, 0, 1, 0, 0]) (K9_4 F G) (upd (upd (upd (upd (upd (upd (upd (upd (upd (upd (upd e 34 (e 8)) 35 (e 0)) 36 x101) 37 x103) 47 (e 7)) 48 x112) 9 x112) 49 (e 7)) 50 x114) 10 x114) 11 (.int .i64 0)) w115)
noncomputable def S9_L2 (F : FnT) (G : RndT) (e : Env) (w0 : World) : R :=
  rd2 (lenG false Pg .len #[58] 3 #[false] [(e 1)] w0) fun x101 w102 =>
  rd2 (binG false Pg .lss 3 (.tmp 0) (.tmp 0) (e 11) x101 w102) fun x103 w104 =>
  cnd x103 (fun _ => rd (ixA Pg 58 (e 1) (e 11)) fun x105 =>
  rd (fldA Pg 70 x105 0) fun x106 =>
  rd (ldV Pg 3 x106 w104) fun x107 =>
  rd2 (binG false Pg .leq 3 (.tmp 0) (.const .nilFunc) x107 (.int .i64 2) w104) fun x108 w109 =>
  cnd x108 (fun _ => rd (ixA Pg 58 (e 1) (e 11)) fun x110 =>
  rd (fldA Pg 70 x110 1) fun x111 =>
  rd (ldV Pg 67 x111 w109) fun x112 =>
  rd2 (F 32 [(e 7), x112] w109) fun x113 w114 =>
  rd (bldV Pg 36 []) fun x115 =>
  rd2 (F 36 [(e 7), x115, (e 9), (.int .i64 1000)] w114) fun x116 w117 =>
  rd (bldV Pg 36 []) fun x118 =>
  rd2 (F 36 [(e 10), x118, (e 9), (.int .i64 1000)] w117) fun x119 w120 =>
  rd2 (F 39 [x116, x119] w120) fun x121 w122 =>
  rd (unV .not x121) fun x123 =>
  cnd x123 (fun _ => shutK (e 153) w122 fun w124 =>
  some ((.bool false), w124)) (fun _ => rd2 (binG false Pg .add 3 (.tmp 0) (.const .nilFunc) (e 11) (.int .i64 1) w122) fun x125 w126 =>
  evalLoop (cx9 F G) (cdA Go.Proofs.Try.f9 [1, 1, 1, 1, 1, 1, 0, 1, 0, 0]) (K9_4 F G) (upd (upd (upd (upd (upd (upd (upd (upd (upd (upd (upd (upd (upd (upd (upd (upd (upd (upd (upd (upd (upd (upd (upd (upd (upd (upd (upd (upd (upd (upd (upd (upd (upd (upd e 51 (e 11)) 52 (e 1)) 53 x101) 54 x103) 57 (e 1)) 58 (e 11)) 59 x105) 60 x106) 61 x107) 62 x108) 63 (e 7)) 64 (e 1)) 65 (e 11)) 66 x110) 67 x111) 68 x112) 69 x113) 87 (e 7)) 88 x115) 89 (e 9)) 90 x116) 91 (e 10)) 92 x118) 93 (e 9)) 94 x119) 12 x116) 13 x119) 95 x116) 96 x119) 97 x121) 98 x123) 55 (e 11)) 56 x125) 11 x125) w126)) (fun _ => oneOf (aheadL 6 14 (Region.schedule true (rgA Go.Proofs.Try.f9 [1, 1, 1, 1, 1, 1, 0, 1, 0, 0, 1, 0, 0, 0, 1, 1]) (World.tape w109 (World.drawn w109) (.order 9 15)))) (fun _ => oneOf (aheadL 12 14 (Region.schedule true (rgA Go.Proofs.Try.f9 [1, 1, 1, 1, 1, 1, 0, 1, 0, 0, 1, 0, 0, 0, 1, 1]) (World.tape w109 (World.drawn w109) (.order 9 15)))) (fun _ => rd (ixA Pg 58 (e 1) (e 11)) fun x127 =>
  rd (fldA Pg 70 x127 2) fun x128 =>
  rd (ldV Pg 9 x128 (drw w109)) fun x129 =>
  rd2 (rawV Pg (Instr.buildSlice 68 0 #[]) (drw w109)) fun x130 w131 =>
  rd (ixA Pg 58 (e 1) (e 11)) fun x132 =>
  rd (fldA Pg 70 x132 3) fun x133 =>
  rd (ldV Pg 68 x133 w131) fun x134 =>
  chk (holdsAt Pg none (.ld 68) x133 x134 (drw w109)) fun _ =>
  rd2 (lenG false Pg .append #[68, 68] 68 #[false, false] [x130, x134] w131) fun x135 w136 =>
  chk (holdsAt Pg none (.ld 9) x128 x129 w136) fun _ =>
  rd2 (rawV Pg (Instr.buildSlice 68 1 #[(0, (e 9))]) w136) fun x137 w138 =>
  rd2 (lenG false Pg .append #[68, 68] 68 #[false, false] [x135, x137] w138) fun x139 w140 =>
  chk (holdsAt Pg none (.ld 9) x128 x129 w140) fun _ =>
  rd2 (F 38 [(e 7), x129, x139] w140) fun x141 w142 =>
  rd (bldV Pg 36 []) fun x143 =>
  rd2 (F 36 [(e 7), x143, (e 9), (.int .i64 1000)] w142) fun x144 w145 =>
  rd (bldV Pg 36 []) fun x146 =>
  rd2 (F 36 [(e 10), x146, (e 9), (.int .i64 1000)] w145) fun x147 w148 =>
  rd2 (F 39 [x144, x147] w148) fun x149 w150 =>
  rd (unV .not x149) fun x151 =>
  cnd x151 (fun _ => shutK (e 153) w150 fun w152 =>
  some ((.bool false), w152)) (fun _ => rd2 (binG false Pg .add 3 (.tmp 0) (.const .nilFunc) (e 11) (.int .i64 1) w150) fun x153 w154 =>
  evalLoop (cx9 F G) (cdA Go.Proofs.Try.f9 [1, 1, 1, 1, 1, 1, 0, 1, 0, 0]) (K9_4 F G) (upd (upd (upd (upd (upd (upd (upd (upd (upd (upd (upd (upd (upd (upd (upd (upd (upd (upd (upd (upd (upd (upd (upd (upd (upd (upd (upd (upd (upd (upd (upd (upd (upd (upd (upd (upd (upd (upd (upd (upd (upd (upd (upd (upd e 51 (e 11)) 52 (e 1)) 53 x101) 54 x103) 57 (e 1)) 58 (e 11)) 59 x105) 60 x106) 61 x107) 62 x108) 70 (e 7)) 71 (e 1)) 72 (e 11)) 73 x127) 74 x128) 75 x129) 76 x130) 77 (e 1)) 78 (e 11)) 79 x132) 80 x133) 81 x134) 82 x135) 83 (e 9)) 84 x137) 85 x139) 86 x141) 87 (e 7)) 88 x143) 89 (e 9)) 90 x144) 91 (e 10)) 92 x146) 93 (e 9)) 94 x147) 12 x144) 13 x147) 95 x144) 96 x147) 97 x149) 98 x151) 55 (e 11)) 56 x153) 11 x153) w154)) (fun _ => rd2 (rawV Pg (Instr.buildSlice 68 0 #[]) (drw w109)) fun x155 w156 =>
  rd2 (rawV Pg (Instr.buildSlice 68 1 #[(0, (e 9))]) w156) fun x157 w158 =>
  rd (ixA Pg 58 (e 1) (e 11)) fun x159 =>
  rd (fldA Pg 70 x159 2) fun x160 =>
  rd (ldV Pg 9 x160 w158) fun x161 =>
  chk (holdsAt Pg none (.ld 9) x160 x161 w156) fun _ =>
  chk (holdsAt Pg none (.ld 9) x160 x161 (drw w109)) fun _ =>
  rd (ixA Pg 58 (e 1) (e 11)) fun x162 =>
  rd (fldA Pg 70 x162 3) fun x163 =>
  rd (ldV Pg 68 x163 w158) fun x164 =>
  chk (holdsAt Pg none (.ld 68) x163 x164 w156) fun _ =>
  chk (holdsAt Pg none (.ld 68) x163 x164 (drw w109)) fun _ =>
  rd2 (lenG false Pg .append #[68, 68] 68 #[false, false] [x155, x164] w158) fun x165 w166 =>
  chk (holdsAt Pg none (.ld 9) x160 x161 w166) fun _ =>
  rd2 (lenG false Pg .append #[68, 68] 68 #[false, false] [x165, x157] w166) fun x167 w168 =>
  chk (holdsAt Pg none (.ld 9) x160 x161 w168) fun _ =>
  rd2 (F 38 [(e 7), x161, x167] w168) fun x169 w170 =>
  rd (bldV Pg 36 []) fun x171 =>
  rd2 (F 36 [(e 7), x171, (e 9), (.int .i64 1000)] w170) fun x172 w173 =>
  rd (bldV Pg 36 []) fun x174 =>
  rd2 (F 36 [(e 10), x174, (e 9), (.int .i64 1000)] w173) fun x175 w176 =>
  rd2 (F 39 [x172, x175] w176) fun x177 w178 =>
  rd (unV .not x177) fun x179 =>
  cnd x179 (fun _ => shutK (e 153) w178 fun w180 =>
  some ((.bool false), w180)) (fun _ => rd2 (binG false Pg .add 3 (.tmp 0) (.const .nilFunc) (e 11) (.int .i64 1) w178) fun x181 w182 =>
  evalLoop (cx9 F G) (cdA Go.Proofs.Try.f9 [1, 1, 1, 1, 1, 1, 0, 1, 0, 0]) (K9_4 F G) (upd (upd (upd (upd (upd (upd (upd (upd (upd (upd (upd (upd (upd (upd (upd (upd (upd (upd (upd (upd (upd (upd (upd (upd (upd (upd (upd (upd (upd (upd (upd (upd (upd (upd (upd (upd (upd (upd (upd (upd (upd (upd (upd (upd e 51 (e 11)) 52 (e 1)) 53 x101) 54 x103) 57 (e 1)) 58 (e 11)) 59 x105) 60 x106) 61 x107) 62 x108) 76 x155) 83 (e 9)) 84 x157) 70 (e 7)) 71 (e 1)) 72 (e 11)) 73 x159) 74 x160) 75 x161) 77 (e 1)) 78 (e 11)) 79 x162) 80 x163) 81 x164) 82 x165) 85 x167) 86 x169) 87 (e 7)) 88 x171) 89 (e 9)) 90 x172) 91 (e 10)) 92 x174) 93 (e 9)) 94 x175) 12 x172) 13 x175) 95 x172) 96 x175) 97 x177) 98 x179) 55 (e 11)) 56 x181) 11 x181) w182))) (fun _ => rd2 (rawV Pg (Instr.buildSlice 68 1 #[(0, (e 9))]) (drw w109)) fun x183 w184 =>
  rd (ixA Pg 58 (e 1) (e 11)) fun x185 =>
  rd (fldA Pg 70 x185 2) fun x186 =>
  rd (ldV Pg 9 x186 w184) fun x187 =>
  chk (holdsAt Pg none (.ld 9) x186 x187 (drw w109)) fun _ =>
  rd2 (rawV Pg (Instr.buildSlice 68 0 #[]) w184) fun x188 w189 =>
  rd (ixA Pg 58 (e 1) (e 11)) fun x190 =>
  rd (fldA Pg 70 x190 3) fun x191 =>
  rd (ldV Pg 68 x191 w189) fun x192 =>
  chk (holdsAt Pg none (.ld 68) x191 x192 w184) fun _ =>
  chk (holdsAt Pg none (.ld 68) x191 x192 (drw w109)) fun _ =>
  rd2 (lenG false Pg .append #[68, 68] 68 #[false, false] [x188, x192] w189) fun x193 w194 =>
  chk (holdsAt Pg none (.ld 9) x186 x187 w194) fun _ =>
  rd2 (lenG false Pg .append #[68, 68] 68 #[false, false] [x193, x183] w194) fun x195 w196 =>
  chk (holdsAt Pg none (.ld 9) x186 x187 w196) fun _ =>
  rd2 (F 38 [(e 7), x187, x195] w196) fun x197 w198 =>
  rd (bldV Pg 36 []) fun x199 =>
  rd2 (F 36 [(e 7), x199, (e 9), (.int .i64 1000)] w198) fun x200 w201 =>
  rd (bldV Pg 36 []) fun x202 =>
  rd2 (F 36 [(e 10), x202, (e 9), (.int .i64 1000)] w201) fun x203 w204 =>
  rd2 (F 39 [x200, x203] w204) fun x205 w206 =>
  rd (unV .not x205) fun x207 =>
  cnd x207 (fun _ => shutK (e 153) w206 fun w208 =>
  some ((.bool false), w208)) (fun _ => rd2 (binG false Pg .add 3 (.tmp 0) (.const .nilFunc) (e 11) (.int .i64 1) w206) fun x209 w210 =>
  evalLoop (cx9 F G) (cdA Go.Proofs.Try.f9 [1, 1, 1, 1, 1, 1, 0, 1, 0, 0]) (K9_4 F G) (upd (upd (upd (upd (upd (upd (upd (upd (upd (upd (upd (upd (upd (upd (upd (upd (upd (upd (upd (upd (upd (upd (upd (upd (upd (upd (upd (upd (upd (upd (upd (upd (upd (upd (upd (upd (upd (upd (upd (upd (upd (upd (upd (upd e 51 (e 11)) 52 (e 1)) 53 x101) 54 x103) 57 (e 1)) 58 (e 11)) 59 x105) 60 x106) 61 x107) 62 x108) 83 (e 9)) 84 x183) 70 (e 7)) 71 (e 1)) 72 (e 11)) 73 x185) 74 x186) 75 x187) 76 x188) 77 (e 1)) 78 (e 11)) 79 x190) 80 x191) 81 x192) 82 x193) 85 x195) 86 x197) 87 (e 7)) 88 x199) 89 (e 9)) 90 x200) 91 (e 10)) 92 x202) 93 (e 9)) 94 x203) 12 x200) 13 x203) 95 x200) 96 x203) 97 x205) 98 x207) 55 (e 11)) 56 x209) 11 x209) w210)))) (fun _ => evalLoop (cx9 F G) (cdA Go.Proofs.Try.f9 [1, 1, 1, 1, 1, 1, 1, 0, 1, 0, 0]) (K9_6 F G) (upd (upd (upd (upd (upd e 51 (e 11)) 52 (e 1)) 53 x101) 54 x103) 14 (.int .i64 0)) w104)
noncomputable def S9_L3 (F : FnT) (G : RndT) (e : Env) (w0 : World) : R :=
  rd2 (lenG false Pg .len #[87] 3 #[false] [(e 2)] w0) fun x101 w102 =>
  rd2 (binG false Pg .lss 3 (.tmp 0) (.tmp 0) (e 14) x101 w102) fun x103 w104 =>
  cnd x103 (fun _ => rd (ixA Pg 87 (e 2) (e 14)) fun x105 =>
  rd (ldV Pg 9 x105 w104) fun x106 =>
  rd2 (F 41 [(e 7), x106, (e 9)] w104) fun x107 w108 =>
  rd (extV x107 0) fun x109 =>
  rd (extV x107 1) fun x110 =>
  rd2 (rawV Pg (Instr.alloc 85 true (.tuple #[])) w108) fun x111 w112 =>
  rd2 (rawU Pg (Instr.storeAt 85 x111 x109) w112) fun x114 w113 =>
  rd (ixA Pg 87 (e 2) (e 14)) fun x115 =>
  rd (ldV Pg 9 x115 w113) fun x116 =>
  rd2 (F 41 [(e 10), x116, (e 9)] w113) fun x117 w118 =>
  rd (extV x117 0) fun x119 =>
  rd (extV x117 1) fun x120 =>
  rd2 (rawV Pg (Instr.alloc 85 true (.tuple #[])) w118) fun x121 w122 =>
  rd2 (rawU Pg (Instr.storeAt 85 x121 x119) w122) fun x124 w123 =>
  rd2 (gate x110 true (fun _ => rd (fldA Pg 85 x111 1) fun x125 => some (x125, w123)) w123) fun x126 w127 =>
  rd2 (gate x110 true (fun _ => rd (ldV Pg 4 x126 w127) fun x128 => some (x128, w127)) w127) fun x129 w130 =>
  rd2 (gate x110 true (fun _ => rd (unV .not x129) fun x131 => some (x131, w130)) w130) fun x132 w133 =>
  rd (pickV x110 x132 (.bool false)) fun x134 =>
  rd2 (gate x120 true (fun _ => rd (fldA Pg 85 x121 1) fun x135 => some (x135, w133)) w133) fun x136 w137 =>
  rd2 (gate x120 true (fun _ => rd (ldV Pg 4 x136 w137) fun x138 => some (x138, w137)) w137) fun x139 w140 =>
  rd2 (gate x120 true (fun _ => rd (unV .not x139) fun x141 => some (x141, w140)) w140) fun x142 w143 =>
  rd (pickV x120 x142 (.bool false)) fun x144 =>
  rd2 (binG false Pg .neq 4 (.tmp 0) (.tmp 0) x134 x144 w143) fun x145 w146 =>
  rd2 (gate x145 false (fun _ =>  some (x110, w146)) w146) fun x147 w148 =>
  rd2 (gate x145 false (fun _ =>  some (x147, w148)) w148) fun x149 w150 =>
  rd2 (gate x149 true (fun _ => rd (fldA Pg 85 x111 1) fun x151 => some (x151, w150)) w150) fun x152 w153 =>
  rd2 (gate x149 true (fun _ => rd (ldV Pg 4 x152 w153) fun x154 => some (x154, w153)) w153) fun x155 w156 =>
  rd2 (gate x149 true (fun _ => rd (unV .not x155) fun x157 => some (x157, w156)) w156) fun x158 w159 =>
  rd2 (gate x145 false (fun _ => rd (pickV x149 x158 (.bool false)) fun x160 => some (x160, w159)) w159) fun x161 w162 =>
  rd2 (gate x145 false (fun _ =>  some (x161, w162)) w162) fun x163 w164 =>
  rd2 (gate x163 true (fun _ => rd (ldV Pg 85 x111 w164) fun x165 => some (x165, w164)) w164) fun x166 w167 =>
  rd2 (gate x163 true (fun _ => rd (ldV Pg 85 x121 w167) fun x168 => some (x168, w167)) w167) fun x169 w170 =>
  rd2 (gate x163 true (fun _ => rd2 (F 42 [x166, x169] w170) fun x171 w172 => some (x171, w172)) w170) fun x173 w174 =>
  rd2 (gate x163 true (fun _ => rd (unV .not x173) fun x175 => some (x175, w174)) w174) fun x176 w177 =>
  rd2 (gate x145 false (fun _ => rd (pickV x163 x176 (.bool false)) fun x178 => some (x178, w177)) w177) fun x179 w180 =>
  rd (pickV x145 (.bool true) x179) fun x181 =>
  cnd x181 (fun _ => shutK (e 153) w180 fun w182 =>
  some ((.bool false), w182)) (fun _ => rd2 (binG false Pg .add 3 (.tmp 0) (.const .nilFunc) (e 14) (.int .i64 1) w180) fun x183 w184 =>
  evalLoop (cx9 F G) (cdA Go.Proofs.Try.f9 [1, 1, 1, 1, 1, 1, 1, 0, 1, 0, 0]) (K9_6 F G) (upd (upd (upd (upd (upd (upd (upd (upd (upd (upd (upd (upd (upd (upd (upd (upd (upd (upd (upd (upd (upd (upd (upd (upd (upd (upd (upd (upd (upd (upd (upd (upd (upd (upd (upd (upd (upd (upd (upd (upd (upd (upd (upd (upd (upd (upd (upd (upd (upd (upd (upd (upd (upd (upd (upd (upd (upd (upd e 99 (e 14)) 100 (e 2)) 101 x101) 102 x103) 106 (e 7)) 107 (e 2)) 108 (e 14)) 109 x105) 110 x106) 111 (e 9)) 112 x107) 105 x107) 113 x109) 114 x110) 15 x111) 16 x110) 116 (e 10)) 117 (e 2)) 118 (e 14)) 119 x115) 120 x116) 121 (e 9)) 122 x117) 115 x117) 123 x119) 124 x120) 17 x121) 18 x120) 125 x110) 126 x110) 127 x126) 128 x129) 129 x132) 130 x134) 131 x120) 132 x120) 133 x136) 134 x139) 135 x142) 136 x144) 137 x145) 138 x145) 139 x147) 140 x149) 141 x152) 142 x155) 143 x158) 144 x161) 145 x163) 146 x166) 147 x169) 148 x173) 149 x176) 150 x179) 151 x181) 103 (e 14)) 104 x183) 14 x183) w184)) (fun _ => rd2 (F 30 [] w104) fun x185 w186 =>
  shutK (e 153) w186 fun w187 =>
  some (x185, w187))
theorem S9_eq (F : FnT) (G : RndT) (x0 x1 x2 : Value) (w0 : World) : evalCode (cx9 F G) (cdA Go.Proofs.Try.f9 []) (endK Pg Go.Proofs.Try.f9) (envL [x0, x1, x2]) w0 = S9 F G x0 x1 x2 w0 := by kernel_rfl
theorem F9 (x0 x1 x2 : Value) (w0 : World) : Fn Pg 9 [x0, x1, x2] w0 = S9 (Fn Pg) (Rnd Pg) x0 x1 x2 w0 := (Fn_body (c := cdA Go.Proofs.Try.f9 []) Go.Proofs.Try.func9 (by kernel_rfl) (by kernel_rfl) [x0, x1, x2] w0 (Nat.le_of_ble_eq_true (by kernel_rfl))).trans (S9_eq _ _ x0 x1 x2 w0)
theorem S9_L1_eq (F : FnT) (G : RndT) (e : Env) (w0 : World) : evalLoop (cx9 F G) (cdA Go.Proofs.Try.f9 [1, 1, 1, 0, 1, 0, 0]) (K9_2 F G) e w0 = S9_L1 F G e w0 := by
  rw [evalLoop_eq]
  kernel_rfl
theorem S9_L2_eq (F : FnT) (G : RndT) (e : Env) (w0 : World) : evalLoop (cx9 F G) (cdA Go.Proofs.Try.f9 [1, 1, 1, 1, 1, 1, 0, 1, 0, 0]) (K9_4 F G) e w0 = S9_L2 F G e w0 := by
  rw [evalLoop_eq]
  kernel_rfl
theorem S9_L3_eq (F : FnT) (G : RndT) (e : Env) (w0 : World) : evalLoop (cx9 F G) (cdA Go.Proofs.Try.f9 [1, 1, 1, 1, 1, 1, 1, 0, 1, 0, 0]) (K9_6 F G) e w0 = S9_L3 F G e w0 := by
  rw [evalLoop_eq]
  kernel_rfl

-- 10 ciborium/ciboriumlaw24.MvccNil
noncomputable def cx10 (F : FnT) (G : RndT) : Ctx := ⟨Pg, F, G, 10, none, 102⟩
noncomputable def K10_0 : FnT → RndT → Exit → Env → World → R := fun _ _ => endK Pg Go.Proofs.Try.f10
noncomputable def K10_1 : FnT → RndT → Exit → Env → World → R := fun F G => thenK (evalCode (cx10 F G) (cdA Go.Proofs.Try.f10 [1, 1, 1, 1]) (K10_0 F G)) (K10_0 F G)
noncomputable def K10_2 : FnT → RndT → Exit → Env → World → R := fun F G => blkK 0 (K10_1 F G)
noncomputable def S10 (F : FnT) (G : RndT) (x0 : Value) (w0 : World) : R :=
  rd2 (rawV Pg (Instr.box 70 x0) w0) fun x2 w3 =>
  rd (ldV Pg 70 x2 w3) fun x4 =>
  rd2 (rawV Pg (Instr.buildSlice 58 1 #[(0, x4)]) w3) fun x5 w6 =>
  rd2 (F 29 [x5] w6) fun x7 w8 =>
  rd (unV .not x7) fun x9 =>
  cnd x9 (fun _ => rd2 (F 30 [] w8) fun x10 w11 =>
  some (x10, w11)) (fun _ => evalLoop (cx10 F G) (cdA Go.Proofs.Try.f10 [1, 1, 1, 0, 1, 0, 0]) (K10_2 F G) (upd (upd (upd (upd (upd (upd (upd (upd (envL [x0]) 1 x2) 2 (.bool false)) 12 x4) 13 x5) 14 x7) 15 x9) 3 (.pointer none)) 4 (.int .i64 0)) w8)
noncomputable def S10_L1 (F : FnT) (G : RndT) (e : Env) (w0 : World) : R :=
  rd2 (binG false Pg .lss 3 (.tmp 0) (.const .nilFunc) (e 4) (.int .i64 2) w0) fun x101 w102 =>
  cnd x101 (fun _ => rd (fldA Pg 70 (e 1) 2) fun x103 =>
  rd (ldV Pg 9 x103 w102) fun x104 =>
  rd2 (F 41 [(e 3), x104, (.int .u64 9)] w102) fun x105 w106 =>
  rd (extV x105 0) fun x107 =>
  rd (extV x105 1) fun x108 =>
  rd2 (rawV Pg (Instr.alloc 85 true (.tuple #[])) w106) fun x109 w110 =>
  rd2 (rawU Pg (Instr.storeAt 85 x109 x107) w110) fun x112 w111 =>
  rd (fldA Pg 70 (e 1) 2) fun x113 =>
  rd (ldV Pg 9 x113 w111) fun x114 =>
  rd2 (F 43 [(e 3), x114] w111) fun x115 w116 =>
  rd (extV x115 0) fun x117 =>
  rd (extV x115 1) fun x118 =>
  rd2 (rawV Pg (Instr.alloc 85 true (.tuple #[])) w116) fun x119 w120 =>
  rd2 (rawU Pg (Instr.storeAt 85 x119 x117) w120) fun x122 w121 =>
  rd (fldA Pg 70 (e 1) 2) fun x123 =>
  rd (ldV Pg 9 x123 w121) fun x124 =>
  rd (fldA Pg 70 (e 1) 3) fun x125 =>
  rd (ldV Pg 68 x125 w121) fun x126 =>
  rd2 (F 38 [(e 3), x124, x126] w121) fun x127 w128 =>
  rd (extV x127 0) fun x129 =>
  rd (extV x127 1) fun x130 =>
  rd (extV x127 2) fun x131 =>
  rd (fldA Pg 70 (e 1) 1) fun x132 =>
  rd (ldV Pg 67 x132 w128) fun x133 =>
  rd2 (F 32 [(e 3), x133] w128) fun x134 w135 =>
  rd2 (binG false Pg .neq 62 (.tmp 0) (.const .nilFunc) x134 (.int .i64 1) w135) fun x136 w137 =>
  rd2 (gate x136 false (fun _ =>  some (x108, w137)) w137) fun x138 w139 =>
  rd (pickV x136 (.bool true) x138) fun x140 =>
  rd2 (gate x140 false (fun _ =>  some (x118, w139)) w139) fun x141 w142 =>
  rd (pickV x140 (.bool true) x141) fun x143 =>
  rd2 (gate x143 false (fun _ =>  some (x129, w142)) w142) fun x144 w145 =>
  rd2 (gate x143 false (fun _ => rd2 (binG false Pg .neq 9 (.tmp 0) (.const .nilFunc) x144 (.string { data := #[] }) w145) fun x146 w147 => some (x146, w147)) w145) fun x148 w149 =>
  rd (pickV x143 (.bool true) x148) fun x150 =>
  rd2 (gate x150 false (fun _ =>  some (x130, w149)) w149) fun x151 w152 =>
  rd2 (gate x150 false (fun _ => rd2 (lenG false Pg .len #[76] 3 #[false] [x151] w152) fun x153 w154 => some (x153, w154)) w152) fun x155 w156 =>
  rd2 (gate x150 false (fun _ => rd2 (binG false Pg .neq 3 (.tmp 0) (.const .nilFunc) x155 (.int .i64 0) w156) fun x157 w158 => some (x157, w158)) w156) fun x159 w160 =>
  rd (pickV x150 (.bool true) x159) fun x161 =>
  rd2 (gate x161 false (fun _ =>  some (x131, w160)) w160) fun x162 w163 =>
  rd2 (gate x161 false (fun _ => rd (unV .not x162) fun x164 => some (x164, w163)) w163) fun x165 w166 =>
  rd (pickV x161 (.bool true) x165) fun x167 =>
  rd2 (gate x167 false (fun _ =>  some ((e 3), w166)) w166) fun x168 w169 =>
  rd2 (gate x167 false (fun _ => rd (bldV Pg 36 []) fun x170 => some (x170, w169)) w169) fun x171 w172 =>
  rd2 (gate x167 false (fun _ => rd2 (F 36 [x168, x171, (.int .u64 9), (.int .i64 9)] w172) fun x173 w174 => some (x173, w174)) w172) fun x175 w176 =>
  rd2 (gate x167 false (fun _ => rd2 (lenG false Pg .len #[73] 3 #[false] [x175] w176) fun x177 w178 => some (x177, w178)) w176) fun x179 w180 =>
  rd2 (gate x167 false (fun _ =>  some ((e 3), w180)) w180) fun x181 w182 =>
  rd2 (gate x167 false (fun _ => rd2 (F 33 [x181] w182) fun x183 w184 => some (x183, w184)) w182) fun x185 w186 =>
  rd2 (gate x167 false (fun _ => rd2 (lenG false Pg .len #[71] 3 #[false] [x185] w186) fun x187 w188 => some (x187, w188)) w186) fun x189 w190 =>
  rd2 (gate x167 false (fun _ => rd2 (binG false Pg .add 3 (.tmp 0) (.tmp 0) x179 x189 w190) fun x191 w192 => some (x191, w192)) w190) fun x193 w194 =>
  rd2 (gate x167 false (fun _ =>  some ((e 3), w194)) w194) fun x195 w196 =>
  rd2 (gate x167 false (fun _ => rd2 (F 34 [x195] w196) fun x197 w198 => some (x197, w198)) w196) fun x199 w200 =>
  rd2 (gate x167 false (fun _ => rd2 (binG false Pg .add 3 (.tmp 0) (.tmp 0) x193 x199 w200) fun x201 w202 => some (x201, w202)) w200) fun x203 w204 =>
  rd2 (gate x167 false (fun _ =>  some ((e 3), w204)) w204) fun x205 w206 =>
  rd2 (gate x167 false (fun _ => rd2 (F 35 [x205] w206) fun x207 w208 => some (x207, w208)) w206) fun x209 w210 =>
  rd2 (gate x167 false (fun _ => rd2 (binG false Pg .add 3 (.tmp 0) (.tmp 0) x203 x209 w210) fun x211 w212 => some (x211, w212)) w210) fun x213 w214 =>
  rd2 (gate x167 false (fun _ => rd2 (binG false Pg .neq 3 (.tmp 0) (.const .nilFunc) x213 (.int .i64 0) w214) fun x215 w216 => some (x215, w216)) w214) fun x217 w218 =>
  rd (pickV x167 (.bool true) x217) fun x219 =>
  rd2 (gate x219 false (fun _ =>  some ((e 3), w218)) w218) fun x220 w221 =>
  rd2 (gate x219 false (fun _ => rd2 (F 37 [x220] w221) fun x222 w223 => some (x222, w223)) w221) fun x224 w225 =>
  rd2 (gate x219 false (fun _ => rd2 (binG false Pg .neq 64 (.tmp 0) (.const .nilFunc) x224 (.int .u64 0) w225) fun x226 w227 => some (x226, w227)) w225) fun x228 w229 =>
  rd (pickV x219 (.bool true) x228) fun x230 =>
  rd2 (gate x230 false (fun _ =>  some ((e 3), w229)) w229) fun x231 w232 =>
  rd2 (gate x230 false (fun _ => rd2 (F 40 [x231] w232) fun x233 w234 => some (x233, w234)) w232) fun x235 w236 =>
  rd2 (gate x230 false (fun _ => rd2 (binG false Pg .neq 60 (.tmp 0) (.const .nilFunc) x235 (.pointer none) w236) fun x237 w238 => some (x237, w238)) w236) fun x239 w240 =>
  rd (pickV x230 (.bool true) x239) fun x241 =>
  cnd x241 (fun _ => shutK (e 102) w240 fun w242 =>
  some ((.bool false), w242)) (fun _ => rd (bldV Pg 95 []) fun x243 =>
  rd2 (rawV Pg (Instr.box 95 x243) w240) fun x244 w245 =>
  rd2 (binG false Pg .add 3 (.tmp 0) (.const .nilFunc) (e 4) (.int .i64 1) w245) fun x246 w247 =>
  evalLoop (cx10 F G) (cdA Go.Proofs.Try.f10 [1, 1, 1, 0, 1, 0, 0]) (K10_2 F G) (upd (upd (upd (upd (upd (upd (upd (upd (upd (upd (upd (upd (upd (upd (upd (upd (upd (upd (upd (upd (upd (upd (upd (upd (upd (upd (upd (upd (upd (upd (upd (upd (upd (upd (upd (upd (upd (upd (upd (upd (upd (upd (upd (upd (upd (upd (upd (upd (upd (upd (upd (upd (upd (upd (upd (upd (upd (upd (upd (upd (upd (upd (upd (upd (upd (upd (upd (upd (upd (upd (upd (upd (upd (upd (upd (upd (upd (upd (upd (upd (upd (upd (upd (upd (upd (upd (upd (upd (upd (upd e 17 (e 4)) 18 x101) 22 (e 3)) 23 x103) 24 x104) 25 x105) 21 x105) 26 x107) 27 x108) 5 x109) 6 x108) 29 (e 3)) 30 x113) 31 x114) 32 x115) 28 x115) 33 x117) 34 x118) 7 x119) 8 x118) 36 (e 3)) 37 x123) 38 x124) 39 x125) 40 x126) 41 x127) 35 x127) 42 x129) 43 x130) 44 x131) 9 x129) 10 x130) 11 x131) 45 (e 3)) 46 x132) 47 x133) 48 x134) 49 x136) 50 x136) 51 x138) 52 x140) 53 x140) 54 x141) 55 x143) 56 x143) 57 x144) 58 x148) 59 x150) 60 x150) 61 x151) 62 x155) 63 x159) 64 x161) 65 x161) 66 x162) 67 x165) 68 x167) 69 x167) 70 x168) 71 x171) 72 x175) 73 x179) 74 x181) 75 x185) 76 x189) 77 x193) 78 x195) 79 x199) 80 x203) 81 x205) 82 x209) 83 x213) 84 x217) 85 x219) 86 x219) 87 x220) 88 x224) 89 x228) 90 x230) 91 x230) 92 x231) 93 x235) 94 x239) 95 x241) 96 x243) 97 x244) 3 x244) 19 (e 4)) 20 x246) 4 x246) w247)) (fun _ => rd2 (F 44 [(.slice none 0 0), (.slice none 0 0)] w102) fun x248 w249 =>
  rd2 (gate x248 true (fun _ => rd2 (F 30 [] w249) fun x250 w251 => some (x250, w251)) w249) fun x252 w253 =>
  rd (pickV x248 x252 (.bool false)) fun x254 =>
  shutK (e 102) w253 fun w255 =>
  some (x254, w255))
theorem S10_eq (F : FnT) (G : RndT) (x0 : Value) (w0 : World) : evalCode (cx10 F G) (cdA Go.Proofs.Try.f10 []) (endK Pg Go.Proofs.Try.f10) (envL [x0]) w0 = S10 F G x0 w0 := by kernel_rfl
theorem F10 (x0 : Value) (w0 : World) : Fn Pg 10 [x0] w0 = S10 (Fn Pg) (Rnd Pg) x0 w0 := (Fn_body (c := cdA Go.Proofs.Try.f10 []) Go.Proofs.Try.func10 (by kernel_rfl) (by kernel_rfl) [x0] w0 (Nat.le_of_ble_eq_true (by kernel_rfl))).trans (S10_eq _ _ x0 w0)
theorem S10_L1_eq (F : FnT) (G : RndT) (e : Env) (w0 : World) : evalLoop (cx10 F G) (cdA Go.Proofs.Try.f10 [1, 1, 1, 0, 1, 0, 0]) (K10_2 F G) e w0 = S10_L1 F G e w0 := by
  rw [evalLoop_eq]
  kernel_rfl

-- 29 ciborium/ciboriumlaw24.few
noncomputable def cx29 (F : FnT) (G : RndT) : Ctx := ⟨Pg, F, G, 29, none, 42⟩
noncomputable def K29_0 : FnT → RndT → Exit → Env → World → R := fun _ _ => endK Pg Go.Proofs.Try.f29
noncomputable def K29_1 : FnT → RndT → Exit → Env → World → R := fun F G => thenK (evalCode (cx29 F G) (cdA Go.Proofs.Try.f29 [1, 1]) (K29_0 F G)) (K29_0 F G)
noncomputable def K29_2 : FnT → RndT → Exit → Env → World → R := fun F G => blkK 0 (K29_1 F G)
noncomputable def S29 (F : FnT) (G : RndT) (x0 : Value) (w0 : World) : R :=
  evalLoop (cx29 F G) (cdA Go.Proofs.Try.f29 [1, 0, 1, 0, 0]) (K29_2 F G) (upd (upd (envL [x0]) 2 (.bool false)) 3 (.int .i64 0)) w0
noncomputable def S29_L1 (F : FnT) (G : RndT) (e : Env) (w0 : World) : R :=
  rd2 (lenG false Pg .len #[58] 3 #[false] [(e 0)] w0) fun x101 w102 =>
  rd2 (binG false Pg .lss 3 (.tmp 0) (.tmp 0) (e 3) x101 w102) fun x103 w104 =>
  rd2 (gate x103 true (fun _ =>  some ((e 3), w104)) w104) fun x105 w106 =>
  rd2 (gate x103 true (fun _ => rd2 (binG false Pg .lss 3 (.tmp 0) (.const .nilFunc) x105 (.int .i64 60) w106) fun x107 w108 => some (x107, w108)) w106) fun x109 w110 =>
  rd (pickV x103 x109 (.bool false)) fun x111 =>
  cnd x111 (fun _ => rd (ixA Pg 58 (e 0) (e 3)) fun x112 =>
  rd (fldA Pg 70 x112 1) fun x113 =>
  rd (ldV Pg 67 x113 w110) fun x114 =>
  rd2 (F 60 [(.int .i64 0), x114] w110) fun x115 w116 =>
  rd (unV .not x115) fun x117 =>
  rd2 (gate x117 false (fun _ =>  some ((e 0), w116)) w116) fun x118 w119 =>
  rd2 (gate x117 false (fun _ =>  some ((e 3), w119)) w119) fun x120 w121 =>
  rd2 (gate x117 false (fun _ => rd (ixA Pg 58 x118 x120) fun x122 => some (x122, w121)) w121) fun x123 w124 =>
  rd2 (gate x117 false (fun _ => rd (fldA Pg 70 x123 3) fun x125 => some (x125, w124)) w124) fun x126 w127 =>
  rd2 (gate x117 false (fun _ => rd (ldV Pg 68 x126 w127) fun x128 => some (x128, w127)) w127) fun x129 w130 =>
  rd2 (gate x117 false (fun _ => rd2 (lenG false Pg .len #[68] 3 #[false] [x129] w130) fun x131 w132 => some (x131, w132)) w130) fun x133 w134 =>
  rd2 (gate x117 false (fun _ => rd2 (binG false Pg .gtr 3 (.tmp 0) (.const .nilFunc) x133 (.int .i64 20) w134) fun x135 w136 => some (x135, w136)) w134) fun x137 w138 =>
  rd (pickV x117 (.bool true) x137) fun x139 =>
  rd2 (gate x139 false (fun _ =>  some ((e 0), w138)) w138) fun x140 w141 =>
  rd2 (gate x139 false (fun _ =>  some ((e 3), w141)) w141) fun x142 w143 =>
  rd2 (gate x139 false (fun _ => rd (ixA Pg 58 x140 x142) fun x144 => some (x144, w143)) w143) fun x145 w146 =>
  rd2 (gate x139 false (fun _ => rd (fldA Pg 70 x145 2) fun x147 => some (x147, w146)) w146) fun x148 w149 =>
  rd2 (gate x139 false (fun _ => rd (ldV Pg 9 x148 w149) fun x150 => some (x150, w149)) w149) fun x151 w152 =>
  rd2 (gate x139 false (fun _ => rd2 (lenG false Pg .len #[9] 3 #[false] [x151] w152) fun x153 w154 => some (x153, w154)) w152) fun x155 w156 =>
  rd2 (gate x139 false (fun _ => rd2 (binG false Pg .gtr 3 (.tmp 0) (.const .nilFunc) x155 (.int .i64 60) w156) fun x157 w158 => some (x157, w158)) w156) fun x159 w160 =>
  rd (pickV x139 (.bool true) x159) fun x161 =>
  cnd x161 (fun _ => shutK (e 42) w160 fun w162 =>
  some ((.bool false), w162)) (fun _ => rd2 (binG false Pg .add 3 (.tmp 0) (.const .nilFunc) (e 3) (.int .i64 1) w160) fun x163 w164 =>
  evalLoop (cx29 F G) (cdA Go.Proofs.Try.f29 [1, 0, 1, 0, 0]) (K29_2 F G) (upd (upd (upd (upd (upd (upd (upd (upd (upd (upd (upd (upd (upd (upd (upd (upd (upd (upd (upd (upd (upd (upd (upd (upd (upd (upd (upd (upd (upd (upd (upd (upd (upd (upd (upd (upd e 4 (e 3)) 5 (e 0)) 6 x101) 7 x103) 8 x103) 9 x105) 10 x109) 11 x111) 14 (e 0)) 15 (e 3)) 16 x112) 17 x113) 18 x114) 19 x115) 20 x117) 21 x117) 22 x118) 23 x120) 24 x123) 25 x126) 26 x129) 27 x133) 28 x137) 29 x139) 30 x139) 31 x140) 32 x142) 33 x145) 34 x148) 35 x151) 36 x155) 37 x159) 38 x161) 12 (e 3)) 13 x163) 3 x163) w164)) (fun _ => rd2 (lenG false Pg .len #[58] 3 #[false] [(e 0)] w110) fun x165 w166 =>
  rd2 (binG false Pg .leq 3 (.tmp 0) (.const .nilFunc) x165 (.int .i64 40) w166) fun x167 w168 =>
  shutK (e 42) w168 fun w169 =>
  some (x167, w169))
theorem S29_eq (F : FnT) (G : RndT) (x0 : Value) (w0 : World) : evalCode (cx29 F G) (cdA Go.Proofs.Try.f29 []) (endK Pg Go.Proofs.Try.f29) (envL [x0]) w0 = S29 F G x0 w0 := by kernel_rfl
theorem F29 (x0 : Value) (w0 : World) : Fn Pg 29 [x0] w0 = S29 (Fn Pg) (Rnd Pg) x0 w0 := (Fn_body (c := cdA Go.Proofs.Try.f29 []) Go.Proofs.Try.func29 (by kernel_rfl) (by kernel_rfl) [x0] w0 (Nat.le_of_ble_eq_true (by kernel_rfl))).trans (S29_eq _ _ x0 w0)
theorem S29_L1_eq (F : FnT) (G : RndT) (e : Env) (w0 : World) : evalLoop (cx29 F G) (cdA Go.Proofs.Try.f29 [1, 0, 1, 0, 0]) (K29_2 F G) e w0 = S29_L1 F G e w0 := by
  rw [evalLoop_eq]
  kernel_rfl

-- 30 ciborium/ciboriumlaw24.holds
noncomputable def cx30 (F : FnT) (G : RndT) : Ctx := ⟨Pg, F, G, 30, none, 75⟩
noncomputable def S30 (F : FnT) (G : RndT) (w0 : World) : R :=
  rd2 (F 31 [] w0) fun x1 w2 =>
  rd (bldV Pg 83 [(2, (.int .i64 4))]) fun x3 =>
  rd (bldV Pg 116 [(0, (.string { data := #[97] })), (2, x3)]) fun x4 =>
  rd2 (rawV Pg (Instr.buildSlice 65 1 #[(0, x4)]) w2) fun x5 w6 =>
  rd (bldV Pg 67 [(0, (.int .u64 1)), (1, x5)]) fun x7 =>
  rd2 (F 32 [x1, x7] w6) fun x8 w9 =>
  rd (bldV Pg 116 [(0, (.string { data := #[97] })), (1, (.bool true))]) fun x10 =>
  rd2 (rawV Pg (Instr.buildSlice 65 1 #[(0, x10)]) w9) fun x11 w12 =>
  rd (bldV Pg 67 [(0, (.int .u64 2)), (1, x11)]) fun x13 =>
  rd2 (F 32 [x1, x13] w12) fun x14 w15 =>
  rd (bldV Pg 67 [(0, (.int .u64 2))]) fun x16 =>
  rd2 (F 32 [x1, x16] w15) fun x17 w18 =>
  rd2 (F 41 [x1, (.string { data := #[97] }), (.int .u64 1)] w18) fun x19 w20 =>
  rd (extV x19 0) fun x21 =>
  rd (extV x19 1) fun x22 =>
  rd2 (rawV Pg (Instr.alloc 85 true (.tuple #[])) w20) fun x23 w24 =>
  rd2 (rawU Pg (Instr.storeAt 85 x23 x21) w24) fun x26 w25 =>
  rd2 (binG false Pg .eql 62 (.tmp 0) (.const .nilFunc) x8 (.int .i64 0) w25) fun x27 w28 =>
  rd2 (gate x27 true (fun _ =>  some (x14, w28)) w28) fun x29 w30 =>
  rd2 (gate x27 true (fun _ => rd2 (binG false Pg .eql 62 (.tmp 0) (.const .nilFunc) x29 (.int .i64 0) w30) fun x31 w32 => some (x31, w32)) w30) fun x33 w34 =>
  rd (pickV x27 x33 (.bool false)) fun x35 =>
  rd2 (gate x35 true (fun _ =>  some (x17, w34)) w34) fun x36 w37 =>
  rd2 (gate x35 true (fun _ => rd2 (binG false Pg .eql 62 (.tmp 0) (.const .nilFunc) x36 (.int .i64 2) w37) fun x38 w39 => some (x38, w39)) w37) fun x40 w41 =>
  rd (pickV x35 x40 (.bool false)) fun x42 =>
  rd2 (gate x42 true (fun _ =>  some (x22, w41)) w41) fun x43 w44 =>
  rd (pickV x42 x43 (.bool false)) fun x45 =>
  rd2 (gate x45 true (fun _ => rd (fldA Pg 85 x23 2) fun x46 => some (x46, w44)) w44) fun x47 w48 =>
  rd2 (gate x45 true (fun _ => rd (fldA Pg 83 x47 2) fun x49 => some (x49, w48)) w48) fun x50 w51 =>
  rd2 (gate x45 true (fun _ => rd (ldV Pg 3 x50 w51) fun x52 => some (x52, w51)) w51) fun x53 w54 =>
  rd2 (gate x45 true (fun _ => rd2 (binG false Pg .eql 3 (.tmp 0) (.const .nilFunc) x53 (.int .i64 4) w54) fun x55 w56 => some (x55, w56)) w54) fun x57 w58 =>
  rd (pickV x45 x57 (.bool false)) fun x59 =>
  rd2 (gate x59 true (fun _ =>  some (x1, w58)) w58) fun x60 w61 =>
  rd2 (gate x59 true (fun _ => rd2 (F 35 [x60] w61) fun x62 w63 => some (x62, w63)) w61) fun x64 w65 =>
  rd2 (gate x59 true (fun _ => rd2 (binG false Pg .eql 3 (.tmp 0) (.const .nilFunc) x64 (.int .i64 0) w65) fun x66 w67 => some (x66, w67)) w65) fun x68 w69 =>
  rd (pickV x59 x68 (.bool false)) fun x70 =>
  rd2 (gate x70 true (fun _ =>  some (x1, w69)) w69) fun x71 w72 =>
  rd2 (gate x70 true (fun _ => rd2 (F 34 [x71] w72) fun x73 w74 => some (x73, w74)) w72) fun x75 w76 =>
  rd2 (gate x70 true (fun _ => rd2 (binG false Pg .eql 3 (.tmp 0) (.const .nilFunc) x75 (.int .i64 2) w76) fun x77 w78 => some (x77, w78)) w76) fun x79 w80 =>
  rd (pickV x70 x79 (.bool false)) fun x81 =>
  rd2 (gate x81 true (fun _ =>  some (x1, w80)) w80) fun x82 w83 =>
  rd2 (gate x81 true (fun _ => rd2 (F 37 [x82] w83) fun x84 w85 => some (x84, w85)) w83) fun x86 w87 =>
  rd2 (gate x81 true (fun _ => rd2 (binG false Pg .eql 64 (.tmp 0) (.const .nilFunc) x86 (.int .u64 2) w87) fun x88 w89 => some (x88, w89)) w87) fun x90 w91 =>
  rd (pickV x81 x90 (.bool false)) fun x92 =>
  rd2 (gate x92 true (fun _ =>  some (x1, w91)) w91) fun x93 w94 =>
  rd2 (gate x92 true (fun _ => rd (bldV Pg 36 []) fun x95 => some (x95, w94)) w94) fun x96 w97 =>
  rd2 (gate x92 true (fun _ => rd2 (F 36 [x93, x96, (.int .u64 1), (.int .i64 9)] w97) fun x98 w99 => some (x98, w99)) w97) fun x100 w101 =>
  rd2 (gate x92 true (fun _ => rd2 (lenG false Pg .len #[73] 3 #[false] [x100] w101) fun x102 w103 => some (x102, w103)) w101) fun x104 w105 =>
  rd2 (gate x92 true (fun _ => rd2 (binG false Pg .eql 3 (.tmp 0) (.const .nilFunc) x104 (.int .i64 1) w105) fun x106 w107 => some (x106, w107)) w105) fun x108 w109 =>
  rd (pickV x92 x108 (.bool false)) fun x110 =>
  rd2 (gate x110 true (fun _ =>  some (x1, w109)) w109) fun x111 w112 =>
  rd2 (gate x110 true (fun _ => rd (bldV Pg 36 []) fun x113 => some (x113, w112)) w112) fun x114 w115 =>
  rd2 (gate x110 true (fun _ => rd2 (F 36 [x111, x114, (.int .u64 2), (.int .i64 9)] w115) fun x116 w117 => some (x116, w117)) w115) fun x118 w119 =>
  rd2 (gate x110 true (fun _ => rd2 (lenG false Pg .len #[73] 3 #[false] [x118] w119) fun x120 w121 => some (x120, w121)) w119) fun x122 w123 =>
  rd2 (gate x110 true (fun _ => rd2 (binG false Pg .eql 3 (.tmp 0) (.const .nilFunc) x122 (.int .i64 0) w123) fun x124 w125 => some (x124, w125)) w123) fun x126 w127 =>
  rd (pickV x110 x126 (.bool false)) fun x128 =>
  some (x128, w127)
theorem S30_eq (F : FnT) (G : RndT) (w0 : World) : evalCode (cx30 F G) (cdA Go.Proofs.Try.f30 []) (endK Pg Go.Proofs.Try.f30) (envL []) w0 = S30 F G w0 := by kernel_rfl
theorem F30 (w0 : World) : Fn Pg 30 [] w0 = S30 (Fn Pg) (Rnd Pg) w0 := (Fn_body (c := cdA Go.Proofs.Try.f30 []) Go.Proofs.Try.func30 (by kernel_rfl) (by kernel_rfl) [] w0 (Nat.le_of_ble_eq_true (by kernel_rfl))).trans (S30_eq _ _ w0)

-- 31 ciborium/mvcc.New
noncomputable def cx31 (F : FnT) (G : RndT) : Ctx := ⟨Pg, F, G, 31, none, 4⟩
noncomputable def S31 (F : FnT) (G : RndT) (w0 : World) : R :=
  rd2 (F 61 [] w0) fun x1 w2 =>
  rd (bldV Pg 95 [(0, x1)]) fun x3 =>
  rd2 (rawV Pg (Instr.box 95 x3) w2) fun x4 w5 =>
  some (x4, w5)
theorem S31_eq (F : FnT) (G : RndT) (w0 : World) : evalCode (cx31 F G) (cdA Go.Proofs.Try.f31 []) (endK Pg Go.Proofs.Try.f31) (envL []) w0 = S31 F G w0 := by kernel_rfl
theorem F31 (w0 : World) : Fn Pg 31 [] w0 = S31 (Fn Pg) (Rnd Pg) w0 := (Fn_body (c := cdA Go.Proofs.Try.f31 []) Go.Proofs.Try.func31 (by kernel_rfl) (by kernel_rfl) [] w0 (Nat.le_of_ble_eq_true (by kernel_rfl))).trans (S31_eq _ _ w0)

-- 32 (*ciborium/mvcc.Store).Apply
noncomputable def cx32 (F : FnT) (G : RndT) : Ctx := ⟨Pg, F, G, 32, none, 49⟩
noncomputable def K32_0 : FnT → RndT → Exit → Env → World → R := fun _ _ => endK Pg Go.Proofs.Try.f32
noncomputable def K32_1 : FnT → RndT → Exit → Env → World → R := fun F G => thenK (evalCode (cx32 F G) (cdA Go.Proofs.Try.f32 [1, 1, 1, 1, 1]) (K32_0 F G)) (K32_0 F G)
noncomputable def K32_2 : FnT → RndT → Exit → Env → World → R := fun F G => blkK 0 (K32_1 F G)
noncomputable def S32 (F : FnT) (G : RndT) (x0 x1 : Value) (w0 : World) : R :=
  rd2 (rawV Pg (Instr.box 67 x1) w0) fun x3 w4 =>
  rd2 (F 62 [x0] w4) fun x5 w6 =>
  cnd x5 (fun _ => some ((.int .i64 1), w6)) (fun _ => rd (ldV Pg 67 x3 w6) fun x7 =>
  rd2 (F 63 [x0, x7] w6) fun x8 w9 =>
  rd (extV x8 0) fun x10 =>
  rd (extV x8 1) fun x11 =>
  rd (unV .not x11) fun x12 =>
  rd2 (gate x12 false (fun _ => rd (fldA Pg 67 x3 0) fun x13 => some (x13, (drw w9))) (drw w9)) fun x14 _ =>
  rd2 (gate x12 false (fun _ => rd (ldV Pg 64 x14 (drw w9)) fun x16 => some (x16, (drw w9))) (drw w9)) fun x17 _ =>
  rd2 (gate x12 false (fun _ =>  some (x0, (drw w9))) (drw w9)) fun x19 _ =>
  rd2 (gate x12 false (fun _ => rd (nilV x19) fun x21 => some (x21, (drw w9))) (drw w9)) fun x22 _ =>
  rd2 (gate x12 false (fun _ => rd (fldA Pg 95 x22 1) fun x24 => some (x24, (drw w9))) (drw w9)) fun x25 _ =>
  rd2 (gate x12 false (fun _ => rd (ldV Pg 64 x25 (drw w9)) fun x27 => some (x27, (drw w9))) (drw w9)) fun x28 _ =>
  rd2 (gate x12 false (fun _ => rd2 (binG true Pg .leq 64 (.tmp 0) (.tmp 0) x17 x28 (drw w9)) fun x30 w31 => some (x30, w31)) (drw w9)) fun x32 _ =>
  rd (pickV x12 (.bool true) x32) fun x34 =>
  cnd x34 (fun _ => some ((.int .i64 2), (drw w9))) (fun _ => rd2 (lenG false Pg .len #[118] 3 #[false] [x10] (drw w9)) fun x35 w36 =>
  evalLoop (cx32 F G) (cdA Go.Proofs.Try.f32 [1, 1, 1, 1, 0, 1, 0, 0]) (K32_2 F G) (upd (upd (upd (upd (upd (upd (upd (upd (upd (upd (upd (upd (upd (upd (upd (upd (upd (upd (upd (upd (upd (upd (upd (upd (upd (upd (envL [x0, x1]) 3 x3) 4 (.int .i64 0)) 9 x0) 10 x5) 12 x0) 13 x7) 14 x8) 11 x8) 15 x10) 16 x11) 5 x10) 6 x11) 17 x11) 18 x12) 19 x12) 20 x14) 21 x17) 22 x19) 23 x22) 24 x25) 25 x28) 26 x32) 27 x34) 28 x10) 29 x35) 30 (.int .i64 0)) w36))
noncomputable def S32_L1 (F : FnT) (G : RndT) (e : Env) (w0 : World) : R :=
  rd2 (binG false Pg .lss 3 (.tmp 0) (.tmp 0) (e 30) (e 29) w0) fun x101 w102 =>
  cnd x101 (fun _ => rd (ixA Pg 118 (e 28) (e 30)) fun x103 =>
  rd (ldV Pg 122 x103 w102) fun x104 =>
  rd2 (rawV Pg (Instr.alloc 122 true (.tuple #[])) w102) fun x105 w106 =>
  rd2 (rawU Pg (Instr.storeAt 122 x105 x104) w106) fun x108 w107 =>
  rd (nilV (e 0)) fun x109 =>
  rd (fldA Pg 95 x109 0) fun x110 =>
  rd (ldV Pg 93 x110 (drw w107)) fun x111 =>
  rd (fldA Pg 122 x105 0) fun x112 =>
  rd (ldV Pg 9 x112 (drw w107)) fun x113 =>
  rd (fldA Pg 122 x105 1) fun x114 =>
  rd (ldV Pg 76 x114 (drw w107)) fun x115 =>
  rd2 (F 64 [x111, x113, x115] (drw w107)) fun x116 w117 =>
  rd2 (binG false Pg .add 3 (.tmp 0) (.const .nilFunc) (e 30) (.int .i64 1) w117) fun x118 w119 =>
  evalLoop (cx32 F G) (cdA Go.Proofs.Try.f32 [1, 1, 1, 1, 0, 1, 0, 0]) (K32_2 F G) (upd (upd (upd (upd (upd (upd (upd (upd (upd (upd (upd (upd (upd (upd (upd e 31 x101) 32 x103) 33 x104) 8 x105) 34 (e 0)) 35 x109) 36 x110) 37 x111) 38 x112) 39 x113) 40 x114) 41 x115) 42 x116) 43 x118) 30 x118) w119) (fun _ => rd (fldA Pg 67 (e 3) 0) fun x120 =>
  rd (ldV Pg 64 x120 w102) fun x121 =>
  rd (nilV (e 0)) fun x122 =>
  rd (fldA Pg 95 x122 1) fun x123 =>
  rd2 (rawU Pg (Instr.storeAt 64 x123 x121) w102) fun x125 w124 =>
  shutK (e 49) w124 fun w126 =>
  some ((.int .i64 0), w126))
theorem S32_eq (F : FnT) (G : RndT) (x0 x1 : Value) (w0 : World) : evalCode (cx32 F G) (cdA Go.Proofs.Try.f32 []) (endK Pg Go.Proofs.Try.f32) (envL [x0, x1]) w0 = S32 F G x0 x1 w0 := by kernel_rfl
theorem F32 (x0 x1 : Value) (w0 : World) : Fn Pg 32 [x0, x1] w0 = S32 (Fn Pg) (Rnd Pg) x0 x1 w0 := (Fn_body (c := cdA Go.Proofs.Try.f32 []) Go.Proofs.Try.func32 (by kernel_rfl) (by kernel_rfl) [x0, x1] w0 (Nat.le_of_ble_eq_true (by kernel_rfl))).trans (S32_eq _ _ x0 x1 w0)
theorem S32_L1_eq (F : FnT) (G : RndT) (e : Env) (w0 : World) : evalLoop (cx32 F G) (cdA Go.Proofs.Try.f32 [1, 1, 1, 1, 0, 1, 0, 0]) (K32_2 F G) e w0 = S32_L1 F G e w0 := by
  rw [evalLoop_eq]
  kernel_rfl

-- 33 (*ciborium/mvcc.Store).Rows
noncomputable def cx33 (F : FnT) (G : RndT) : Ctx := ⟨Pg, F, G, 33, none, 9⟩
noncomputable def S33 (F : FnT) (G : RndT) (x0 : Value) (w0 : World) : R :=
  rd2 (rawV Pg (Instr.alloc 71 true (.tuple #[])) w0) fun x2 w3 =>
  rd (bldV Pg 36 []) fun x4 =>
  rd2 (F 65 [x0, x4, (.func (.func 66) #[] #[x2])] w3) fun x5 w6 =>
  rd (ldV Pg 71 x2 w6) fun x7 =>
  some (x7, w6)
theorem S33_eq (F : FnT) (G : RndT) (x0 : Value) (w0 : World) : evalCode (cx33 F G) (cdA Go.Proofs.Try.f33 []) (endK Pg Go.Proofs.Try.f33) (envL [x0]) w0 = S33 F G x0 w0 := by kernel_rfl
theorem F33 (x0 : Value) (w0 : World) : Fn Pg 33 [x0] w0 = S33 (Fn Pg) (Rnd Pg) x0 w0 := (Fn_body (c := cdA Go.Proofs.Try.f33 []) Go.Proofs.Try.func33 (by kernel_rfl) (by kernel_rfl) [x0] w0 (Nat.le_of_ble_eq_true (by kernel_rfl))).trans (S33_eq _ _ x0 w0)

-- 34 (*ciborium/mvcc.Store).Versions
noncomputable def cx34 (F : FnT) (G : RndT) : Ctx := ⟨Pg, F, G, 34, none, 6⟩
noncomputable def S34 (F : FnT) (G : RndT) (x0 : Value) (w0 : World) : R :=
  rd2 (F 33 [x0] w0) fun x2 w3 =>
  rd2 (F 69 [x2, (.func (.func 70) #[] #[])] w3) fun x4 w5 =>
  some (x4, w5)
theorem S34_eq (F : FnT) (G : RndT) (x0 : Value) (w0 : World) : evalCode (cx34 F G) (cdA Go.Proofs.Try.f34 []) (endK Pg Go.Proofs.Try.f34) (envL [x0]) w0 = S34 F G x0 w0 := by kernel_rfl
theorem F34 (x0 : Value) (w0 : World) : Fn Pg 34 [x0] w0 = S34 (Fn Pg) (Rnd Pg) x0 w0 := (Fn_body (c := cdA Go.Proofs.Try.f34 []) Go.Proofs.Try.func34 (by kernel_rfl) (by kernel_rfl) [x0] w0 (Nat.le_of_ble_eq_true (by kernel_rfl))).trans (S34_eq _ _ x0 w0)

-- 35 (*ciborium/mvcc.Store).Live
noncomputable def cx35 (F : FnT) (G : RndT) : Ctx := ⟨Pg, F, G, 35, none, 6⟩
noncomputable def S35 (F : FnT) (G : RndT) (x0 : Value) (w0 : World) : R :=
  rd2 (F 33 [x0] w0) fun x2 w3 =>
  rd2 (F 69 [x2, (.func (.func 71) #[] #[])] w3) fun x4 w5 =>
  some (x4, w5)
theorem S35_eq (F : FnT) (G : RndT) (x0 : Value) (w0 : World) : evalCode (cx35 F G) (cdA Go.Proofs.Try.f35 []) (endK Pg Go.Proofs.Try.f35) (envL [x0]) w0 = S35 F G x0 w0 := by kernel_rfl
theorem F35 (x0 : Value) (w0 : World) : Fn Pg 35 [x0] w0 = S35 (Fn Pg) (Rnd Pg) x0 w0 := (Fn_body (c := cdA Go.Proofs.Try.f35 []) Go.Proofs.Try.func35 (by kernel_rfl) (by kernel_rfl) [x0] w0 (Nat.le_of_ble_eq_true (by kernel_rfl))).trans (S35_eq _ _ x0 w0)

-- 36 (*ciborium/mvcc.Store).Scan
noncomputable def cx36 (F : FnT) (G : RndT) : Ctx := ⟨Pg, F, G, 36, none, 15⟩
noncomputable def S36 (F : FnT) (G : RndT) (x0 x1 x2 x3 : Value) (w0 : World) : R :=
  rd2 (rawV Pg (Instr.box 36 x1) w0) fun x5 w6 =>
  rd2 (rawV Pg (Instr.box 64 x2) w6) fun x7 w8 =>
  rd2 (rawV Pg (Instr.box 3 x3) w8) fun x9 w10 =>
  rd2 (rawV Pg (Instr.alloc 73 true (.tuple #[])) w10) fun x11 w12 =>
  rd (ldV Pg 36 x5 w12) fun x13 =>
  rd2 (F 65 [x0, x13, (.func (.func 72) #[] #[x11, x9, x7])] w12) fun x14 w15 =>
  rd (ldV Pg 73 x11 w15) fun x16 =>
  some (x16, w15)
theorem S36_eq (F : FnT) (G : RndT) (x0 x1 x2 x3 : Value) (w0 : World) : evalCode (cx36 F G) (cdA Go.Proofs.Try.f36 []) (endK Pg Go.Proofs.Try.f36) (envL [x0, x1, x2, x3]) w0 = S36 F G x0 x1 x2 x3 w0 := by kernel_rfl
theorem F36 (x0 x1 x2 x3 : Value) (w0 : World) : Fn Pg 36 [x0, x1, x2, x3] w0 = S36 (Fn Pg) (Rnd Pg) x0 x1 x2 x3 w0 := (Fn_body (c := cdA Go.Proofs.Try.f36 []) Go.Proofs.Try.func36 (by kernel_rfl) (by kernel_rfl) [x0, x1, x2, x3] w0 (Nat.le_of_ble_eq_true (by kernel_rfl))).trans (S36_eq _ _ x0 x1 x2 x3 w0)

-- 37 (*ciborium/mvcc.Store).Last
noncomputable def cx37 (F : FnT) (G : RndT) : Ctx := ⟨Pg, F, G, 37, none, 9⟩
noncomputable def S37 (F : FnT) (G : RndT) (x0 : Value) (w0 : World) : R :=
  rd2 (F 62 [x0] w0) fun x2 w3 =>
  cnd x2 (fun _ => some ((.int .u64 0), w3)) (fun _ => rd (nilV x0) fun x4 =>
  rd (fldA Pg 95 x4 1) fun x5 =>
  rd (ldV Pg 64 x5 w3) fun x6 =>
  some (x6, w3))
theorem S37_eq (F : FnT) (G : RndT) (x0 : Value) (w0 : World) : evalCode (cx37 F G) (cdA Go.Proofs.Try.f37 []) (endK Pg Go.Proofs.Try.f37) (envL [x0]) w0 = S37 F G x0 w0 := by kernel_rfl
theorem F37 (x0 : Value) (w0 : World) : Fn Pg 37 [x0] w0 = S37 (Fn Pg) (Rnd Pg) x0 w0 := (Fn_body (c := cdA Go.Proofs.Try.f37 []) Go.Proofs.Try.func37 (by kernel_rfl) (by kernel_rfl) [x0] w0 (Nat.le_of_ble_eq_true (by kernel_rfl))).trans (S37_eq _ _ x0 w0)

-- 38 (*ciborium/mvcc.Store).Vacuum
noncomputable def cx38 (F : FnT) (G : RndT) : Ctx := ⟨Pg, F, G, 38, none, 52⟩
noncomputable def S38 (F : FnT) (G : RndT) (x0 x1 x2 : Value) (w0 : World) : R :=
  rd2 (F 62 [x0] w0) fun x4 w5 =>
  cnd x4 (fun _ => some ((.tuple #[(.string { data := #[] }), (.slice none 0 0), (.bool true)]), w5)) (fun _ => rd (nilV x0) fun x6 =>
  rd (fldA Pg 95 x6 0) fun x7 =>
  rd (ldV Pg 93 x7 w5) fun x8 =>
  rd2 (F 74 [x8, x1] w5) fun x9 w10 =>
  rd (extV x9 0) fun x11 =>
  rd (extV x9 1) fun x12 =>
  rd (unV .not x12) fun x13 =>
  cnd x13 (fun _ => some ((.tuple #[(.string { data := #[] }), (.slice none 0 0), (.bool true)]), w10)) (fun _ => rd2 (F 75 [x0, x11] w10) fun x14 w15 =>
  rd2 (F 67 [x14, x2] w15) fun x16 w17 =>
  rd (extV x16 0) fun x18 =>
  rd (extV x16 1) fun x19 =>
  rd2 (lenG false Pg .len #[76] 3 #[false] [x18] w17) fun x20 w21 =>
  rd2 (binG false Pg .eql 3 (.tmp 0) (.const .nilFunc) x20 (.int .i64 0) w21) fun x22 w23 =>
  cnd x22 (fun _ => rd (nilV x0) fun x24 =>
  rd (fldA Pg 95 x24 0) fun x25 =>
  rd (ldV Pg 93 x25 w23) fun x26 =>
  rd2 (F 76 [x26, x11] w23) fun x27 w28 =>
  some ((.tuple #[x11, x19, (.bool false)]), w28)) (fun _ => rd (nilV x0) fun x29 =>
  rd (fldA Pg 95 x29 0) fun x30 =>
  rd (ldV Pg 93 x30 w23) fun x31 =>
  rd2 (F 64 [x31, x11, x18] w23) fun x32 w33 =>
  some ((.tuple #[x11, x19, (.bool false)]), w33))))
theorem S38_eq (F : FnT) (G : RndT) (x0 x1 x2 : Value) (w0 : World) : evalCode (cx38 F G) (cdA Go.Proofs.Try.f38 []) (endK Pg Go.Proofs.Try.f38) (envL [x0, x1, x2]) w0 = S38 F G x0 x1 x2 w0 := by kernel_rfl
theorem F38 (x0 x1 x2 : Value) (w0 : World) : Fn Pg 38 [x0, x1, x2] w0 = S38 (Fn Pg) (Rnd Pg) x0 x1 x2 w0 := (Fn_body (c := cdA Go.Proofs.Try.f38 []) Go.Proofs.Try.func38 (by kernel_rfl) (by kernel_rfl) [x0, x1, x2] w0 (Nat.le_of_ble_eq_true (by kernel_rfl))).trans (S38_eq _ _ x0 x1 x2 w0)

-- 39 ciborium/ciboriumref24.SameFound
noncomputable def cx39 (F : FnT) (G : RndT) : Ctx := ⟨Pg, F, G, 39, none, 70⟩
noncomputable def K39_0 : FnT → RndT → Exit → Env → World → R := fun _ _ => endK Pg Go.Proofs.Try.f39
noncomputable def K39_1 : FnT → RndT → Exit → Env → World → R := fun F G => thenK (evalCode (cx39 F G) (cdA Go.Proofs.Try.f39 [1, 1, 1]) (K39_0 F G)) (K39_0 F G)
noncomputable def K39_2 : FnT → RndT → Exit → Env → World → R := fun F G => blkK 0 (K39_1 F G)
noncomputable def S39 (F : FnT) (G : RndT) (x0 x1 : Value) (w0 : World) : R :=
  rd2 (lenG false Pg .len #[73] 3 #[false] [x0] w0) fun x3 w4 =>
  rd2 (lenG false Pg .len #[73] 3 #[false] [x1] w4) fun x5 w6 =>
  rd2 (binG false Pg .neq 3 (.tmp 0) (.tmp 0) x3 x5 w6) fun x7 w8 =>
  cnd x7 (fun _ => some ((.bool false), w8)) (fun _ => evalLoop (cx39 F G) (cdA Go.Proofs.Try.f39 [1, 1, 0, 1, 0, 0]) (K39_2 F G) (upd (upd (upd (upd (upd (upd (upd (envL [x0, x1]) 4 (.bool false)) 6 x0) 7 x3) 8 x1) 9 x5) 10 x7) 5 (.int .i64 0)) w8)
noncomputable def S39_L1 (F : FnT) (G : RndT) (e : Env) (w0 : World) : R :=
  rd2 (lenG false Pg .len #[73] 3 #[false] [(e 0)] w0) fun x101 w102 =>
  rd2 (binG false Pg .lss 3 (.tmp 0) (.tmp 0) (e 5) x101 w102) fun x103 w104 =>
  cnd x103 (fun _ => rd (ixA Pg 73 (e 0) (e 5)) fun x105 =>
  rd (fldA Pg 134 x105 0) fun x106 =>
  rd (ldV Pg 9 x106 (drw w104)) fun x107 =>
  rd (ixA Pg 73 (e 1) (e 5)) fun x108 =>
  rd (fldA Pg 134 x108 0) fun x109 =>
  rd (ldV Pg 9 x109 (drw w104)) fun x110 =>
  rd2 (binG true Pg .neq 9 (.tmp 0) (.tmp 0) x107 x110 (drw w104)) fun x111 _ =>
  rd2 (gate x111 false (fun _ =>  some ((e 0), (drw w104))) (drw w104)) fun x113 _ =>
  rd2 (gate x111 false (fun _ =>  some ((e 5), (drw w104))) (drw w104)) fun x115 _ =>
  rd2 (gate x111 false (fun _ => rd (ixA Pg 73 x113 x115) fun x117 => some (x117, (drw w104))) (drw w104)) fun x118 _ =>
  rd2 (gate x111 false (fun _ => rd (fldA Pg 134 x118 1) fun x120 => some (x120, (drw w104))) (drw w104)) fun x121 _ =>
  rd2 (gate x111 false (fun _ => rd (ldV Pg 4 x121 (drw w104)) fun x123 => some (x123, (drw w104))) (drw w104)) fun x124 _ =>
  rd2 (gate x111 false (fun _ =>  some ((e 1), (drw w104))) (drw w104)) fun x126 _ =>
  rd2 (gate x111 false (fun _ =>  some ((e 5), (drw w104))) (drw w104)) fun x128 _ =>
  rd2 (gate x111 false (fun _ => rd (ixA Pg 73 x126 x128) fun x130 => some (x130, (drw w104))) (drw w104)) fun x131 _ =>
  rd2 (gate x111 false (fun _ => rd (fldA Pg 134 x131 1) fun x133 => some (x133, (drw w104))) (drw w104)) fun x134 _ =>
  rd2 (gate x111 false (fun _ => rd (ldV Pg 4 x134 (drw w104)) fun x136 => some (x136, (drw w104))) (drw w104)) fun x137 _ =>
  rd2 (gate x111 false (fun _ => rd2 (binG true Pg .neq 4 (.tmp 0) (.tmp 0) x124 x137 (drw w104)) fun x139 w140 => some (x139, w140)) (drw w104)) fun x141 _ =>
  rd (pickV x111 (.bool true) x141) fun x143 =>
  rd2 (gate x143 false (fun _ =>  some ((e 0), (drw w104))) (drw w104)) fun x144 _ =>
  rd2 (gate x143 false (fun _ =>  some ((e 5), (drw w104))) (drw w104)) fun x146 _ =>
  rd2 (gate x143 false (fun _ => rd (ixA Pg 73 x144 x146) fun x148 => some (x148, (drw w104))) (drw w104)) fun x149 _ =>
  rd2 (gate x143 false (fun _ => rd (fldA Pg 134 x149 2) fun x151 => some (x151, (drw w104))) (drw w104)) fun x152 _ =>
  rd2 (gate x143 false (fun _ => rd (ldV Pg 132 x152 (drw w104)) fun x154 => some (x154, (drw w104))) (drw w104)) fun x155 _ =>
  rd2 (gate x143 false (fun _ => rd2 (cvG true Pg 132 9 x155 (drw w104)) fun x157 w158 => some (x157, w158)) (drw w104)) fun x159 _ =>
  rd2 (gate x143 false (fun _ =>  some ((e 1), (drw w104))) (drw w104)) fun x161 _ =>
  rd2 (gate x143 false (fun _ =>  some ((e 5), (drw w104))) (drw w104)) fun x163 _ =>
  rd2 (gate x143 false (fun _ => rd (ixA Pg 73 x161 x163) fun x165 => some (x165, (drw w104))) (drw w104)) fun x166 _ =>
  rd2 (gate x143 false (fun _ => rd (fldA Pg 134 x166 2) fun x168 => some (x168, (drw w104))) (drw w104)) fun x169 _ =>
  rd2 (gate x143 false (fun _ => rd (ldV Pg 132 x169 (drw w104)) fun x171 => some (x171, (drw w104))) (drw w104)) fun x172 _ =>
  rd2 (gate x143 false (fun _ => rd2 (cvG true Pg 132 9 x172 (drw w104)) fun x174 w175 => some (x174, w175)) (drw w104)) fun x176 _ =>
  rd2 (gate x143 false (fun _ => rd2 (binG true Pg .neq 9 (.tmp 0) (.tmp 0) x159 x176 (drw w104)) fun x178 w179 => some (x178, w179)) (drw w104)) fun x180 _ =>
  rd (pickV x143 (.bool true) x180) fun x182 =>
  rd2 (gate x182 false (fun _ =>  some ((e 0), (drw w104))) (drw w104)) fun x183 _ =>
  rd2 (gate x182 false (fun _ =>  some ((e 5), (drw w104))) (drw w104)) fun x185 _ =>
  rd2 (gate x182 false (fun _ => rd (ixA Pg 73 x183 x185) fun x187 => some (x187, (drw w104))) (drw w104)) fun x188 _ =>
  rd2 (gate x182 false (fun _ => rd (fldA Pg 134 x188 3) fun x190 => some (x190, (drw w104))) (drw w104)) fun x191 _ =>
  rd2 (gate x182 false (fun _ => rd (ldV Pg 83 x191 (drw w104)) fun x193 => some (x193, (drw w104))) (drw w104)) fun x194 _ =>
  rd2 (gate x182 false (fun _ =>  some ((e 1), (drw w104))) (drw w104)) fun x196 _ =>
  rd2 (gate x182 false (fun _ =>  some ((e 5), (drw w104))) (drw w104)) fun x198 _ =>
  rd2 (gate x182 false (fun _ => rd (ixA Pg 73 x196 x198) fun x200 => some (x200, (drw w104))) (drw w104)) fun x201 _ =>
  rd2 (gate x182 false (fun _ => rd (fldA Pg 134 x201 3) fun x203 => some (x203, (drw w104))) (drw w104)) fun x204 _ =>
  rd2 (gate x182 false (fun _ => rd (ldV Pg 83 x204 (drw w104)) fun x206 => some (x206, (drw w104))) (drw w104)) fun x207 _ =>
  rd2 (gate x182 false (fun _ => rd2 (F 77 [x194, x207] (drw w104)) fun x209 w210 => some (x209, w210)) (drw w104)) fun x211 w212 =>
  rd2 (gate x182 false (fun _ => rd (unV .not x211) fun x213 => some (x213, w212)) w212) fun x214 _ =>
  rd (pickV x182 (.bool true) x214) fun x216 =>
  cnd x216 (fun _ => shutK (e 70) w212 fun w217 =>
  some ((.bool false), w217)) (fun _ => rd2 (binG false Pg .add 3 (.tmp 0) (.const .nilFunc) (e 5) (.int .i64 1) w212) fun x218 w219 =>
  evalLoop (cx39 F G) (cdA Go.Proofs.Try.f39 [1, 1, 0, 1, 0, 0]) (K39_2 F G) (upd (upd (upd (upd (upd (upd (upd (upd (upd (upd (upd (upd (upd (upd (upd (upd (upd (upd (upd (upd (upd (upd (upd (upd (upd (upd (upd (upd (upd (upd (upd (upd (upd (upd (upd (upd (upd (upd (upd (upd (upd (upd (upd (upd (upd (upd (upd (upd (upd (upd (upd (upd (upd (upd (upd (upd (upd (upd (upd (upd e 11 (e 5)) 12 (e 0)) 13 x101) 14 x103) 17 (e 0)) 18 (e 5)) 19 x105) 20 x106) 21 x107) 22 (e 1)) 23 (e 5)) 24 x108) 25 x109) 26 x110) 27 x111) 28 x111) 29 x113) 30 x115) 31 x118) 32 x121) 33 x124) 34 x126) 35 x128) 36 x131) 37 x134) 38 x137) 39 x141) 40 x143) 41 x143) 42 x144) 43 x146) 44 x149) 45 x152) 46 x155) 47 x159) 48 x161) 49 x163) 50 x166) 51 x169) 52 x172) 53 x176) 54 x180) 55 x182) 56 x182) 57 x183) 58 x185) 59 x188) 60 x191) 61 x194) 62 x196) 63 x198) 64 x201) 65 x204) 66 x207) 67 x211) 68 x214) 69 x216) 15 (e 5)) 16 x218) 5 x218) w219)) (fun _ => shutK (e 70) w104 fun w220 =>
  some ((.bool true), w220))
theorem S39_eq (F : FnT) (G : RndT) (x0 x1 : Value) (w0 : World) : evalCode (cx39 F G) (cdA Go.Proofs.Try.f39 []) (endK Pg Go.Proofs.Try.f39) (envL [x0, x1]) w0 = S39 F G x0 x1 w0 := by kernel_rfl
theorem F39 (x0 x1 : Value) (w0 : World) : Fn Pg 39 [x0, x1] w0 = S39 (Fn Pg) (Rnd Pg) x0 x1 w0 := (Fn_body (c := cdA Go.Proofs.Try.f39 []) Go.Proofs.Try.func39 (by kernel_rfl) (by kernel_rfl) [x0, x1] w0 (Nat.le_of_ble_eq_true (by kernel_rfl))).trans (S39_eq _ _ x0 x1 w0)
theorem S39_L1_eq (F : FnT) (G : RndT) (e : Env) (w0 : World) : evalLoop (cx39 F G) (cdA Go.Proofs.Try.f39 [1, 1, 0, 1, 0, 0]) (K39_2 F G) e w0 = S39_L1 F G e w0 := by
  rw [evalLoop_eq]
  kernel_rfl

-- 40 (*ciborium/mvcc.Store).Copy
noncomputable def cx40 (F : FnT) (G : RndT) : Ctx := ⟨Pg, F, G, 40, none, 16⟩
noncomputable def S40 (F : FnT) (G : RndT) (x0 : Value) (w0 : World) : R :=
  rd2 (F 62 [x0] w0) fun x2 w3 =>
  cnd x2 (fun _ => some ((.pointer none), w3)) (fun _ => rd (nilV x0) fun x4 =>
  rd (fldA Pg 95 x4 0) fun x5 =>
  rd (ldV Pg 93 x5 (drw w3)) fun x6 =>
  rd2 (F 78 [x6] (drw w3)) fun x7 w8 =>
  rd (nilV x0) fun x9 =>
  rd (fldA Pg 95 x9 1) fun x10 =>
  rd (ldV Pg 64 x10 w8) fun x11 =>
  chk (holdsAt Pg none (.ld 64) x10 x11 (drw w3)) fun _ =>
  rd (bldV Pg 95 [(0, x7), (1, x11)]) fun x12 =>
  rd2 (rawV Pg (Instr.box 95 x12) w8) fun x13 w14 =>
  some (x13, w14))
theorem S40_eq (F : FnT) (G : RndT) (x0 : Value) (w0 : World) : evalCode (cx40 F G) (cdA Go.Proofs.Try.f40 []) (endK Pg Go.Proofs.Try.f40) (envL [x0]) w0 = S40 F G x0 w0 := by kernel_rfl
theorem F40 (x0 : Value) (w0 : World) : Fn Pg 40 [x0] w0 = S40 (Fn Pg) (Rnd Pg) x0 w0 := (Fn_body (c := cdA Go.Proofs.Try.f40 []) Go.Proofs.Try.func40 (by kernel_rfl) (by kernel_rfl) [x0] w0 (Nat.le_of_ble_eq_true (by kernel_rfl))).trans (S40_eq _ _ x0 w0)

-- 41 (*ciborium/mvcc.Store).Read
noncomputable def cx41 (F : FnT) (G : RndT) : Ctx := ⟨Pg, F, G, 41, none, 15⟩
noncomputable def S41 (F : FnT) (G : RndT) (x0 x1 x2 : Value) (w0 : World) : R :=
  rd2 (rawV Pg (Instr.alloc 85 true (.tuple #[])) w0) fun x4 w5 =>
  rd2 (F 75 [x0, x1] w5) fun x6 w7 =>
  rd2 (F 79 [x6, x2] w7) fun x8 w9 =>
  rd (extV x8 0) fun x10 =>
  rd (extV x8 1) fun x11 =>
  rd2 (rawU Pg (Instr.storeAt 85 x4 x10) w9) fun x13 w12 =>
  rd (ldV Pg 85 x4 w12) fun x14 =>
  some ((.tuple #[x14, x11]), w12)
theorem S41_eq (F : FnT) (G : RndT) (x0 x1 x2 : Value) (w0 : World) : evalCode (cx41 F G) (cdA Go.Proofs.Try.f41 []) (endK Pg Go.Proofs.Try.f41) (envL [x0, x1, x2]) w0 = S41 F G x0 x1 x2 w0 := by kernel_rfl
theorem F41 (x0 x1 x2 : Value) (w0 : World) : Fn Pg 41 [x0, x1, x2] w0 = S41 (Fn Pg) (Rnd Pg) x0 x1 x2 w0 := (Fn_body (c := cdA Go.Proofs.Try.f41 []) Go.Proofs.Try.func41 (by kernel_rfl) (by kernel_rfl) [x0, x1, x2] w0 (Nat.le_of_ble_eq_true (by kernel_rfl))).trans (S41_eq _ _ x0 x1 x2 w0)

-- 42 ciborium/ciboriumref22.Same
noncomputable def cx42 (F : FnT) (G : RndT) : Ctx := ⟨Pg, F, G, 42, none, 24⟩
noncomputable def K42_0 : FnT → RndT → Exit → Env → World → R := fun _ _ => endK Pg Go.Proofs.Try.f42
noncomputable def S42 (F : FnT) (G : RndT) (x0 x1 : Value) (w0 : World) : R :=
  rd2 (rawV Pg (Instr.box 85 x0) w0) fun x3 w4 =>
  rd2 (rawV Pg (Instr.box 85 x1) w4) fun x5 w6 =>
  evalCode (cx42 F G) (cdA Go.Proofs.Try.f42 [1]) (K42_0 F G) (upd (upd (upd (envL [x0, x1]) 2 x3) 3 x5) 4 (.bool false)) w6
noncomputable def S42_J1 (F : FnT) (G : RndT) (e : Env) (w0 : World) : R :=
  rd (fldA Pg 85 (e 2) 0) fun x101 =>
  rd (ldV Pg 64 x101 w0) fun x102 =>
  rd (fldA Pg 85 (e 3) 0) fun x103 =>
  rd (ldV Pg 64 x103 w0) fun x104 =>
  rd2 (binG false Pg .eql 64 (.tmp 0) (.tmp 0) x102 x104 w0) fun x105 w106 =>
  rd2 (gate x105 true (fun _ => rd (fldA Pg 85 (e 2) 1) fun x107 => some (x107, w106)) w106) fun x108 w109 =>
  rd2 (gate x105 true (fun _ => rd (ldV Pg 4 x108 w109) fun x110 => some (x110, w109)) w109) fun x111 w112 =>
  rd2 (gate x105 true (fun _ => rd (fldA Pg 85 (e 3) 1) fun x113 => some (x113, w112)) w112) fun x114 w115 =>
  rd2 (gate x105 true (fun _ => rd (ldV Pg 4 x114 w115) fun x116 => some (x116, w115)) w115) fun x117 w118 =>
  rd2 (gate x105 true (fun _ => rd2 (binG false Pg .eql 4 (.tmp 0) (.tmp 0) x111 x117 w118) fun x119 w120 => some (x119, w120)) w118) fun x121 w122 =>
  rd (pickV x105 x121 (.bool false)) fun x123 =>
  rd2 (gate x123 true (fun _ => rd (fldA Pg 85 (e 2) 2) fun x124 => some (x124, w122)) w122) fun x125 w126 =>
  rd2 (gate x123 true (fun _ => rd (ldV Pg 83 x125 w126) fun x127 => some (x127, w126)) w126) fun x128 w129 =>
  rd2 (gate x123 true (fun _ => rd (fldA Pg 85 (e 3) 2) fun x130 => some (x130, w129)) w129) fun x131 w132 =>
  rd2 (gate x123 true (fun _ => rd (ldV Pg 83 x131 w132) fun x133 => some (x133, w132)) w132) fun x134 w135 =>
  rd2 (gate x123 true (fun _ => rd2 (F 77 [x128, x134] w135) fun x136 w137 => some (x136, w137)) w135) fun x138 w139 =>
  rd (pickV x123 x138 (.bool false)) fun x140 =>
  shutK (e 24) w139 fun w141 =>
  some (x140, w141)
theorem S42_A (F : FnT) (G : RndT) (K : Exit → Env → World → R) (x0 x1 : Value) (w0 : World) : evalCode (cx42 F G) (cdA Go.Proofs.Try.f42 [0]) K (envL [x0, x1]) w0 = (rd2 (rawV Pg (Instr.box 85 x0) w0) fun x3 w4 =>
  rd2 (rawV Pg (Instr.box 85 x1) w4) fun x5 w6 =>
  K .normal (upd (upd (upd (envL [x0, x1]) 2 x3) 3 x5) 4 (.bool false)) w6) := by kernel_rfl
theorem S42_B (F : FnT) (G : RndT) (K : Exit → Env → World → R) (e : Env) (w0 : World) : evalCode (cx42 F G) (cdA Go.Proofs.Try.f42 []) K e w0 = evalCode (cx42 F G) (cdA Go.Proofs.Try.f42 [0]) (thenK (evalCode (cx42 F G) (cdA Go.Proofs.Try.f42 [1]) K) K) e w0 := by kernel_rfl
theorem S42_C (F : FnT) (G : RndT) (x0 x1 : Value) (w0 : World) : (rd2 (rawV Pg (Instr.box 85 x0) w0) fun x3 w4 =>
  rd2 (rawV Pg (Instr.box 85 x1) w4) fun x5 w6 =>
  thenK (evalCode (cx42 F G) (cdA Go.Proofs.Try.f42 [1]) (K42_0 F G)) (K42_0 F G) .normal (upd (upd (upd (envL [x0, x1]) 2 x3) 3 x5) 4 (.bool false)) w6) = S42 F G x0 x1 w0 := by kernel_rfl
theorem S42_D (F : FnT) (G : RndT) : endK Pg Go.Proofs.Try.f42 = (K42_0 F G) := by kernel_rfl
theorem S42_eq (F : FnT) (G : RndT) (x0 x1 : Value) (w0 : World) : evalCode (cx42 F G) (cdA Go.Proofs.Try.f42 []) (endK Pg Go.Proofs.Try.f42) (envL [x0, x1]) w0 = S42 F G x0 x1 w0 := by
  rw [S42_D F G]
  exact (S42_B F G (K42_0 F G) (envL [x0, x1]) w0).trans ((S42_A F G _ x0 x1 w0).trans (S42_C F G x0 x1 w0))
theorem F42 (x0 x1 : Value) (w0 : World) : Fn Pg 42 [x0, x1] w0 = S42 (Fn Pg) (Rnd Pg) x0 x1 w0 := (Fn_body (c := cdA Go.Proofs.Try.f42 []) Go.Proofs.Try.func42 (by kernel_rfl) (by kernel_rfl) [x0, x1] w0 (Nat.le_of_ble_eq_true (by kernel_rfl))).trans (S42_eq _ _ x0 x1 w0)
theorem S42_J1_eq (F : FnT) (G : RndT) (e : Env) (w0 : World) : evalCode (cx42 F G) (cdA Go.Proofs.Try.f42 [1]) (K42_0 F G) e w0 = S42_J1 F G e w0 := by kernel_rfl

-- 43 (*ciborium/mvcc.Store).Newest
noncomputable def cx43 (F : FnT) (G : RndT) : Ctx := ⟨Pg, F, G, 43, none, 22⟩
noncomputable def S43 (F : FnT) (G : RndT) (x0 x1 : Value) (w0 : World) : R :=
  rd2 (rawV Pg (Instr.alloc 85 true (.tuple #[])) w0) fun x3 w4 =>
  rd2 (F 75 [x0, x1] w4) fun x5 w6 =>
  rd2 (lenG false Pg .len #[76] 3 #[false] [x5] w6) fun x7 w8 =>
  rd2 (binG false Pg .eql 3 (.tmp 0) (.const .nilFunc) x7 (.int .i64 0) w8) fun x9 w10 =>
  cnd x9 (fun _ => rd (bldV Pg 85 []) fun x11 =>
  rd2 (rawU Pg (Instr.storeAt 85 x3 x11) w10) fun x13 w12 =>
  rd (ldV Pg 85 x3 w12) fun x14 =>
  some ((.tuple #[x14, (.bool false)]), w12)) (fun _ => rd (ixA Pg 76 x5 (.int .i64 0)) fun x15 =>
  rd (fldA Pg 85 x15 0) fun x16 =>
  rd (ldV Pg 64 x16 w10) fun x17 =>
  rd2 (F 79 [x5, x17] w10) fun x18 w19 =>
  rd (extV x18 0) fun x20 =>
  rd (extV x18 1) fun x21 =>
  rd2 (rawU Pg (Instr.storeAt 85 x3 x20) w19) fun x23 w22 =>
  rd (ldV Pg 85 x3 w22) fun x24 =>
  some ((.tuple #[x24, x21]), w22))
theorem S43_eq (F : FnT) (G : RndT) (x0 x1 : Value) (w0 : World) : evalCode (cx43 F G) (cdA Go.Proofs.Try.f43 []) (endK Pg Go.Proofs.Try.f43) (envL [x0, x1]) w0 = S43 F G x0 x1 w0 := by kernel_rfl
theorem F43 (x0 x1 : Value) (w0 : World) : Fn Pg 43 [x0, x1] w0 = S43 (Fn Pg) (Rnd Pg) x0 x1 w0 := (Fn_body (c := cdA Go.Proofs.Try.f43 []) Go.Proofs.Try.func43 (by kernel_rfl) (by kernel_rfl) [x0, x1] w0 (Nat.le_of_ble_eq_true (by kernel_rfl))).trans (S43_eq _ _ x0 x1 w0)

-- 44 ciborium/ciboriumref23.Same
noncomputable def cx44 (F : FnT) (G : RndT) : Ctx := ⟨Pg, F, G, 44, none, 26⟩
noncomputable def K44_0 : FnT → RndT → Exit → Env → World → R := fun _ _ => endK Pg Go.Proofs.Try.f44
noncomputable def K44_1 : FnT → RndT → Exit → Env → World → R := fun F G => thenK (evalCode (cx44 F G) (cdA Go.Proofs.Try.f44 [1, 1, 1]) (K44_0 F G)) (K44_0 F G)
noncomputable def K44_2 : FnT → RndT → Exit → Env → World → R := fun F G => blkK 0 (K44_1 F G)
noncomputable def S44 (F : FnT) (G : RndT) (x0 x1 : Value) (w0 : World) : R :=
  rd2 (lenG false Pg .len #[68] 3 #[false] [x0] w0) fun x3 w4 =>
  rd2 (lenG false Pg .len #[68] 3 #[false] [x1] w4) fun x5 w6 =>
  rd2 (binG false Pg .neq 3 (.tmp 0) (.tmp 0) x3 x5 w6) fun x7 w8 =>
  cnd x7 (fun _ => some ((.bool false), w8)) (fun _ => evalLoop (cx44 F G) (cdA Go.Proofs.Try.f44 [1, 1, 0, 1, 0, 0]) (K44_2 F G) (upd (upd (upd (upd (upd (upd (upd (envL [x0, x1]) 4 (.bool false)) 6 x0) 7 x3) 8 x1) 9 x5) 10 x7) 5 (.int .i64 0)) w8)
noncomputable def S44_L1 (F : FnT) (G : RndT) (e : Env) (w0 : World) : R :=
  rd2 (lenG false Pg .len #[68] 3 #[false] [(e 0)] w0) fun x101 w102 =>
  rd2 (binG false Pg .lss 3 (.tmp 0) (.tmp 0) (e 5) x101 w102) fun x103 w104 =>
  cnd x103 (fun _ => rd (ixA Pg 68 (e 0) (e 5)) fun x105 =>
  rd (ldV Pg 64 x105 (drw w104)) fun x106 =>
  rd (ixA Pg 68 (e 1) (e 5)) fun x107 =>
  rd (ldV Pg 64 x107 (drw w104)) fun x108 =>
  rd2 (binG true Pg .neq 64 (.tmp 0) (.tmp 0) x106 x108 (drw w104)) fun x109 _ =>
  cnd x109 (fun _ => shutK (e 26) (drw w104) fun w111 =>
  some ((.bool false), w111)) (fun _ => rd2 (binG false Pg .add 3 (.tmp 0) (.const .nilFunc) (e 5) (.int .i64 1) (drw w104)) fun x112 w113 =>
  evalLoop (cx44 F G) (cdA Go.Proofs.Try.f44 [1, 1, 0, 1, 0, 0]) (K44_2 F G) (upd (upd (upd (upd (upd (upd (upd (upd (upd (upd (upd (upd (upd (upd (upd (upd e 11 (e 5)) 12 (e 0)) 13 x101) 14 x103) 17 (e 0)) 18 (e 5)) 19 x105) 20 x106) 21 (e 1)) 22 (e 5)) 23 x107) 24 x108) 25 x109) 15 (e 5)) 16 x112) 5 x112) w113)) (fun _ => shutK (e 26) w104 fun w114 =>
  some ((.bool true), w114))
theorem S44_eq (F : FnT) (G : RndT) (x0 x1 : Value) (w0 : World) : evalCode (cx44 F G) (cdA Go.Proofs.Try.f44 []) (endK Pg Go.Proofs.Try.f44) (envL [x0, x1]) w0 = S44 F G x0 x1 w0 := by kernel_rfl
theorem F44 (x0 x1 : Value) (w0 : World) : Fn Pg 44 [x0, x1] w0 = S44 (Fn Pg) (Rnd Pg) x0 x1 w0 := (Fn_body (c := cdA Go.Proofs.Try.f44 []) Go.Proofs.Try.func44 (by kernel_rfl) (by kernel_rfl) [x0, x1] w0 (Nat.le_of_ble_eq_true (by kernel_rfl))).trans (S44_eq _ _ x0 x1 w0)
theorem S44_L1_eq (F : FnT) (G : RndT) (e : Env) (w0 : World) : evalLoop (cx44 F G) (cdA Go.Proofs.Try.f44 [1, 1, 0, 1, 0, 0]) (K44_2 F G) e w0 = S44_L1 F G e w0 := by
  rw [evalLoop_eq]
  kernel_rfl

-- 53 ciborium/order.In
noncomputable def cx53 (F : FnT) (G : RndT) : Ctx := ⟨Pg, F, G, 53, none, 15⟩
noncomputable def S53 (F : FnT) (G : RndT) (x0 x1 : Value) (w0 : World) : R :=
  rd2 (rawV Pg (Instr.box 36 x0) w0) fun x3 w4 =>
  rd (fldA Pg 36 x3 0) fun x5 =>
  rd (ldV Pg 9 x5 w4) fun x6 =>
  rd2 (binG false Pg .geq 9 (.tmp 0) (.tmp 0) x1 x6 w4) fun x7 w8 =>
  rd2 (gate x7 true (fun _ =>  some (x1, w8)) w8) fun x9 w10 =>
  rd2 (gate x7 true (fun _ => rd (fldA Pg 36 x3 1) fun x11 => some (x11, w10)) w10) fun x12 w13 =>
  rd2 (gate x7 true (fun _ => rd (ldV Pg 9 x12 w13) fun x14 => some (x14, w13)) w13) fun x15 w16 =>
  rd2 (gate x7 true (fun _ => rd2 (F 91 [x9, x15] w16) fun x17 w18 => some (x17, w18)) w16) fun x19 w20 =>
  rd (pickV x7 x19 (.bool false)) fun x21 =>
  some (x21, w20)
theorem S53_eq (F : FnT) (G : RndT) (x0 x1 : Value) (w0 : World) : evalCode (cx53 F G) (cdA Go.Proofs.Try.f53 []) (endK Pg Go.Proofs.Try.f53) (envL [x0, x1]) w0 = S53 F G x0 x1 w0 := by kernel_rfl
theorem F53 (x0 x1 : Value) (w0 : World) : Fn Pg 53 [x0, x1] w0 = S53 (Fn Pg) (Rnd Pg) x0 x1 w0 := (Fn_body (c := cdA Go.Proofs.Try.f53 []) Go.Proofs.Try.func53 (by kernel_rfl) (by kernel_rfl) [x0, x1] w0 (Nat.le_of_ble_eq_true (by kernel_rfl))).trans (S53_eq _ _ x0 x1 w0)

-- 54 ciborium/order.Next
noncomputable def cx54 (F : FnT) (G : RndT) : Ctx := ⟨Pg, F, G, 54, none, 5⟩
noncomputable def S54 (F : FnT) (G : RndT) (x0 : Value) (w0 : World) : R :=
  rd2 (binG false Pg .add 9 (.tmp 0) (.const .nilFunc) x0 (.string { data := #[0] }) w0) fun x2 w3 =>
  some (x2, w3)
theorem S54_eq (F : FnT) (G : RndT) (x0 : Value) (w0 : World) : evalCode (cx54 F G) (cdA Go.Proofs.Try.f54 []) (endK Pg Go.Proofs.Try.f54) (envL [x0]) w0 = S54 F G x0 w0 := by kernel_rfl
theorem F54 (x0 : Value) (w0 : World) : Fn Pg 54 [x0] w0 = S54 (Fn Pg) (Rnd Pg) x0 w0 := (Fn_body (c := cdA Go.Proofs.Try.f54 []) Go.Proofs.Try.func54 (by kernel_rfl) (by kernel_rfl) [x0] w0 (Nat.le_of_ble_eq_true (by kernel_rfl))).trans (S54_eq _ _ x0 w0)

-- 59 ciborium/ciboriumref20.In
noncomputable def cx59 (F : FnT) (G : RndT) : Ctx := ⟨Pg, F, G, 59, none, 20⟩
noncomputable def S59 (F : FnT) (G : RndT) (x0 x1 : Value) (w0 : World) : R :=
  rd2 (rawV Pg (Instr.box 36 x0) w0) fun x3 w4 =>
  rd (fldA Pg 36 x3 0) fun x5 =>
  rd (ldV Pg 9 x5 w4) fun x6 =>
  rd2 (binG false Pg .geq 9 (.tmp 0) (.tmp 0) x1 x6 w4) fun x7 w8 =>
  rd2 (gate x7 true (fun _ => rd (fldA Pg 36 x3 1) fun x9 => some (x9, w8)) w8) fun x10 w11 =>
  rd2 (gate x7 true (fun _ => rd (ldV Pg 9 x10 w11) fun x12 => some (x12, w11)) w11) fun x13 w14 =>
  rd2 (gate x7 true (fun _ => rd2 (binG false Pg .eql 9 (.tmp 0) (.const .nilFunc) x13 (.string { data := #[] }) w14) fun x15 w16 => some (x15, w16)) w14) fun x17 w18 =>
  rd2 (gate x7 true (fun _ =>  some (x17, w18)) w18) fun x19 w20 =>
  rd2 (gate x19 false (fun _ =>  some (x1, w20)) w20) fun x21 w22 =>
  rd2 (gate x19 false (fun _ => rd (fldA Pg 36 x3 1) fun x23 => some (x23, w22)) w22) fun x24 w25 =>
  rd2 (gate x19 false (fun _ => rd (ldV Pg 9 x24 w25) fun x26 => some (x26, w25)) w25) fun x27 w28 =>
  rd2 (gate x19 false (fun _ => rd2 (binG false Pg .lss 9 (.tmp 0) (.tmp 0) x21 x27 w28) fun x29 w30 => some (x29, w30)) w28) fun x31 w32 =>
  rd2 (gate x7 true (fun _ => rd (pickV x19 (.bool true) x31) fun x33 => some (x33, w32)) w32) fun x34 w35 =>
  rd (pickV x7 x34 (.bool false)) fun x36 =>
  some (x36, w35)
theorem S59_eq (F : FnT) (G : RndT) (x0 x1 : Value) (w0 : World) : evalCode (cx59 F G) (cdA Go.Proofs.Try.f59 []) (endK Pg Go.Proofs.Try.f59) (envL [x0, x1]) w0 = S59 F G x0 x1 w0 := by kernel_rfl
theorem F59 (x0 x1 : Value) (w0 : World) : Fn Pg 59 [x0, x1] w0 = S59 (Fn Pg) (Rnd Pg) x0 x1 w0 := (Fn_body (c := cdA Go.Proofs.Try.f59 []) Go.Proofs.Try.func59 (by kernel_rfl) (by kernel_rfl) [x0, x1] w0 (Nat.le_of_ble_eq_true (by kernel_rfl))).trans (S59_eq _ _ x0 x1 w0)

-- 60 (ciborium/ciboriumlaw17.Looks).Few
noncomputable def cx60 (F : FnT) (G : RndT) : Ctx := ⟨Pg, F, G, 60, none, 62⟩
noncomputable def K60_0 : FnT → RndT → Exit → Env → World → R := fun _ _ => endK Pg Go.Proofs.Try.f60
noncomputable def K60_1 : FnT → RndT → Exit → Env → World → R := fun F G => thenK (evalCode (cx60 F G) (cdA Go.Proofs.Try.f60 [1, 1]) (K60_0 F G)) (K60_0 F G)
noncomputable def K60_2 : FnT → RndT → Exit → Env → World → R := fun F G => blkK 0 (K60_1 F G)
noncomputable def S60 (F : FnT) (G : RndT) (x0 x1 : Value) (w0 : World) : R :=
  rd2 (rawV Pg (Instr.box 67 x1) w0) fun x3 w4 =>
  evalLoop (cx60 F G) (cdA Go.Proofs.Try.f60 [1, 0, 1, 0, 0]) (K60_2 F G) (upd (upd (upd (envL [x0, x1]) 3 x3) 4 (.bool false)) 5 (.int .i64 0)) w4
noncomputable def S60_L1 (F : FnT) (G : RndT) (e : Env) (w0 : World) : R :=
  rd (fldA Pg 67 (e 3) 1) fun x101 =>
  rd (ldV Pg 65 x101 w0) fun x102 =>
  rd2 (lenG false Pg .len #[65] 3 #[false] [x102] w0) fun x103 w104 =>
  rd2 (binG false Pg .lss 3 (.tmp 0) (.tmp 0) (e 5) x103 w104) fun x105 w106 =>
  rd2 (gate x105 true (fun _ =>  some ((e 5), w106)) w106) fun x107 w108 =>
  rd2 (gate x105 true (fun _ => rd2 (binG false Pg .lss 3 (.tmp 0) (.const .nilFunc) x107 (.int .i64 40) w108) fun x109 w110 => some (x109, w110)) w108) fun x111 w112 =>
  rd (pickV x105 x111 (.bool false)) fun x113 =>
  cnd x113 (fun _ => rd (fldA Pg 67 (e 3) 1) fun x114 =>
  rd (ldV Pg 65 x114 w112) fun x115 =>
  rd (ixA Pg 65 x115 (e 5)) fun x116 =>
  rd (fldA Pg 116 x116 2) fun x117 =>
  rd (fldA Pg 83 x117 0) fun x118 =>
  rd (ldV Pg 81 x118 w112) fun x119 =>
  rd2 (lenG false Pg .len #[81] 3 #[false] [x119] w112) fun x120 w121 =>
  rd2 (binG false Pg .gtr 3 (.tmp 0) (.const .nilFunc) x120 (.int .i64 60) w121) fun x122 w123 =>
  rd2 (gate x122 true (fun _ => rd (fldA Pg 67 (e 3) 1) fun x124 => some (x124, w123)) w123) fun x125 w126 =>
  rd2 (gate x122 true (fun _ => rd (ldV Pg 65 x125 w126) fun x127 => some (x127, w126)) w126) fun x128 w129 =>
  rd2 (gate x122 true (fun _ =>  some ((e 5), w129)) w129) fun x130 w131 =>
  rd2 (gate x122 true (fun _ => rd (ixA Pg 65 x128 x130) fun x132 => some (x132, w131)) w131) fun x133 w134 =>
  rd2 (gate x122 true (fun _ => rd (fldA Pg 116 x133 2) fun x135 => some (x135, w134)) w134) fun x136 w137 =>
  rd2 (gate x122 true (fun _ => rd (fldA Pg 83 x136 0) fun x138 => some (x138, w137)) w137) fun x139 w140 =>
  rd2 (gate x122 true (fun _ => rd (ldV Pg 81 x139 w140) fun x141 => some (x141, w140)) w140) fun x142 w143 =>
  rd2 (gate x122 true (fun _ => rd2 (lenG false Pg .len #[81] 3 #[false] [x142] w143) fun x144 w145 => some (x144, w145)) w143) fun x146 w147 =>
  rd2 (gate x122 true (fun _ => rd2 (binG false Pg .lss 3 (.tmp 0) (.const .nilFunc) x146 (.int .i64 400) w147) fun x148 w149 => some (x148, w149)) w147) fun x150 w151 =>
  rd (pickV x122 x150 (.bool false)) fun x152 =>
  rd2 (gate x152 false (fun _ => rd (fldA Pg 67 (e 3) 1) fun x153 => some (x153, w151)) w151) fun x154 w155 =>
  rd2 (gate x152 false (fun _ => rd (ldV Pg 65 x154 w155) fun x156 => some (x156, w155)) w155) fun x157 w158 =>
  rd2 (gate x152 false (fun _ =>  some ((e 5), w158)) w158) fun x159 w160 =>
  rd2 (gate x152 false (fun _ => rd (ixA Pg 65 x157 x159) fun x161 => some (x161, w160)) w160) fun x162 w163 =>
  rd2 (gate x152 false (fun _ => rd (fldA Pg 116 x162 2) fun x164 => some (x164, w163)) w163) fun x165 w166 =>
  rd2 (gate x152 false (fun _ => rd (fldA Pg 83 x165 0) fun x167 => some (x167, w166)) w166) fun x168 w169 =>
  rd2 (gate x152 false (fun _ => rd (ldV Pg 81 x168 w169) fun x170 => some (x170, w169)) w169) fun x171 w172 =>
  rd2 (gate x152 false (fun _ => rd2 (lenG false Pg .len #[81] 3 #[false] [x171] w172) fun x173 w174 => some (x173, w174)) w172) fun x175 w176 =>
  rd2 (gate x152 false (fun _ => rd2 (binG false Pg .gtr 3 (.tmp 0) (.const .nilFunc) x175 (.int .i64 402) w176) fun x177 w178 => some (x177, w178)) w176) fun x179 w180 =>
  rd (pickV x152 (.bool true) x179) fun x181 =>
  rd2 (gate x181 false (fun _ => rd (fldA Pg 67 (e 3) 1) fun x182 => some (x182, w180)) w180) fun x183 w184 =>
  rd2 (gate x181 false (fun _ => rd (ldV Pg 65 x183 w184) fun x185 => some (x185, w184)) w184) fun x186 w187 =>
  rd2 (gate x181 false (fun _ =>  some ((e 5), w187)) w187) fun x188 w189 =>
  rd2 (gate x181 false (fun _ => rd (ixA Pg 65 x186 x188) fun x190 => some (x190, w189)) w189) fun x191 w192 =>
  rd2 (gate x181 false (fun _ => rd (fldA Pg 116 x191 0) fun x193 => some (x193, w192)) w192) fun x194 w195 =>
  rd2 (gate x181 false (fun _ => rd (ldV Pg 9 x194 w195) fun x196 => some (x196, w195)) w195) fun x197 w198 =>
  rd2 (gate x181 false (fun _ => rd2 (lenG false Pg .len #[9] 3 #[false] [x197] w198) fun x199 w200 => some (x199, w200)) w198) fun x201 w202 =>
  rd2 (gate x181 false (fun _ => rd2 (binG false Pg .gtr 3 (.tmp 0) (.const .nilFunc) x201 (.int .i64 100) w202) fun x203 w204 => some (x203, w204)) w202) fun x205 w206 =>
  rd (pickV x181 (.bool true) x205) fun x207 =>
  cnd x207 (fun _ => shutK (e 62) w206 fun w208 =>
  some ((.bool false), w208)) (fun _ => rd2 (binG false Pg .add 3 (.tmp 0) (.const .nilFunc) (e 5) (.int .i64 1) w206) fun x209 w210 =>
  evalLoop (cx60 F G) (cdA Go.Proofs.Try.f60 [1, 0, 1, 0, 0]) (K60_2 F G) (upd (upd (upd (upd (upd (upd (upd (upd (upd (upd (upd (upd (upd (upd (upd (upd (upd (upd (upd (upd (upd (upd (upd (upd (upd (upd (upd (upd (upd (upd (upd (upd (upd (upd (upd (upd (upd (upd (upd (upd (upd (upd (upd (upd (upd (upd (upd (upd (upd (upd (upd (upd (upd e 6 (e 5)) 7 x101) 8 x102) 9 x103) 10 x105) 11 x105) 12 x107) 13 x111) 14 x113) 17 x114) 18 x115) 19 (e 5)) 20 x116) 21 x117) 22 x118) 23 x119) 24 x120) 25 x122) 26 x122) 27 x125) 28 x128) 29 x130) 30 x133) 31 x136) 32 x139) 33 x142) 34 x146) 35 x150) 36 x152) 37 x152) 38 x154) 39 x157) 40 x159) 41 x162) 42 x165) 43 x168) 44 x171) 45 x175) 46 x179) 47 x181) 48 x181) 49 x183) 50 x186) 51 x188) 52 x191) 53 x194) 54 x197) 55 x201) 56 x205) 57 x207) 15 (e 5)) 16 x209) 5 x209) w210)) (fun _ => rd (fldA Pg 67 (e 3) 1) fun x211 =>
  rd (ldV Pg 65 x211 w112) fun x212 =>
  rd2 (lenG false Pg .len #[65] 3 #[false] [x212] w112) fun x213 w214 =>
  rd2 (binG false Pg .leq 3 (.tmp 0) (.const .nilFunc) x213 (.int .i64 30) w214) fun x215 w216 =>
  shutK (e 62) w216 fun w217 =>
  some (x215, w217))
theorem S60_eq (F : FnT) (G : RndT) (x0 x1 : Value) (w0 : World) : evalCode (cx60 F G) (cdA Go.Proofs.Try.f60 []) (endK Pg Go.Proofs.Try.f60) (envL [x0, x1]) w0 = S60 F G x0 x1 w0 := by kernel_rfl
theorem F60 (x0 x1 : Value) (w0 : World) : Fn Pg 60 [x0, x1] w0 = S60 (Fn Pg) (Rnd Pg) x0 x1 w0 := (Fn_body (c := cdA Go.Proofs.Try.f60 []) Go.Proofs.Try.func60 (by kernel_rfl) (by kernel_rfl) [x0, x1] w0 (Nat.le_of_ble_eq_true (by kernel_rfl))).trans (S60_eq _ _ x0 x1 w0)
theorem S60_L1_eq (F : FnT) (G : RndT) (e : Env) (w0 : World) : evalLoop (cx60 F G) (cdA Go.Proofs.Try.f60 [1, 0, 1, 0, 0]) (K60_2 F G) e w0 = S60_L1 F G e w0 := by
  rw [evalLoop_eq]
  kernel_rfl

-- 61 ciborium/tree.New[[]ciborium/api.Version]
noncomputable def cx61 (F : FnT) (G : RndT) : Ctx := ⟨Pg, F, G, 61, none, 5⟩
noncomputable def S61 (F : FnT) (G : RndT) (w0 : World) : R :=
  rd (bldV Pg 152 []) fun x1 =>
  rd2 (rawV Pg (Instr.box 152 x1) w0) fun x2 w3 =>
  rd (bldV Pg 154 [(0, x2)]) fun x4 =>
  rd2 (rawV Pg (Instr.box 154 x4) w3) fun x5 w6 =>
  some (x5, w6)
theorem S61_eq (F : FnT) (G : RndT) (w0 : World) : evalCode (cx61 F G) (cdA Go.Proofs.Try.f61 []) (endK Pg Go.Proofs.Try.f61) (envL []) w0 = S61 F G w0 := by kernel_rfl
theorem F61 (w0 : World) : Fn Pg 61 [] w0 = S61 (Fn Pg) (Rnd Pg) w0 := (Fn_body (c := cdA Go.Proofs.Try.f61 []) Go.Proofs.Try.func61 (by kernel_rfl) (by kernel_rfl) [] w0 (Nat.le_of_ble_eq_true (by kernel_rfl))).trans (S61_eq _ _ w0)

-- 62 (*ciborium/mvcc.Store).none
noncomputable def cx62 (F : FnT) (G : RndT) : Ctx := ⟨Pg, F, G, 62, none, 12⟩
noncomputable def S62 (F : FnT) (G : RndT) (x0 : Value) (w0 : World) : R :=
  rd2 (binG false Pg .eql 60 (.tmp 0) (.const .nilFunc) x0 (.pointer none) w0) fun x2 w3 =>
  rd2 (gate x2 false (fun _ =>  some (x0, w3)) w3) fun x4 w5 =>
  rd2 (gate x2 false (fun _ => rd (nilV x4) fun x6 => some (x6, w5)) w5) fun x7 w8 =>
  rd2 (gate x2 false (fun _ => rd (fldA Pg 95 x7 0) fun x9 => some (x9, w8)) w8) fun x10 w11 =>
  rd2 (gate x2 false (fun _ => rd (ldV Pg 93 x10 w11) fun x12 => some (x12, w11)) w11) fun x13 w14 =>
  rd2 (gate x2 false (fun _ => rd2 (binG false Pg .eql 93 (.tmp 0) (.const .nilFunc) x13 (.pointer none) w14) fun x15 w16 => some (x15, w16)) w14) fun x17 w18 =>
  rd (pickV x2 (.bool true) x17) fun x19 =>
  some (x19, w18)
theorem S62_eq (F : FnT) (G : RndT) (x0 : Value) (w0 : World) : evalCode (cx62 F G) (cdA Go.Proofs.Try.f62 []) (endK Pg Go.Proofs.Try.f62) (envL [x0]) w0 = S62 F G x0 w0 := by kernel_rfl
theorem F62 (x0 : Value) (w0 : World) : Fn Pg 62 [x0] w0 = S62 (Fn Pg) (Rnd Pg) x0 w0 := (Fn_body (c := cdA Go.Proofs.Try.f62 []) Go.Proofs.Try.func62 (by kernel_rfl) (by kernel_rfl) [x0] w0 (Nat.le_of_ble_eq_true (by kernel_rfl))).trans (S62_eq _ _ x0 w0)

-- 63 (*ciborium/mvcc.Store).changed
noncomputable def cx63 (F : FnT) (G : RndT) : Ctx := ⟨Pg, F, G, 63, none, 59⟩
noncomputable def K63_0 : FnT → RndT → Exit → Env → World → R := fun _ _ => endK Pg Go.Proofs.Try.f63
noncomputable def K63_1 : FnT → RndT → Exit → Env → World → R := fun F G => thenK (evalCode (cx63 F G) (cdA Go.Proofs.Try.f63 [1, 1, 1, 1]) (K63_0 F G)) (K63_0 F G)
noncomputable def K63_2 : FnT → RndT → Exit → Env → World → R := fun F G => blkK 0 (K63_1 F G)
noncomputable def S63 (F : FnT) (G : RndT) (x0 x1 : Value) (w0 : World) : R :=
  rd2 (rawV Pg (Instr.box 67 x1) w0) fun x3 w4 =>
  rd (fldA Pg 67 x3 1) fun x5 =>
  rd (ldV Pg 65 x5 w4) fun x6 =>
  rd2 (lenG false Pg .len #[65] 3 #[false] [x6] w4) fun x7 w8 =>
  evalLoop (cx63 F G) (cdA Go.Proofs.Try.f63 [1, 1, 1, 0, 1, 0, 0]) (K63_2 F G) (upd (upd (upd (upd (upd (upd (upd (upd (upd (envL [x0, x1]) 3 x3) 4 (.slice none 0 0)) 5 (.bool false)) 6 (.slice none 0 0)) 7 (.string { data := #[] })) 12 x5) 13 x6) 14 x7) 15 (.int .i64 0)) w8
noncomputable def S63_L1 (F : FnT) (G : RndT) (e : Env) (w0 : World) : R :=
  rd2 (binG false Pg .lss 3 (.tmp 0) (.tmp 0) (e 15) (e 14) w0) fun x101 w102 =>
  cnd x101 (fun _ => rd (ixA Pg 65 (e 13) (e 15)) fun x103 =>
  rd (ldV Pg 116 x103 w102) fun x104 =>
  rd2 (rawV Pg (Instr.alloc 116 true (.tuple #[])) w102) fun x105 w106 =>
  rd2 (rawU Pg (Instr.storeAt 116 x105 x104) w106) fun x108 w107 =>
  rd (fldA Pg 116 x105 0) fun x109 =>
  rd (ldV Pg 9 x109 (drw w107)) fun x110 =>
  rd2 (F 75 [(e 0), x110] (drw w107)) fun x111 w112 =>
  rd (fldA Pg 67 (e 3) 0) fun x113 =>
  rd (ldV Pg 64 x113 w112) fun x114 =>
  chk (holdsAt Pg none (.ld 64) x113 x114 (drw w107)) fun _ =>
  rd (fldA Pg 116 x105 1) fun x115 =>
  rd (ldV Pg 4 x115 w112) fun x116 =>
  chk (holdsAt Pg none (.ld 4) x115 x116 (drw w107)) fun _ =>
  rd (fldA Pg 116 x105 2) fun x117 =>
  rd (ldV Pg 83 x117 w112) fun x118 =>
  chk (holdsAt Pg none (.ld 83) x117 x118 (drw w107)) fun _ =>
  rd (bldV Pg 85 [(0, x114), (1, x116), (2, x118)]) fun x119 =>
  rd2 (F 92 [x111, x119] w112) fun x120 w121 =>
  rd (extV x120 0) fun x122 =>
  rd (extV x120 1) fun x123 =>
  rd2 (binG false Pg .neq 62 (.tmp 0) (.const .nilFunc) x123 (.int .i64 0) w121) fun x124 w125 =>
  rd2 (gate x124 false (fun _ => rd (fldA Pg 116 x105 0) fun x126 => some (x126, w125)) w125) fun x127 w128 =>
  rd2 (gate x124 false (fun _ => rd (ldV Pg 9 x127 w128) fun x129 => some (x129, w128)) w128) fun x130 w131 =>
  rd2 (gate x124 false (fun _ => rd2 (F 93 [x130] w131) fun x132 w133 => some (x132, w133)) w131) fun x134 w135 =>
  rd2 (gate x124 false (fun _ => rd (unV .not x134) fun x136 => some (x136, w135)) w135) fun x137 w138 =>
  rd (pickV x124 (.bool true) x137) fun x139 =>
  rd2 (gate x139 false (fun _ => rd (fldA Pg 116 x105 0) fun x140 => some (x140, w138)) w138) fun x141 w142 =>
  rd2 (gate x139 false (fun _ => rd (ldV Pg 9 x141 w142) fun x143 => some (x143, w142)) w142) fun x144 w145 =>
  rd2 (gate x139 false (fun _ =>  some ((e 7), w145)) w145) fun x146 w147 =>
  rd2 (gate x139 false (fun _ => rd2 (binG false Pg .leq 9 (.tmp 0) (.tmp 0) x144 x146 w147) fun x148 w149 => some (x148, w149)) w147) fun x150 w151 =>
  rd (pickV x139 (.bool true) x150) fun x152 =>
  cnd x152 (fun _ => shutK (e 59) w151 fun w153 =>
  some ((.tuple #[(.slice none 0 0), (.bool false)]), w153)) (fun _ => rd (fldA Pg 116 x105 0) fun x154 =>
  rd (ldV Pg 9 x154 w151) fun x155 =>
  rd (fldA Pg 116 x105 0) fun x156 =>
  rd (ldV Pg 9 x156 w151) fun x157 =>
  rd (bldV Pg 122 [(0, x157), (1, x122)]) fun x158 =>
  rd2 (rawV Pg (Instr.buildSlice 118 1 #[(0, x158)]) w151) fun x159 w160 =>
  rd2 (lenG false Pg .append #[118, 118] 118 #[false, false] [(e 6), x159] w160) fun x161 w162 =>
  rd2 (binG false Pg .add 3 (.tmp 0) (.const .nilFunc) (e 15) (.int .i64 1) w162) fun x163 w164 =>
  evalLoop (cx63 F G) (cdA Go.Proofs.Try.f63 [1, 1, 1, 0, 1, 0, 0]) (K63_2 F G) (upd (upd (upd (upd (upd (upd (upd (upd (upd (upd (upd (upd (upd (upd (upd (upd (upd (upd (upd (upd (upd (upd (upd (upd (upd (upd (upd (upd (upd (upd (upd (upd (upd (upd (upd (upd (upd (upd (upd (upd (upd (upd (upd (upd (upd (upd (upd (upd e 16 x101) 17 x103) 18 x104) 9 x105) 20 (e 0)) 21 x109) 22 x110) 23 x111) 24 x113) 25 x114) 26 x115) 27 x116) 28 x117) 29 x118) 30 x119) 31 x120) 19 x120) 32 x122) 33 x123) 10 x122) 11 x123) 34 x123) 35 x124) 36 x124) 37 x127) 38 x130) 39 x134) 40 x137) 41 x139) 42 x139) 43 x141) 44 x144) 45 x146) 46 x150) 47 x152) 48 x154) 49 x155) 7 x155) 50 (e 6)) 51 x156) 52 x157) 53 x122) 54 x158) 55 x159) 56 x161) 6 x161) 57 x163) 15 x163) w164)) (fun _ => shutK (e 59) w102 fun w165 =>
  some ((.tuple #[(e 6), (.bool true)]), w165))
theorem S63_eq (F : FnT) (G : RndT) (x0 x1 : Value) (w0 : World) : evalCode (cx63 F G) (cdA Go.Proofs.Try.f63 []) (endK Pg Go.Proofs.Try.f63) (envL [x0, x1]) w0 = S63 F G x0 x1 w0 := by kernel_rfl
theorem F63 (x0 x1 : Value) (w0 : World) : Fn Pg 63 [x0, x1] w0 = S63 (Fn Pg) (Rnd Pg) x0 x1 w0 := (Fn_body (c := cdA Go.Proofs.Try.f63 []) Go.Proofs.Try.func63 (by kernel_rfl) (by kernel_rfl) [x0, x1] w0 (Nat.le_of_ble_eq_true (by kernel_rfl))).trans (S63_eq _ _ x0 x1 w0)
theorem S63_L1_eq (F : FnT) (G : RndT) (e : Env) (w0 : World) : evalLoop (cx63 F G) (cdA Go.Proofs.Try.f63 [1, 1, 1, 0, 1, 0, 0]) (K63_2 F G) e w0 = S63_L1 F G e w0 := by
  rw [evalLoop_eq]
  kernel_rfl

-- 64 (*ciborium/tree.Tree[[]ciborium/api.Version]).Put
noncomputable def cx64 (F : FnT) (G : RndT) : Ctx := ⟨Pg, F, G, 64, none, 54⟩
noncomputable def S64 (F : FnT) (G : RndT) (x0 x1 x2 : Value) (w0 : World) : R :=
  rd2 (F 94 [x0] w0) fun x4 w5 =>
  cnd x4 (fun _ => some ((.bool false), w5)) (fun _ => rd2 (F 95 [x0, x1] w5) fun x6 w7 =>
  rd2 (binG false Pg .neq 157 (.tmp 0) (.const .nilFunc) x6 (.pointer none) w7) fun x8 w9 =>
  cnd x8 (fun _ => rd (nilV x6) fun x10 =>
  rd (fldA Pg 160 x10 1) fun x11 =>
  rd2 (rawU Pg (Instr.storeAt 76 x11 x2) w9) fun x13 w12 =>
  some ((.bool false), w12)) (fun _ => rd (nilV x0) fun x14 =>
  rd (fldA Pg 154 x14 0) fun x15 =>
  rd (ldV Pg 148 x15 w9) fun x16 =>
  rd2 (F 96 [x16] w9) fun x17 w18 =>
  cnd x17 (fun _ => rd (nilV x0) fun x19 =>
  rd (fldA Pg 154 x19 0) fun x20 =>
  rd (ldV Pg 148 x20 w18) fun x21 =>
  rd2 (rawV Pg (Instr.buildSlice 150 1 #[(0, x21)]) w18) fun x22 w23 =>
  rd (bldV Pg 152 [(1, x22)]) fun x24 =>
  rd2 (rawV Pg (Instr.box 152 x24) w23) fun x25 w26 =>
  rd (nilV x0) fun x27 =>
  rd (fldA Pg 154 x27 0) fun x28 =>
  rd2 (rawU Pg (Instr.storeAt 148 x28 x25) w26) fun x30 w29 =>
  rd (nilV x0) fun x31 =>
  rd (fldA Pg 154 x31 0) fun x32 =>
  rd (ldV Pg 148 x32 w29) fun x33 =>
  rd2 (F 97 [x33, (.int .i64 0)] w29) fun x34 w35 =>
  rd (nilV x0) fun x36 =>
  rd (fldA Pg 154 x36 0) fun x37 =>
  rd (ldV Pg 148 x37 w35) fun x38 =>
  rd (bldV Pg 160 [(0, x1), (1, x2)]) fun x39 =>
  rd2 (F 98 [x38, x39] w35) fun x40 w41 =>
  rd (nilV x0) fun x42 =>
  rd (fldA Pg 154 x42 1) fun x43 =>
  rd (ldV Pg 3 x43 w41) fun x44 =>
  rd2 (binG false Pg .add 3 (.tmp 0) (.const .nilFunc) x44 (.int .i64 1) w41) fun x45 w46 =>
  rd (nilV x0) fun x47 =>
  rd (fldA Pg 154 x47 1) fun x48 =>
  rd2 (rawU Pg (Instr.storeAt 3 x48 x45) w46) fun x50 w49 =>
  some ((.bool true), w49)) (fun _ => rd (nilV x0) fun x51 =>
  rd (fldA Pg 154 x51 0) fun x52 =>
  rd (ldV Pg 148 x52 w18) fun x53 =>
  rd (bldV Pg 160 [(0, x1), (1, x2)]) fun x54 =>
  rd2 (F 98 [x53, x54] w18) fun x55 w56 =>
  rd (nilV x0) fun x57 =>
  rd (fldA Pg 154 x57 1) fun x58 =>
  rd (ldV Pg 3 x58 w56) fun x59 =>
  rd2 (binG false Pg .add 3 (.tmp 0) (.const .nilFunc) x59 (.int .i64 1) w56) fun x60 w61 =>
  rd (nilV x0) fun x62 =>
  rd (fldA Pg 154 x62 1) fun x63 =>
  rd2 (rawU Pg (Instr.storeAt 3 x63 x60) w61) fun x65 w64 =>
  some ((.bool true), w64))))
theorem S64_eq (F : FnT) (G : RndT) (x0 x1 x2 : Value) (w0 : World) : evalCode (cx64 F G) (cdA Go.Proofs.Try.f64 []) (endK Pg Go.Proofs.Try.f64) (envL [x0, x1, x2]) w0 = S64 F G x0 x1 x2 w0 := by kernel_rfl
theorem F64 (x0 x1 x2 : Value) (w0 : World) : Fn Pg 64 [x0, x1, x2] w0 = S64 (Fn Pg) (Rnd Pg) x0 x1 x2 w0 := (Fn_body (c := cdA Go.Proofs.Try.f64 []) Go.Proofs.Try.func64 (by kernel_rfl) (by kernel_rfl) [x0, x1, x2] w0 (Nat.le_of_ble_eq_true (by kernel_rfl))).trans (S64_eq _ _ x0 x1 x2 w0)

-- 65 (*ciborium/mvcc.Store).rows
noncomputable def cx65 (F : FnT) (G : RndT) : Ctx := ⟨Pg, F, G, 65, none, 34⟩
noncomputable def K65_0 : FnT → RndT → Exit → Env → World → R := fun _ _ => endK Pg Go.Proofs.Try.f65
noncomputable def K65_1 : FnT → RndT → Exit → Env → World → R := fun F G => blkK 0 (K65_0 F G)
noncomputable def S65 (F : FnT) (G : RndT) (x0 x1 x2 : Value) (w0 : World) : R :=
  rd2 (rawV Pg (Instr.box 36 x1) w0) fun x4 w5 =>
  rd2 (F 62 [x0] w5) fun x6 w7 =>
  cnd x6 (fun _ => some ((.tuple #[]), w7)) (fun _ => rd (nilV x0) fun x8 =>
  rd (fldA Pg 95 x8 0) fun x9 =>
  rd (ldV Pg 93 x9 (drw w7)) fun x10 =>
  rd (ldV Pg 36 x4 (drw w7)) fun x11 =>
  rd (nilV x0) fun x12 =>
  rd (fldA Pg 95 x12 0) fun x13 =>
  rd (ldV Pg 93 x13 (drw w7)) fun x14 =>
  rd2 (F 100 [x14] (drw w7)) fun x15 w16 =>
  chk (holdsAt Pg none (.ld 36) x4 x11 w16) fun _ =>
  chk (holdsAt Pg none (.ld 93) x9 x10 w16) fun _ =>
  rd2 (F 99 [x10, x11, x15] w16) fun x17 w18 =>
  rd2 (lenG true Pg .len #[149] 3 #[false] [x17] w18) fun x19 _ =>
  evalLoop (cx65 F G) (cdA Go.Proofs.Try.f65 [1, 1, 1, 0, 0]) (K65_1 F G) (upd (upd (upd (upd (upd (upd (upd (upd (upd (upd (upd (upd (upd (upd (upd (upd (envL [x0, x1, x2]) 4 x4) 8 x0) 9 x6) 10 x0) 11 x8) 12 x9) 13 x10) 14 x11) 15 x0) 16 x12) 17 x13) 18 x14) 19 x15) 20 x17) 21 x19) 22 (.int .i64 0)) w18)
noncomputable def S65_L1 (F : FnT) (G : RndT) (e : Env) (w0 : World) : R :=
  rd2 (binG false Pg .lss 3 (.tmp 0) (.tmp 0) (e 22) (e 21) w0) fun x101 w102 =>
  cnd x101 (fun _ => rd (ixA Pg 149 (e 20) (e 22)) fun x103 =>
  rd (ldV Pg 160 x103 w102) fun x104 =>
  rd2 (rawV Pg (Instr.alloc 160 true (.tuple #[])) w102) fun x105 w106 =>
  rd2 (rawU Pg (Instr.storeAt 160 x105 x104) w106) fun x108 w107 =>
  rd (fldA Pg 160 x105 0) fun x109 =>
  rd (ldV Pg 9 x109 w107) fun x110 =>
  rd (fldA Pg 160 x105 1) fun x111 =>
  rd (ldV Pg 76 x111 w107) fun x112 =>
  rd2 (callV (cx65 F G) (e 2) [x110, x112] w107) fun x113 w114 =>
  rd (unV .not x113) fun x115 =>
  cnd x115 (fun _ => shutK (e 34) w114 fun w116 =>
  some ((.tuple #[]), w116)) (fun _ => rd2 (binG false Pg .add 3 (.tmp 0) (.const .nilFunc) (e 22) (.int .i64 1) w114) fun x117 w118 =>
  evalLoop (cx65 F G) (cdA Go.Proofs.Try.f65 [1, 1, 1, 0, 0]) (K65_1 F G) (upd (upd (upd (upd (upd (upd (upd (upd (upd (upd (upd (upd (upd e 23 x101) 24 x103) 25 x104) 7 x105) 26 (e 2)) 27 x109) 28 x110) 29 x111) 30 x112) 31 x113) 32 x115) 33 x117) 22 x117) w118)) (fun _ => shutK (e 34) w102 fun w119 =>
  some ((.tuple #[]), w119))
theorem S65_eq (F : FnT) (G : RndT) (x0 x1 x2 : Value) (w0 : World) : evalCode (cx65 F G) (cdA Go.Proofs.Try.f65 []) (endK Pg Go.Proofs.Try.f65) (envL [x0, x1, x2]) w0 = S65 F G x0 x1 x2 w0 := by kernel_rfl
theorem F65 (x0 x1 x2 : Value) (w0 : World) : Fn Pg 65 [x0, x1, x2] w0 = S65 (Fn Pg) (Rnd Pg) x0 x1 x2 w0 := (Fn_body (c := cdA Go.Proofs.Try.f65 []) Go.Proofs.Try.func65 (by kernel_rfl) (by kernel_rfl) [x0, x1, x2] w0 (Nat.le_of_ble_eq_true (by kernel_rfl))).trans (S65_eq _ _ x0 x1 x2 w0)
theorem S65_L1_eq (F : FnT) (G : RndT) (e : Env) (w0 : World) : evalLoop (cx65 F G) (cdA Go.Proofs.Try.f65 [1, 1, 1, 0, 0]) (K65_1 F G) e w0 = S65_L1 F G e w0 := by
  rw [evalLoop_eq]
  kernel_rfl

-- 66 (*ciborium/mvcc.Store).Rows$1
noncomputable def cx66 (F : FnT) (G : RndT) : Ctx := ⟨Pg, F, G, 66, none, 21⟩
noncomputable def S66 (F : FnT) (G : RndT) (x0 x1 x2 : Value) (w0 : World) : R :=
  rd2 (F 68 [x1] w0) fun x4 w5 =>
  rd2 (F 67 [x1, x4] w5) fun x6 w7 =>
  rd (extV x6 0) fun x8 =>
  rd (extV x6 1) fun x9 =>
  rd (ldV Pg 71 x2 w7) fun x10 =>
  rd (bldV Pg 80 [(0, x0), (1, x8)]) fun x11 =>
  rd2 (rawV Pg (Instr.buildSlice 71 1 #[(0, x11)]) w7) fun x12 w13 =>
  rd2 (lenG false Pg .append #[71, 71] 71 #[false, false] [x10, x12] w13) fun x14 w15 =>
  rd2 (rawU Pg (Instr.storeAt 71 x2 x14) w15) fun x17 w16 =>
  some ((.bool true), w16)
theorem S66_eq (F : FnT) (G : RndT) (x0 x1 x2 : Value) (w0 : World) : evalCode (cx66 F G) (cdA Go.Proofs.Try.f66 []) (endK Pg Go.Proofs.Try.f66) (envL [x0, x1, x2]) w0 = S66 F G x0 x1 x2 w0 := by kernel_rfl
theorem F66 (x0 x1 x2 : Value) (w0 : World) : Fn Pg 66 [x0, x1, x2] w0 = S66 (Fn Pg) (Rnd Pg) x0 x1 x2 w0 := (Fn_body (c := cdA Go.Proofs.Try.f66 []) Go.Proofs.Try.func66 (by kernel_rfl) (by kernel_rfl) [x0, x1, x2] w0 (Nat.le_of_ble_eq_true (by kernel_rfl))).trans (S66_eq _ _ x0 x1 x2 w0)

-- 67 ciborium/chain.Prune
noncomputable def cx67 (F : FnT) (G : RndT) : Ctx := ⟨Pg, F, G, 67, none, 75⟩
noncomputable def K67_0 : FnT → RndT → Exit → Env → World → R := fun _ _ => endK Pg Go.Proofs.Try.f67
noncomputable def K67_1 : FnT → RndT → Exit → Env → World → R := fun F G => thenK (evalCode (cx67 F G) (cdA Go.Proofs.Try.f67 [1, 1, 1, 1]) (K67_0 F G)) (K67_0 F G)
noncomputable def K67_2 : FnT → RndT → Exit → Env → World → R := fun F G => blkK 0 (K67_1 F G)
noncomputable def K67_3 : FnT → RndT → Exit → Env → World → R := fun F G => thenK (evalCode (cx67 F G) (cdA Go.Proofs.Try.f67 [1, 1, 1, 1, 1, 1, 1]) (K67_0 F G)) (K67_0 F G)
noncomputable def K67_4 : FnT → RndT → Exit → Env → World → R := fun F G => blkK 2 (K67_3 F G)
noncomputable def S67 (F : FnT) (G : RndT) (x0 x1 : Value) (w0 : World) : R :=
  rd2 (rawV Pg (Instr.makeMap 163 none) w0) fun x3 w4 =>
  rd2 (rawU Pg (Instr.mapUpdate 163 x3 (.int .i64 0) (.bool true)) w4) fun x6 w5 =>
  rd2 (F 101 [x0] w5) fun x7 w8 =>
  rd (unV .not x7) fun x9 =>
  rd2 (lenG false Pg .len #[68] 3 #[false] [x1] w8) fun x10 w11 =>
  evalLoop (cx67 F G) (cdA Go.Proofs.Try.f67 [1, 1, 1, 0, 1, 0, 0]) (K67_2 F G) (upd (upd (upd (upd (upd (upd (upd (upd (upd (upd (upd (upd (envL [x0, x1]) 4 (.slice none 0 0)) 5 (.slice none 0 0)) 16 x3) 17 x3) 6 x3) 18 x0) 19 x7) 20 x9) 7 x9) 21 x1) 22 x10) 23 (.int .i64 0)) w11
noncomputable def S67_L1 (F : FnT) (G : RndT) (e : Env) (w0 : World) : R :=
  rd2 (binG false Pg .lss 3 (.tmp 0) (.tmp 0) (e 23) (e 22) w0) fun x101 w102 =>
  cnd x101 (fun _ => rd (ixA Pg 68 (e 21) (e 23)) fun x103 =>
  rd (ldV Pg 64 x103 w102) fun x104 =>
  rd2 (F 102 [(e 0), x104] w102) fun x105 w106 =>
  rd2 (lenG false Pg .len #[76] 3 #[false] [(e 0)] w106) fun x107 w108 =>
  rd2 (binG false Pg .lss 3 (.tmp 0) (.tmp 0) x105 x107 w108) fun x109 w110 =>
  cnd x109 (fun _ => rd2 (rawU Pg (Instr.mapUpdate 163 (e 6) x105 (.bool true)) w110) fun x112 w111 =>
  rd2 (binG false Pg .add 3 (.tmp 0) (.const .nilFunc) (e 23) (.int .i64 1) w111) fun x113 w114 =>
  evalLoop (cx67 F G) (cdA Go.Proofs.Try.f67 [1, 1, 1, 0, 1, 0, 0]) (K67_2 F G) (upd (upd (upd (upd (upd (upd (upd (upd (upd (upd (upd (upd (upd (upd (upd (upd e 24 x101) 25 x103) 26 x104) 9 x104) 27 (e 0)) 28 x104) 29 x105) 10 x105) 30 x105) 31 (e 0)) 32 x107) 33 x109) 34 (e 6)) 35 x105) 36 x113) 23 x113) w114) (fun _ => rd2 (binG false Pg .add 3 (.tmp 0) (.const .nilFunc) (e 23) (.int .i64 1) w110) fun x115 w116 =>
  evalLoop (cx67 F G) (cdA Go.Proofs.Try.f67 [1, 1, 1, 0, 1, 0, 0]) (K67_2 F G) (upd (upd (upd (upd (upd (upd (upd (upd (upd (upd (upd (upd (upd (upd e 24 x101) 25 x103) 26 x104) 9 x104) 27 (e 0)) 28 x104) 29 x105) 10 x105) 30 x105) 31 (e 0)) 32 x107) 33 x109) 36 x115) 23 x115) w116)) (fun _ => rd (unV .not (e 7)) fun x117 =>
  rd2 (gate x117 true (fun _ =>  some ((e 0), w102)) w102) fun x118 w119 =>
  rd2 (gate x117 true (fun _ =>  some ((e 6), w119)) w119) fun x120 w121 =>
  rd2 (gate x117 true (fun _ =>  some ((e 1), w121)) w121) fun x122 w123 =>
  rd2 (gate x117 true (fun _ => rd2 (F 103 [x118, x120, x122] w123) fun x124 w125 => some (x124, w125)) w123) fun x126 w127 =>
  rd (pickV x117 x126 (.bool false)) fun x128 =>
  rd2 (lenG false Pg .len #[76] 3 #[false] [(e 0)] w127) fun x129 w130 =>
  evalLoop (cx67 F G) (cdA Go.Proofs.Try.f67 [1, 1, 1, 1, 1, 1, 0, 1, 0, 0]) (K67_4 F G) (upd (upd (upd (upd (upd (upd (upd (upd (upd (upd (upd (upd (upd (upd (upd e 24 x101) 37 (e 7)) 38 x117) 39 x117) 40 x118) 41 x120) 42 x122) 43 x126) 44 x128) 11 x128) 12 (.slice none 0 0)) 13 (.slice none 0 0)) 45 (e 0)) 46 x129) 47 (.int .i64 0)) w130)
noncomputable def S67_L2 (F : FnT) (G : RndT) (e : Env) (w0 : World) : R :=
  rd2 (binG false Pg .lss 3 (.tmp 0) (.tmp 0) (e 47) (e 46) w0) fun x101 w102 =>
  cnd x101 (fun _ => rd (ixA Pg 76 (e 45) (e 47)) fun x103 =>
  rd (ldV Pg 85 x103 w102) fun x104 =>
  rd2 (rawV Pg (Instr.alloc 85 true (.tuple #[])) w102) fun x105 w106 =>
  rd2 (rawU Pg (Instr.storeAt 85 x105 x104) w106) fun x108 w107 =>
  rd2 (gate (e 7) false (fun _ =>  some ((e 6), w107)) w107) fun x109 w110 =>
  rd2 (gate (e 7) false (fun _ =>  some ((e 47), w110)) w110) fun x111 w112 =>
  rd2 (gate (e 7) false (fun _ => rd2 (rawV Pg (Instr.lookup 163 x109 x111 false) w112) fun x113 w114 => some (x113, w114)) w112) fun x115 w116 =>
  rd2 (gate (e 7) false (fun _ =>  some (x115, w116)) w116) fun x117 w118 =>
  rd2 (gate x117 true (fun _ =>  some ((e 11), w118)) w118) fun x119 w120 =>
  rd2 (gate x117 true (fun _ => rd (unV .not x119) fun x121 => some (x121, w120)) w120) fun x122 w123 =>
  rd2 (gate (e 7) false (fun _ => rd (pickV x117 x122 (.bool false)) fun x124 => some (x124, w123)) w123) fun x125 w126 =>
  rd (pickV (e 7) (.bool true) x125) fun x127 =>
  cnd x127 (fun _ => rd (ldV Pg 85 x105 w126) fun x128 =>
  rd2 (F 104 [x128] w126) fun x129 w130 =>
  rd2 (rawV Pg (Instr.buildSlice 76 1 #[(0, x129)]) w130) fun x131 w132 =>
  rd2 (lenG false Pg .append #[76, 76] 76 #[false, false] [(e 12), x131] w132) fun x133 w134 =>
  rd2 (binG false Pg .add 3 (.tmp 0) (.const .nilFunc) (e 47) (.int .i64 1) w134) fun x135 w136 =>
  evalLoop (cx67 F G) (cdA Go.Proofs.Try.f67 [1, 1, 1, 1, 1, 1, 0, 1, 0, 0]) (K67_4 F G) (upd (upd (upd (upd (upd (upd (upd (upd (upd (upd (upd (upd (upd (upd (upd (upd (upd (upd (upd (upd (upd (upd (upd (upd e 48 x101) 49 (e 47)) 50 x103) 51 x104) 15 x105) 14 (e 47)) 52 (e 7)) 53 (e 7)) 54 x109) 55 x111) 56 x115) 57 x117) 58 x119) 59 x122) 60 x125) 61 x127) 62 (e 12)) 63 x128) 64 x129) 65 x131) 66 x133) 12 x133) 72 x135) 47 x135) w136) (fun _ => rd (ldV Pg 85 x105 w126) fun x137 =>
  rd2 (F 104 [x137] w126) fun x138 w139 =>
  rd2 (rawV Pg (Instr.buildSlice 76 1 #[(0, x138)]) w139) fun x140 w141 =>
  rd2 (lenG false Pg .append #[76, 76] 76 #[false, false] [(e 13), x140] w141) fun x142 w143 =>
  rd2 (binG false Pg .add 3 (.tmp 0) (.const .nilFunc) (e 47) (.int .i64 1) w143) fun x144 w145 =>
  evalLoop (cx67 F G) (cdA Go.Proofs.Try.f67 [1, 1, 1, 1, 1, 1, 0, 1, 0, 0]) (K67_4 F G) (upd (upd (upd (upd (upd (upd (upd (upd (upd (upd (upd (upd (upd (upd (upd (upd (upd (upd (upd (upd (upd (upd (upd (upd e 48 x101) 49 (e 47)) 50 x103) 51 x104) 15 x105) 14 (e 47)) 52 (e 7)) 53 (e 7)) 54 x109) 55 x111) 56 x115) 57 x117) 58 x119) 59 x122) 60 x125) 61 x127) 67 (e 13)) 68 x137) 69 x138) 70 x140) 71 x142) 13 x142) 72 x144) 47 x144) w145)) (fun _ => shutK (e 75) w102 fun w146 =>
  some ((.tuple #[(e 12), (e 13)]), w146))
theorem S67_eq (F : FnT) (G : RndT) (x0 x1 : Value) (w0 : World) : evalCode (cx67 F G) (cdA Go.Proofs.Try.f67 []) (endK Pg Go.Proofs.Try.f67) (envL [x0, x1]) w0 = S67 F G x0 x1 w0 := by kernel_rfl
theorem F67 (x0 x1 : Value) (w0 : World) : Fn Pg 67 [x0, x1] w0 = S67 (Fn Pg) (Rnd Pg) x0 x1 w0 := (Fn_body (c := cdA Go.Proofs.Try.f67 []) Go.Proofs.Try.func67 (by kernel_rfl) (by kernel_rfl) [x0, x1] w0 (Nat.le_of_ble_eq_true (by kernel_rfl))).trans (S67_eq _ _ x0 x1 w0)
theorem S67_L1_eq (F : FnT) (G : RndT) (e : Env) (w0 : World) : evalLoop (cx67 F G) (cdA Go.Proofs.Try.f67 [1, 1, 1, 0, 1, 0, 0]) (K67_2 F G) e w0 = S67_L1 F G e w0 := by
  rw [evalLoop_eq]
  kernel_rfl
theorem S67_L2_eq (F : FnT) (G : RndT) (e : Env) (w0 : World) : evalLoop (cx67 F G) (cdA Go.Proofs.Try.f67 [1, 1, 1, 1, 1, 1, 0, 1, 0, 0]) (K67_4 F G) e w0 = S67_L2 F G e w0 := by
  rw [evalLoop_eq]
  kernel_rfl

-- 68 ciborium/mvcc.everything
noncomputable def cx68 (F : FnT) (G : RndT) : Ctx := ⟨Pg, F, G, 68, none, 26⟩
noncomputable def K68_0 : FnT → RndT → Exit → Env → World → R := fun _ _ => endK Pg Go.Proofs.Try.f68
noncomputable def K68_1 : FnT → RndT → Exit → Env → World → R := fun F G => thenK (evalCode (cx68 F G) (cdA Go.Proofs.Try.f68 [1, 1, 1, 1]) (K68_0 F G)) (K68_0 F G)
noncomputable def K68_2 : FnT → RndT → Exit → Env → World → R := fun F G => blkK 0 (K68_1 F G)
noncomputable def S68 (F : FnT) (G : RndT) (x0 : Value) (w0 : World) : R :=
  rd2 (lenG false Pg .len #[76] 3 #[false] [x0] w0) fun x2 w3 =>
  rd2 (binG false Pg .add 3 (.tmp 0) (.const .nilFunc) x2 (.int .i64 1) w3) fun x4 w5 =>
  rd2 (rawV Pg (Instr.makeSlice 68 (.int .i64 0) x4) w5) fun x6 w7 =>
  rd2 (rawV Pg (Instr.buildSlice 68 1 #[(0, (.int .u64 0))]) w7) fun x8 w9 =>
  rd2 (lenG false Pg .append #[68, 68] 68 #[false, false] [x6, x8] w9) fun x10 w11 =>
  rd2 (lenG false Pg .len #[76] 3 #[false] [x0] w11) fun x12 w13 =>
  evalLoop (cx68 F G) (cdA Go.Proofs.Try.f68 [1, 1, 1, 0, 1, 0, 0]) (K68_2 F G) (upd (upd (upd (upd (upd (upd (upd (upd (upd (upd (upd (upd (upd (envL [x0]) 2 (.slice none 0 0)) 6 x0) 7 x2) 8 x4) 9 x6) 3 x6) 10 x6) 11 x8) 12 x10) 3 x10) 13 x0) 14 x12) 15 (.int .i64 0)) w13
noncomputable def S68_L1 (F : FnT) (G : RndT) (e : Env) (w0 : World) : R :=
  rd2 (binG false Pg .lss 3 (.tmp 0) (.tmp 0) (e 15) (e 14) w0) fun x101 w102 =>
  cnd x101 (fun _ => rd (ixA Pg 76 (e 13) (e 15)) fun x103 =>
  rd (ldV Pg 85 x103 w102) fun x104 =>
  rd2 (rawV Pg (Instr.alloc 85 true (.tuple #[])) w102) fun x105 w106 =>
  rd2 (rawU Pg (Instr.storeAt 85 x105 x104) w106) fun x108 w107 =>
  rd (fldA Pg 85 x105 0) fun x109 =>
  rd (ldV Pg 64 x109 w107) fun x110 =>
  rd2 (rawV Pg (Instr.buildSlice 68 1 #[(0, x110)]) w107) fun x111 w112 =>
  rd2 (lenG false Pg .append #[68, 68] 68 #[false, false] [(e 3), x111] w112) fun x113 w114 =>
  rd2 (binG false Pg .add 3 (.tmp 0) (.const .nilFunc) (e 15) (.int .i64 1) w114) fun x115 w116 =>
  evalLoop (cx68 F G) (cdA Go.Proofs.Try.f68 [1, 1, 1, 0, 1, 0, 0]) (K68_2 F G) (upd (upd (upd (upd (upd (upd (upd (upd (upd (upd (upd (upd e 16 x101) 17 x103) 18 x104) 5 x105) 19 (e 3)) 20 x109) 21 x110) 22 x111) 23 x113) 3 x113) 24 x115) 15 x115) w116) (fun _ => shutK (e 26) w102 fun w117 =>
  some ((e 3), w117))
theorem S68_eq (F : FnT) (G : RndT) (x0 : Value) (w0 : World) : evalCode (cx68 F G) (cdA Go.Proofs.Try.f68 []) (endK Pg Go.Proofs.Try.f68) (envL [x0]) w0 = S68 F G x0 w0 := by kernel_rfl
theorem F68 (x0 : Value) (w0 : World) : Fn Pg 68 [x0] w0 = S68 (Fn Pg) (Rnd Pg) x0 w0 := (Fn_body (c := cdA Go.Proofs.Try.f68 []) Go.Proofs.Try.func68 (by kernel_rfl) (by kernel_rfl) [x0] w0 (Nat.le_of_ble_eq_true (by kernel_rfl))).trans (S68_eq _ _ x0 w0)
theorem S68_L1_eq (F : FnT) (G : RndT) (e : Env) (w0 : World) : evalLoop (cx68 F G) (cdA Go.Proofs.Try.f68 [1, 1, 1, 0, 1, 0, 0]) (K68_2 F G) e w0 = S68_L1 F G e w0 := by
  rw [evalLoop_eq]
  kernel_rfl

-- 69 ciborium/mvcc.added[ciborium/api.Row]
noncomputable def cx69 (F : FnT) (G : RndT) : Ctx := ⟨Pg, F, G, 69, none, 21⟩
noncomputable def K69_0 : FnT → RndT → Exit → Env → World → R := fun _ _ => endK Pg Go.Proofs.Try.f69
noncomputable def K69_1 : FnT → RndT → Exit → Env → World → R := fun F G => thenK (evalCode (cx69 F G) (cdA Go.Proofs.Try.f69 [1, 1, 1]) (K69_0 F G)) (K69_0 F G)
noncomputable def K69_2 : FnT → RndT → Exit → Env → World → R := fun F G => blkK 0 (K69_1 F G)
noncomputable def S69 (F : FnT) (G : RndT) (x0 x1 : Value) (w0 : World) : R :=
  rd2 (lenG false Pg .len #[71] 3 #[false] [x0] w0) fun x3 w4 =>
  evalLoop (cx69 F G) (cdA Go.Proofs.Try.f69 [1, 1, 0, 1, 0, 0]) (K69_2 F G) (upd (upd (upd (upd (upd (envL [x0, x1]) 4 (.int .i64 0)) 5 (.int .i64 0)) 8 x0) 9 x3) 10 (.int .i64 0)) w4
noncomputable def S69_L1 (F : FnT) (G : RndT) (e : Env) (w0 : World) : R :=
  rd2 (binG false Pg .lss 3 (.tmp 0) (.tmp 0) (e 10) (e 9) w0) fun x101 w102 =>
  cnd x101 (fun _ => rd (ixA Pg 71 (e 8) (e 10)) fun x103 =>
  rd (ldV Pg 80 x103 w102) fun x104 =>
  rd2 (rawV Pg (Instr.alloc 80 true (.tuple #[])) w102) fun x105 w106 =>
  rd2 (rawU Pg (Instr.storeAt 80 x105 x104) w106) fun x108 w107 =>
  rd (ldV Pg 80 x105 w107) fun x109 =>
  rd2 (callV (cx69 F G) (e 1) [x109] w107) fun x110 w111 =>
  rd2 (binG false Pg .add 3 (.tmp 0) (.tmp 0) (e 5) x110 w111) fun x112 w113 =>
  rd2 (binG false Pg .add 3 (.tmp 0) (.const .nilFunc) (e 10) (.int .i64 1) w113) fun x114 w115 =>
  evalLoop (cx69 F G) (cdA Go.Proofs.Try.f69 [1, 1, 0, 1, 0, 0]) (K69_2 F G) (upd (upd (upd (upd (upd (upd (upd (upd (upd (upd (upd (upd e 11 x101) 12 x103) 13 x104) 7 x105) 14 (e 5)) 15 (e 1)) 16 x109) 17 x110) 18 x112) 5 x112) 19 x114) 10 x114) w115) (fun _ => shutK (e 21) w102 fun w116 =>
  some ((e 5), w116))
theorem S69_eq (F : FnT) (G : RndT) (x0 x1 : Value) (w0 : World) : evalCode (cx69 F G) (cdA Go.Proofs.Try.f69 []) (endK Pg Go.Proofs.Try.f69) (envL [x0, x1]) w0 = S69 F G x0 x1 w0 := by kernel_rfl
theorem F69 (x0 x1 : Value) (w0 : World) : Fn Pg 69 [x0, x1] w0 = S69 (Fn Pg) (Rnd Pg) x0 x1 w0 := (Fn_body (c := cdA Go.Proofs.Try.f69 []) Go.Proofs.Try.func69 (by kernel_rfl) (by kernel_rfl) [x0, x1] w0 (Nat.le_of_ble_eq_true (by kernel_rfl))).trans (S69_eq _ _ x0 x1 w0)
theorem S69_L1_eq (F : FnT) (G : RndT) (e : Env) (w0 : World) : evalLoop (cx69 F G) (cdA Go.Proofs.Try.f69 [1, 1, 0, 1, 0, 0]) (K69_2 F G) e w0 = S69_L1 F G e w0 := by
  rw [evalLoop_eq]
  kernel_rfl

-- 70 (*ciborium/mvcc.Store).Versions$1
noncomputable def cx70 (F : FnT) (G : RndT) : Ctx := ⟨Pg, F, G, 70, none, 6⟩
noncomputable def S70 (F : FnT) (G : RndT) (x0 : Value) (w0 : World) : R :=
  rd2 (rawV Pg (Instr.box 80 x0) w0) fun x2 w3 =>
  rd (fldA Pg 80 x2 1) fun x4 =>
  rd (ldV Pg 76 x4 w3) fun x5 =>
  rd2 (lenG false Pg .len #[76] 3 #[false] [x5] w3) fun x6 w7 =>
  some (x6, w7)
theorem S70_eq (F : FnT) (G : RndT) (x0 : Value) (w0 : World) : evalCode (cx70 F G) (cdA Go.Proofs.Try.f70 []) (endK Pg Go.Proofs.Try.f70) (envL [x0]) w0 = S70 F G x0 w0 := by kernel_rfl
theorem F70 (x0 : Value) (w0 : World) : Fn Pg 70 [x0] w0 = S70 (Fn Pg) (Rnd Pg) x0 w0 := (Fn_body (c := cdA Go.Proofs.Try.f70 []) Go.Proofs.Try.func70 (by kernel_rfl) (by kernel_rfl) [x0] w0 (Nat.le_of_ble_eq_true (by kernel_rfl))).trans (S70_eq _ _ x0 w0)

-- 71 (*ciborium/mvcc.Store).Live$1
noncomputable def cx71 (F : FnT) (G : RndT) : Ctx := ⟨Pg, F, G, 71, none, 8⟩
noncomputable def S71 (F : FnT) (G : RndT) (x0 : Value) (w0 : World) : R :=
  rd2 (rawV Pg (Instr.box 80 x0) w0) fun x2 w3 =>
  rd (fldA Pg 80 x2 1) fun x4 =>
  rd (ldV Pg 76 x4 w3) fun x5 =>
  rd (ixA Pg 76 x5 (.int .i64 0)) fun x6 =>
  rd (fldA Pg 85 x6 1) fun x7 =>
  rd (ldV Pg 4 x7 w3) fun x8 =>
  cnd x8 (fun _ => some ((.int .i64 0), w3)) (fun _ => some ((.int .i64 1), w3))
theorem S71_eq (F : FnT) (G : RndT) (x0 : Value) (w0 : World) : evalCode (cx71 F G) (cdA Go.Proofs.Try.f71 []) (endK Pg Go.Proofs.Try.f71) (envL [x0]) w0 = S71 F G x0 w0 := by kernel_rfl
theorem F71 (x0 : Value) (w0 : World) : Fn Pg 71 [x0] w0 = S71 (Fn Pg) (Rnd Pg) x0 w0 := (Fn_body (c := cdA Go.Proofs.Try.f71 []) Go.Proofs.Try.func71 (by kernel_rfl) (by kernel_rfl) [x0] w0 (Nat.le_of_ble_eq_true (by kernel_rfl))).trans (S71_eq _ _ x0 w0)

-- 72 (*ciborium/mvcc.Store).Scan$1
noncomputable def cx72 (F : FnT) (G : RndT) : Ctx := ⟨Pg, F, G, 72, none, 27⟩
noncomputable def S72 (F : FnT) (G : RndT) (x0 x1 x2 x3 x4 : Value) (w0 : World) : R :=
  rd (ldV Pg 73 x2 w0) fun x6 =>
  rd2 (lenG false Pg .len #[73] 3 #[false] [x6] w0) fun x7 w8 =>
  rd (ldV Pg 3 x3 w8) fun x9 =>
  rd2 (binG false Pg .geq 3 (.tmp 0) (.tmp 0) x7 x9 w8) fun x10 w11 =>
  cnd x10 (fun _ => some ((.bool false), w11)) (fun _ => rd (ldV Pg 64 x4 w11) fun x12 =>
  rd2 (F 73 [x1, x12] w11) fun x13 w14 =>
  rd (extV x13 0) fun x15 =>
  rd (extV x13 1) fun x16 =>
  rd2 (rawV Pg (Instr.alloc 83 true (.tuple #[])) w14) fun x17 w18 =>
  rd2 (rawU Pg (Instr.storeAt 83 x17 x15) w18) fun x20 w19 =>
  cnd x16 (fun _ => rd (ldV Pg 73 x2 w19) fun x21 =>
  rd (ldV Pg 83 x17 w19) fun x22 =>
  rd (bldV Pg 134 [(0, x0), (3, x22)]) fun x23 =>
  rd2 (rawV Pg (Instr.buildSlice 73 1 #[(0, x23)]) w19) fun x24 w25 =>
  rd2 (lenG false Pg .append #[73, 73] 73 #[false, false] [x21, x24] w25) fun x26 w27 =>
  rd2 (rawU Pg (Instr.storeAt 73 x2 x26) w27) fun x29 w28 =>
  some ((.bool true), w28)) (fun _ => some ((.bool true), w19)))
theorem S72_eq (F : FnT) (G : RndT) (x0 x1 x2 x3 x4 : Value) (w0 : World) : evalCode (cx72 F G) (cdA Go.Proofs.Try.f72 []) (endK Pg Go.Proofs.Try.f72) (envL [x0, x1, x2, x3, x4]) w0 = S72 F G x0 x1 x2 x3 x4 w0 := by kernel_rfl
theorem F72 (x0 x1 x2 x3 x4 : Value) (w0 : World) : Fn Pg 72 [x0, x1, x2, x3, x4] w0 = S72 (Fn Pg) (Rnd Pg) x0 x1 x2 x3 x4 w0 := (Fn_body (c := cdA Go.Proofs.Try.f72 []) Go.Proofs.Try.func72 (by kernel_rfl) (by kernel_rfl) [x0, x1, x2, x3, x4] w0 (Nat.le_of_ble_eq_true (by kernel_rfl))).trans (S72_eq _ _ x0 x1 x2 x3 x4 w0)

-- 73 ciborium/chain.Value
noncomputable def cx73 (F : FnT) (G : RndT) : Ctx := ⟨Pg, F, G, 73, none, 23⟩
noncomputable def S73 (F : FnT) (G : RndT) (x0 x1 : Value) (w0 : World) : R :=
  rd2 (rawV Pg (Instr.alloc 83 true (.tuple #[])) w0) fun x3 w4 =>
  rd2 (F 79 [x0, x1] w4) fun x5 w6 =>
  rd (extV x5 0) fun x7 =>
  rd (extV x5 1) fun x8 =>
  rd2 (rawV Pg (Instr.alloc 85 true (.tuple #[])) w6) fun x9 w10 =>
  rd2 (rawU Pg (Instr.storeAt 85 x9 x7) w10) fun x12 w11 =>
  rd (unV .not x8) fun x13 =>
  rd2 (gate x13 false (fun _ => rd (fldA Pg 85 x9 1) fun x14 => some (x14, w11)) w11) fun x15 w16 =>
  rd2 (gate x13 false (fun _ => rd (ldV Pg 4 x15 w16) fun x17 => some (x17, w16)) w16) fun x18 w19 =>
  rd (pickV x13 (.bool true) x18) fun x20 =>
  cnd x20 (fun _ => rd (bldV Pg 83 []) fun x21 =>
  rd2 (rawU Pg (Instr.storeAt 83 x3 x21) w19) fun x23 w22 =>
  rd (ldV Pg 83 x3 w22) fun x24 =>
  some ((.tuple #[x24, (.bool false)]), w22)) (fun _ => rd (fldA Pg 85 x9 2) fun x25 =>
  rd (ldV Pg 83 x25 w19) fun x26 =>
  rd2 (rawU Pg (Instr.storeAt 83 x3 x26) w19) fun x28 w27 =>
  rd (ldV Pg 83 x3 w27) fun x29 =>
  some ((.tuple #[x29, (.bool true)]), w27))
theorem S73_eq (F : FnT) (G : RndT) (x0 x1 : Value) (w0 : World) : evalCode (cx73 F G) (cdA Go.Proofs.Try.f73 []) (endK Pg Go.Proofs.Try.f73) (envL [x0, x1]) w0 = S73 F G x0 x1 w0 := by kernel_rfl
theorem F73 (x0 x1 : Value) (w0 : World) : Fn Pg 73 [x0, x1] w0 = S73 (Fn Pg) (Rnd Pg) x0 x1 w0 := (Fn_body (c := cdA Go.Proofs.Try.f73 []) Go.Proofs.Try.func73 (by kernel_rfl) (by kernel_rfl) [x0, x1] w0 (Nat.le_of_ble_eq_true (by kernel_rfl))).trans (S73_eq _ _ x0 x1 w0)

-- 74 (*ciborium/tree.Tree[[]ciborium/api.Version]).After
noncomputable def rx74 (l : Nat) (F : FnT) (G : RndT) : Ctx := ⟨Pg, F, G, 74, some l, 14⟩
noncomputable def cx74 (F : FnT) (G : RndT) : Ctx := ⟨Pg, F, G, 74, none, 14⟩
noncomputable def K74_0 : FnT → RndT → Exit → Env → World → R := fun _ _ => endK Pg Go.Proofs.Try.f74
noncomputable def K74_1 : FnT → RndT → Exit → Env → World → R := fun F G => thenK (evalCode (cx74 F G) (cdA Go.Proofs.Try.f74 [1, 1]) (K74_0 F G)) (K74_0 F G)
noncomputable def K74_2 : FnT → RndT → Exit → Env → World → R := fun F G => blkK 0 (K74_1 F G)
noncomputable def S74 (F : FnT) (G : RndT) (x0 x1 : Value) (w0 : World) : R :=
  rd2 (rawV Pg (Instr.alloc 9 true (.tuple #[])) w0) fun x3 w4 =>
  rd2 (rawV Pg (Instr.alloc 4 true (.tuple #[])) w4) fun x5 w6 =>
  rd2 (F 54 [x1] w6) fun x7 w8 =>
  rd2 (F 105 [x0, x7] w8) fun x9 w10 =>
  rngR (cx74 F G) x9 #[11] (cdA Go.Proofs.Try.f74 [1, 0, 1, 0, 0]) (cdA Go.Proofs.Try.f74 [1, 0, 1, 0, 1]) (K74_2 F G) (upd (upd (upd (upd (upd (upd (envL [x0, x1]) 4 x3) 5 x5) 7 x0) 8 x1) 9 x7) 10 x9) w10
noncomputable def S74_N1 (F : FnT) (G : RndT) (e : Env) (w0 : World) : R :=
  rd2 (rawU Pg (Instr.storeAt 9 (e 4) (.string { data := #[] })) w0) fun x102 w101 =>
  rd2 (rawU Pg (Instr.storeAt 4 (e 5) (.bool false)) w101) fun x104 w103 =>
  shutK (e 14) w103 fun w105 =>
  rd (ldV Pg 9 (e 4) w105) fun x106 =>
  rd (ldV Pg 4 (e 5) w105) fun x107 =>
  some ((.tuple #[x106, x107]), w105)
noncomputable def S74_T1 (F : FnT) (G : RndT) (e : Env) (w0 : World) : R :=
  shutK (e 14) w0 fun w101 =>
  rd (ldV Pg 9 (e 4) w101) fun x102 =>
  rd (ldV Pg 4 (e 5) w101) fun x103 =>
  some ((.tuple #[x102, x103]), w101)
noncomputable def S74_X0_1 (F : FnT) (G : RndT) (e : Env) (w0 : World) : R :=
  rd2 (rawU Pg (Instr.storeAt 9 (e 4) (.string { data := #[] })) w0) fun x102 w101 =>
  rd2 (rawU Pg (Instr.storeAt 4 (e 5) (.bool false)) w101) fun x104 w103 =>
  shutK (e 14) w103 fun w105 =>
  rd (ldV Pg 9 (e 4) w105) fun x106 =>
  rd (ldV Pg 4 (e 5) w105) fun x107 =>
  some ((.tuple #[x106, x107]), w105)
noncomputable def S74_R1 (F : FnT) (G : RndT) (l : Nat) (e : Env) (w0 : World) : R :=
  rd2 (rawV Pg (Instr.alloc 160 true (.tuple #[])) w0) fun x101 w102 =>
  rd2 (rawU Pg (Instr.storeAt 160 x101 (e 11)) w102) fun x104 w103 =>
  begR l w103 fun w105 =>
  rd (fldA Pg 160 x101 0) fun x106 =>
  rd (ldV Pg 9 x106 w105) fun x107 =>
  rd2 (rawU Pg (Instr.storeAt 9 (e 4) x107) w105) fun x109 w108 =>
  rd2 (rawU Pg (Instr.storeAt 4 (e 5) (.bool true)) w108) fun x111 w110 =>
  finR l (some .ret) w110
theorem S74_eq (F : FnT) (G : RndT) (x0 x1 : Value) (w0 : World) : evalCode (cx74 F G) (cdA Go.Proofs.Try.f74 []) (endK Pg Go.Proofs.Try.f74) (envL [x0, x1]) w0 = S74 F G x0 x1 w0 := by kernel_rfl
theorem F74 (x0 x1 : Value) (w0 : World) : Fn Pg 74 [x0, x1] w0 = S74 (Fn Pg) (Rnd Pg) x0 x1 w0 := (Fn_body (c := cdA Go.Proofs.Try.f74 []) Go.Proofs.Try.func74 (by kernel_rfl) (by kernel_rfl) [x0, x1] w0 (Nat.le_of_ble_eq_true (by kernel_rfl))).trans (S74_eq _ _ x0 x1 w0)
theorem S74_N1_eq (F : FnT) (G : RndT) (e : Env) (w0 : World) : K74_2 F G .normal e w0 = S74_N1 F G e w0 := by kernel_rfl
theorem S74_T1_eq (F : FnT) (G : RndT) (e : Env) (w0 : World) : K74_2 F G .ret e w0 = S74_T1 F G e w0 := by kernel_rfl
theorem S74_X0_1_eq (F : FnT) (G : RndT) (e : Env) (w0 : World) : K74_2 F G (.exit 0) e w0 = S74_X0_1 F G e w0 := by kernel_rfl
theorem S74_R1_eq (F : FnT) (G : RndT) (l : Nat) (ts : List Value) (w0 : World) : evalRound (rx74 l F G) l ts (cdA Go.Proofs.Try.f74 [1, 0, 1, 0, 0]) (cdA Go.Proofs.Try.f74 [1, 0, 1, 0, 1]) w0 = S74_R1 F G l (envL ts) w0 := by kernel_rfl
theorem R74_1 {l : Nat} {ts : List Value} (w0 : World) (h : ts.length = 14) : Rnd Pg l 74 ts (cdA Go.Proofs.Try.f74 [1, 0, 1, 0, 0]) (cdA Go.Proofs.Try.f74 [1, 0, 1, 0, 1]) w0 = S74_R1 (Fn Pg) (Rnd Pg) l (envL ts) w0 := by
  rw [Rnd_eq]; unfold rndS; rw [h]; exact S74_R1_eq _ _ _ _ _

-- 75 (*ciborium/mvcc.Store).chain
noncomputable def cx75 (F : FnT) (G : RndT) : Ctx := ⟨Pg, F, G, 75, none, 19⟩
noncomputable def S75 (F : FnT) (G : RndT) (x0 x1 : Value) (w0 : World) : R :=
  rd2 (F 62 [x0] w0) fun x3 w4 =>
  cnd x3 (fun _ => some ((.slice none 0 0), w4)) (fun _ => rd (nilV x0) fun x5 =>
  rd (fldA Pg 95 x5 0) fun x6 =>
  rd (ldV Pg 93 x6 w4) fun x7 =>
  rd2 (F 106 [x7, x1] w4) fun x8 w9 =>
  rd (extV x8 0) fun x10 =>
  rd (extV x8 1) fun x11 =>
  some (x10, w9))
theorem S75_eq (F : FnT) (G : RndT) (x0 x1 : Value) (w0 : World) : evalCode (cx75 F G) (cdA Go.Proofs.Try.f75 []) (endK Pg Go.Proofs.Try.f75) (envL [x0, x1]) w0 = S75 F G x0 x1 w0 := by kernel_rfl
theorem F75 (x0 x1 : Value) (w0 : World) : Fn Pg 75 [x0, x1] w0 = S75 (Fn Pg) (Rnd Pg) x0 x1 w0 := (Fn_body (c := cdA Go.Proofs.Try.f75 []) Go.Proofs.Try.func75 (by kernel_rfl) (by kernel_rfl) [x0, x1] w0 (Nat.le_of_ble_eq_true (by kernel_rfl))).trans (S75_eq _ _ x0 x1 w0)

-- 76 (*ciborium/tree.Tree[[]ciborium/api.Version]).Delete
noncomputable def cx76 (F : FnT) (G : RndT) : Ctx := ⟨Pg, F, G, 76, none, 55⟩
noncomputable def S76 (F : FnT) (G : RndT) (x0 x1 : Value) (w0 : World) : R :=
  rd2 (F 94 [x0] w0) fun x3 w4 =>
  rd2 (gate x3 false (fun _ =>  some (x0, w4)) w4) fun x5 w6 =>
  rd2 (gate x3 false (fun _ =>  some (x1, w6)) w6) fun x7 w8 =>
  rd2 (gate x3 false (fun _ => rd2 (F 95 [x5, x7] w8) fun x9 w10 => some (x9, w10)) w8) fun x11 w12 =>
  rd2 (gate x3 false (fun _ => rd2 (binG false Pg .eql 157 (.tmp 0) (.const .nilFunc) x11 (.pointer none) w12) fun x13 w14 => some (x13, w14)) w12) fun x15 w16 =>
  rd (pickV x3 (.bool true) x15) fun x17 =>
  cnd x17 (fun _ => some ((.bool false), w16)) (fun _ => rd (nilV x0) fun x18 =>
  rd (fldA Pg 154 x18 0) fun x19 =>
  rd (ldV Pg 148 x19 w16) fun x20 =>
  rd2 (F 107 [x20, x1] w16) fun x21 w22 =>
  rd (nilV x0) fun x23 =>
  rd (fldA Pg 154 x23 0) fun x24 =>
  rd (ldV Pg 148 x24 w22) fun x25 =>
  rd (nilV x25) fun x26 =>
  rd (fldA Pg 152 x26 0) fun x27 =>
  rd (ldV Pg 149 x27 w22) fun x28 =>
  rd2 (lenG false Pg .len #[149] 3 #[false] [x28] w22) fun x29 w30 =>
  rd2 (binG false Pg .eql 3 (.tmp 0) (.const .nilFunc) x29 (.int .i64 0) w30) fun x31 w32 =>
  rd2 (gate x31 true (fun _ =>  some (x0, w32)) w32) fun x33 w34 =>
  rd2 (gate x31 true (fun _ => rd (nilV x33) fun x35 => some (x35, w34)) w34) fun x36 w37 =>
  rd2 (gate x31 true (fun _ => rd (fldA Pg 154 x36 0) fun x38 => some (x38, w37)) w37) fun x39 w40 =>
  rd2 (gate x31 true (fun _ => rd (ldV Pg 148 x39 w40) fun x41 => some (x41, w40)) w40) fun x42 w43 =>
  rd2 (gate x31 true (fun _ => rd2 (F 108 [x42] w43) fun x44 w45 => some (x44, w45)) w43) fun x46 w47 =>
  rd2 (gate x31 true (fun _ => rd (unV .not x46) fun x48 => some (x48, w47)) w47) fun x49 w50 =>
  rd (pickV x31 x49 (.bool false)) fun x51 =>
  cnd x51 (fun _ => rd (nilV x0) fun x52 =>
  rd (fldA Pg 154 x52 0) fun x53 =>
  rd (ldV Pg 148 x53 w50) fun x54 =>
  rd (nilV x54) fun x55 =>
  rd (fldA Pg 152 x55 1) fun x56 =>
  rd (ldV Pg 150 x56 w50) fun x57 =>
  rd (ixA Pg 150 x57 (.int .i64 0)) fun x58 =>
  rd (ldV Pg 148 x58 w50) fun x59 =>
  rd (nilV x0) fun x60 =>
  rd (fldA Pg 154 x60 0) fun x61 =>
  rd2 (rawU Pg (Instr.storeAt 148 x61 x59) w50) fun x63 w62 =>
  rd (nilV x0) fun x64 =>
  rd (fldA Pg 154 x64 1) fun x65 =>
  rd (ldV Pg 3 x65 w62) fun x66 =>
  rd2 (binG false Pg .sub 3 (.tmp 0) (.const .nilFunc) x66 (.int .i64 1) w62) fun x67 w68 =>
  rd (nilV x0) fun x69 =>
  rd (fldA Pg 154 x69 1) fun x70 =>
  rd2 (rawU Pg (Instr.storeAt 3 x70 x67) w68) fun x72 w71 =>
  some ((.bool true), w71)) (fun _ => rd (nilV x0) fun x73 =>
  rd (fldA Pg 154 x73 1) fun x74 =>
  rd (ldV Pg 3 x74 w50) fun x75 =>
  rd2 (binG false Pg .sub 3 (.tmp 0) (.const .nilFunc) x75 (.int .i64 1) w50) fun x76 w77 =>
  rd (nilV x0) fun x78 =>
  rd (fldA Pg 154 x78 1) fun x79 =>
  rd2 (rawU Pg (Instr.storeAt 3 x79 x76) w77) fun x81 w80 =>
  some ((.bool true), w80)))
theorem S76_eq (F : FnT) (G : RndT) (x0 x1 : Value) (w0 : World) : evalCode (cx76 F G) (cdA Go.Proofs.Try.f76 []) (endK Pg Go.Proofs.Try.f76) (envL [x0, x1]) w0 = S76 F G x0 x1 w0 := by kernel_rfl
theorem F76 (x0 x1 : Value) (w0 : World) : Fn Pg 76 [x0, x1] w0 = S76 (Fn Pg) (Rnd Pg) x0 x1 w0 := (Fn_body (c := cdA Go.Proofs.Try.f76 []) Go.Proofs.Try.func76 (by kernel_rfl) (by kernel_rfl) [x0, x1] w0 (Nat.le_of_ble_eq_true (by kernel_rfl))).trans (S76_eq _ _ x0 x1 w0)

-- 77 ciborium/ciboriumref15.Same
noncomputable def cx77 (F : FnT) (G : RndT) : Ctx := ⟨Pg, F, G, 77, none, 45⟩
noncomputable def K77_0 : FnT → RndT → Exit → Env → World → R := fun _ _ => endK Pg Go.Proofs.Try.f77
noncomputable def K77_1 : FnT → RndT → Exit → Env → World → R := fun F G => thenK (evalCode (cx77 F G) (cdA Go.Proofs.Try.f77 [1, 1, 1]) (K77_0 F G)) (K77_0 F G)
noncomputable def K77_2 : FnT → RndT → Exit → Env → World → R := fun F G => blkK 0 (K77_1 F G)
noncomputable def S77 (F : FnT) (G : RndT) (x0 x1 : Value) (w0 : World) : R :=
  rd2 (rawV Pg (Instr.box 83 x0) w0) fun x3 w4 =>
  rd2 (rawV Pg (Instr.box 83 x1) w4) fun x5 w6 =>
  evalCode (cx77 F G) (cdA Go.Proofs.Try.f77 [1]) (K77_0 F G) (upd (upd (upd (envL [x0, x1]) 2 x3) 3 x5) 4 (.bool false)) w6
noncomputable def S77_J1 (F : FnT) (G : RndT) (e : Env) (w0 : World) : R :=
  rd (fldA Pg 83 (e 2) 2) fun x101 =>
  rd (ldV Pg 3 x101 w0) fun x102 =>
  rd (fldA Pg 83 (e 3) 2) fun x103 =>
  rd (ldV Pg 3 x103 w0) fun x104 =>
  rd2 (binG false Pg .neq 3 (.tmp 0) (.tmp 0) x102 x104 w0) fun x105 w106 =>
  rd2 (gate x105 false (fun _ => rd (fldA Pg 83 (e 2) 1) fun x107 => some (x107, w106)) w106) fun x108 w109 =>
  rd2 (gate x105 false (fun _ => rd (ldV Pg 64 x108 w109) fun x110 => some (x110, w109)) w109) fun x111 w112 =>
  rd2 (gate x105 false (fun _ => rd (fldA Pg 83 (e 3) 1) fun x113 => some (x113, w112)) w112) fun x114 w115 =>
  rd2 (gate x105 false (fun _ => rd (ldV Pg 64 x114 w115) fun x116 => some (x116, w115)) w115) fun x117 w118 =>
  rd2 (gate x105 false (fun _ => rd2 (binG false Pg .neq 64 (.tmp 0) (.tmp 0) x111 x117 w118) fun x119 w120 => some (x119, w120)) w118) fun x121 w122 =>
  rd (pickV x105 (.bool true) x121) fun x123 =>
  rd2 (gate x123 false (fun _ => rd (fldA Pg 83 (e 2) 0) fun x124 => some (x124, w122)) w122) fun x125 w126 =>
  rd2 (gate x123 false (fun _ => rd (ldV Pg 81 x125 w126) fun x127 => some (x127, w126)) w126) fun x128 w129 =>
  rd2 (gate x123 false (fun _ => rd2 (lenG false Pg .len #[81] 3 #[false] [x128] w129) fun x130 w131 => some (x130, w131)) w129) fun x132 w133 =>
  rd2 (gate x123 false (fun _ => rd (fldA Pg 83 (e 3) 0) fun x134 => some (x134, w133)) w133) fun x135 w136 =>
  rd2 (gate x123 false (fun _ => rd (ldV Pg 81 x135 w136) fun x137 => some (x137, w136)) w136) fun x138 w139 =>
  rd2 (gate x123 false (fun _ => rd2 (lenG false Pg .len #[81] 3 #[false] [x138] w139) fun x140 w141 => some (x140, w141)) w139) fun x142 w143 =>
  rd2 (gate x123 false (fun _ => rd2 (binG false Pg .neq 3 (.tmp 0) (.tmp 0) x132 x142 w143) fun x144 w145 => some (x144, w145)) w143) fun x146 w147 =>
  rd (pickV x123 (.bool true) x146) fun x148 =>
  cnd x148 (fun _ => shutK (e 45) w147 fun w149 =>
  some ((.bool false), w149)) (fun _ => evalLoop (cx77 F G) (cdA Go.Proofs.Try.f77 [1, 1, 0, 1, 0, 0]) (K77_2 F G) (upd (upd (upd (upd (upd (upd (upd (upd (upd (upd (upd (upd (upd (upd (upd (upd (upd (upd (upd (upd (upd (upd e 6 x101) 7 x102) 8 x103) 9 x104) 10 x105) 11 x105) 12 x108) 13 x111) 14 x114) 15 x117) 16 x121) 17 x123) 18 x123) 19 x125) 20 x128) 21 x132) 22 x135) 23 x138) 24 x142) 25 x146) 26 x148) 5 (.int .i64 0)) w147)
noncomputable def S77_L2 (F : FnT) (G : RndT) (e : Env) (w0 : World) : R :=
  rd (fldA Pg 83 (e 2) 0) fun x101 =>
  rd (ldV Pg 81 x101 w0) fun x102 =>
  rd2 (lenG false Pg .len #[81] 3 #[false] [x102] w0) fun x103 w104 =>
  rd2 (binG false Pg .lss 3 (.tmp 0) (.tmp 0) (e 5) x103 w104) fun x105 w106 =>
  cnd x105 (fun _ => rd (fldA Pg 83 (e 2) 0) fun x107 =>
  rd (ldV Pg 81 x107 (drw w106)) fun x108 =>
  rd (ixA Pg 81 x108 (e 5)) fun x109 =>
  rd (ldV Pg 3 x109 (drw w106)) fun x110 =>
  rd (fldA Pg 83 (e 3) 0) fun x111 =>
  rd (ldV Pg 81 x111 (drw w106)) fun x112 =>
  rd (ixA Pg 81 x112 (e 5)) fun x113 =>
  rd (ldV Pg 3 x113 (drw w106)) fun x114 =>
  rd2 (binG true Pg .neq 3 (.tmp 0) (.tmp 0) x110 x114 (drw w106)) fun x115 _ =>
  cnd x115 (fun _ => shutK (e 45) (drw w106) fun w117 =>
  some ((.bool false), w117)) (fun _ => rd2 (binG false Pg .add 3 (.tmp 0) (.const .nilFunc) (e 5) (.int .i64 1) (drw w106)) fun x118 w119 =>
  evalLoop (cx77 F G) (cdA Go.Proofs.Try.f77 [1, 1, 0, 1, 0, 0]) (K77_2 F G) (upd (upd (upd (upd (upd (upd (upd (upd (upd (upd (upd (upd (upd (upd (upd (upd (upd (upd (upd e 27 (e 5)) 28 x101) 29 x102) 30 x103) 31 x105) 34 x107) 35 x108) 36 (e 5)) 37 x109) 38 x110) 39 x111) 40 x112) 41 (e 5)) 42 x113) 43 x114) 44 x115) 32 (e 5)) 33 x118) 5 x118) w119)) (fun _ => shutK (e 45) w106 fun w120 =>
  some ((.bool true), w120))
theorem S77_A (F : FnT) (G : RndT) (K : Exit → Env → World → R) (x0 x1 : Value) (w0 : World) : evalCode (cx77 F G) (cdA Go.Proofs.Try.f77 [0]) K (envL [x0, x1]) w0 = (rd2 (rawV Pg (Instr.box 83 x0) w0) fun x3 w4 =>
  rd2 (rawV Pg (Instr.box 83 x1) w4) fun x5 w6 =>
  K .normal (upd (upd (upd (envL [x0, x1]) 2 x3) 3 x5) 4 (.bool false)) w6) := by kernel_rfl
theorem S77_B (F : FnT) (G : RndT) (K : Exit → Env → World → R) (e : Env) (w0 : World) : evalCode (cx77 F G) (cdA Go.Proofs.Try.f77 []) K e w0 = evalCode (cx77 F G) (cdA Go.Proofs.Try.f77 [0]) (thenK (evalCode (cx77 F G) (cdA Go.Proofs.Try.f77 [1]) K) K) e w0 := by kernel_rfl
theorem S77_C (F : FnT) (G : RndT) (x0 x1 : Value) (w0 : World) : (rd2 (rawV Pg (Instr.box 83 x0) w0) fun x3 w4 =>
  rd2 (rawV Pg (Instr.box 83 x1) w4) fun x5 w6 =>
  thenK (evalCode (cx77 F G) (cdA Go.Proofs.Try.f77 [1]) (K77_0 F G)) (K77_0 F G) .normal (upd (upd (upd (envL [x0, x1]) 2 x3) 3 x5) 4 (.bool false)) w6) = S77 F G x0 x1 w0 := by kernel_rfl
theorem S77_D (F : FnT) (G : RndT) : endK Pg Go.Proofs.Try.f77 = (K77_0 F G) := by kernel_rfl
theorem S77_eq (F : FnT) (G : RndT) (x0 x1 : Value) (w0 : World) : evalCode (cx77 F G) (cdA Go.Proofs.Try.f77 []) (endK Pg Go.Proofs.Try.f77) (envL [x0, x1]) w0 = S77 F G x0 x1 w0 := by
  rw [S77_D F G]
  exact (S77_B F G (K77_0 F G) (envL [x0, x1]) w0).trans ((S77_A F G _ x0 x1 w0).trans (S77_C F G x0 x1 w0))
theorem F77 (x0 x1 : Value) (w0 : World) : Fn Pg 77 [x0, x1] w0 = S77 (Fn Pg) (Rnd Pg) x0 x1 w0 := (Fn_body (c := cdA Go.Proofs.Try.f77 []) Go.Proofs.Try.func77 (by kernel_rfl) (by kernel_rfl) [x0, x1] w0 (Nat.le_of_ble_eq_true (by kernel_rfl))).trans (S77_eq _ _ x0 x1 w0)
theorem S77_J1_eq (F : FnT) (G : RndT) (e : Env) (w0 : World) : evalCode (cx77 F G) (cdA Go.Proofs.Try.f77 [1]) (K77_0 F G) e w0 = S77_J1 F G e w0 := by kernel_rfl
theorem S77_L2_eq (F : FnT) (G : RndT) (e : Env) (w0 : World) : evalLoop (cx77 F G) (cdA Go.Proofs.Try.f77 [1, 1, 0, 1, 0, 0]) (K77_2 F G) e w0 = S77_L2 F G e w0 := by
  rw [evalLoop_eq]
  kernel_rfl

-- 78 (*ciborium/tree.Tree[[]ciborium/api.Version]).Copy
noncomputable def cx78 (F : FnT) (G : RndT) : Ctx := ⟨Pg, F, G, 78, none, 16⟩
noncomputable def S78 (F : FnT) (G : RndT) (x0 : Value) (w0 : World) : R :=
  rd2 (F 94 [x0] w0) fun x2 w3 =>
  cnd x2 (fun _ => some ((.pointer none), w3)) (fun _ => rd (nilV x0) fun x4 =>
  rd (fldA Pg 154 x4 0) fun x5 =>
  rd (ldV Pg 148 x5 (drw w3)) fun x6 =>
  rd2 (F 109 [x6] (drw w3)) fun x7 w8 =>
  rd (nilV x0) fun x9 =>
  rd (fldA Pg 154 x9 1) fun x10 =>
  rd (ldV Pg 3 x10 w8) fun x11 =>
  chk (holdsAt Pg none (.ld 3) x10 x11 (drw w3)) fun _ =>
  rd (bldV Pg 154 [(0, x7), (1, x11)]) fun x12 =>
  rd2 (rawV Pg (Instr.box 154 x12) w8) fun x13 w14 =>
  some (x13, w14))
theorem S78_eq (F : FnT) (G : RndT) (x0 : Value) (w0 : World) : evalCode (cx78 F G) (cdA Go.Proofs.Try.f78 []) (endK Pg Go.Proofs.Try.f78) (envL [x0]) w0 = S78 F G x0 w0 := by kernel_rfl
theorem F78 (x0 : Value) (w0 : World) : Fn Pg 78 [x0] w0 = S78 (Fn Pg) (Rnd Pg) x0 w0 := (Fn_body (c := cdA Go.Proofs.Try.f78 []) Go.Proofs.Try.func78 (by kernel_rfl) (by kernel_rfl) [x0] w0 (Nat.le_of_ble_eq_true (by kernel_rfl))).trans (S78_eq _ _ x0 w0)

-- 79 ciborium/chain.At
noncomputable def cx79 (F : FnT) (G : RndT) : Ctx := ⟨Pg, F, G, 79, none, 24⟩
noncomputable def S79 (F : FnT) (G : RndT) (x0 x1 : Value) (w0 : World) : R :=
  rd2 (rawV Pg (Instr.alloc 85 true (.tuple #[])) w0) fun x3 w4 =>
  rd2 (F 101 [x0] w4) fun x5 w6 =>
  rd (unV .not x5) fun x7 =>
  cnd x7 (fun _ => rd (bldV Pg 85 []) fun x8 =>
  rd2 (rawU Pg (Instr.storeAt 85 x3 x8) w6) fun x10 w9 =>
  rd (ldV Pg 85 x3 w9) fun x11 =>
  some ((.tuple #[x11, (.bool false)]), w9)) (fun _ => rd2 (F 102 [x0, x1] w6) fun x12 w13 =>
  rd2 (lenG false Pg .len #[76] 3 #[false] [x0] w13) fun x14 w15 =>
  rd2 (binG false Pg .eql 3 (.tmp 0) (.tmp 0) x12 x14 w15) fun x16 w17 =>
  cnd x16 (fun _ => rd (bldV Pg 85 []) fun x18 =>
  rd2 (rawU Pg (Instr.storeAt 85 x3 x18) w17) fun x20 w19 =>
  rd (ldV Pg 85 x3 w19) fun x21 =>
  some ((.tuple #[x21, (.bool false)]), w19)) (fun _ => rd (ixA Pg 76 x0 x12) fun x22 =>
  rd (ldV Pg 85 x22 w17) fun x23 =>
  rd2 (F 104 [x23] w17) fun x24 w25 =>
  rd2 (rawU Pg (Instr.storeAt 85 x3 x24) w25) fun x27 w26 =>
  rd (ldV Pg 85 x3 w26) fun x28 =>
  some ((.tuple #[x28, (.bool true)]), w26)))
theorem S79_eq (F : FnT) (G : RndT) (x0 x1 : Value) (w0 : World) : evalCode (cx79 F G) (cdA Go.Proofs.Try.f79 []) (endK Pg Go.Proofs.Try.f79) (envL [x0, x1]) w0 = S79 F G x0 x1 w0 := by kernel_rfl
theorem F79 (x0 x1 : Value) (w0 : World) : Fn Pg 79 [x0, x1] w0 = S79 (Fn Pg) (Rnd Pg) x0 x1 w0 := (Fn_body (c := cdA Go.Proofs.Try.f79 []) Go.Proofs.Try.func79 (by kernel_rfl) (by kernel_rfl) [x0, x1] w0 (Nat.le_of_ble_eq_true (by kernel_rfl))).trans (S79_eq _ _ x0 x1 w0)

-- 91 ciborium/order.ahead
noncomputable def cx91 (F : FnT) (G : RndT) : Ctx := ⟨Pg, F, G, 91, none, 12⟩
noncomputable def S91 (F : FnT) (G : RndT) (x0 x1 : Value) (w0 : World) : R :=
  rd2 (binG false Pg .eql 9 (.tmp 0) (.const .nilFunc) x1 (.string { data := #[] }) w0) fun x3 w4 =>
  rd2 (gate x3 false (fun _ =>  some (x0, w4)) w4) fun x5 w6 =>
  rd2 (gate x3 false (fun _ =>  some (x1, w6)) w6) fun x7 w8 =>
  rd2 (gate x3 false (fun _ => rd2 (binG false Pg .lss 9 (.tmp 0) (.tmp 0) x5 x7 w8) fun x9 w10 => some (x9, w10)) w8) fun x11 w12 =>
  rd (pickV x3 (.bool true) x11) fun x13 =>
  some (x13, w12)
theorem S91_eq (F : FnT) (G : RndT) (x0 x1 : Value) (w0 : World) : evalCode (cx91 F G) (cdA Go.Proofs.Try.f91 []) (endK Pg Go.Proofs.Try.f91) (envL [x0, x1]) w0 = S91 F G x0 x1 w0 := by kernel_rfl
theorem F91 (x0 x1 : Value) (w0 : World) : Fn Pg 91 [x0, x1] w0 = S91 (Fn Pg) (Rnd Pg) x0 x1 w0 := (Fn_body (c := cdA Go.Proofs.Try.f91 []) Go.Proofs.Try.func91 (by kernel_rfl) (by kernel_rfl) [x0, x1] w0 (Nat.le_of_ble_eq_true (by kernel_rfl))).trans (S91_eq _ _ x0 x1 w0)

-- 92 ciborium/chain.Add
noncomputable def cx92 (F : FnT) (G : RndT) : Ctx := ⟨Pg, F, G, 92, none, 34⟩
noncomputable def K92_0 : FnT → RndT → Exit → Env → World → R := fun _ _ => endK Pg Go.Proofs.Try.f92
noncomputable def K92_1 : FnT → RndT → Exit → Env → World → R := fun F G => thenK (evalCode (cx92 F G) (cdA Go.Proofs.Try.f92 [1, 1, 1, 1]) (K92_0 F G)) (K92_0 F G)
noncomputable def K92_2 : FnT → RndT → Exit → Env → World → R := fun F G => blkK 0 (K92_1 F G)
noncomputable def S92 (F : FnT) (G : RndT) (x0 x1 : Value) (w0 : World) : R :=
  rd2 (rawV Pg (Instr.box 85 x1) w0) fun x3 w4 =>
  rd2 (lenG false Pg .len #[76] 3 #[false] [x0] w4) fun x5 w6 =>
  rd2 (binG false Pg .add 3 (.tmp 0) (.const .nilFunc) x5 (.int .i64 1) w6) fun x7 w8 =>
  rd2 (rawV Pg (Instr.makeSlice 76 (.int .i64 0) x7) w8) fun x9 w10 =>
  rd (ldV Pg 85 x3 w10) fun x11 =>
  rd2 (F 104 [x11] w10) fun x12 w13 =>
  rd2 (rawV Pg (Instr.buildSlice 76 1 #[(0, x12)]) w13) fun x14 w15 =>
  rd2 (lenG false Pg .append #[76, 76] 76 #[false, false] [x9, x14] w15) fun x16 w17 =>
  rd2 (lenG false Pg .len #[76] 3 #[false] [x0] w17) fun x18 w19 =>
  evalLoop (cx92 F G) (cdA Go.Proofs.Try.f92 [1, 1, 1, 0, 1, 0, 0]) (K92_2 F G) (upd (upd (upd (upd (upd (upd (upd (upd (upd (upd (upd (upd (upd (upd (upd (upd (upd (envL [x0, x1]) 3 x3) 4 (.slice none 0 0)) 5 (.int .i64 0)) 9 x0) 10 x5) 11 x7) 12 x9) 6 x9) 13 x9) 14 x11) 15 x12) 16 x14) 17 x16) 6 x16) 18 x0) 19 x18) 20 (.int .i64 0)) w19
noncomputable def S92_L1 (F : FnT) (G : RndT) (e : Env) (w0 : World) : R :=
  rd2 (binG false Pg .lss 3 (.tmp 0) (.tmp 0) (e 20) (e 19) w0) fun x101 w102 =>
  cnd x101 (fun _ => rd (ixA Pg 76 (e 18) (e 20)) fun x103 =>
  rd (ldV Pg 85 x103 w102) fun x104 =>
  rd2 (rawV Pg (Instr.alloc 85 true (.tuple #[])) w102) fun x105 w106 =>
  rd2 (rawU Pg (Instr.storeAt 85 x105 x104) w106) fun x108 w107 =>
  rd (ldV Pg 85 x105 w107) fun x109 =>
  rd2 (F 104 [x109] w107) fun x110 w111 =>
  rd2 (rawV Pg (Instr.buildSlice 76 1 #[(0, x110)]) w111) fun x112 w113 =>
  rd2 (lenG false Pg .append #[76, 76] 76 #[false, false] [(e 6), x112] w113) fun x114 w115 =>
  rd2 (binG false Pg .add 3 (.tmp 0) (.const .nilFunc) (e 20) (.int .i64 1) w115) fun x116 w117 =>
  evalLoop (cx92 F G) (cdA Go.Proofs.Try.f92 [1, 1, 1, 0, 1, 0, 0]) (K92_2 F G) (upd (upd (upd (upd (upd (upd (upd (upd (upd (upd (upd (upd e 21 x101) 22 x103) 23 x104) 8 x105) 24 (e 6)) 25 x109) 26 x110) 27 x112) 28 x114) 6 x114) 29 x116) 20 x116) w117) (fun _ => rd2 (F 101 [(e 6)] w102) fun x118 w119 =>
  rd (unV .not x118) fun x120 =>
  cnd x120 (fun _ => shutK (e 34) w119 fun w121 =>
  some ((.tuple #[(.slice none 0 0), (.int .i64 2)]), w121)) (fun _ => shutK (e 34) w119 fun w122 =>
  some ((.tuple #[(e 6), (.int .i64 0)]), w122)))
theorem S92_eq (F : FnT) (G : RndT) (x0 x1 : Value) (w0 : World) : evalCode (cx92 F G) (cdA Go.Proofs.Try.f92 []) (endK Pg Go.Proofs.Try.f92) (envL [x0, x1]) w0 = S92 F G x0 x1 w0 := by kernel_rfl
theorem F92 (x0 x1 : Value) (w0 : World) : Fn Pg 92 [x0, x1] w0 = S92 (Fn Pg) (Rnd Pg) x0 x1 w0 := (Fn_body (c := cdA Go.Proofs.Try.f92 []) Go.Proofs.Try.func92 (by kernel_rfl) (by kernel_rfl) [x0, x1] w0 (Nat.le_of_ble_eq_true (by kernel_rfl))).trans (S92_eq _ _ x0 x1 w0)
theorem S92_L1_eq (F : FnT) (G : RndT) (e : Env) (w0 : World) : evalLoop (cx92 F G) (cdA Go.Proofs.Try.f92 [1, 1, 1, 0, 1, 0, 0]) (K92_2 F G) e w0 = S92_L1 F G e w0 := by
  rw [evalLoop_eq]
  kernel_rfl

-- 93 ciborium/order.Right
noncomputable def cx93 (F : FnT) (G : RndT) : Ctx := ⟨Pg, F, G, 93, none, 11⟩
noncomputable def S93 (F : FnT) (G : RndT) (x0 : Value) (w0 : World) : R :=
  rd2 (lenG false Pg .len #[9] 3 #[false] [x0] w0) fun x2 w3 =>
  rd2 (binG false Pg .gtr 3 (.tmp 0) (.const .nilFunc) x2 (.int .i64 0) w3) fun x4 w5 =>
  rd2 (gate x4 true (fun _ =>  some (x0, w5)) w5) fun x6 w7 =>
  rd2 (gate x4 true (fun _ => rd2 (lenG false Pg .len #[9] 3 #[false] [x6] w7) fun x8 w9 => some (x8, w9)) w7) fun x10 w11 =>
  rd2 (gate x4 true (fun _ => rd2 (binG false Pg .leq 3 (.tmp 0) (.const .nilFunc) x10 (.int .i64 16) w11) fun x12 w13 => some (x12, w13)) w11) fun x14 w15 =>
  rd (pickV x4 x14 (.bool false)) fun x16 =>
  some (x16, w15)
theorem S93_eq (F : FnT) (G : RndT) (x0 : Value) (w0 : World) : evalCode (cx93 F G) (cdA Go.Proofs.Try.f93 []) (endK Pg Go.Proofs.Try.f93) (envL [x0]) w0 = S93 F G x0 w0 := by kernel_rfl
theorem F93 (x0 : Value) (w0 : World) : Fn Pg 93 [x0] w0 = S93 (Fn Pg) (Rnd Pg) x0 w0 := (Fn_body (c := cdA Go.Proofs.Try.f93 []) Go.Proofs.Try.func93 (by kernel_rfl) (by kernel_rfl) [x0] w0 (Nat.le_of_ble_eq_true (by kernel_rfl))).trans (S93_eq _ _ x0 w0)

-- 94 (*ciborium/tree.Tree[[]ciborium/api.Version]).none
noncomputable def cx94 (F : FnT) (G : RndT) : Ctx := ⟨Pg, F, G, 94, none, 12⟩
noncomputable def S94 (F : FnT) (G : RndT) (x0 : Value) (w0 : World) : R :=
  rd2 (binG false Pg .eql 93 (.tmp 0) (.const .nilFunc) x0 (.pointer none) w0) fun x2 w3 =>
  rd2 (gate x2 false (fun _ =>  some (x0, w3)) w3) fun x4 w5 =>
  rd2 (gate x2 false (fun _ => rd (nilV x4) fun x6 => some (x6, w5)) w5) fun x7 w8 =>
  rd2 (gate x2 false (fun _ => rd (fldA Pg 154 x7 0) fun x9 => some (x9, w8)) w8) fun x10 w11 =>
  rd2 (gate x2 false (fun _ => rd (ldV Pg 148 x10 w11) fun x12 => some (x12, w11)) w11) fun x13 w14 =>
  rd2 (gate x2 false (fun _ => rd2 (binG false Pg .eql 148 (.tmp 0) (.const .nilFunc) x13 (.pointer none) w14) fun x15 w16 => some (x15, w16)) w14) fun x17 w18 =>
  rd (pickV x2 (.bool true) x17) fun x19 =>
  some (x19, w18)
theorem S94_eq (F : FnT) (G : RndT) (x0 : Value) (w0 : World) : evalCode (cx94 F G) (cdA Go.Proofs.Try.f94 []) (endK Pg Go.Proofs.Try.f94) (envL [x0]) w0 = S94 F G x0 w0 := by kernel_rfl
theorem F94 (x0 : Value) (w0 : World) : Fn Pg 94 [x0] w0 = S94 (Fn Pg) (Rnd Pg) x0 w0 := (Fn_body (c := cdA Go.Proofs.Try.f94 []) Go.Proofs.Try.func94 (by kernel_rfl) (by kernel_rfl) [x0] w0 (Nat.le_of_ble_eq_true (by kernel_rfl))).trans (S94_eq _ _ x0 w0)

-- 95 (*ciborium/tree.Tree[[]ciborium/api.Version]).seek
noncomputable def cx95 (F : FnT) (G : RndT) : Ctx := ⟨Pg, F, G, 95, none, 36⟩
noncomputable def K95_0 : FnT → RndT → Exit → Env → World → R := fun _ _ => endK Pg Go.Proofs.Try.f95
noncomputable def K95_1 : FnT → RndT → Exit → Env → World → R := fun F G => blkK 0 (K95_0 F G)
noncomputable def S95 (F : FnT) (G : RndT) (x0 x1 : Value) (w0 : World) : R :=
  rd (nilV x0) fun x3 =>
  rd (fldA Pg 154 x3 0) fun x4 =>
  rd (ldV Pg 148 x4 w0) fun x5 =>
  evalLoop (cx95 F G) (cdA Go.Proofs.Try.f95 [1, 1, 0, 0]) (K95_1 F G) (upd (upd (upd (upd (upd (upd (envL [x0, x1]) 4 (.pointer none)) 8 x0) 9 x3) 10 x4) 11 x5) 5 x5) w0
noncomputable def S95_L1 (F : FnT) (G : RndT) (e : Env) (w0 : World) : R :=
  rd2 (F 116 [(e 5), (e 1)] w0) fun x101 w102 =>
  rd (extV x101 0) fun x103 =>
  rd (extV x101 1) fun x104 =>
  cnd x104 (fun _ => rd (nilV (e 5)) fun x105 =>
  rd (fldA Pg 152 x105 0) fun x106 =>
  rd (ldV Pg 149 x106 w102) fun x107 =>
  rd (ixA Pg 149 x107 x103) fun x108 =>
  shutK (e 36) w102 fun w109 =>
  some (x108, w109)) (fun _ => rd2 (F 108 [(e 5)] w102) fun x110 w111 =>
  cnd x110 (fun _ => shutK (e 36) w111 fun w112 =>
  some ((.pointer none), w112)) (fun _ => rd (nilV (e 5)) fun x113 =>
  rd (fldA Pg 152 x113 1) fun x114 =>
  rd (ldV Pg 150 x114 w111) fun x115 =>
  rd (ixA Pg 150 x115 x103) fun x116 =>
  rd (ldV Pg 148 x116 w111) fun x117 =>
  evalLoop (cx95 F G) (cdA Go.Proofs.Try.f95 [1, 1, 0, 0]) (K95_1 F G) (upd (upd (upd (upd (upd (upd (upd (upd (upd (upd (upd (upd (upd (upd (upd (upd (upd (upd (upd (upd (upd e 13 (e 5)) 14 (e 1)) 15 x101) 12 x101) 16 x103) 17 x104) 6 x103) 7 x104) 19 x104) 18 x104) 27 (e 5)) 28 x110) 26 x110) 29 (e 5)) 30 x113) 31 x114) 32 x115) 33 x103) 34 x116) 35 x117) 5 x117) w111))
theorem S95_eq (F : FnT) (G : RndT) (x0 x1 : Value) (w0 : World) : evalCode (cx95 F G) (cdA Go.Proofs.Try.f95 []) (endK Pg Go.Proofs.Try.f95) (envL [x0, x1]) w0 = S95 F G x0 x1 w0 := by kernel_rfl
theorem F95 (x0 x1 : Value) (w0 : World) : Fn Pg 95 [x0, x1] w0 = S95 (Fn Pg) (Rnd Pg) x0 x1 w0 := (Fn_body (c := cdA Go.Proofs.Try.f95 []) Go.Proofs.Try.func95 (by kernel_rfl) (by kernel_rfl) [x0, x1] w0 (Nat.le_of_ble_eq_true (by kernel_rfl))).trans (S95_eq _ _ x0 x1 w0)
theorem S95_L1_eq (F : FnT) (G : RndT) (e : Env) (w0 : World) : evalLoop (cx95 F G) (cdA Go.Proofs.Try.f95 [1, 1, 0, 0]) (K95_1 F G) e w0 = S95_L1 F G e w0 := by
  rw [evalLoop_eq]
  kernel_rfl

-- 96 (*ciborium/tree.node[[]ciborium/api.Version]).full
noncomputable def cx96 (F : FnT) (G : RndT) : Ctx := ⟨Pg, F, G, 96, none, 9⟩
noncomputable def S96 (F : FnT) (G : RndT) (x0 : Value) (w0 : World) : R :=
  rd (nilV x0) fun x2 =>
  rd (fldA Pg 152 x2 0) fun x3 =>
  rd (ldV Pg 149 x3 w0) fun x4 =>
  rd2 (lenG false Pg .len #[149] 3 #[false] [x4] w0) fun x5 w6 =>
  rd2 (binG false Pg .eql 3 (.tmp 0) (.const .nilFunc) x5 (.int .i64 5) w6) fun x7 w8 =>
  some (x7, w8)
theorem S96_eq (F : FnT) (G : RndT) (x0 : Value) (w0 : World) : evalCode (cx96 F G) (cdA Go.Proofs.Try.f96 []) (endK Pg Go.Proofs.Try.f96) (envL [x0]) w0 = S96 F G x0 w0 := by kernel_rfl
theorem F96 (x0 : Value) (w0 : World) : Fn Pg 96 [x0] w0 = S96 (Fn Pg) (Rnd Pg) x0 w0 := (Fn_body (c := cdA Go.Proofs.Try.f96 []) Go.Proofs.Try.func96 (by kernel_rfl) (by kernel_rfl) [x0] w0 (Nat.le_of_ble_eq_true (by kernel_rfl))).trans (S96_eq _ _ x0 w0)

-- 97 (*ciborium/tree.node[[]ciborium/api.Version]).split
noncomputable def cx97 (F : FnT) (G : RndT) : Ctx := ⟨Pg, F, G, 97, none, 79⟩
noncomputable def S97 (F : FnT) (G : RndT) (x0 x1 : Value) (w0 : World) : R :=
  rd (nilV x0) fun x3 =>
  rd (fldA Pg 152 x3 1) fun x4 =>
  rd (ldV Pg 150 x4 w0) fun x5 =>
  rd (ixA Pg 150 x5 x1) fun x6 =>
  rd (ldV Pg 148 x6 w0) fun x7 =>
  rd (nilV x7) fun x8 =>
  rd (fldA Pg 152 x8 0) fun x9 =>
  rd (ldV Pg 149 x9 w0) fun x10 =>
  rd (slV Pg 149 x10 (some (.int .i64 3)) none none) fun x11 =>
  rd2 (F 117 [x11] w0) fun x12 w13 =>
  rd (bldV Pg 152 [(0, x12)]) fun x14 =>
  rd2 (rawV Pg (Instr.box 152 x14) w13) fun x15 w16 =>
  rd2 (F 108 [x7] w16) fun x17 w18 =>
  rd (unV .not x17) fun x19 =>
  cnd x19 (fun _ => rd (nilV x7) fun x20 =>
  rd (fldA Pg 152 x20 1) fun x21 =>
  rd (ldV Pg 150 x21 w18) fun x22 =>
  rd (slV Pg 150 x22 (some (.int .i64 3)) none none) fun x23 =>
  rd2 (F 118 [x23] w18) fun x24 w25 =>
  rd (nilV x15) fun x26 =>
  rd (fldA Pg 152 x26 1) fun x27 =>
  rd2 (rawU Pg (Instr.storeAt 150 x27 x24) w25) fun x29 w28 =>
  rd (nilV x7) fun x30 =>
  rd (fldA Pg 152 x30 1) fun x31 =>
  rd (ldV Pg 150 x31 w28) fun x32 =>
  rd (slV Pg 150 x32 none (some (.int .i64 3)) none) fun x33 =>
  rd2 (F 118 [x33] w28) fun x34 w35 =>
  rd (nilV x7) fun x36 =>
  rd (fldA Pg 152 x36 1) fun x37 =>
  rd2 (rawU Pg (Instr.storeAt 150 x37 x34) w35) fun x39 w38 =>
  rd (nilV x0) fun x40 =>
  rd (fldA Pg 152 x40 0) fun x41 =>
  rd (ldV Pg 149 x41 (drw w38)) fun x42 =>
  rd (nilV x7) fun x43 =>
  rd (fldA Pg 152 x43 0) fun x44 =>
  rd (ldV Pg 149 x44 (drw w38)) fun x45 =>
  rd (ixA Pg 149 x45 (.int .i64 2)) fun x46 =>
  rd (ldV Pg 160 x46 (drw w38)) fun x47 =>
  rd2 (rawV Pg (Instr.buildSlice 149 1 #[(0, x47)]) (drw w38)) fun x48 w49 =>
  rd2 (F 119 [x42, x1, x48] w49) fun x50 w51 =>
  rd (nilV x0) fun x52 =>
  rd (fldA Pg 152 x52 0) fun x53 =>
  rd2 (rawU Pg (Instr.storeAt 149 x53 x50) w51) fun x55 w54 =>
  rd (nilV x0) fun x56 =>
  rd (fldA Pg 152 x56 1) fun x57 =>
  rd (ldV Pg 150 x57 w54) fun x58 =>
  rd2 (binG false Pg .add 3 (.tmp 0) (.const .nilFunc) x1 (.int .i64 1) w54) fun x59 w60 =>
  rd2 (rawV Pg (Instr.buildSlice 150 1 #[(0, x15)]) w60) fun x61 w62 =>
  rd2 (F 120 [x58, x59, x61] w62) fun x63 w64 =>
  rd (nilV x0) fun x65 =>
  rd (fldA Pg 152 x65 1) fun x66 =>
  rd2 (rawU Pg (Instr.storeAt 150 x66 x63) w64) fun x68 w67 =>
  rd (nilV x7) fun x69 =>
  rd (fldA Pg 152 x69 0) fun x70 =>
  rd (ldV Pg 149 x70 w67) fun x71 =>
  rd (slV Pg 149 x71 none (some (.int .i64 2)) none) fun x72 =>
  rd2 (F 117 [x72] w67) fun x73 w74 =>
  rd (nilV x7) fun x75 =>
  rd (fldA Pg 152 x75 0) fun x76 =>
  rd2 (rawU Pg (Instr.storeAt 149 x76 x73) w74) fun x78 w77 =>
  some ((.tuple #[]), w77)) (fun _ => rd (nilV x0) fun x79 =>
  rd (fldA Pg 152 x79 0) fun x80 =>
  rd (ldV Pg 149 x80 (drw w18)) fun x81 =>
  rd (nilV x7) fun x82 =>
  rd (fldA Pg 152 x82 0) fun x83 =>
  rd (ldV Pg 149 x83 (drw w18)) fun x84 =>
  rd (ixA Pg 149 x84 (.int .i64 2)) fun x85 =>
  rd (ldV Pg 160 x85 (drw w18)) fun x86 =>
  rd2 (rawV Pg (Instr.buildSlice 149 1 #[(0, x86)]) (drw w18)) fun x87 w88 =>
  rd2 (F 119 [x81, x1, x87] w88) fun x89 w90 =>
  rd (nilV x0) fun x91 =>
  rd (fldA Pg 152 x91 0) fun x92 =>
  rd2 (rawU Pg (Instr.storeAt 149 x92 x89) w90) fun x94 w93 =>
  rd (nilV x0) fun x95 =>
  rd (fldA Pg 152 x95 1) fun x96 =>
  rd (ldV Pg 150 x96 w93) fun x97 =>
  rd2 (binG false Pg .add 3 (.tmp 0) (.const .nilFunc) x1 (.int .i64 1) w93) fun x98 w99 =>
  rd2 (rawV Pg (Instr.buildSlice 150 1 #[(0, x15)]) w99) fun x100 w101 =>
  rd2 (F 120 [x97, x98, x100] w101) fun x102 w103 =>
  rd (nilV x0) fun x104 =>
  rd (fldA Pg 152 x104 1) fun x105 =>
  rd2 (rawU Pg (Instr.storeAt 150 x105 x102) w103) fun x107 w106 =>
  rd (nilV x7) fun x108 =>
  rd (fldA Pg 152 x108 0) fun x109 =>
  rd (ldV Pg 149 x109 w106) fun x110 =>
  rd (slV Pg 149 x110 none (some (.int .i64 2)) none) fun x111 =>
  rd2 (F 117 [x111] w106) fun x112 w113 =>
  rd (nilV x7) fun x114 =>
  rd (fldA Pg 152 x114 0) fun x115 =>
  rd2 (rawU Pg (Instr.storeAt 149 x115 x112) w113) fun x117 w116 =>
  some ((.tuple #[]), w116))
theorem S97_eq (F : FnT) (G : RndT) (x0 x1 : Value) (w0 : World) : evalCode (cx97 F G) (cdA Go.Proofs.Try.f97 []) (endK Pg Go.Proofs.Try.f97) (envL [x0, x1]) w0 = S97 F G x0 x1 w0 := by kernel_rfl
theorem F97 (x0 x1 : Value) (w0 : World) : Fn Pg 97 [x0, x1] w0 = S97 (Fn Pg) (Rnd Pg) x0 x1 w0 := (Fn_body (c := cdA Go.Proofs.Try.f97 []) Go.Proofs.Try.func97 (by kernel_rfl) (by kernel_rfl) [x0, x1] w0 (Nat.le_of_ble_eq_true (by kernel_rfl))).trans (S97_eq _ _ x0 x1 w0)

-- 98 (*ciborium/tree.node[[]ciborium/api.Version]).insert
noncomputable def cx98 (F : FnT) (G : RndT) : Ctx := ⟨Pg, F, G, 98, none, 57⟩
noncomputable def K98_0 : FnT → RndT → Exit → Env → World → R := fun _ _ => endK Pg Go.Proofs.Try.f98
noncomputable def K98_1 : FnT → RndT → Exit → Env → World → R := fun F G => blkK 0 (K98_0 F G)
noncomputable def S98 (F : FnT) (G : RndT) (x0 x1 : Value) (w0 : World) : R :=
  rd2 (rawV Pg (Instr.box 160 x1) w0) fun x3 w4 =>
  evalLoop (cx98 F G) (cdA Go.Proofs.Try.f98 [1, 0, 0]) (K98_1 F G) (upd (envL [x0, x1]) 3 x3) w4
noncomputable def S98_L1 (F : FnT) (G : RndT) (e : Env) (w0 : World) : R :=
  rd (fldA Pg 160 (e 3) 0) fun x101 =>
  rd (ldV Pg 9 x101 w0) fun x102 =>
  rd2 (F 116 [(e 0), x102] w0) fun x103 w104 =>
  rd (extV x103 0) fun x105 =>
  rd (extV x103 1) fun x106 =>
  rd2 (F 108 [(e 0)] w104) fun x107 w108 =>
  cnd x107 (fun _ => rd (nilV (e 0)) fun x109 =>
  rd (fldA Pg 152 x109 0) fun x110 =>
  rd (ldV Pg 149 x110 (drw w108)) fun x111 =>
  rd (ldV Pg 160 (e 3) (drw w108)) fun x112 =>
  rd2 (rawV Pg (Instr.buildSlice 149 1 #[(0, x112)]) (drw w108)) fun x113 w114 =>
  rd2 (F 119 [x111, x105, x113] w114) fun x115 w116 =>
  rd (nilV (e 0)) fun x117 =>
  rd (fldA Pg 152 x117 0) fun x118 =>
  rd2 (rawU Pg (Instr.storeAt 149 x118 x115) w116) fun x120 w119 =>
  shutK (e 57) w119 fun w121 =>
  some ((.tuple #[]), w121)) (fun _ => rd (nilV (e 0)) fun x122 =>
  rd (fldA Pg 152 x122 1) fun x123 =>
  rd (ldV Pg 150 x123 w108) fun x124 =>
  rd (ixA Pg 150 x124 x105) fun x125 =>
  rd (ldV Pg 148 x125 w108) fun x126 =>
  rd2 (F 96 [x126] w108) fun x127 w128 =>
  cnd x127 (fun _ => rd2 (F 97 [(e 0), x105] w128) fun x129 w130 =>
  rd (nilV (e 0)) fun x131 =>
  rd (fldA Pg 152 x131 0) fun x132 =>
  rd (ldV Pg 149 x132 (drw w130)) fun x133 =>
  rd (ixA Pg 149 x133 x105) fun x134 =>
  rd (fldA Pg 160 x134 0) fun x135 =>
  rd (ldV Pg 9 x135 (drw w130)) fun x136 =>
  rd (fldA Pg 160 (e 3) 0) fun x137 =>
  rd (ldV Pg 9 x137 (drw w130)) fun x138 =>
  rd2 (binG true Pg .lss 9 (.tmp 0) (.tmp 0) x136 x138 (drw w130)) fun x139 _ =>
  cnd x139 (fun _ => rd2 (binG false Pg .add 3 (.tmp 0) (.const .nilFunc) x105 (.int .i64 1) (drw w130)) fun x141 w142 =>
  rd (nilV (e 0)) fun x143 =>
  rd (fldA Pg 152 x143 1) fun x144 =>
  rd (ldV Pg 150 x144 w142) fun x145 =>
  rd (ixA Pg 150 x145 x141) fun x146 =>
  rd (ldV Pg 148 x146 w142) fun x147 =>
  evalLoop (cx98 F G) (cdA Go.Proofs.Try.f98 [1, 0, 0]) (K98_1 F G) (upd (upd (upd (upd (upd (upd (upd (upd (upd (upd (upd (upd (upd (upd (upd (upd (upd (upd (upd (upd (upd (upd (upd (upd (upd (upd (upd (upd (upd (upd (upd (upd (upd (upd (upd (upd (upd (upd (upd (upd (upd (upd (upd (upd e 7 (e 0)) 8 x101) 9 x102) 10 x103) 6 x103) 11 x105) 12 x106) 4 x105) 5 x106) 13 (e 0)) 14 x107) 26 (e 0)) 27 x122) 28 x123) 29 x124) 30 x105) 31 x125) 32 x126) 33 x127) 34 (e 0)) 35 x105) 36 x129) 37 (e 0)) 38 x131) 39 x132) 40 x133) 41 x105) 42 x134) 43 x135) 44 x136) 45 x137) 46 x138) 47 x139) 48 x105) 49 x141) 4 x141) 50 (e 0)) 51 x143) 52 x144) 53 x145) 54 x141) 55 x146) 56 x147) 0 x147) w142) (fun _ => rd (nilV (e 0)) fun x148 =>
  rd (fldA Pg 152 x148 1) fun x149 =>
  rd (ldV Pg 150 x149 (drw w130)) fun x150 =>
  rd (ixA Pg 150 x150 x105) fun x151 =>
  rd (ldV Pg 148 x151 (drw w130)) fun x152 =>
  evalLoop (cx98 F G) (cdA Go.Proofs.Try.f98 [1, 0, 0]) (K98_1 F G) (upd (upd (upd (upd (upd (upd (upd (upd (upd (upd (upd (upd (upd (upd (upd (upd (upd (upd (upd (upd (upd (upd (upd (upd (upd (upd (upd (upd (upd (upd (upd (upd (upd (upd (upd (upd (upd (upd (upd (upd (upd e 7 (e 0)) 8 x101) 9 x102) 10 x103) 6 x103) 11 x105) 12 x106) 4 x105) 5 x106) 13 (e 0)) 14 x107) 26 (e 0)) 27 x122) 28 x123) 29 x124) 30 x105) 31 x125) 32 x126) 33 x127) 34 (e 0)) 35 x105) 36 x129) 37 (e 0)) 38 x131) 39 x132) 40 x133) 41 x105) 42 x134) 43 x135) 44 x136) 45 x137) 46 x138) 47 x139) 50 (e 0)) 51 x148) 52 x149) 53 x150) 54 x105) 55 x151) 56 x152) 0 x152) (drw w130))) (fun _ => rd (nilV (e 0)) fun x153 =>
  rd (fldA Pg 152 x153 1) fun x154 =>
  rd (ldV Pg 150 x154 w128) fun x155 =>
  rd (ixA Pg 150 x155 x105) fun x156 =>
  rd (ldV Pg 148 x156 w128) fun x157 =>
  evalLoop (cx98 F G) (cdA Go.Proofs.Try.f98 [1, 0, 0]) (K98_1 F G) (upd (upd (upd (upd (upd (upd (upd (upd (upd (upd (upd (upd (upd (upd (upd (upd (upd (upd (upd (upd (upd (upd (upd (upd (upd (upd (upd e 7 (e 0)) 8 x101) 9 x102) 10 x103) 6 x103) 11 x105) 12 x106) 4 x105) 5 x106) 13 (e 0)) 14 x107) 26 (e 0)) 27 x122) 28 x123) 29 x124) 30 x105) 31 x125) 32 x126) 33 x127) 50 (e 0)) 51 x153) 52 x154) 53 x155) 54 x105) 55 x156) 56 x157) 0 x157) w128))
theorem S98_eq (F : FnT) (G : RndT) (x0 x1 : Value) (w0 : World) : evalCode (cx98 F G) (cdA Go.Proofs.Try.f98 []) (endK Pg Go.Proofs.Try.f98) (envL [x0, x1]) w0 = S98 F G x0 x1 w0 := by kernel_rfl
theorem F98 (x0 x1 : Value) (w0 : World) : Fn Pg 98 [x0, x1] w0 = S98 (Fn Pg) (Rnd Pg) x0 x1 w0 := (Fn_body (c := cdA Go.Proofs.Try.f98 []) Go.Proofs.Try.func98 (by kernel_rfl) (by kernel_rfl) [x0, x1] w0 (Nat.le_of_ble_eq_true (by kernel_rfl))).trans (S98_eq _ _ x0 x1 w0)
theorem S98_L1_eq (F : FnT) (G : RndT) (e : Env) (w0 : World) : evalLoop (cx98 F G) (cdA Go.Proofs.Try.f98 [1, 0, 0]) (K98_1 F G) e w0 = S98_L1 F G e w0 := by
  rw [evalLoop_eq]
  kernel_rfl

-- 99 (*ciborium/tree.Tree[[]ciborium/api.Version]).Walk
noncomputable def rx99 (l : Nat) (F : FnT) (G : RndT) : Ctx := ⟨Pg, F, G, 99, some l, 30⟩
noncomputable def cx99 (F : FnT) (G : RndT) : Ctx := ⟨Pg, F, G, 99, none, 30⟩
noncomputable def K99_0 : FnT → RndT → Exit → Env → World → R := fun _ _ => endK Pg Go.Proofs.Try.f99
noncomputable def K99_1 : FnT → RndT → Exit → Env → World → R := fun F G => thenK (evalCode (cx99 F G) (cdA Go.Proofs.Try.f99 [1, 1, 1]) (K99_0 F G)) (K99_0 F G)
noncomputable def K99_2 : FnT → RndT → Exit → Env → World → R := fun F G => blkK 0 (K99_1 F G)
noncomputable def S99 (F : FnT) (G : RndT) (x0 x1 x2 : Value) (w0 : World) : R :=
  rd2 (rawV Pg (Instr.box 36 x1) w0) fun x4 w5 =>
  rd2 (rawV Pg (Instr.box 3 x2) w5) fun x6 w7 =>
  rd2 (rawV Pg (Instr.alloc 149 true (.tuple #[])) w7) fun x8 w9 =>
  rd (fldA Pg 36 x4 0) fun x10 =>
  rd (ldV Pg 9 x10 w9) fun x11 =>
  rd2 (F 105 [x0, x11] w9) fun x12 w13 =>
  rngR (cx99 F G) x12 #[13] (cdA Go.Proofs.Try.f99 [1, 1, 0, 1, 0, 0]) (cdA Go.Proofs.Try.f99 [1, 1, 0, 1, 0, 1]) (K99_2 F G) (upd (upd (upd (upd (upd (upd (upd (upd (envL [x0, x1, x2]) 4 x4) 5 x6) 6 (.slice none 0 0)) 7 x8) 9 x0) 10 x10) 11 x11) 12 x12) w13
noncomputable def S99_N1 (F : FnT) (G : RndT) (e : Env) (w0 : World) : R :=
  rd (ldV Pg 149 (e 7) w0) fun x101 =>
  shutK (e 30) w0 fun w102 =>
  some (x101, w102)
noncomputable def S99_T1 (F : FnT) (G : RndT) (e : Env) (w0 : World) : R :=
  shutK (e 30) w0 fun w101 =>
  some ((e 6), w101)
noncomputable def S99_X0_1 (F : FnT) (G : RndT) (e : Env) (w0 : World) : R :=
  rd (ldV Pg 149 (e 7) w0) fun x101 =>
  shutK (e 30) w0 fun w102 =>
  some (x101, w102)
noncomputable def S99_R1 (F : FnT) (G : RndT) (l : Nat) (e : Env) (w0 : World) : R :=
  rd2 (rawV Pg (Instr.alloc 160 true (.tuple #[])) w0) fun x101 w102 =>
  rd2 (rawU Pg (Instr.storeAt 160 x101 (e 13)) w102) fun x104 w103 =>
  begR l w103 fun w105 =>
  rd (ldV Pg 149 (e 7) w105) fun x106 =>
  rd2 (lenG false Pg .len #[149] 3 #[false] [x106] w105) fun x107 w108 =>
  rd (ldV Pg 3 (e 5) w108) fun x109 =>
  rd2 (binG false Pg .geq 3 (.tmp 0) (.tmp 0) x107 x109 w108) fun x110 w111 =>
  rd2 (gate x110 false (fun _ => rd (ldV Pg 36 (e 4) w111) fun x112 => some (x112, w111)) w111) fun x113 w114 =>
  rd2 (gate x110 false (fun _ => rd (fldA Pg 160 x101 0) fun x115 => some (x115, w114)) w114) fun x116 w117 =>
  rd2 (gate x110 false (fun _ => rd (ldV Pg 9 x116 w117) fun x118 => some (x118, w117)) w117) fun x119 w120 =>
  rd2 (gate x110 false (fun _ => rd2 (F 53 [x113, x119] w120) fun x121 w122 => some (x121, w122)) w120) fun x123 w124 =>
  rd2 (gate x110 false (fun _ => rd (unV .not x123) fun x125 => some (x125, w124)) w124) fun x126 w127 =>
  rd (pickV x110 (.bool true) x126) fun x128 =>
  cnd x128 (fun _ => finR l (some (.exit 0)) w127) (fun _ => rd (ldV Pg 149 (e 7) w127) fun x129 =>
  rd (ldV Pg 160 x101 w127) fun x130 =>
  rd2 (rawV Pg (Instr.buildSlice 149 1 #[(0, x130)]) w127) fun x131 w132 =>
  rd2 (lenG false Pg .append #[149, 149] 149 #[false, false] [x129, x131] w132) fun x133 w134 =>
  rd2 (rawU Pg (Instr.storeAt 149 (e 7) x133) w134) fun x136 w135 =>
  finR l none w135)
theorem S99_eq (F : FnT) (G : RndT) (x0 x1 x2 : Value) (w0 : World) : evalCode (cx99 F G) (cdA Go.Proofs.Try.f99 []) (endK Pg Go.Proofs.Try.f99) (envL [x0, x1, x2]) w0 = S99 F G x0 x1 x2 w0 := by kernel_rfl
theorem F99 (x0 x1 x2 : Value) (w0 : World) : Fn Pg 99 [x0, x1, x2] w0 = S99 (Fn Pg) (Rnd Pg) x0 x1 x2 w0 := (Fn_body (c := cdA Go.Proofs.Try.f99 []) Go.Proofs.Try.func99 (by kernel_rfl) (by kernel_rfl) [x0, x1, x2] w0 (Nat.le_of_ble_eq_true (by kernel_rfl))).trans (S99_eq _ _ x0 x1 x2 w0)
theorem S99_N1_eq (F : FnT) (G : RndT) (e : Env) (w0 : World) : K99_2 F G .normal e w0 = S99_N1 F G e w0 := by kernel_rfl
theorem S99_T1_eq (F : FnT) (G : RndT) (e : Env) (w0 : World) : K99_2 F G .ret e w0 = S99_T1 F G e w0 := by kernel_rfl
theorem S99_X0_1_eq (F : FnT) (G : RndT) (e : Env) (w0 : World) : K99_2 F G (.exit 0) e w0 = S99_X0_1 F G e w0 := by kernel_rfl
theorem S99_R1_eq (F : FnT) (G : RndT) (l : Nat) (ts : List Value) (w0 : World) : evalRound (rx99 l F G) l ts (cdA Go.Proofs.Try.f99 [1, 1, 0, 1, 0, 0]) (cdA Go.Proofs.Try.f99 [1, 1, 0, 1, 0, 1]) w0 = S99_R1 F G l (envL ts) w0 := by kernel_rfl
theorem R99_1 {l : Nat} {ts : List Value} (w0 : World) (h : ts.length = 30) : Rnd Pg l 99 ts (cdA Go.Proofs.Try.f99 [1, 1, 0, 1, 0, 0]) (cdA Go.Proofs.Try.f99 [1, 1, 0, 1, 0, 1]) w0 = S99_R1 (Fn Pg) (Rnd Pg) l (envL ts) w0 := by
  rw [Rnd_eq]; unfold rndS; rw [h]; exact S99_R1_eq _ _ _ _ _

-- 100 (*ciborium/tree.Tree[[]ciborium/api.Version]).Len
noncomputable def cx100 (F : FnT) (G : RndT) : Ctx := ⟨Pg, F, G, 100, none, 9⟩
noncomputable def S100 (F : FnT) (G : RndT) (x0 : Value) (w0 : World) : R :=
  rd2 (F 94 [x0] w0) fun x2 w3 =>
  cnd x2 (fun _ => some ((.int .i64 0), w3)) (fun _ => rd (nilV x0) fun x4 =>
  rd (fldA Pg 154 x4 1) fun x5 =>
  rd (ldV Pg 3 x5 w3) fun x6 =>
  some (x6, w3))
theorem S100_eq (F : FnT) (G : RndT) (x0 : Value) (w0 : World) : evalCode (cx100 F G) (cdA Go.Proofs.Try.f100 []) (endK Pg Go.Proofs.Try.f100) (envL [x0]) w0 = S100 F G x0 w0 := by kernel_rfl
theorem F100 (x0 : Value) (w0 : World) : Fn Pg 100 [x0] w0 = S100 (Fn Pg) (Rnd Pg) x0 w0 := (Fn_body (c := cdA Go.Proofs.Try.f100 []) Go.Proofs.Try.func100 (by kernel_rfl) (by kernel_rfl) [x0] w0 (Nat.le_of_ble_eq_true (by kernel_rfl))).trans (S100_eq _ _ x0 w0)

-- 101 ciborium/chain.Right
noncomputable def cx101 (F : FnT) (G : RndT) : Ctx := ⟨Pg, F, G, 101, none, 35⟩
noncomputable def K101_0 : FnT → RndT → Exit → Env → World → R := fun _ _ => endK Pg Go.Proofs.Try.f101
noncomputable def K101_1 : FnT → RndT → Exit → Env → World → R := fun F G => thenK (evalCode (cx101 F G) (cdA Go.Proofs.Try.f101 [1, 1]) (K101_0 F G)) (K101_0 F G)
noncomputable def K101_2 : FnT → RndT → Exit → Env → World → R := fun F G => blkK 0 (K101_1 F G)
noncomputable def S101 (F : FnT) (G : RndT) (x0 : Value) (w0 : World) : R :=
  rd2 (lenG false Pg .len #[76] 3 #[false] [x0] w0) fun x2 w3 =>
  evalLoop (cx101 F G) (cdA Go.Proofs.Try.f101 [1, 0, 1, 0, 0]) (K101_2 F G) (upd (upd (upd (upd (envL [x0]) 2 (.bool false)) 5 x0) 6 x2) 7 (.int .i64 0)) w3
noncomputable def S101_L1 (F : FnT) (G : RndT) (e : Env) (w0 : World) : R :=
  rd2 (binG false Pg .lss 3 (.tmp 0) (.tmp 0) (e 7) (e 6) w0) fun x101 w102 =>
  cnd x101 (fun _ => rd (ixA Pg 76 (e 5) (e 7)) fun x103 =>
  rd (ldV Pg 85 x103 w102) fun x104 =>
  rd2 (rawV Pg (Instr.alloc 85 true (.tuple #[])) w102) fun x105 w106 =>
  rd2 (rawU Pg (Instr.storeAt 85 x105 x104) w106) fun x108 w107 =>
  rd (fldA Pg 85 x105 1) fun x109 =>
  rd (ldV Pg 4 x109 (drw w107)) fun x110 =>
  rd2 (gate x110 true (fun _ => rd (ldV Pg 85 x105 (drw w107)) fun x111 => some (x111, (drw w107))) (drw w107)) fun x112 _ =>
  rd2 (gate x110 true (fun _ => rd2 (F 121 [x112] (drw w107)) fun x114 w115 => some (x114, w115)) (drw w107)) fun x116 w117 =>
  rd2 (gate x110 true (fun _ => rd (unV .not x116) fun x118 => some (x118, w117)) w117) fun x119 _ =>
  rd (pickV x110 x119 (.bool false)) fun x121 =>
  rd2 (gate x121 false (fun _ =>  some ((e 7), w117)) w117) fun x122 _ =>
  rd2 (gate x121 false (fun _ => rd2 (binG true Pg .gtr 3 (.tmp 0) (.const .nilFunc) x122 (.int .i64 0) w117) fun x124 w125 => some (x124, w125)) w117) fun x126 _ =>
  rd2 (gate x121 false (fun _ =>  some (x126, w117)) w117) fun x128 _ =>
  rd2 (gate x128 true (fun _ => rd (fldA Pg 85 x105 0) fun x130 => some (x130, w117)) w117) fun x131 _ =>
  rd2 (gate x128 true (fun _ => rd (ldV Pg 64 x131 w117) fun x133 => some (x133, w117)) w117) fun x134 _ =>
  rd2 (gate x128 true (fun _ =>  some ((e 0), w117)) w117) fun x136 _ =>
  rd2 (gate x128 true (fun _ =>  some ((e 7), w117)) w117) fun x138 _ =>
  rd2 (gate x128 true (fun _ => rd2 (binG true Pg .sub 3 (.tmp 0) (.const .nilFunc) x138 (.int .i64 1) w117) fun x140 w141 => some (x140, w141)) w117) fun x142 _ =>
  rd2 (gate x128 true (fun _ => rd (ixA Pg 76 x136 x142) fun x144 => some (x144, w117)) w117) fun x145 _ =>
  rd2 (gate x128 true (fun _ => rd (fldA Pg 85 x145 0) fun x147 => some (x147, w117)) w117) fun x148 _ =>
  rd2 (gate x128 true (fun _ => rd (ldV Pg 64 x148 w117) fun x150 => some (x150, w117)) w117) fun x151 _ =>
  rd2 (gate x128 true (fun _ => rd2 (binG true Pg .geq 64 (.tmp 0) (.tmp 0) x134 x151 w117) fun x153 w154 => some (x153, w154)) w117) fun x155 _ =>
  rd2 (gate x121 false (fun _ => rd (pickV x128 x155 (.bool false)) fun x157 => some (x157, w117)) w117) fun x158 _ =>
  rd (pickV x121 (.bool true) x158) fun x160 =>
  cnd x160 (fun _ => shutK (e 35) w117 fun w161 =>
  some ((.bool false), w161)) (fun _ => rd2 (binG false Pg .add 3 (.tmp 0) (.const .nilFunc) (e 7) (.int .i64 1) w117) fun x162 w163 =>
  evalLoop (cx101 F G) (cdA Go.Proofs.Try.f101 [1, 0, 1, 0, 0]) (K101_2 F G) (upd (upd (upd (upd (upd (upd (upd (upd (upd (upd (upd (upd (upd (upd (upd (upd (upd (upd (upd (upd (upd (upd (upd (upd (upd (upd (upd (upd (upd (upd e 8 x101) 9 (e 7)) 10 x103) 11 x104) 4 x105) 3 (e 7)) 12 x109) 13 x110) 14 x110) 15 x112) 16 x116) 17 x119) 18 x121) 19 x121) 20 x122) 21 x126) 22 x128) 23 x131) 24 x134) 25 x136) 26 x138) 27 x142) 28 x145) 29 x148) 30 x151) 31 x155) 32 x158) 33 x160) 34 x162) 7 x162) w163)) (fun _ => shutK (e 35) w102 fun w164 =>
  some ((.bool true), w164))
theorem S101_eq (F : FnT) (G : RndT) (x0 : Value) (w0 : World) : evalCode (cx101 F G) (cdA Go.Proofs.Try.f101 []) (endK Pg Go.Proofs.Try.f101) (envL [x0]) w0 = S101 F G x0 w0 := by kernel_rfl
theorem F101 (x0 : Value) (w0 : World) : Fn Pg 101 [x0] w0 = S101 (Fn Pg) (Rnd Pg) x0 w0 := (Fn_body (c := cdA Go.Proofs.Try.f101 []) Go.Proofs.Try.func101 (by kernel_rfl) (by kernel_rfl) [x0] w0 (Nat.le_of_ble_eq_true (by kernel_rfl))).trans (S101_eq _ _ x0 w0)
theorem S101_L1_eq (F : FnT) (G : RndT) (e : Env) (w0 : World) : evalLoop (cx101 F G) (cdA Go.Proofs.Try.f101 [1, 0, 1, 0, 0]) (K101_2 F G) e w0 = S101_L1 F G e w0 := by
  rw [evalLoop_eq]
  kernel_rfl

-- 102 ciborium/chain.place
noncomputable def cx102 (F : FnT) (G : RndT) : Ctx := ⟨Pg, F, G, 102, none, 9⟩
noncomputable def S102 (F : FnT) (G : RndT) (x0 x1 : Value) (w0 : World) : R :=
  rd2 (rawV Pg (Instr.box 76 x0) w0) fun x3 w4 =>
  rd2 (rawV Pg (Instr.box 64 x1) w4) fun x5 w6 =>
  rd (ldV Pg 76 x3 w6) fun x7 =>
  rd2 (lenG false Pg .len #[76] 3 #[false] [x7] w6) fun x8 w9 =>
  rd2 (F 122 [x8, (.func (.func 123) #[] #[x3, x5])] w9) fun x10 w11 =>
  some (x10, w11)
theorem S102_eq (F : FnT) (G : RndT) (x0 x1 : Value) (w0 : World) : evalCode (cx102 F G) (cdA Go.Proofs.Try.f102 []) (endK Pg Go.Proofs.Try.f102) (envL [x0, x1]) w0 = S102 F G x0 x1 w0 := by kernel_rfl
theorem F102 (x0 x1 : Value) (w0 : World) : Fn Pg 102 [x0, x1] w0 = S102 (Fn Pg) (Rnd Pg) x0 x1 w0 := (Fn_body (c := cdA Go.Proofs.Try.f102 []) Go.Proofs.Try.func102 (by kernel_rfl) (by kernel_rfl) [x0, x1] w0 (Nat.le_of_ble_eq_true (by kernel_rfl))).trans (S102_eq _ _ x0 x1 w0)

-- 103 ciborium/chain.gone
noncomputable def cx103 (F : FnT) (G : RndT) : Ctx := ⟨Pg, F, G, 103, none, 41⟩
noncomputable def K103_0 : FnT → RndT → Exit → Env → World → R := fun _ _ => endK Pg Go.Proofs.Try.f103
noncomputable def K103_1 : FnT → RndT → Exit → Env → World → R := fun F G => scpK (K103_0 F G)
noncomputable def K103_2 : FnT → RndT → Exit → Env → World → R := fun F G => thenK (evalCode (cx103 F G) (cdA Go.Proofs.Try.f103 [1, 0, 1, 1, 1]) (K103_1 F G)) (K103_1 F G)
noncomputable def K103_3 : FnT → RndT → Exit → Env → World → R := fun F G => blkK 0 (K103_2 F G)
noncomputable def K103_4 : FnT → RndT → Exit → Env → World → R := fun F G => thenK (evalCode (cx103 F G) (cdA Go.Proofs.Try.f103 [1, 0, 1, 1, 1, 1]) (K103_1 F G)) (K103_1 F G)
noncomputable def K103_5 : FnT → RndT → Exit → Env → World → R := fun F G => blkK 2 (K103_4 F G)
noncomputable def S103 (F : FnT) (G : RndT) (x0 x1 x2 : Value) (w0 : World) : R :=
  rd2 (lenG false Pg .len #[76] 3 #[false] [x0] w0) fun x4 w5 =>
  rd2 (binG false Pg .eql 3 (.tmp 0) (.const .nilFunc) x4 (.int .i64 0) w5) fun x6 w7 =>
  rd2 (gate x6 false (fun _ =>  some (x0, w7)) w7) fun x8 w9 =>
  rd2 (gate x6 false (fun _ => rd (ixA Pg 76 x8 (.int .i64 0)) fun x10 => some (x10, w9)) w9) fun x11 w12 =>
  rd2 (gate x6 false (fun _ => rd (fldA Pg 85 x11 1) fun x13 => some (x13, w12)) w12) fun x14 w15 =>
  rd2 (gate x6 false (fun _ => rd (ldV Pg 4 x14 w15) fun x16 => some (x16, w15)) w15) fun x17 w18 =>
  rd2 (gate x6 false (fun _ => rd (unV .not x17) fun x19 => some (x19, w18)) w18) fun x20 w21 =>
  rd (pickV x6 (.bool true) x20) fun x22 =>
  cnd x22 (fun _ => some ((.bool false), w21)) (fun _ => rd2 (rawV Pg (Instr.range 163 x1) w21) fun x23 w24 =>
  evalLoop (cx103 F G) (cdA Go.Proofs.Try.f103 [1, 0, 1, 1, 0, 1, 0, 0]) (K103_3 F G) (upd (upd (upd (upd (upd (upd (upd (upd (upd (upd (upd (upd (upd (envL [x0, x1, x2]) 6 (.bool false)) 10 x0) 11 x4) 12 x6) 13 x6) 14 x8) 15 x11) 16 x14) 17 x17) 18 x20) 19 x22) 20 x1) 21 x23) w24)
noncomputable def S103_L1 (F : FnT) (G : RndT) (e : Env) (w0 : World) : R :=
  rd2 (rawV Pg (Instr.next (e 21) false 0) w0) fun x101 w102 =>
  rd (extV x101 0) fun x103 =>
  cnd x103 (fun _ => rd2 (rawV Pg (Instr.entry (e 21)) w102) fun x104 w105 =>
  rd (extV x104 0) fun x106 =>
  rd2 (binG false Pg .eql 3 (.tmp 0) (.const .nilFunc) x106 (.int .i64 0) w105) fun x107 w108 =>
  cnd x107 (fun _ => evalLoop (cx103 F G) (cdA Go.Proofs.Try.f103 [1, 0, 1, 1, 0, 1, 0, 0]) (K103_3 F G) (upd (upd (upd (upd (upd (upd (upd e 22 x101) 23 x103) 24 x104) 25 x106) 7 x106) 26 x106) 27 x107) w108) (fun _ => shutK (e 41) w108 fun w109 =>
  some ((.bool false), w109))) (fun _ => rd2 (lenG false Pg .len #[68] 3 #[false] [(e 2)] w102) fun x110 w111 =>
  evalLoop (cx103 F G) (cdA Go.Proofs.Try.f103 [1, 0, 1, 1, 1, 0, 1, 0, 0]) (K103_5 F G) (upd (upd (upd (upd (upd e 22 x101) 23 x103) 28 (e 2)) 29 x110) 30 (.int .i64 0)) w111)
noncomputable def S103_L2 (F : FnT) (G : RndT) (e : Env) (w0 : World) : R :=
  rd2 (binG false Pg .lss 3 (.tmp 0) (.tmp 0) (e 30) (e 29) w0) fun x101 w102 =>
  cnd x101 (fun _ => rd (ixA Pg 68 (e 28) (e 30)) fun x103 =>
  rd (ldV Pg 64 x103 w102) fun x104 =>
  rd (ixA Pg 76 (e 0) (.int .i64 0)) fun x105 =>
  rd (fldA Pg 85 x105 0) fun x106 =>
  rd (ldV Pg 64 x106 w102) fun x107 =>
  rd2 (binG false Pg .lss 64 (.tmp 0) (.tmp 0) x104 x107 w102) fun x108 w109 =>
  cnd x108 (fun _ => shutK (e 41) w109 fun w110 =>
  some ((.bool false), w110)) (fun _ => rd2 (binG false Pg .add 3 (.tmp 0) (.const .nilFunc) (e 30) (.int .i64 1) w109) fun x111 w112 =>
  evalLoop (cx103 F G) (cdA Go.Proofs.Try.f103 [1, 0, 1, 1, 1, 0, 1, 0, 0]) (K103_5 F G) (upd (upd (upd (upd (upd (upd (upd (upd (upd (upd (upd (upd e 31 x101) 32 x103) 33 x104) 9 x104) 34 x104) 35 (e 0)) 36 x105) 37 x106) 38 x107) 39 x108) 40 x111) 30 x111) w112)) (fun _ => shutK (e 41) w102 fun w113 =>
  some ((.bool true), w113))
theorem S103_eq (F : FnT) (G : RndT) (x0 x1 x2 : Value) (w0 : World) : evalCode (cx103 F G) (cdA Go.Proofs.Try.f103 []) (endK Pg Go.Proofs.Try.f103) (envL [x0, x1, x2]) w0 = S103 F G x0 x1 x2 w0 := by kernel_rfl
theorem F103 (x0 x1 x2 : Value) (w0 : World) : Fn Pg 103 [x0, x1, x2] w0 = S103 (Fn Pg) (Rnd Pg) x0 x1 x2 w0 := (Fn_body (c := cdA Go.Proofs.Try.f103 []) Go.Proofs.Try.func103 (by kernel_rfl) (by kernel_rfl) [x0, x1, x2] w0 (Nat.le_of_ble_eq_true (by kernel_rfl))).trans (S103_eq _ _ x0 x1 x2 w0)
theorem S103_L1_eq (F : FnT) (G : RndT) (e : Env) (w0 : World) : evalLoop (cx103 F G) (cdA Go.Proofs.Try.f103 [1, 0, 1, 1, 0, 1, 0, 0]) (K103_3 F G) e w0 = S103_L1 F G e w0 := by
  rw [evalLoop_eq]
  kernel_rfl
theorem S103_L2_eq (F : FnT) (G : RndT) (e : Env) (w0 : World) : evalLoop (cx103 F G) (cdA Go.Proofs.Try.f103 [1, 0, 1, 1, 1, 0, 1, 0, 0]) (K103_5 F G) e w0 = S103_L2 F G e w0 := by
  rw [evalLoop_eq]
  kernel_rfl

-- 104 ciborium/chain.own
noncomputable def cx104 (F : FnT) (G : RndT) : Ctx := ⟨Pg, F, G, 104, none, 10⟩
noncomputable def S104 (F : FnT) (G : RndT) (x0 : Value) (w0 : World) : R :=
  rd2 (rawV Pg (Instr.box 85 x0) w0) fun x2 w3 =>
  rd2 (rawV Pg (Instr.alloc 85 true (.tuple #[])) w3) fun x4 w5 =>
  rd (fldA Pg 85 x2 2) fun x6 =>
  rd (fldA Pg 83 x6 0) fun x7 =>
  rd (ldV Pg 81 x7 w5) fun x8 =>
  rd2 (lenG false Pg .append #[81, 81] 81 #[true, false] [(.slice none 0 0), x8] w5) fun x9 w10 =>
  rd (fldA Pg 85 x2 2) fun x11 =>
  rd (fldA Pg 83 x11 0) fun x12 =>
  rd2 (rawU Pg (Instr.storeAt 81 x12 x9) w10) fun x14 w13 =>
  rd (ldV Pg 85 x2 w13) fun x15 =>
  rd2 (rawU Pg (Instr.storeAt 85 x4 x15) w13) fun x17 w16 =>
  rd (ldV Pg 85 x4 w16) fun x18 =>
  some (x18, w16)
theorem S104_eq (F : FnT) (G : RndT) (x0 : Value) (w0 : World) : evalCode (cx104 F G) (cdA Go.Proofs.Try.f104 []) (endK Pg Go.Proofs.Try.f104) (envL [x0]) w0 = S104 F G x0 w0 := by kernel_rfl
theorem F104 (x0 : Value) (w0 : World) : Fn Pg 104 [x0] w0 = S104 (Fn Pg) (Rnd Pg) x0 w0 := (Fn_body (c := cdA Go.Proofs.Try.f104 []) Go.Proofs.Try.func104 (by kernel_rfl) (by kernel_rfl) [x0] w0 (Nat.le_of_ble_eq_true (by kernel_rfl))).trans (S104_eq _ _ x0 w0)

-- 105 (*ciborium/tree.Tree[[]ciborium/api.Version]).from
noncomputable def cx105 (F : FnT) (G : RndT) : Ctx := ⟨Pg, F, G, 105, none, 6⟩
noncomputable def S105 (F : FnT) (G : RndT) (x0 x1 : Value) (w0 : World) : R :=
  rd2 (rawV Pg (Instr.box 93 x0) w0) fun x3 w4 =>
  rd2 (rawV Pg (Instr.box 9 x1) w4) fun x5 w6 =>
  some ((.func (.func 124) #[] #[x3, x5]), w6)
theorem S105_eq (F : FnT) (G : RndT) (x0 x1 : Value) (w0 : World) : evalCode (cx105 F G) (cdA Go.Proofs.Try.f105 []) (endK Pg Go.Proofs.Try.f105) (envL [x0, x1]) w0 = S105 F G x0 x1 w0 := by kernel_rfl
theorem F105 (x0 x1 : Value) (w0 : World) : Fn Pg 105 [x0, x1] w0 = S105 (Fn Pg) (Rnd Pg) x0 x1 w0 := (Fn_body (c := cdA Go.Proofs.Try.f105 []) Go.Proofs.Try.func105 (by kernel_rfl) (by kernel_rfl) [x0, x1] w0 (Nat.le_of_ble_eq_true (by kernel_rfl))).trans (S105_eq _ _ x0 x1 w0)

-- 106 (*ciborium/tree.Tree[[]ciborium/api.Version]).Get
noncomputable def cx106 (F : FnT) (G : RndT) : Ctx := ⟨Pg, F, G, 106, none, 21⟩
noncomputable def S106 (F : FnT) (G : RndT) (x0 x1 : Value) (w0 : World) : R :=
  rd2 (F 94 [x0] w0) fun x3 w4 =>
  cnd x3 (fun _ => some ((.tuple #[(.slice none 0 0), (.bool false)]), w4)) (fun _ => rd2 (F 95 [x0, x1] w4) fun x5 w6 =>
  rd2 (binG false Pg .eql 157 (.tmp 0) (.const .nilFunc) x5 (.pointer none) w6) fun x7 w8 =>
  cnd x7 (fun _ => some ((.tuple #[(.slice none 0 0), (.bool false)]), w8)) (fun _ => rd (nilV x5) fun x9 =>
  rd (fldA Pg 160 x9 1) fun x10 =>
  rd (ldV Pg 76 x10 w8) fun x11 =>
  some ((.tuple #[x11, (.bool true)]), w8)))
theorem S106_eq (F : FnT) (G : RndT) (x0 x1 : Value) (w0 : World) : evalCode (cx106 F G) (cdA Go.Proofs.Try.f106 []) (endK Pg Go.Proofs.Try.f106) (envL [x0, x1]) w0 = S106 F G x0 x1 w0 := by kernel_rfl
theorem F106 (x0 x1 : Value) (w0 : World) : Fn Pg 106 [x0, x1] w0 = S106 (Fn Pg) (Rnd Pg) x0 x1 w0 := (Fn_body (c := cdA Go.Proofs.Try.f106 []) Go.Proofs.Try.func106 (by kernel_rfl) (by kernel_rfl) [x0, x1] w0 (Nat.le_of_ble_eq_true (by kernel_rfl))).trans (S106_eq _ _ x0 x1 w0)

-- 107 (*ciborium/tree.node[[]ciborium/api.Version]).remove
noncomputable def cx107 (F : FnT) (G : RndT) : Ctx := ⟨Pg, F, G, 107, none, 151⟩
noncomputable def S107 (F : FnT) (G : RndT) (x0 x1 : Value) (w0 : World) : R :=
  rd2 (F 116 [x0, x1] w0) fun x3 w4 =>
  rd (extV x3 0) fun x5 =>
  rd (extV x3 1) fun x6 =>
  rd2 (gate x6 true (fun _ =>  some (x0, w4)) w4) fun x7 w8 =>
  rd2 (gate x6 true (fun _ => rd2 (F 108 [x7] w8) fun x9 w10 => some (x9, w10)) w8) fun x11 w12 =>
  rd (pickV x6 x11 (.bool false)) fun x13 =>
  cnd x13 (fun _ => rd (nilV x0) fun x14 =>
  rd (fldA Pg 152 x14 0) fun x15 =>
  rd (ldV Pg 149 x15 w12) fun x16 =>
  rd2 (binG false Pg .add 3 (.tmp 0) (.const .nilFunc) x5 (.int .i64 1) w12) fun x17 w18 =>
  rd2 (F 126 [x16, x5, x17] w18) fun x19 w20 =>
  rd (nilV x0) fun x21 =>
  rd (fldA Pg 152 x21 0) fun x22 =>
  rd2 (rawU Pg (Instr.storeAt 149 x22 x19) w20) fun x24 w23 =>
  some ((.tuple #[]), w23)) (fun _ => rd2 (gate x6 true (fun _ =>  some (x0, w12)) w12) fun x25 w26 =>
  rd2 (gate x6 true (fun _ => rd (nilV x25) fun x27 => some (x27, w26)) w26) fun x28 w29 =>
  rd2 (gate x6 true (fun _ => rd (fldA Pg 152 x28 1) fun x30 => some (x30, w29)) w29) fun x31 w32 =>
  rd2 (gate x6 true (fun _ => rd (ldV Pg 150 x31 w32) fun x33 => some (x33, w32)) w32) fun x34 w35 =>
  rd2 (gate x6 true (fun _ =>  some (x5, w35)) w35) fun x36 w37 =>
  rd2 (gate x6 true (fun _ => rd (ixA Pg 150 x34 x36) fun x38 => some (x38, w37)) w37) fun x39 w40 =>
  rd2 (gate x6 true (fun _ => rd (ldV Pg 148 x39 w40) fun x41 => some (x41, w40)) w40) fun x42 w43 =>
  rd2 (gate x6 true (fun _ => rd (nilV x42) fun x44 => some (x44, w43)) w43) fun x45 w46 =>
  rd2 (gate x6 true (fun _ => rd (fldA Pg 152 x45 0) fun x47 => some (x47, w46)) w46) fun x48 w49 =>
  rd2 (gate x6 true (fun _ => rd (ldV Pg 149 x48 w49) fun x50 => some (x50, w49)) w49) fun x51 w52 =>
  rd2 (gate x6 true (fun _ => rd2 (lenG false Pg .len #[149] 3 #[false] [x51] w52) fun x53 w54 => some (x53, w54)) w52) fun x55 w56 =>
  rd2 (gate x6 true (fun _ => rd2 (binG false Pg .gtr 3 (.tmp 0) (.const .nilFunc) x55 (.int .i64 2) w56) fun x57 w58 => some (x57, w58)) w56) fun x59 w60 =>
  rd (pickV x6 x59 (.bool false)) fun x61 =>
  cnd x61 (fun _ => rd (nilV x0) fun x62 =>
  rd (fldA Pg 152 x62 0) fun x63 =>
  rd (ldV Pg 149 x63 (drw w60)) fun x64 =>
  rd (nilV x0) fun x65 =>
  rd (fldA Pg 152 x65 1) fun x66 =>
  rd (ldV Pg 150 x66 (drw w60)) fun x67 =>
  rd (ixA Pg 150 x67 x5) fun x68 =>
  rd (ldV Pg 148 x68 (drw w60)) fun x69 =>
  rd2 (F 127 [x69, (.bool true)] (drw w60)) fun x70 w71 =>
  chk (holdsAt Pg none (.ld 149) x63 x64 w71) fun _ =>
  rd (ixA Pg 149 x64 x5) fun x72 =>
  rd2 (rawU Pg (Instr.storeAt 160 x72 x70) w71) fun x74 w73 =>
  rd (nilV x0) fun x75 =>
  rd (fldA Pg 152 x75 1) fun x76 =>
  rd (ldV Pg 150 x76 (drw w73)) fun x77 =>
  rd (ixA Pg 150 x77 x5) fun x78 =>
  rd (ldV Pg 148 x78 (drw w73)) fun x79 =>
  rd (nilV x0) fun x80 =>
  rd (fldA Pg 152 x80 0) fun x81 =>
  rd (ldV Pg 149 x81 (drw w73)) fun x82 =>
  rd (ixA Pg 149 x82 x5) fun x83 =>
  rd (fldA Pg 160 x83 0) fun x84 =>
  rd (ldV Pg 9 x84 (drw w73)) fun x85 =>
  rd2 (F 107 [x79, x85] (drw w73)) fun x86 w87 =>
  some ((.tuple #[]), w87)) (fun _ => rd2 (gate x6 true (fun _ =>  some (x0, w60)) w60) fun x88 w89 =>
  rd2 (gate x6 true (fun _ => rd (nilV x88) fun x90 => some (x90, w89)) w89) fun x91 w92 =>
  rd2 (gate x6 true (fun _ => rd (fldA Pg 152 x91 1) fun x93 => some (x93, w92)) w92) fun x94 w95 =>
  rd2 (gate x6 true (fun _ => rd (ldV Pg 150 x94 w95) fun x96 => some (x96, w95)) w95) fun x97 w98 =>
  rd2 (gate x6 true (fun _ =>  some (x5, w98)) w98) fun x99 w100 =>
  rd2 (gate x6 true (fun _ => rd2 (binG false Pg .add 3 (.tmp 0) (.const .nilFunc) x99 (.int .i64 1) w100) fun x101 w102 => some (x101, w102)) w100) fun x103 w104 =>
  rd2 (gate x6 true (fun _ => rd (ixA Pg 150 x97 x103) fun x105 => some (x105, w104)) w104) fun x106 w107 =>
  rd2 (gate x6 true (fun _ => rd (ldV Pg 148 x106 w107) fun x108 => some (x108, w107)) w107) fun x109 w110 =>
  rd2 (gate x6 true (fun _ => rd (nilV x109) fun x111 => some (x111, w110)) w110) fun x112 w113 =>
  rd2 (gate x6 true (fun _ => rd (fldA Pg 152 x112 0) fun x114 => some (x114, w113)) w113) fun x115 w116 =>
  rd2 (gate x6 true (fun _ => rd (ldV Pg 149 x115 w116) fun x117 => some (x117, w116)) w116) fun x118 w119 =>
  rd2 (gate x6 true (fun _ => rd2 (lenG false Pg .len #[149] 3 #[false] [x118] w119) fun x120 w121 => some (x120, w121)) w119) fun x122 w123 =>
  rd2 (gate x6 true (fun _ => rd2 (binG false Pg .gtr 3 (.tmp 0) (.const .nilFunc) x122 (.int .i64 2) w123) fun x124 w125 => some (x124, w125)) w123) fun x126 w127 =>
  rd (pickV x6 x126 (.bool false)) fun x128 =>
  cnd x128 (fun _ => rd (nilV x0) fun x129 =>
  rd (fldA Pg 152 x129 0) fun x130 =>
  rd (ldV Pg 149 x130 (drw w127)) fun x131 =>
  rd (nilV x0) fun x132 =>
  rd (fldA Pg 152 x132 1) fun x133 =>
  rd (ldV Pg 150 x133 (drw w127)) fun x134 =>
  rd2 (binG true Pg .add 3 (.tmp 0) (.const .nilFunc) x5 (.int .i64 1) (drw w127)) fun x135 _ =>
  rd (ixA Pg 150 x134 x135) fun x137 =>
  rd (ldV Pg 148 x137 (drw w127)) fun x138 =>
  rd2 (F 127 [x138, (.bool false)] (drw w127)) fun x139 w140 =>
  chk (holdsAt Pg none (.ld 149) x130 x131 w140) fun _ =>
  rd (ixA Pg 149 x131 x5) fun x141 =>
  rd2 (rawU Pg (Instr.storeAt 160 x141 x139) w140) fun x143 w142 =>
  rd (nilV x0) fun x144 =>
  rd (fldA Pg 152 x144 1) fun x145 =>
  rd (ldV Pg 150 x145 (drw w142)) fun x146 =>
  rd2 (binG true Pg .add 3 (.tmp 0) (.const .nilFunc) x5 (.int .i64 1) (drw w142)) fun x147 _ =>
  rd (ixA Pg 150 x146 x147) fun x149 =>
  rd (ldV Pg 148 x149 (drw w142)) fun x150 =>
  rd (nilV x0) fun x151 =>
  rd (fldA Pg 152 x151 0) fun x152 =>
  rd (ldV Pg 149 x152 (drw w142)) fun x153 =>
  rd (ixA Pg 149 x153 x5) fun x154 =>
  rd (fldA Pg 160 x154 0) fun x155 =>
  rd (ldV Pg 9 x155 (drw w142)) fun x156 =>
  rd2 (F 107 [x150, x156] (drw w142)) fun x157 w158 =>
  some ((.tuple #[]), w158)) (fun _ => cnd x6 (fun _ => rd2 (F 128 [x0, x5] w127) fun x159 w160 =>
  rd (nilV x0) fun x161 =>
  rd (fldA Pg 152 x161 1) fun x162 =>
  rd (ldV Pg 150 x162 w160) fun x163 =>
  rd (ixA Pg 150 x163 x5) fun x164 =>
  rd (ldV Pg 148 x164 w160) fun x165 =>
  rd2 (F 107 [x165, x1] w160) fun x166 w167 =>
  some ((.tuple #[]), w167)) (fun _ => rd2 (F 129 [x0, x5] w127) fun x168 w169 =>
  rd (nilV x0) fun x170 =>
  rd (fldA Pg 152 x170 1) fun x171 =>
  rd (ldV Pg 150 x171 w169) fun x172 =>
  rd (ixA Pg 150 x172 x168) fun x173 =>
  rd (ldV Pg 148 x173 w169) fun x174 =>
  rd2 (F 107 [x174, x1] w169) fun x175 w176 =>
  some ((.tuple #[]), w176)))))
theorem S107_eq (F : FnT) (G : RndT) (x0 x1 : Value) (w0 : World) : evalCode (cx107 F G) (cdA Go.Proofs.Try.f107 []) (endK Pg Go.Proofs.Try.f107) (envL [x0, x1]) w0 = S107 F G x0 x1 w0 := by kernel_rfl
theorem F107 (x0 x1 : Value) (w0 : World) : Fn Pg 107 [x0, x1] w0 = S107 (Fn Pg) (Rnd Pg) x0 x1 w0 := (Fn_body (c := cdA Go.Proofs.Try.f107 []) Go.Proofs.Try.func107 (by kernel_rfl) (by kernel_rfl) [x0, x1] w0 (Nat.le_of_ble_eq_true (by kernel_rfl))).trans (S107_eq _ _ x0 x1 w0)

-- 108 (*ciborium/tree.node[[]ciborium/api.Version]).leaf
noncomputable def cx108 (F : FnT) (G : RndT) : Ctx := ⟨Pg, F, G, 108, none, 9⟩
noncomputable def S108 (F : FnT) (G : RndT) (x0 : Value) (w0 : World) : R :=
  rd (nilV x0) fun x2 =>
  rd (fldA Pg 152 x2 1) fun x3 =>
  rd (ldV Pg 150 x3 w0) fun x4 =>
  rd2 (lenG false Pg .len #[150] 3 #[false] [x4] w0) fun x5 w6 =>
  rd2 (binG false Pg .eql 3 (.tmp 0) (.const .nilFunc) x5 (.int .i64 0) w6) fun x7 w8 =>
  some (x7, w8)
theorem S108_eq (F : FnT) (G : RndT) (x0 : Value) (w0 : World) : evalCode (cx108 F G) (cdA Go.Proofs.Try.f108 []) (endK Pg Go.Proofs.Try.f108) (envL [x0]) w0 = S108 F G x0 w0 := by kernel_rfl
theorem F108 (x0 : Value) (w0 : World) : Fn Pg 108 [x0] w0 = S108 (Fn Pg) (Rnd Pg) x0 w0 := (Fn_body (c := cdA Go.Proofs.Try.f108 []) Go.Proofs.Try.func108 (by kernel_rfl) (by kernel_rfl) [x0] w0 (Nat.le_of_ble_eq_true (by kernel_rfl))).trans (S108_eq _ _ x0 w0)

-- 109 (*ciborium/tree.node[[]ciborium/api.Version]).copied
noncomputable def cx109 (F : FnT) (G : RndT) : Ctx := ⟨Pg, F, G, 109, none, 35⟩
noncomputable def K109_0 : FnT → RndT → Exit → Env → World → R := fun _ _ => endK Pg Go.Proofs.Try.f109
noncomputable def K109_1 : FnT → RndT → Exit → Env → World → R := fun F G => thenK (evalCode (cx109 F G) (cdA Go.Proofs.Try.f109 [1, 1, 1]) (K109_0 F G)) (K109_0 F G)
noncomputable def K109_2 : FnT → RndT → Exit → Env → World → R := fun F G => blkK 0 (K109_1 F G)
noncomputable def S109 (F : FnT) (G : RndT) (x0 : Value) (w0 : World) : R :=
  rd (nilV x0) fun x2 =>
  rd (fldA Pg 152 x2 0) fun x3 =>
  rd (ldV Pg 149 x3 w0) fun x4 =>
  rd2 (F 117 [x4] w0) fun x5 w6 =>
  rd (bldV Pg 152 [(0, x5)]) fun x7 =>
  rd2 (rawV Pg (Instr.box 152 x7) w6) fun x8 w9 =>
  rd (nilV x0) fun x10 =>
  rd (fldA Pg 152 x10 1) fun x11 =>
  rd (ldV Pg 150 x11 w9) fun x12 =>
  rd2 (lenG false Pg .len #[150] 3 #[false] [x12] w9) fun x13 w14 =>
  evalLoop (cx109 F G) (cdA Go.Proofs.Try.f109 [1, 1, 0, 1, 0, 0]) (K109_2 F G) (upd (upd (upd (upd (upd (upd (upd (upd (upd (upd (upd (upd (upd (upd (upd (envL [x0]) 2 (.pointer none)) 6 x0) 7 x2) 8 x3) 9 x4) 10 x5) 11 x7) 12 x8) 3 x8) 13 x0) 14 x10) 15 x11) 16 x12) 17 x13) 18 (.int .i64 0)) w14
noncomputable def S109_L1 (F : FnT) (G : RndT) (e : Env) (w0 : World) : R :=
  rd2 (binG false Pg .lss 3 (.tmp 0) (.tmp 0) (e 18) (e 17) w0) fun x101 w102 =>
  cnd x101 (fun _ => rd (ixA Pg 150 (e 16) (e 18)) fun x103 =>
  rd (ldV Pg 148 x103 w102) fun x104 =>
  rd (nilV (e 3)) fun x105 =>
  rd (fldA Pg 152 x105 1) fun x106 =>
  rd (ldV Pg 150 x106 (drw w102)) fun x107 =>
  rd2 (F 109 [x104] (drw w102)) fun x108 w109 =>
  chk (holdsAt Pg none (.ld 150) x106 x107 w109) fun _ =>
  rd2 (rawV Pg (Instr.buildSlice 150 1 #[(0, x108)]) w109) fun x110 w111 =>
  rd2 (lenG false Pg .append #[150, 150] 150 #[false, false] [x107, x110] w111) fun x112 w113 =>
  rd (nilV (e 3)) fun x114 =>
  rd (fldA Pg 152 x114 1) fun x115 =>
  rd2 (rawU Pg (Instr.storeAt 150 x115 x112) w113) fun x117 w116 =>
  rd2 (binG false Pg .add 3 (.tmp 0) (.const .nilFunc) (e 18) (.int .i64 1) w116) fun x118 w119 =>
  evalLoop (cx109 F G) (cdA Go.Proofs.Try.f109 [1, 1, 0, 1, 0, 0]) (K109_2 F G) (upd (upd (upd (upd (upd (upd (upd (upd (upd (upd (upd (upd (upd (upd (upd (upd (upd e 19 x101) 20 x103) 21 x104) 5 x104) 22 (e 3)) 23 (e 3)) 24 x105) 25 x106) 26 x107) 27 x104) 28 x108) 29 x110) 30 x112) 31 x114) 32 x115) 33 x118) 18 x118) w119) (fun _ => shutK (e 35) w102 fun w120 =>
  some ((e 3), w120))
theorem S109_eq (F : FnT) (G : RndT) (x0 : Value) (w0 : World) : evalCode (cx109 F G) (cdA Go.Proofs.Try.f109 []) (endK Pg Go.Proofs.Try.f109) (envL [x0]) w0 = S109 F G x0 w0 := by kernel_rfl
theorem F109 (x0 : Value) (w0 : World) : Fn Pg 109 [x0] w0 = S109 (Fn Pg) (Rnd Pg) x0 w0 := (Fn_body (c := cdA Go.Proofs.Try.f109 []) Go.Proofs.Try.func109 (by kernel_rfl) (by kernel_rfl) [x0] w0 (Nat.le_of_ble_eq_true (by kernel_rfl))).trans (S109_eq _ _ x0 w0)
theorem S109_L1_eq (F : FnT) (G : RndT) (e : Env) (w0 : World) : evalLoop (cx109 F G) (cdA Go.Proofs.Try.f109 [1, 1, 0, 1, 0, 0]) (K109_2 F G) e w0 = S109_L1 F G e w0 := by
  rw [evalLoop_eq]
  kernel_rfl

-- 116 (*ciborium/tree.node[[]ciborium/api.Version]).find
noncomputable def cx116 (F : FnT) (G : RndT) : Ctx := ⟨Pg, F, G, 116, none, 33⟩
noncomputable def K116_0 : FnT → RndT → Exit → Env → World → R := fun _ _ => endK Pg Go.Proofs.Try.f116
noncomputable def K116_1 : FnT → RndT → Exit → Env → World → R := fun F G => thenK (evalCode (cx116 F G) (cdA Go.Proofs.Try.f116 [1, 1]) (K116_0 F G)) (K116_0 F G)
noncomputable def K116_2 : FnT → RndT → Exit → Env → World → R := fun F G => blkK 0 (K116_1 F G)
noncomputable def S116 (F : FnT) (G : RndT) (x0 x1 : Value) (w0 : World) : R :=
  rd (nilV x0) fun x3 =>
  rd (fldA Pg 152 x3 0) fun x4 =>
  rd (ldV Pg 149 x4 w0) fun x5 =>
  rd2 (lenG false Pg .len #[149] 3 #[false] [x5] w0) fun x6 w7 =>
  evalLoop (cx116 F G) (cdA Go.Proofs.Try.f116 [1, 0, 1, 0, 0]) (K116_2 F G) (upd (upd (upd (upd (upd (upd (upd (upd (envL [x0, x1]) 4 (.int .i64 0)) 5 (.bool false)) 8 x0) 9 x3) 10 x4) 11 x5) 12 x6) 13 (.int .i64 0)) w7
noncomputable def S116_L1 (F : FnT) (G : RndT) (e : Env) (w0 : World) : R :=
  rd2 (binG false Pg .lss 3 (.tmp 0) (.tmp 0) (e 13) (e 12) w0) fun x101 w102 =>
  cnd x101 (fun _ => rd (ixA Pg 149 (e 11) (e 13)) fun x103 =>
  rd (ldV Pg 160 x103 w102) fun x104 =>
  rd2 (rawV Pg (Instr.alloc 160 true (.tuple #[])) w102) fun x105 w106 =>
  rd2 (rawU Pg (Instr.storeAt 160 x105 x104) w106) fun x108 w107 =>
  rd (fldA Pg 160 x105 0) fun x109 =>
  rd (ldV Pg 9 x109 w107) fun x110 =>
  rd2 (binG false Pg .geq 9 (.tmp 0) (.tmp 0) x110 (e 1) w107) fun x111 w112 =>
  cnd x111 (fun _ => rd (fldA Pg 160 x105 0) fun x113 =>
  rd (ldV Pg 9 x113 (drw w112)) fun x114 =>
  rd2 (binG true Pg .eql 9 (.tmp 0) (.tmp 0) x114 (e 1) (drw w112)) fun x115 _ =>
  shutK (e 33) (drw w112) fun w117 =>
  some ((.tuple #[(e 13), x115]), w117)) (fun _ => rd2 (binG false Pg .add 3 (.tmp 0) (.const .nilFunc) (e 13) (.int .i64 1) w112) fun x118 w119 =>
  evalLoop (cx116 F G) (cdA Go.Proofs.Try.f116 [1, 0, 1, 0, 0]) (K116_2 F G) (upd (upd (upd (upd (upd (upd (upd (upd (upd (upd (upd (upd e 14 x101) 15 (e 13)) 16 x103) 17 x104) 7 x105) 6 (e 13)) 18 x109) 19 x110) 20 (e 1)) 21 x111) 27 x118) 13 x118) w119)) (fun _ => rd (nilV (e 0)) fun x120 =>
  rd (fldA Pg 152 x120 0) fun x121 =>
  rd (ldV Pg 149 x121 w102) fun x122 =>
  rd2 (lenG false Pg .len #[149] 3 #[false] [x122] w102) fun x123 w124 =>
  shutK (e 33) w124 fun w125 =>
  some ((.tuple #[x123, (.bool false)]), w125))
theorem S116_eq (F : FnT) (G : RndT) (x0 x1 : Value) (w0 : World) : evalCode (cx116 F G) (cdA Go.Proofs.Try.f116 []) (endK Pg Go.Proofs.Try.f116) (envL [x0, x1]) w0 = S116 F G x0 x1 w0 := by kernel_rfl
theorem F116 (x0 x1 : Value) (w0 : World) : Fn Pg 116 [x0, x1] w0 = S116 (Fn Pg) (Rnd Pg) x0 x1 w0 := (Fn_body (c := cdA Go.Proofs.Try.f116 []) Go.Proofs.Try.func116 (by kernel_rfl) (by kernel_rfl) [x0, x1] w0 (Nat.le_of_ble_eq_true (by kernel_rfl))).trans (S116_eq _ _ x0 x1 w0)
theorem S116_L1_eq (F : FnT) (G : RndT) (e : Env) (w0 : World) : evalLoop (cx116 F G) (cdA Go.Proofs.Try.f116 [1, 0, 1, 0, 0]) (K116_2 F G) e w0 = S116_L1 F G e w0 := by
  rw [evalLoop_eq]
  kernel_rfl

-- 117 slices.Clone[[]ciborium/tree.Entry[[]ciborium/api.Version],ciborium/tree.Entry[[]ciborium/api.Version]]
noncomputable def cx117 (F : FnT) (G : RndT) : Ctx := ⟨Pg, F, G, 117, none, 8⟩
noncomputable def S117 (F : FnT) (G : RndT) (x0 : Value) (w0 : World) : R :=
  rd2 (binG false Pg .eql 149 (.tmp 0) (.const .nilFunc) x0 (.slice none 0 0) w0) fun x2 w3 =>
  cnd x2 (fun _ => some ((.slice none 0 0), w3)) (fun _ => rd2 (rawV Pg (Instr.buildSlice 149 0 #[]) w3) fun x4 w5 =>
  rd2 (lenG false Pg .append #[149, 149] 149 #[false, false] [x4, x0] w5) fun x6 w7 =>
  some (x6, w7))
theorem S117_eq (F : FnT) (G : RndT) (x0 : Value) (w0 : World) : evalCode (cx117 F G) (cdA Go.Proofs.Try.f117 []) (endK Pg Go.Proofs.Try.f117) (envL [x0]) w0 = S117 F G x0 w0 := by kernel_rfl
theorem F117 (x0 : Value) (w0 : World) : Fn Pg 117 [x0] w0 = S117 (Fn Pg) (Rnd Pg) x0 w0 := (Fn_body (c := cdA Go.Proofs.Try.f117 []) Go.Proofs.Try.func117 (by kernel_rfl) (by kernel_rfl) [x0] w0 (Nat.le_of_ble_eq_true (by kernel_rfl))).trans (S117_eq _ _ x0 w0)

-- 118 slices.Clone[[]*ciborium/tree.node[[]ciborium/api.Version],*ciborium/tree.node[[]ciborium/api.Version]]
noncomputable def cx118 (F : FnT) (G : RndT) : Ctx := ⟨Pg, F, G, 118, none, 8⟩
noncomputable def S118 (F : FnT) (G : RndT) (x0 : Value) (w0 : World) : R :=
  rd2 (binG false Pg .eql 150 (.tmp 0) (.const .nilFunc) x0 (.slice none 0 0) w0) fun x2 w3 =>
  cnd x2 (fun _ => some ((.slice none 0 0), w3)) (fun _ => rd2 (rawV Pg (Instr.buildSlice 150 0 #[]) w3) fun x4 w5 =>
  rd2 (lenG false Pg .append #[150, 150] 150 #[false, false] [x4, x0] w5) fun x6 w7 =>
  some (x6, w7))
theorem S118_eq (F : FnT) (G : RndT) (x0 : Value) (w0 : World) : evalCode (cx118 F G) (cdA Go.Proofs.Try.f118 []) (endK Pg Go.Proofs.Try.f118) (envL [x0]) w0 = S118 F G x0 w0 := by kernel_rfl
theorem F118 (x0 : Value) (w0 : World) : Fn Pg 118 [x0] w0 = S118 (Fn Pg) (Rnd Pg) x0 w0 := (Fn_body (c := cdA Go.Proofs.Try.f118 []) Go.Proofs.Try.func118 (by kernel_rfl) (by kernel_rfl) [x0] w0 (Nat.le_of_ble_eq_true (by kernel_rfl))).trans (S118_eq _ _ x0 w0)

-- 119 slices.Insert[[]ciborium/tree.Entry[[]ciborium/api.Version],ciborium/tree.Entry[[]ciborium/api.Version]]
noncomputable def cx119 (F : FnT) (G : RndT) : Ctx := ⟨Pg, F, G, 119, none, 95⟩
noncomputable def S119 (F : FnT) (G : RndT) (x0 x1 x2 : Value) (w0 : World) : R :=
  rd (slV Pg 149 x0 (some x1) none none) fun x4 =>
  rd2 (lenG false Pg .len #[149] 3 #[false] [x2] w0) fun x5 w6 =>
  rd2 (binG false Pg .eql 3 (.tmp 0) (.const .nilFunc) x5 (.int .i64 0) w6) fun x7 w8 =>
  cnd x7 (fun _ => some (x0, w8)) (fun _ => rd2 (lenG false Pg .len #[149] 3 #[false] [x0] w8) fun x9 w10 =>
  rd2 (binG false Pg .eql 3 (.tmp 0) (.tmp 0) x1 x9 w10) fun x11 w12 =>
  cnd x11 (fun _ => rd2 (lenG false Pg .append #[149, 149] 149 #[false, false] [x0, x2] w12) fun x13 w14 =>
  some (x13, w14)) (fun _ => rd2 (binG false Pg .add 3 (.tmp 0) (.tmp 0) x9 x5 w12) fun x15 w16 =>
  rd2 (lenG false Pg .cap #[149] 3 #[false] [x0] w16) fun x17 w18 =>
  rd2 (binG false Pg .gtr 3 (.tmp 0) (.tmp 0) x15 x17 w18) fun x19 w20 =>
  cnd x19 (fun _ => rd (slV Pg 149 x0 none (some x1) none) fun x21 =>
  rd2 (binG false Pg .add 3 (.tmp 0) (.tmp 0) x9 x5 w20) fun x22 w23 =>
  rd2 (binG false Pg .sub 3 (.tmp 0) (.tmp 0) x22 x1 w23) fun x24 w25 =>
  rd2 (lenG false Pg .append #[149, 3] 149 #[false, false] [x21, x24] w25) fun x26 w27 =>
  rd (slV Pg 149 x26 (some x1) none none) fun x28 =>
  rd2 (lenG false Pg .copy #[149, 149] 3 #[false, false] [x28, x2] w27) fun x29 w30 =>
  rd2 (binG true Pg .add 3 (.tmp 0) (.tmp 0) x1 x5 (drw w30)) fun x31 _ =>
  rd (slV Pg 149 x26 (some x31) none none) fun x33 =>
  rd (slV Pg 149 x0 (some x1) none none) fun x34 =>
  rd2 (lenG false Pg .copy #[149, 149] 3 #[false, false] [x33, x34] (drw w30)) fun x35 w36 =>
  some (x26, w36)) (fun _ => rd2 (binG false Pg .add 3 (.tmp 0) (.tmp 0) x9 x5 w20) fun x37 w38 =>
  rd (slV Pg 149 x0 none (some x37) none) fun x39 =>
  rd2 (binG false Pg .add 3 (.tmp 0) (.tmp 0) x1 x5 w38) fun x40 w41 =>
  rd (slV Pg 149 x39 (some x40) none none) fun x42 =>
  rd2 (F 132 [x2, x42] w41) fun x43 w44 =>
  rd (unV .not x43) fun x45 =>
  cnd x45 (fun _ => rd2 (binG true Pg .add 3 (.tmp 0) (.tmp 0) x1 x5 (drw w44)) fun x46 _ =>
  rd (slV Pg 149 x39 (some x46) none none) fun x48 =>
  rd (slV Pg 149 x39 (some x1) none none) fun x49 =>
  rd2 (lenG false Pg .copy #[149, 149] 3 #[false, false] [x48, x49] (drw w44)) fun x50 w51 =>
  rd (slV Pg 149 x39 (some x1) none none) fun x52 =>
  rd2 (lenG false Pg .copy #[149, 149] 3 #[false, false] [x52, x2] w51) fun x53 w54 =>
  some (x39, w54)) (fun _ => rd (slV Pg 149 x39 (some x9) none none) fun x55 =>
  rd2 (lenG false Pg .copy #[149, 149] 3 #[false, false] [x55, x2] w44) fun x56 w57 =>
  rd (slV Pg 149 x39 (some x1) none none) fun x58 =>
  rd2 (F 133 [x58, x5] w57) fun x59 w60 =>
  some (x39, w60)))))
theorem S119_eq (F : FnT) (G : RndT) (x0 x1 x2 : Value) (w0 : World) : evalCode (cx119 F G) (cdA Go.Proofs.Try.f119 []) (endK Pg Go.Proofs.Try.f119) (envL [x0, x1, x2]) w0 = S119 F G x0 x1 x2 w0 := by kernel_rfl
theorem F119 (x0 x1 x2 : Value) (w0 : World) : Fn Pg 119 [x0, x1, x2] w0 = S119 (Fn Pg) (Rnd Pg) x0 x1 x2 w0 := (Fn_body (c := cdA Go.Proofs.Try.f119 []) Go.Proofs.Try.func119 (by kernel_rfl) (by kernel_rfl) [x0, x1, x2] w0 (Nat.le_of_ble_eq_true (by kernel_rfl))).trans (S119_eq _ _ x0 x1 x2 w0)

-- 120 slices.Insert[[]*ciborium/tree.node[[]ciborium/api.Version],*ciborium/tree.node[[]ciborium/api.Version]]
noncomputable def cx120 (F : FnT) (G : RndT) : Ctx := ⟨Pg, F, G, 120, none, 95⟩
noncomputable def S120 (F : FnT) (G : RndT) (x0 x1 x2 : Value) (w0 : World) : R :=
  rd (slV Pg 150 x0 (some x1) none none) fun x4 =>
  rd2 (lenG false Pg .len #[150] 3 #[false] [x2] w0) fun x5 w6 =>
  rd2 (binG false Pg .eql 3 (.tmp 0) (.const .nilFunc) x5 (.int .i64 0) w6) fun x7 w8 =>
  cnd x7 (fun _ => some (x0, w8)) (fun _ => rd2 (lenG false Pg .len #[150] 3 #[false] [x0] w8) fun x9 w10 =>
  rd2 (binG false Pg .eql 3 (.tmp 0) (.tmp 0) x1 x9 w10) fun x11 w12 =>
  cnd x11 (fun _ => rd2 (lenG false Pg .append #[150, 150] 150 #[false, false] [x0, x2] w12) fun x13 w14 =>
  some (x13, w14)) (fun _ => rd2 (binG false Pg .add 3 (.tmp 0) (.tmp 0) x9 x5 w12) fun x15 w16 =>
  rd2 (lenG false Pg .cap #[150] 3 #[false] [x0] w16) fun x17 w18 =>
  rd2 (binG false Pg .gtr 3 (.tmp 0) (.tmp 0) x15 x17 w18) fun x19 w20 =>
  cnd x19 (fun _ => rd (slV Pg 150 x0 none (some x1) none) fun x21 =>
  rd2 (binG false Pg .add 3 (.tmp 0) (.tmp 0) x9 x5 w20) fun x22 w23 =>
  rd2 (binG false Pg .sub 3 (.tmp 0) (.tmp 0) x22 x1 w23) fun x24 w25 =>
  rd2 (lenG false Pg .append #[150, 3] 150 #[false, false] [x21, x24] w25) fun x26 w27 =>
  rd (slV Pg 150 x26 (some x1) none none) fun x28 =>
  rd2 (lenG false Pg .copy #[150, 150] 3 #[false, false] [x28, x2] w27) fun x29 w30 =>
  rd2 (binG true Pg .add 3 (.tmp 0) (.tmp 0) x1 x5 (drw w30)) fun x31 _ =>
  rd (slV Pg 150 x26 (some x31) none none) fun x33 =>
  rd (slV Pg 150 x0 (some x1) none none) fun x34 =>
  rd2 (lenG false Pg .copy #[150, 150] 3 #[false, false] [x33, x34] (drw w30)) fun x35 w36 =>
  some (x26, w36)) (fun _ => rd2 (binG false Pg .add 3 (.tmp 0) (.tmp 0) x9 x5 w20) fun x37 w38 =>
  rd (slV Pg 150 x0 none (some x37) none) fun x39 =>
  rd2 (binG false Pg .add 3 (.tmp 0) (.tmp 0) x1 x5 w38) fun x40 w41 =>
  rd (slV Pg 150 x39 (some x40) none none) fun x42 =>
  rd2 (F 134 [x2, x42] w41) fun x43 w44 =>
  rd (unV .not x43) fun x45 =>
  cnd x45 (fun _ => rd2 (binG true Pg .add 3 (.tmp 0) (.tmp 0) x1 x5 (drw w44)) fun x46 _ =>
  rd (slV Pg 150 x39 (some x46) none none) fun x48 =>
  rd (slV Pg 150 x39 (some x1) none none) fun x49 =>
  rd2 (lenG false Pg .copy #[150, 150] 3 #[false, false] [x48, x49] (drw w44)) fun x50 w51 =>
  rd (slV Pg 150 x39 (some x1) none none) fun x52 =>
  rd2 (lenG false Pg .copy #[150, 150] 3 #[false, false] [x52, x2] w51) fun x53 w54 =>
  some (x39, w54)) (fun _ => rd (slV Pg 150 x39 (some x9) none none) fun x55 =>
  rd2 (lenG false Pg .copy #[150, 150] 3 #[false, false] [x55, x2] w44) fun x56 w57 =>
  rd (slV Pg 150 x39 (some x1) none none) fun x58 =>
  rd2 (F 135 [x58, x5] w57) fun x59 w60 =>
  some (x39, w60)))))
theorem S120_eq (F : FnT) (G : RndT) (x0 x1 x2 : Value) (w0 : World) : evalCode (cx120 F G) (cdA Go.Proofs.Try.f120 []) (endK Pg Go.Proofs.Try.f120) (envL [x0, x1, x2]) w0 = S120 F G x0 x1 x2 w0 := by kernel_rfl
theorem F120 (x0 x1 x2 : Value) (w0 : World) : Fn Pg 120 [x0, x1, x2] w0 = S120 (Fn Pg) (Rnd Pg) x0 x1 x2 w0 := (Fn_body (c := cdA Go.Proofs.Try.f120 []) Go.Proofs.Try.func120 (by kernel_rfl) (by kernel_rfl) [x0, x1, x2] w0 (Nat.le_of_ble_eq_true (by kernel_rfl))).trans (S120_eq _ _ x0 x1 x2 w0)

-- 121 ciborium/chain.bare
noncomputable def cx121 (F : FnT) (G : RndT) : Ctx := ⟨Pg, F, G, 121, none, 20⟩
noncomputable def S121 (F : FnT) (G : RndT) (x0 : Value) (w0 : World) : R :=
  rd2 (rawV Pg (Instr.box 85 x0) w0) fun x2 w3 =>
  rd (fldA Pg 85 x2 2) fun x4 =>
  rd (fldA Pg 83 x4 2) fun x5 =>
  rd (ldV Pg 3 x5 w3) fun x6 =>
  rd2 (binG false Pg .eql 3 (.tmp 0) (.const .nilFunc) x6 (.int .i64 0) w3) fun x7 w8 =>
  rd2 (gate x7 true (fun _ => rd (fldA Pg 85 x2 2) fun x9 => some (x9, w8)) w8) fun x10 w11 =>
  rd2 (gate x7 true (fun _ => rd (fldA Pg 83 x10 1) fun x12 => some (x12, w11)) w11) fun x13 w14 =>
  rd2 (gate x7 true (fun _ => rd (ldV Pg 64 x13 w14) fun x15 => some (x15, w14)) w14) fun x16 w17 =>
  rd2 (gate x7 true (fun _ => rd2 (binG false Pg .eql 64 (.tmp 0) (.const .nilFunc) x16 (.int .u64 0) w17) fun x18 w19 => some (x18, w19)) w17) fun x20 w21 =>
  rd (pickV x7 x20 (.bool false)) fun x22 =>
  rd2 (gate x22 true (fun _ => rd (fldA Pg 85 x2 2) fun x23 => some (x23, w21)) w21) fun x24 w25 =>
  rd2 (gate x22 true (fun _ => rd (fldA Pg 83 x24 0) fun x26 => some (x26, w25)) w25) fun x27 w28 =>
  rd2 (gate x22 true (fun _ => rd (ldV Pg 81 x27 w28) fun x29 => some (x29, w28)) w28) fun x30 w31 =>
  rd2 (gate x22 true (fun _ => rd2 (lenG false Pg .len #[81] 3 #[false] [x30] w31) fun x32 w33 => some (x32, w33)) w31) fun x34 w35 =>
  rd2 (gate x22 true (fun _ => rd2 (binG false Pg .eql 3 (.tmp 0) (.const .nilFunc) x34 (.int .i64 0) w35) fun x36 w37 => some (x36, w37)) w35) fun x38 w39 =>
  rd (pickV x22 x38 (.bool false)) fun x40 =>
  some (x40, w39)
theorem S121_eq (F : FnT) (G : RndT) (x0 : Value) (w0 : World) : evalCode (cx121 F G) (cdA Go.Proofs.Try.f121 []) (endK Pg Go.Proofs.Try.f121) (envL [x0]) w0 = S121 F G x0 w0 := by kernel_rfl
theorem F121 (x0 : Value) (w0 : World) : Fn Pg 121 [x0] w0 = S121 (Fn Pg) (Rnd Pg) x0 w0 := (Fn_body (c := cdA Go.Proofs.Try.f121 []) Go.Proofs.Try.func121 (by kernel_rfl) (by kernel_rfl) [x0] w0 (Nat.le_of_ble_eq_true (by kernel_rfl))).trans (S121_eq _ _ x0 w0)

-- 122 sort.Search
noncomputable def cx122 (F : FnT) (G : RndT) : Ctx := ⟨Pg, F, G, 122, none, 26⟩
noncomputable def K122_0 : FnT → RndT → Exit → Env → World → R := fun _ _ => endK Pg Go.Proofs.Try.f122
noncomputable def K122_1 : FnT → RndT → Exit → Env → World → R := fun F G => thenK (evalCode (cx122 F G) (cdA Go.Proofs.Try.f122 [1, 1, 1]) (K122_0 F G)) (K122_0 F G)
noncomputable def K122_2 : FnT → RndT → Exit → Env → World → R := fun F G => blkK 0 (K122_1 F G)
noncomputable def S122 (F : FnT) (G : RndT) (x0 x1 : Value) (w0 : World) : R :=
  evalLoop (cx122 F G) (cdA Go.Proofs.Try.f122 [1, 1, 0, 0, 0]) (K122_2 F G) (upd (upd (upd (upd (envL [x0, x1]) 4 (.int .i64 0)) 8 x0) 5 (.int .i64 0)) 6 x0) w0
noncomputable def S122_L1 (F : FnT) (G : RndT) (e : Env) (w0 : World) : R :=
  rd2 (binG false Pg .lss 3 (.tmp 0) (.tmp 0) (e 5) (e 6) w0) fun x101 w102 =>
  cnd x101 (fun _ => rd2 (binG false Pg .add 3 (.tmp 0) (.tmp 0) (e 5) (e 6) w102) fun x103 w104 =>
  rd2 (cvG false Pg 3 195 x103 w104) fun x105 w106 =>
  rd2 (binG false Pg .shr 195 (.tmp 0) (.const .nilFunc) x105 (.int .u64 1) w106) fun x107 w108 =>
  rd2 (cvG false Pg 195 3 x107 w108) fun x109 w110 =>
  rd2 (callV (cx122 F G) (e 1) [x109] w110) fun x111 w112 =>
  rd (unV .not x111) fun x113 =>
  cnd x113 (fun _ => rd2 (binG false Pg .add 3 (.tmp 0) (.const .nilFunc) x109 (.int .i64 1) w112) fun x114 w115 =>
  evalLoop (cx122 F G) (cdA Go.Proofs.Try.f122 [1, 1, 0, 0, 0]) (K122_2 F G) (upd (upd (upd (upd (upd (upd (upd (upd (upd (upd (upd (upd (upd (upd (upd (upd (upd e 9 (e 5)) 10 (e 6)) 11 x101) 12 (e 5)) 13 (e 6)) 14 x103) 15 x105) 16 x107) 17 x109) 7 x109) 18 (e 1)) 19 x109) 20 x111) 21 x113) 22 x109) 23 x114) 5 x114) w115) (fun _ => evalLoop (cx122 F G) (cdA Go.Proofs.Try.f122 [1, 1, 0, 0, 0]) (K122_2 F G) (upd (upd (upd (upd (upd (upd (upd (upd (upd (upd (upd (upd (upd (upd (upd (upd e 9 (e 5)) 10 (e 6)) 11 x101) 12 (e 5)) 13 (e 6)) 14 x103) 15 x105) 16 x107) 17 x109) 7 x109) 18 (e 1)) 19 x109) 20 x111) 21 x113) 24 x109) 6 x109) w112)) (fun _ => shutK (e 26) w102 fun w116 =>
  some ((e 5), w116))
theorem S122_eq (F : FnT) (G : RndT) (x0 x1 : Value) (w0 : World) : evalCode (cx122 F G) (cdA Go.Proofs.Try.f122 []) (endK Pg Go.Proofs.Try.f122) (envL [x0, x1]) w0 = S122 F G x0 x1 w0 := by kernel_rfl
theorem F122 (x0 x1 : Value) (w0 : World) : Fn Pg 122 [x0, x1] w0 = S122 (Fn Pg) (Rnd Pg) x0 x1 w0 := (Fn_body (c := cdA Go.Proofs.Try.f122 []) Go.Proofs.Try.func122 (by kernel_rfl) (by kernel_rfl) [x0, x1] w0 (Nat.le_of_ble_eq_true (by kernel_rfl))).trans (S122_eq _ _ x0 x1 w0)
theorem S122_L1_eq (F : FnT) (G : RndT) (e : Env) (w0 : World) : evalLoop (cx122 F G) (cdA Go.Proofs.Try.f122 [1, 1, 0, 0, 0]) (K122_2 F G) e w0 = S122_L1 F G e w0 := by
  rw [evalLoop_eq]
  kernel_rfl

-- 123 ciborium/chain.place$1
noncomputable def cx123 (F : FnT) (G : RndT) : Ctx := ⟨Pg, F, G, 123, none, 12⟩
noncomputable def S123 (F : FnT) (G : RndT) (x0 x1 x2 : Value) (w0 : World) : R :=
  rd (ldV Pg 76 x1 (drw w0)) fun x4 =>
  rd (ixA Pg 76 x4 x0) fun x5 =>
  rd (fldA Pg 85 x5 0) fun x6 =>
  rd (ldV Pg 64 x6 (drw w0)) fun x7 =>
  rd (ldV Pg 64 x2 (drw w0)) fun x8 =>
  rd2 (binG true Pg .leq 64 (.tmp 0) (.tmp 0) x7 x8 (drw w0)) fun x9 _ =>
  some (x9, (drw w0))
theorem S123_eq (F : FnT) (G : RndT) (x0 x1 x2 : Value) (w0 : World) : evalCode (cx123 F G) (cdA Go.Proofs.Try.f123 []) (endK Pg Go.Proofs.Try.f123) (envL [x0, x1, x2]) w0 = S123 F G x0 x1 x2 w0 := by kernel_rfl
theorem F123 (x0 x1 x2 : Value) (w0 : World) : Fn Pg 123 [x0, x1, x2] w0 = S123 (Fn Pg) (Rnd Pg) x0 x1 x2 w0 := (Fn_body (c := cdA Go.Proofs.Try.f123 []) Go.Proofs.Try.func123 (by kernel_rfl) (by kernel_rfl) [x0, x1, x2] w0 (Nat.le_of_ble_eq_true (by kernel_rfl))).trans (S123_eq _ _ x0 x1 x2 w0)

-- 124 (*ciborium/tree.Tree[[]ciborium/api.Version]).from$1
noncomputable def cx124 (F : FnT) (G : RndT) : Ctx := ⟨Pg, F, G, 124, none, 14⟩
noncomputable def S124 (F : FnT) (G : RndT) (x0 x1 x2 : Value) (w0 : World) : R :=
  rd (ldV Pg 93 x1 w0) fun x4 =>
  rd2 (F 94 [x4] w0) fun x5 w6 =>
  rd (unV .not x5) fun x7 =>
  cnd x7 (fun _ => rd (ldV Pg 93 x1 (drw w6)) fun x8 =>
  rd (nilV x8) fun x9 =>
  rd (fldA Pg 154 x9 0) fun x10 =>
  rd (ldV Pg 148 x10 (drw w6)) fun x11 =>
  rd (ldV Pg 9 x2 (drw w6)) fun x12 =>
  rd2 (F 125 [x11, x12, x0] (drw w6)) fun x13 w14 =>
  some ((.tuple #[]), w14)) (fun _ => some ((.tuple #[]), w6))
theorem S124_eq (F : FnT) (G : RndT) (x0 x1 x2 : Value) (w0 : World) : evalCode (cx124 F G) (cdA Go.Proofs.Try.f124 []) (endK Pg Go.Proofs.Try.f124) (envL [x0, x1, x2]) w0 = S124 F G x0 x1 x2 w0 := by kernel_rfl
theorem F124 (x0 x1 x2 : Value) (w0 : World) : Fn Pg 124 [x0, x1, x2] w0 = S124 (Fn Pg) (Rnd Pg) x0 x1 x2 w0 := (Fn_body (c := cdA Go.Proofs.Try.f124 []) Go.Proofs.Try.func124 (by kernel_rfl) (by kernel_rfl) [x0, x1, x2] w0 (Nat.le_of_ble_eq_true (by kernel_rfl))).trans (S124_eq _ _ x0 x1 x2 w0)

-- 125 (*ciborium/tree.node[[]ciborium/api.Version]).walk
noncomputable def cx125 (F : FnT) (G : RndT) : Ctx := ⟨Pg, F, G, 125, none, 50⟩
noncomputable def K125_0 : FnT → RndT → Exit → Env → World → R := fun _ _ => endK Pg Go.Proofs.Try.f125
noncomputable def K125_1 : FnT → RndT → Exit → Env → World → R := fun F G => blkK 0 (K125_0 F G)
noncomputable def S125 (F : FnT) (G : RndT) (x0 x1 x2 : Value) (w0 : World) : R :=
  rd2 (F 116 [x0, x1] w0) fun x4 w5 =>
  rd (extV x4 0) fun x6 =>
  rd (extV x4 1) fun x7 =>
  evalLoop (cx125 F G) (cdA Go.Proofs.Try.f125 [1, 1, 0, 0]) (K125_1 F G) (upd (upd (upd (upd (upd (upd (upd (upd (upd (envL [x0, x1, x2]) 6 (.bool false)) 10 x0) 11 x1) 12 x4) 9 x4) 13 x6) 14 x7) 7 x6) 8 x7) w5
noncomputable def S125_L1 (F : FnT) (G : RndT) (e : Env) (w0 : World) : R :=
  rd2 (F 108 [(e 0)] w0) fun x101 w102 =>
  rd (unV .not x101) fun x103 =>
  rd2 (gate x103 true (fun _ =>  some ((e 0), w102)) w102) fun x104 w105 =>
  rd2 (gate x103 true (fun _ => rd (nilV x104) fun x106 => some (x106, w105)) w105) fun x107 w108 =>
  rd2 (gate x103 true (fun _ => rd (fldA Pg 152 x107 1) fun x109 => some (x109, w108)) w108) fun x110 w111 =>
  rd2 (gate x103 true (fun _ => rd (ldV Pg 150 x110 w111) fun x112 => some (x112, w111)) w111) fun x113 w114 =>
  rd2 (gate x103 true (fun _ =>  some ((e 7), w114)) w114) fun x115 w116 =>
  rd2 (gate x103 true (fun _ => rd (ixA Pg 150 x113 x115) fun x117 => some (x117, w116)) w116) fun x118 w119 =>
  rd2 (gate x103 true (fun _ => rd (ldV Pg 148 x118 w119) fun x120 => some (x120, w119)) w119) fun x121 w122 =>
  rd2 (gate x103 true (fun _ =>  some ((e 1), w122)) w122) fun x123 w124 =>
  rd2 (gate x103 true (fun _ =>  some ((e 2), w124)) w124) fun x125 w126 =>
  rd2 (gate x103 true (fun _ => rd2 (F 125 [x121, x123, x125] w126) fun x127 w128 => some (x127, w128)) w126) fun x129 w130 =>
  rd2 (gate x103 true (fun _ => rd (unV .not x129) fun x131 => some (x131, w130)) w130) fun x132 w133 =>
  rd (pickV x103 x132 (.bool false)) fun x134 =>
  cnd x134 (fun _ => shutK (e 50) w133 fun w135 =>
  some ((.bool false), w135)) (fun _ => rd (nilV (e 0)) fun x136 =>
  rd (fldA Pg 152 x136 0) fun x137 =>
  rd (ldV Pg 149 x137 w133) fun x138 =>
  rd2 (lenG false Pg .len #[149] 3 #[false] [x138] w133) fun x139 w140 =>
  rd2 (binG false Pg .eql 3 (.tmp 0) (.tmp 0) (e 7) x139 w140) fun x141 w142 =>
  cnd x141 (fun _ => shutK (e 50) w142 fun w143 =>
  some ((.bool true), w143)) (fun _ => rd (nilV (e 0)) fun x144 =>
  rd (fldA Pg 152 x144 0) fun x145 =>
  rd (ldV Pg 149 x145 w142) fun x146 =>
  rd (ixA Pg 149 x146 (e 7)) fun x147 =>
  rd (ldV Pg 160 x147 w142) fun x148 =>
  rd2 (callV (cx125 F G) (e 2) [x148] w142) fun x149 w150 =>
  rd (unV .not x149) fun x151 =>
  cnd x151 (fun _ => shutK (e 50) w150 fun w152 =>
  some ((.bool false), w152)) (fun _ => rd2 (binG false Pg .add 3 (.tmp 0) (.const .nilFunc) (e 7) (.int .i64 1) w150) fun x153 w154 =>
  evalLoop (cx125 F G) (cdA Go.Proofs.Try.f125 [1, 1, 0, 0]) (K125_1 F G) (upd (upd (upd (upd (upd (upd (upd (upd (upd (upd (upd (upd (upd (upd (upd (upd (upd (upd (upd (upd (upd (upd (upd (upd (upd (upd (upd (upd (upd (upd (upd (upd (upd (upd (upd (upd e 17 (e 0)) 18 x101) 19 x103) 20 x103) 21 x104) 22 x107) 23 x110) 24 x113) 25 x115) 26 x118) 27 x121) 28 x123) 29 x125) 30 x129) 31 x132) 32 x134) 33 (e 7)) 34 (e 0)) 35 x136) 36 x137) 37 x138) 38 x139) 39 x141) 40 (e 2)) 41 (e 0)) 42 x144) 43 x145) 44 x146) 45 (e 7)) 46 x147) 47 x148) 48 x149) 49 x151) 15 (e 7)) 16 x153) 7 x153) w154)))
theorem S125_eq (F : FnT) (G : RndT) (x0 x1 x2 : Value) (w0 : World) : evalCode (cx125 F G) (cdA Go.Proofs.Try.f125 []) (endK Pg Go.Proofs.Try.f125) (envL [x0, x1, x2]) w0 = S125 F G x0 x1 x2 w0 := by kernel_rfl
theorem F125 (x0 x1 x2 : Value) (w0 : World) : Fn Pg 125 [x0, x1, x2] w0 = S125 (Fn Pg) (Rnd Pg) x0 x1 x2 w0 := (Fn_body (c := cdA Go.Proofs.Try.f125 []) Go.Proofs.Try.func125 (by kernel_rfl) (by kernel_rfl) [x0, x1, x2] w0 (Nat.le_of_ble_eq_true (by kernel_rfl))).trans (S125_eq _ _ x0 x1 x2 w0)
theorem S125_L1_eq (F : FnT) (G : RndT) (e : Env) (w0 : World) : evalLoop (cx125 F G) (cdA Go.Proofs.Try.f125 [1, 1, 0, 0]) (K125_1 F G) e w0 = S125_L1 F G e w0 := by
  rw [evalLoop_eq]
  kernel_rfl

-- 126 slices.Delete[[]ciborium/tree.Entry[[]ciborium/api.Version],ciborium/tree.Entry[[]ciborium/api.Version]]
noncomputable def cx126 (F : FnT) (G : RndT) : Ctx := ⟨Pg, F, G, 126, none, 33⟩
noncomputable def S126 (F : FnT) (G : RndT) (x0 x1 x2 : Value) (w0 : World) : R :=
  rd2 (lenG false Pg .len #[149] 3 #[false] [x0] w0) fun x4 w5 =>
  rd (slV Pg 149 x0 (some x1) (some x2) (some x4)) fun x6 =>
  rd2 (binG false Pg .eql 3 (.tmp 0) (.tmp 0) x1 x2 w5) fun x7 w8 =>
  cnd x7 (fun _ => some (x0, w8)) (fun _ => rd2 (lenG false Pg .len #[149] 3 #[false] [x0] w8) fun x9 w10 =>
  rd (slV Pg 149 x0 none (some x1) none) fun x11 =>
  rd (slV Pg 149 x0 (some x2) none none) fun x12 =>
  rd2 (lenG false Pg .append #[149, 149] 149 #[false, false] [x11, x12] (drw w10)) fun x13 w14 =>
  rd2 (lenG false Pg .len #[149] 3 #[false] [x13] w14) fun x15 w16 =>
  rd (slV Pg 149 x13 (some x15) (some x9) none) fun x17 =>
  rd2 (lenG false Pg .clear #[149] 0 #[false] [x17] w16) fun x18 w19 =>
  some (x13, w19))
theorem S126_eq (F : FnT) (G : RndT) (x0 x1 x2 : Value) (w0 : World) : evalCode (cx126 F G) (cdA Go.Proofs.Try.f126 []) (endK Pg Go.Proofs.Try.f126) (envL [x0, x1, x2]) w0 = S126 F G x0 x1 x2 w0 := by kernel_rfl
theorem F126 (x0 x1 x2 : Value) (w0 : World) : Fn Pg 126 [x0, x1, x2] w0 = S126 (Fn Pg) (Rnd Pg) x0 x1 x2 w0 := (Fn_body (c := cdA Go.Proofs.Try.f126 []) Go.Proofs.Try.func126 (by kernel_rfl) (by kernel_rfl) [x0, x1, x2] w0 (Nat.le_of_ble_eq_true (by kernel_rfl))).trans (S126_eq _ _ x0 x1 x2 w0)

-- 127 (*ciborium/tree.node[[]ciborium/api.Version]).edge
noncomputable def cx127 (F : FnT) (G : RndT) : Ctx := ⟨Pg, F, G, 127, none, 45⟩
noncomputable def K127_0 : FnT → RndT → Exit → Env → World → R := fun _ _ => endK Pg Go.Proofs.Try.f127
noncomputable def K127_1 : FnT → RndT → Exit → Env → World → R := fun F G => thenK (evalCode (cx127 F G) (cdA Go.Proofs.Try.f127 [1, 1]) (K127_0 F G)) (K127_0 F G)
noncomputable def K127_2 : FnT → RndT → Exit → Env → World → R := fun F G => blkK 0 (K127_1 F G)
noncomputable def S127 (F : FnT) (G : RndT) (x0 x1 : Value) (w0 : World) : R :=
  rd2 (rawV Pg (Instr.alloc 160 true (.tuple #[])) w0) fun x3 w4 =>
  evalLoop (cx127 F G) (cdA Go.Proofs.Try.f127 [1, 0, 0, 0]) (K127_2 F G) (upd (envL [x0, x1]) 4 x3) w4
noncomputable def S127_L1 (F : FnT) (G : RndT) (e : Env) (w0 : World) : R :=
  rd2 (F 108 [(e 0)] w0) fun x101 w102 =>
  rd (unV .not x101) fun x103 =>
  cnd x103 (fun _ => cnd (e 1) (fun _ => rd (nilV (e 0)) fun x104 =>
  rd (fldA Pg 152 x104 1) fun x105 =>
  rd (ldV Pg 150 x105 (drw w102)) fun x106 =>
  rd (nilV (e 0)) fun x107 =>
  rd (fldA Pg 152 x107 0) fun x108 =>
  rd (ldV Pg 149 x108 (drw w102)) fun x109 =>
  rd2 (lenG true Pg .len #[149] 3 #[false] [x109] (drw w102)) fun x110 _ =>
  rd (ixA Pg 150 x106 x110) fun x112 =>
  rd (ldV Pg 148 x112 (drw w102)) fun x113 =>
  evalLoop (cx127 F G) (cdA Go.Proofs.Try.f127 [1, 0, 0, 0]) (K127_2 F G) (upd (upd (upd (upd (upd (upd (upd (upd (upd (upd (upd (upd (upd (upd (upd (upd e 5 (e 0)) 6 x101) 7 x103) 8 (e 1)) 9 (e 0)) 10 x104) 11 x105) 12 x106) 13 (e 0)) 14 x107) 15 x108) 16 x109) 17 x110) 18 x112) 19 x113) 0 x113) (drw w102)) (fun _ => rd (nilV (e 0)) fun x114 =>
  rd (fldA Pg 152 x114 1) fun x115 =>
  rd (ldV Pg 150 x115 w102) fun x116 =>
  rd (ixA Pg 150 x116 (.int .i64 0)) fun x117 =>
  rd (ldV Pg 148 x117 w102) fun x118 =>
  evalLoop (cx127 F G) (cdA Go.Proofs.Try.f127 [1, 0, 0, 0]) (K127_2 F G) (upd (upd (upd (upd (upd (upd (upd (upd (upd (upd (upd e 5 (e 0)) 6 x101) 7 x103) 8 (e 1)) 20 (e 0)) 21 x114) 22 x115) 23 x116) 24 x117) 25 x118) 0 x118) w102)) (fun _ => cnd (e 1) (fun _ => rd (nilV (e 0)) fun x119 =>
  rd (fldA Pg 152 x119 0) fun x120 =>
  rd (ldV Pg 149 x120 (drw w102)) fun x121 =>
  rd (nilV (e 0)) fun x122 =>
  rd (fldA Pg 152 x122 0) fun x123 =>
  rd (ldV Pg 149 x123 (drw w102)) fun x124 =>
  rd2 (lenG true Pg .len #[149] 3 #[false] [x124] (drw w102)) fun x125 _ =>
  rd2 (binG true Pg .sub 3 (.tmp 0) (.const .nilFunc) x125 (.int .i64 1) (drw w102)) fun x127 _ =>
  rd (ixA Pg 149 x121 x127) fun x129 =>
  rd (ldV Pg 160 x129 (drw w102)) fun x130 =>
  rd2 (rawU Pg (Instr.storeAt 160 (e 4) x130) (drw w102)) fun x132 w131 =>
  shutK (e 45) w131 fun w133 =>
  rd (ldV Pg 160 (e 4) w133) fun x134 =>
  some (x134, w133)) (fun _ => rd (nilV (e 0)) fun x135 =>
  rd (fldA Pg 152 x135 0) fun x136 =>
  rd (ldV Pg 149 x136 w102) fun x137 =>
  rd (ixA Pg 149 x137 (.int .i64 0)) fun x138 =>
  rd (ldV Pg 160 x138 w102) fun x139 =>
  rd2 (rawU Pg (Instr.storeAt 160 (e 4) x139) w102) fun x141 w140 =>
  shutK (e 45) w140 fun w142 =>
  rd (ldV Pg 160 (e 4) w142) fun x143 =>
  some (x143, w142)))
theorem S127_eq (F : FnT) (G : RndT) (x0 x1 : Value) (w0 : World) : evalCode (cx127 F G) (cdA Go.Proofs.Try.f127 []) (endK Pg Go.Proofs.Try.f127) (envL [x0, x1]) w0 = S127 F G x0 x1 w0 := by kernel_rfl
theorem F127 (x0 x1 : Value) (w0 : World) : Fn Pg 127 [x0, x1] w0 = S127 (Fn Pg) (Rnd Pg) x0 x1 w0 := (Fn_body (c := cdA Go.Proofs.Try.f127 []) Go.Proofs.Try.func127 (by kernel_rfl) (by kernel_rfl) [x0, x1] w0 (Nat.le_of_ble_eq_true (by kernel_rfl))).trans (S127_eq _ _ x0 x1 w0)
theorem S127_L1_eq (F : FnT) (G : RndT) (e : Env) (w0 : World) : evalLoop (cx127 F G) (cdA Go.Proofs.Try.f127 [1, 0, 0, 0]) (K127_2 F G) e w0 = S127_L1 F G e w0 := by
  rw [evalLoop_eq]
  kernel_rfl

-- 128 (*ciborium/tree.node[[]ciborium/api.Version]).merge
noncomputable def cx128 (F : FnT) (G : RndT) : Ctx := ⟨Pg, F, G, 128, none, 77⟩
noncomputable def S128 (F : FnT) (G : RndT) (x0 x1 : Value) (w0 : World) : R :=
  rd (nilV x0) fun x3 =>
  rd (fldA Pg 152 x3 1) fun x4 =>
  rd (ldV Pg 150 x4 (drw w0)) fun x5 =>
  rd (ixA Pg 150 x5 x1) fun x6 =>
  rd (ldV Pg 148 x6 (drw w0)) fun x7 =>
  rd (nilV x0) fun x8 =>
  rd (fldA Pg 152 x8 1) fun x9 =>
  rd (ldV Pg 150 x9 (drw w0)) fun x10 =>
  rd2 (binG true Pg .add 3 (.tmp 0) (.const .nilFunc) x1 (.int .i64 1) (drw w0)) fun x11 _ =>
  rd (ixA Pg 150 x10 x11) fun x13 =>
  rd (ldV Pg 148 x13 (drw w0)) fun x14 =>
  rd (nilV x7) fun x15 =>
  rd (fldA Pg 152 x15 0) fun x16 =>
  rd (ldV Pg 149 x16 (drw (drw w0))) fun x17 =>
  rd (nilV x0) fun x18 =>
  rd (fldA Pg 152 x18 0) fun x19 =>
  rd (ldV Pg 149 x19 (drw (drw w0))) fun x20 =>
  rd (ixA Pg 149 x20 x1) fun x21 =>
  rd (ldV Pg 160 x21 (drw (drw w0))) fun x22 =>
  rd2 (rawV Pg (Instr.buildSlice 149 1 #[(0, x22)]) (drw (drw w0))) fun x23 w24 =>
  rd2 (lenG false Pg .append #[149, 149] 149 #[false, false] [x17, x23] w24) fun x25 w26 =>
  rd (nilV x14) fun x27 =>
  rd (fldA Pg 152 x27 0) fun x28 =>
  rd (ldV Pg 149 x28 w26) fun x29 =>
  chk (holdsAt Pg none (.ld 149) x28 x29 w24) fun _ =>
  chk (holdsAt Pg none (.ld 149) x28 x29 (drw (drw w0))) fun _ =>
  rd2 (lenG false Pg .append #[149, 149] 149 #[false, false] [x25, x29] w26) fun x30 w31 =>
  rd (nilV x7) fun x32 =>
  rd (fldA Pg 152 x32 0) fun x33 =>
  rd2 (rawU Pg (Instr.storeAt 149 x33 x30) w31) fun x35 w34 =>
  rd (nilV x7) fun x36 =>
  rd (fldA Pg 152 x36 1) fun x37 =>
  rd (ldV Pg 150 x37 (drw w34)) fun x38 =>
  rd (nilV x14) fun x39 =>
  rd (fldA Pg 152 x39 1) fun x40 =>
  rd (ldV Pg 150 x40 (drw w34)) fun x41 =>
  rd2 (lenG false Pg .append #[150, 150] 150 #[false, false] [x38, x41] (drw w34)) fun x42 w43 =>
  rd (nilV x7) fun x44 =>
  rd (fldA Pg 152 x44 1) fun x45 =>
  rd2 (rawU Pg (Instr.storeAt 150 x45 x42) w43) fun x47 w46 =>
  rd (nilV x0) fun x48 =>
  rd (fldA Pg 152 x48 0) fun x49 =>
  rd (ldV Pg 149 x49 w46) fun x50 =>
  rd2 (binG false Pg .add 3 (.tmp 0) (.const .nilFunc) x1 (.int .i64 1) w46) fun x51 w52 =>
  rd2 (F 126 [x50, x1, x51] w52) fun x53 w54 =>
  rd (nilV x0) fun x55 =>
  rd (fldA Pg 152 x55 0) fun x56 =>
  rd2 (rawU Pg (Instr.storeAt 149 x56 x53) w54) fun x58 w57 =>
  rd (nilV x0) fun x59 =>
  rd (fldA Pg 152 x59 1) fun x60 =>
  rd (ldV Pg 150 x60 w57) fun x61 =>
  rd2 (binG false Pg .add 3 (.tmp 0) (.const .nilFunc) x1 (.int .i64 1) w57) fun x62 w63 =>
  rd2 (binG false Pg .add 3 (.tmp 0) (.const .nilFunc) x1 (.int .i64 2) w63) fun x64 w65 =>
  rd2 (F 136 [x61, x62, x64] w65) fun x66 w67 =>
  rd (nilV x0) fun x68 =>
  rd (fldA Pg 152 x68 1) fun x69 =>
  rd2 (rawU Pg (Instr.storeAt 150 x69 x66) w67) fun x71 w70 =>
  some ((.tuple #[]), w70)
theorem S128_eq (F : FnT) (G : RndT) (x0 x1 : Value) (w0 : World) : evalCode (cx128 F G) (cdA Go.Proofs.Try.f128 []) (endK Pg Go.Proofs.Try.f128) (envL [x0, x1]) w0 = S128 F G x0 x1 w0 := by kernel_rfl
theorem F128 (x0 x1 : Value) (w0 : World) : Fn Pg 128 [x0, x1] w0 = S128 (Fn Pg) (Rnd Pg) x0 x1 w0 := (Fn_body (c := cdA Go.Proofs.Try.f128 []) Go.Proofs.Try.func128 (by kernel_rfl) (by kernel_rfl) [x0, x1] w0 (Nat.le_of_ble_eq_true (by kernel_rfl))).trans (S128_eq _ _ x0 x1 w0)

-- 129 (*ciborium/tree.node[[]ciborium/api.Version]).rich
noncomputable def cx129 (F : FnT) (G : RndT) : Ctx := ⟨Pg, F, G, 129, none, 87⟩
noncomputable def S129 (F : FnT) (G : RndT) (x0 x1 : Value) (w0 : World) : R :=
  rd (nilV x0) fun x3 =>
  rd (fldA Pg 152 x3 1) fun x4 =>
  rd (ldV Pg 150 x4 w0) fun x5 =>
  rd (ixA Pg 150 x5 x1) fun x6 =>
  rd (ldV Pg 148 x6 w0) fun x7 =>
  rd (nilV x7) fun x8 =>
  rd (fldA Pg 152 x8 0) fun x9 =>
  rd (ldV Pg 149 x9 w0) fun x10 =>
  rd2 (lenG false Pg .len #[149] 3 #[false] [x10] w0) fun x11 w12 =>
  rd2 (binG false Pg .gtr 3 (.tmp 0) (.const .nilFunc) x11 (.int .i64 2) w12) fun x13 w14 =>
  cnd x13 (fun _ => some (x1, w14)) (fun _ => rd2 (binG false Pg .gtr 3 (.tmp 0) (.const .nilFunc) x1 (.int .i64 0) w14) fun x15 w16 =>
  rd2 (gate x15 true (fun _ =>  some (x0, w16)) w16) fun x17 w18 =>
  rd2 (gate x15 true (fun _ => rd (nilV x17) fun x19 => some (x19, w18)) w18) fun x20 w21 =>
  rd2 (gate x15 true (fun _ => rd (fldA Pg 152 x20 1) fun x22 => some (x22, w21)) w21) fun x23 w24 =>
  rd2 (gate x15 true (fun _ => rd (ldV Pg 150 x23 w24) fun x25 => some (x25, w24)) w24) fun x26 w27 =>
  rd2 (gate x15 true (fun _ =>  some (x1, w27)) w27) fun x28 w29 =>
  rd2 (gate x15 true (fun _ => rd2 (binG false Pg .sub 3 (.tmp 0) (.const .nilFunc) x28 (.int .i64 1) w29) fun x30 w31 => some (x30, w31)) w29) fun x32 w33 =>
  rd2 (gate x15 true (fun _ => rd (ixA Pg 150 x26 x32) fun x34 => some (x34, w33)) w33) fun x35 w36 =>
  rd2 (gate x15 true (fun _ => rd (ldV Pg 148 x35 w36) fun x37 => some (x37, w36)) w36) fun x38 w39 =>
  rd2 (gate x15 true (fun _ => rd (nilV x38) fun x40 => some (x40, w39)) w39) fun x41 w42 =>
  rd2 (gate x15 true (fun _ => rd (fldA Pg 152 x41 0) fun x43 => some (x43, w42)) w42) fun x44 w45 =>
  rd2 (gate x15 true (fun _ => rd (ldV Pg 149 x44 w45) fun x46 => some (x46, w45)) w45) fun x47 w48 =>
  rd2 (gate x15 true (fun _ => rd2 (lenG false Pg .len #[149] 3 #[false] [x47] w48) fun x49 w50 => some (x49, w50)) w48) fun x51 w52 =>
  rd2 (gate x15 true (fun _ => rd2 (binG false Pg .gtr 3 (.tmp 0) (.const .nilFunc) x51 (.int .i64 2) w52) fun x53 w54 => some (x53, w54)) w52) fun x55 w56 =>
  rd (pickV x15 x55 (.bool false)) fun x57 =>
  cnd x57 (fun _ => rd2 (binG false Pg .sub 3 (.tmp 0) (.const .nilFunc) x1 (.int .i64 1) w56) fun x58 w59 =>
  rd2 (F 137 [x0, x1, x58] w59) fun x60 w61 =>
  some (x1, w61)) (fun _ => rd (nilV x0) fun x62 =>
  rd (fldA Pg 152 x62 0) fun x63 =>
  rd (ldV Pg 149 x63 w56) fun x64 =>
  rd2 (lenG false Pg .len #[149] 3 #[false] [x64] w56) fun x65 w66 =>
  rd2 (binG false Pg .lss 3 (.tmp 0) (.tmp 0) x1 x65 w66) fun x67 w68 =>
  rd2 (gate x67 true (fun _ =>  some (x0, w68)) w68) fun x69 w70 =>
  rd2 (gate x67 true (fun _ => rd (nilV x69) fun x71 => some (x71, w70)) w70) fun x72 w73 =>
  rd2 (gate x67 true (fun _ => rd (fldA Pg 152 x72 1) fun x74 => some (x74, w73)) w73) fun x75 w76 =>
  rd2 (gate x67 true (fun _ => rd (ldV Pg 150 x75 w76) fun x77 => some (x77, w76)) w76) fun x78 w79 =>
  rd2 (gate x67 true (fun _ =>  some (x1, w79)) w79) fun x80 w81 =>
  rd2 (gate x67 true (fun _ => rd2 (binG false Pg .add 3 (.tmp 0) (.const .nilFunc) x80 (.int .i64 1) w81) fun x82 w83 => some (x82, w83)) w81) fun x84 w85 =>
  rd2 (gate x67 true (fun _ => rd (ixA Pg 150 x78 x84) fun x86 => some (x86, w85)) w85) fun x87 w88 =>
  rd2 (gate x67 true (fun _ => rd (ldV Pg 148 x87 w88) fun x89 => some (x89, w88)) w88) fun x90 w91 =>
  rd2 (gate x67 true (fun _ => rd (nilV x90) fun x92 => some (x92, w91)) w91) fun x93 w94 =>
  rd2 (gate x67 true (fun _ => rd (fldA Pg 152 x93 0) fun x95 => some (x95, w94)) w94) fun x96 w97 =>
  rd2 (gate x67 true (fun _ => rd (ldV Pg 149 x96 w97) fun x98 => some (x98, w97)) w97) fun x99 w100 =>
  rd2 (gate x67 true (fun _ => rd2 (lenG false Pg .len #[149] 3 #[false] [x99] w100) fun x101 w102 => some (x101, w102)) w100) fun x103 w104 =>
  rd2 (gate x67 true (fun _ => rd2 (binG false Pg .gtr 3 (.tmp 0) (.const .nilFunc) x103 (.int .i64 2) w104) fun x105 w106 => some (x105, w106)) w104) fun x107 w108 =>
  rd (pickV x67 x107 (.bool false)) fun x109 =>
  cnd x109 (fun _ => rd2 (binG false Pg .add 3 (.tmp 0) (.const .nilFunc) x1 (.int .i64 1) w108) fun x110 w111 =>
  rd2 (F 137 [x0, x1, x110] w111) fun x112 w113 =>
  some (x1, w113)) (fun _ => rd (nilV x0) fun x114 =>
  rd (fldA Pg 152 x114 0) fun x115 =>
  rd (ldV Pg 149 x115 w108) fun x116 =>
  rd2 (lenG false Pg .len #[149] 3 #[false] [x116] w108) fun x117 w118 =>
  rd2 (binG false Pg .lss 3 (.tmp 0) (.tmp 0) x1 x117 w118) fun x119 w120 =>
  cnd x119 (fun _ => rd2 (F 128 [x0, x1] w120) fun x121 w122 =>
  some (x1, w122)) (fun _ => rd2 (binG false Pg .sub 3 (.tmp 0) (.const .nilFunc) x1 (.int .i64 1) w120) fun x123 w124 =>
  rd2 (F 128 [x0, x123] w124) fun x125 w126 =>
  rd2 (binG false Pg .sub 3 (.tmp 0) (.const .nilFunc) x1 (.int .i64 1) w126) fun x127 w128 =>
  some (x127, w128)))))
theorem S129_eq (F : FnT) (G : RndT) (x0 x1 : Value) (w0 : World) : evalCode (cx129 F G) (cdA Go.Proofs.Try.f129 []) (endK Pg Go.Proofs.Try.f129) (envL [x0, x1]) w0 = S129 F G x0 x1 w0 := by kernel_rfl
theorem F129 (x0 x1 : Value) (w0 : World) : Fn Pg 129 [x0, x1] w0 = S129 (Fn Pg) (Rnd Pg) x0 x1 w0 := (Fn_body (c := cdA Go.Proofs.Try.f129 []) Go.Proofs.Try.func129 (by kernel_rfl) (by kernel_rfl) [x0, x1] w0 (Nat.le_of_ble_eq_true (by kernel_rfl))).trans (S129_eq _ _ x0 x1 w0)

-- 136 slices.Delete[[]*ciborium/tree.node[[]ciborium/api.Version],*ciborium/tree.node[[]ciborium/api.Version]]
noncomputable def cx136 (F : FnT) (G : RndT) : Ctx := ⟨Pg, F, G, 136, none, 33⟩
noncomputable def S136 (F : FnT) (G : RndT) (x0 x1 x2 : Value) (w0 : World) : R :=
  rd2 (lenG false Pg .len #[150] 3 #[false] [x0] w0) fun x4 w5 =>
  rd (slV Pg 150 x0 (some x1) (some x2) (some x4)) fun x6 =>
  rd2 (binG false Pg .eql 3 (.tmp 0) (.tmp 0) x1 x2 w5) fun x7 w8 =>
  cnd x7 (fun _ => some (x0, w8)) (fun _ => rd2 (lenG false Pg .len #[150] 3 #[false] [x0] w8) fun x9 w10 =>
  rd (slV Pg 150 x0 none (some x1) none) fun x11 =>
  rd (slV Pg 150 x0 (some x2) none none) fun x12 =>
  rd2 (lenG false Pg .append #[150, 150] 150 #[false, false] [x11, x12] (drw w10)) fun x13 w14 =>
  rd2 (lenG false Pg .len #[150] 3 #[false] [x13] w14) fun x15 w16 =>
  rd (slV Pg 150 x13 (some x15) (some x9) none) fun x17 =>
  rd2 (lenG false Pg .clear #[150] 0 #[false] [x17] w16) fun x18 w19 =>
  some (x13, w19))
theorem S136_eq (F : FnT) (G : RndT) (x0 x1 x2 : Value) (w0 : World) : evalCode (cx136 F G) (cdA Go.Proofs.Try.f136 []) (endK Pg Go.Proofs.Try.f136) (envL [x0, x1, x2]) w0 = S136 F G x0 x1 x2 w0 := by kernel_rfl
theorem F136 (x0 x1 x2 : Value) (w0 : World) : Fn Pg 136 [x0, x1, x2] w0 = S136 (Fn Pg) (Rnd Pg) x0 x1 x2 w0 := (Fn_body (c := cdA Go.Proofs.Try.f136 []) Go.Proofs.Try.func136 (by kernel_rfl) (by kernel_rfl) [x0, x1, x2] w0 (Nat.le_of_ble_eq_true (by kernel_rfl))).trans (S136_eq _ _ x0 x1 x2 w0)

-- 137 (*ciborium/tree.node[[]ciborium/api.Version]).lend
noncomputable def cx137 (F : FnT) (G : RndT) : Ctx := ⟨Pg, F, G, 137, none, 162⟩
noncomputable def S137 (F : FnT) (G : RndT) (x0 x1 x2 : Value) (w0 : World) : R :=
  rd (nilV x0) fun x4 =>
  rd (fldA Pg 152 x4 1) fun x5 =>
  rd (ldV Pg 150 x5 (drw w0)) fun x6 =>
  rd (ixA Pg 150 x6 x1) fun x7 =>
  rd (ldV Pg 148 x7 (drw w0)) fun x8 =>
  rd (nilV x0) fun x9 =>
  rd (fldA Pg 152 x9 1) fun x10 =>
  rd (ldV Pg 150 x10 (drw w0)) fun x11 =>
  rd (ixA Pg 150 x11 x2) fun x12 =>
  rd (ldV Pg 148 x12 (drw w0)) fun x13 =>
  rd2 (binG false Pg .lss 3 (.tmp 0) (.tmp 0) x2 x1 (drw w0)) fun x14 w15 =>
  cnd x14 (fun _ => rd (nilV x13) fun x16 =>
  rd (fldA Pg 152 x16 0) fun x17 =>
  rd (ldV Pg 149 x17 w15) fun x18 =>
  rd2 (lenG false Pg .len #[149] 3 #[false] [x18] w15) fun x19 w20 =>
  rd2 (binG false Pg .sub 3 (.tmp 0) (.const .nilFunc) x19 (.int .i64 1) w20) fun x21 w22 =>
  rd (nilV x8) fun x23 =>
  rd (fldA Pg 152 x23 0) fun x24 =>
  rd (ldV Pg 149 x24 (drw w22)) fun x25 =>
  rd (nilV x0) fun x26 =>
  rd (fldA Pg 152 x26 0) fun x27 =>
  rd (ldV Pg 149 x27 (drw w22)) fun x28 =>
  rd (ixA Pg 149 x28 x2) fun x29 =>
  rd (ldV Pg 160 x29 (drw w22)) fun x30 =>
  rd2 (rawV Pg (Instr.buildSlice 149 1 #[(0, x30)]) (drw w22)) fun x31 w32 =>
  rd2 (F 119 [x25, (.int .i64 0), x31] w32) fun x33 w34 =>
  rd (nilV x8) fun x35 =>
  rd (fldA Pg 152 x35 0) fun x36 =>
  rd2 (rawU Pg (Instr.storeAt 149 x36 x33) w34) fun x38 w37 =>
  rd (nilV x0) fun x39 =>
  rd (fldA Pg 152 x39 0) fun x40 =>
  rd (ldV Pg 149 x40 (drw w37)) fun x41 =>
  rd (nilV x13) fun x42 =>
  rd (fldA Pg 152 x42 0) fun x43 =>
  rd (ldV Pg 149 x43 (drw w37)) fun x44 =>
  rd (ixA Pg 149 x44 x21) fun x45 =>
  rd (ldV Pg 160 x45 (drw w37)) fun x46 =>
  rd (ixA Pg 149 x41 x2) fun x47 =>
  rd2 (rawU Pg (Instr.storeAt 160 x47 x46) (drw w37)) fun x49 w48 =>
  rd (nilV x13) fun x50 =>
  rd (fldA Pg 152 x50 0) fun x51 =>
  rd (ldV Pg 149 x51 w48) fun x52 =>
  rd (slV Pg 149 x52 none (some x21) none) fun x53 =>
  rd (nilV x13) fun x54 =>
  rd (fldA Pg 152 x54 0) fun x55 =>
  rd2 (rawU Pg (Instr.storeAt 149 x55 x53) w48) fun x57 w56 =>
  rd2 (F 108 [x13] w56) fun x58 w59 =>
  rd (unV .not x58) fun x60 =>
  cnd x60 (fun _ => rd (nilV x8) fun x61 =>
  rd (fldA Pg 152 x61 1) fun x62 =>
  rd (ldV Pg 150 x62 (drw w59)) fun x63 =>
  rd (nilV x13) fun x64 =>
  rd (fldA Pg 152 x64 1) fun x65 =>
  rd (ldV Pg 150 x65 (drw w59)) fun x66 =>
  rd2 (binG true Pg .add 3 (.tmp 0) (.const .nilFunc) x21 (.int .i64 1) (drw w59)) fun x67 _ =>
  rd (ixA Pg 150 x66 x67) fun x69 =>
  rd (ldV Pg 148 x69 (drw w59)) fun x70 =>
  rd2 (rawV Pg (Instr.buildSlice 150 1 #[(0, x70)]) (drw w59)) fun x71 w72 =>
  rd2 (F 120 [x63, (.int .i64 0), x71] w72) fun x73 w74 =>
  rd (nilV x8) fun x75 =>
  rd (fldA Pg 152 x75 1) fun x76 =>
  rd2 (rawU Pg (Instr.storeAt 150 x76 x73) w74) fun x78 w77 =>
  rd (nilV x13) fun x79 =>
  rd (fldA Pg 152 x79 1) fun x80 =>
  rd (ldV Pg 150 x80 w77) fun x81 =>
  rd2 (binG false Pg .add 3 (.tmp 0) (.const .nilFunc) x21 (.int .i64 1) w77) fun x82 w83 =>
  rd (slV Pg 150 x81 none (some x82) none) fun x84 =>
  rd (nilV x13) fun x85 =>
  rd (fldA Pg 152 x85 1) fun x86 =>
  rd2 (rawU Pg (Instr.storeAt 150 x86 x84) w83) fun x88 w87 =>
  some ((.tuple #[]), w87)) (fun _ => some ((.tuple #[]), w59))) (fun _ => rd (nilV x8) fun x89 =>
  rd (fldA Pg 152 x89 0) fun x90 =>
  rd (ldV Pg 149 x90 (drw w15)) fun x91 =>
  rd (nilV x0) fun x92 =>
  rd (fldA Pg 152 x92 0) fun x93 =>
  rd (ldV Pg 149 x93 (drw w15)) fun x94 =>
  rd (ixA Pg 149 x94 x1) fun x95 =>
  rd (ldV Pg 160 x95 (drw w15)) fun x96 =>
  rd2 (rawV Pg (Instr.buildSlice 149 1 #[(0, x96)]) (drw w15)) fun x97 w98 =>
  rd2 (lenG false Pg .append #[149, 149] 149 #[false, false] [x91, x97] w98) fun x99 w100 =>
  rd (nilV x8) fun x101 =>
  rd (fldA Pg 152 x101 0) fun x102 =>
  rd2 (rawU Pg (Instr.storeAt 149 x102 x99) w100) fun x104 w103 =>
  rd (nilV x0) fun x105 =>
  rd (fldA Pg 152 x105 0) fun x106 =>
  rd (ldV Pg 149 x106 (drw w103)) fun x107 =>
  rd (nilV x13) fun x108 =>
  rd (fldA Pg 152 x108 0) fun x109 =>
  rd (ldV Pg 149 x109 (drw w103)) fun x110 =>
  rd (ixA Pg 149 x110 (.int .i64 0)) fun x111 =>
  rd (ldV Pg 160 x111 (drw w103)) fun x112 =>
  rd (ixA Pg 149 x107 x1) fun x113 =>
  rd2 (rawU Pg (Instr.storeAt 160 x113 x112) (drw w103)) fun x115 w114 =>
  rd (nilV x13) fun x116 =>
  rd (fldA Pg 152 x116 0) fun x117 =>
  rd (ldV Pg 149 x117 w114) fun x118 =>
  rd2 (F 126 [x118, (.int .i64 0), (.int .i64 1)] w114) fun x119 w120 =>
  rd (nilV x13) fun x121 =>
  rd (fldA Pg 152 x121 0) fun x122 =>
  rd2 (rawU Pg (Instr.storeAt 149 x122 x119) w120) fun x124 w123 =>
  rd2 (F 108 [x13] w123) fun x125 w126 =>
  rd (unV .not x125) fun x127 =>
  cnd x127 (fun _ => rd (nilV x8) fun x128 =>
  rd (fldA Pg 152 x128 1) fun x129 =>
  rd (ldV Pg 150 x129 (drw w126)) fun x130 =>
  rd (nilV x13) fun x131 =>
  rd (fldA Pg 152 x131 1) fun x132 =>
  rd (ldV Pg 150 x132 (drw w126)) fun x133 =>
  rd (ixA Pg 150 x133 (.int .i64 0)) fun x134 =>
  rd (ldV Pg 148 x134 (drw w126)) fun x135 =>
  rd2 (rawV Pg (Instr.buildSlice 150 1 #[(0, x135)]) (drw w126)) fun x136 w137 =>
  rd2 (lenG false Pg .append #[150, 150] 150 #[false, false] [x130, x136] w137) fun x138 w139 =>
  rd (nilV x8) fun x140 =>
  rd (fldA Pg 152 x140 1) fun x141 =>
  rd2 (rawU Pg (Instr.storeAt 150 x141 x138) w139) fun x143 w142 =>
  rd (nilV x13) fun x144 =>
  rd (fldA Pg 152 x144 1) fun x145 =>
  rd (ldV Pg 150 x145 w142) fun x146 =>
  rd2 (F 136 [x146, (.int .i64 0), (.int .i64 1)] w142) fun x147 w148 =>
  rd (nilV x13) fun x149 =>
  rd (fldA Pg 152 x149 1) fun x150 =>
  rd2 (rawU Pg (Instr.storeAt 150 x150 x147) w148) fun x152 w151 =>
  some ((.tuple #[]), w151)) (fun _ => some ((.tuple #[]), w126)))
theorem S137_eq (F : FnT) (G : RndT) (x0 x1 x2 : Value) (w0 : World) : evalCode (cx137 F G) (cdA Go.Proofs.Try.f137 []) (endK Pg Go.Proofs.Try.f137) (envL [x0, x1, x2]) w0 = S137 F G x0 x1 x2 w0 := by kernel_rfl
theorem F137 (x0 x1 x2 : Value) (w0 : World) : Fn Pg 137 [x0, x1, x2] w0 = S137 (Fn Pg) (Rnd Pg) x0 x1 x2 w0 := (Fn_body (c := cdA Go.Proofs.Try.f137 []) Go.Proofs.Try.func137 (by kernel_rfl) (by kernel_rfl) [x0, x1, x2] w0 (Nat.le_of_ble_eq_true (by kernel_rfl))).trans (S137_eq _ _ x0 x1 x2 w0)

end Go.Cb
