import Derived.Test.YtialecgadoepjaaProg
import Derived.Test.YtialecgadoepjaaHp
import Derived.KernelRfl
open Go Go.Proofs
set_option linter.unusedVariables false
set_option linter.unusedSimpArgs false
namespace Go.Cb
noncomputable abbrev Pg : Program := Try.prog
-- 3 ciborium/ciboriumlaw21.TreeShape
noncomputable def cx3 (F : FnT) (G : RndT) : Ctx := ⟨Pg, F, G, 3, none, 64⟩
noncomputable def K3_0 : FnT → RndT → Exit → Env → World → R := fun _ _ => endK Pg Go.Proofs.Try.f3
noncomputable def K3_1 : FnT → RndT → Exit → Env → World → R := fun F G => thenK (evalCode (cx3 F G) (cdA Go.Proofs.Try.f3 [1, 1, 1, 1]) (K3_0 F G)) (K3_0 F G)
noncomputable def K3_2 : FnT → RndT → Exit → Env → World → R := fun F G => blkK 0 (K3_1 F G)
noncomputable def K3_3 : FnT → RndT → Exit → Env → World → R := fun F G => thenK (evalLoop (cx3 F G) (cdA Go.Proofs.Try.f3 [1, 1, 1, 0, 1, 0, 0]) (K3_2 F G)) (K3_2 F G)
noncomputable def K3_4 : FnT → RndT → Exit → Env → World → R := fun F G => thenK (evalCode (cx3 F G) (cdA Go.Proofs.Try.f3 [1, 1, 1, 0, 1, 0, 0, 1, 1]) (K3_3 F G)) (K3_3 F G)
noncomputable def K3_5 : FnT → RndT → Exit → Env → World → R := fun F G => blkK 1 (K3_4 F G)
noncomputable def K3_6 : FnT → RndT → Exit → Env → World → R := fun F G => thenK (evalCode (cx3 F G) (cdA Go.Proofs.Try.f3 [1, 1, 1, 0, 1, 0, 0, 1, 0, 0, 1, 1, 1, 1, 1, 1]) (K3_5 F G)) (K3_5 F G)
noncomputable def K3_7 : FnT → RndT → Exit → Env → World → R := fun F G => blkK 2 (K3_6 F G)
noncomputable def S3 (F : FnT) (G : RndT) (x0 : Value) (w0 : World) : R :=
  rd2 (F 11 [x0] w0) fun x2 w3 =>
  rd (unV .not x2) fun x4 =>
  cnd x4 (fun _ => rd2 (F 12 [] w3) fun x5 w6 =>
  some (x5, w6)) (fun _ => rd2 (F 13 [] w3) fun x7 w8 =>
  evalLoop (cx3 F G) (cdA Go.Proofs.Try.f3 [1, 1, 1, 0, 1, 0, 0]) (K3_2 F G) (upd (upd (upd (upd (upd (upd (upd (envL [x0]) 2 (.bool false)) 9 x0) 10 x2) 11 x4) 13 x7) 3 x7) 4 (.int .i64 0)) w8)
noncomputable def S3_L1 (F : FnT) (G : RndT) (e : Env) (w0 : World) : R :=
  rd2 (lenG false Pg .len #[22] 3 #[false] [(e 0)] w0) fun x101 w102 =>
  rd2 (binG false Pg .lss 3 (.tmp 0) (.tmp 0) (e 4) x101 w102) fun x103 w104 =>
  cnd x103 (fun _ => rd (ixA Pg 22 (e 0) (e 4)) fun x105 =>
  rd (ldV Pg 28 x105 w104) fun x106 =>
  rd2 (rawV Pg (Instr.alloc 28 true (.tuple #[])) w104) fun x107 w108 =>
  rd2 (rawU Pg (Instr.storeAt 28 x107 x106) w108) fun x110 w109 =>
  rd (fldA Pg 28 x107 0) fun x111 =>
  rd (ldV Pg 3 x111 w109) fun x112 =>
  rd2 (binG false Pg .leq 3 (.tmp 0) (.const .nilFunc) x112 (.int .i64 2) w109) fun x113 w114 =>
  cnd x113 (fun _ => rd (fldA Pg 28 x107 1) fun x115 =>
  rd (ldV Pg 9 x115 w114) fun x116 =>
  rd (fldA Pg 28 x107 2) fun x117 =>
  rd (ldV Pg 3 x117 w114) fun x118 =>
  rd2 (F 14 [(e 3), x116, x118] w114) fun x119 w120 =>
  rd2 (F 16 [(e 3)] w120) fun x121 w122 =>
  rd2 (F 18 [(e 3)] w122) fun x123 w124 =>
  rd2 (F 17 [x121, x123] w124) fun x125 w126 =>
  rd (unV .not x125) fun x127 =>
  cnd x127 (fun _ => shutK (e 64) w126 fun w128 =>
  some ((.bool false), w128)) (fun _ => evalLoop (cx3 F G) (cdA Go.Proofs.Try.f3 [1, 1, 1, 0, 1, 0, 0, 1, 0, 0, 1, 1, 1, 1, 1, 0, 1, 0, 0]) (K3_7 F G) (upd (upd (upd (upd (upd (upd (upd (upd (upd (upd (upd (upd (upd (upd (upd (upd (upd (upd (upd (upd (upd (upd (upd (upd (upd (upd (upd (upd e 14 (e 4)) 15 (e 0)) 16 x101) 17 x103) 20 (e 0)) 21 (e 4)) 22 x105) 23 x106) 5 x107) 24 x111) 25 x112) 26 x113) 27 (e 3)) 28 x115) 29 x116) 30 x117) 31 x118) 32 x119) 37 (e 3)) 38 x121) 6 x121) 39 x121) 40 (e 3)) 41 x123) 42 x125) 43 x127) 7 (.int .i64 1)) 8 (.int .i64 1)) w126)) (fun _ => rd (fldA Pg 28 x107 1) fun x129 =>
  rd (ldV Pg 9 x129 w114) fun x130 =>
  rd2 (F 15 [(e 3), x130] w114) fun x131 w132 =>
  rd2 (F 16 [(e 3)] w132) fun x133 w134 =>
  rd2 (F 18 [(e 3)] w134) fun x135 w136 =>
  rd2 (F 17 [x133, x135] w136) fun x137 w138 =>
  rd (unV .not x137) fun x139 =>
  cnd x139 (fun _ => shutK (e 64) w138 fun w140 =>
  some ((.bool false), w140)) (fun _ => evalLoop (cx3 F G) (cdA Go.Proofs.Try.f3 [1, 1, 1, 0, 1, 0, 0, 1, 0, 0, 1, 1, 1, 1, 1, 0, 1, 0, 0]) (K3_7 F G) (upd (upd (upd (upd (upd (upd (upd (upd (upd (upd (upd (upd (upd (upd (upd (upd (upd (upd (upd (upd (upd (upd (upd (upd (upd (upd e 14 (e 4)) 15 (e 0)) 16 x101) 17 x103) 20 (e 0)) 21 (e 4)) 22 x105) 23 x106) 5 x107) 24 x111) 25 x112) 26 x113) 33 (e 3)) 34 x129) 35 x130) 36 x131) 37 (e 3)) 38 x133) 6 x133) 39 x133) 40 (e 3)) 41 x135) 42 x137) 43 x139) 7 (.int .i64 1)) 8 (.int .i64 1)) w138))) (fun _ => rd2 (F 12 [] w104) fun x141 w142 =>
  shutK (e 64) w142 fun w143 =>
  some (x141, w143))
noncomputable def S3_L2 (F : FnT) (G : RndT) (e : Env) (w0 : World) : R :=
  rd2 (lenG false Pg .len #[31] 3 #[false] [(e 6)] w0) fun x101 w102 =>
  rd2 (binG false Pg .lss 3 (.tmp 0) (.tmp 0) (e 8) x101 w102) fun x103 w104 =>
  cnd x103 (fun _ => rd2 (binG false Pg .mul 3 (.const .nilFunc) (.tmp 0) (.int .i64 3) (e 7) w104) fun x105 w106 =>
  rd2 (binG false Pg .add 3 (.tmp 0) (.const .nilFunc) (e 8) (.int .i64 1) w106) fun x107 w108 =>
  evalLoop (cx3 F G) (cdA Go.Proofs.Try.f3 [1, 1, 1, 0, 1, 0, 0, 1, 0, 0, 1, 1, 1, 1, 1, 0, 1, 0, 0]) (K3_7 F G) (upd (upd (upd (upd (upd (upd (upd (upd (upd (upd e 44 (e 8)) 45 (e 6)) 46 x101) 47 x103) 50 (e 7)) 51 x105) 7 x105) 48 (e 8)) 49 x107) 8 x107) w108) (fun _ => rd2 (lenG false Pg .len #[31] 3 #[false] [(e 6)] w104) fun x109 w110 =>
  rd2 (binG false Pg .gtr 3 (.tmp 0) (.const .nilFunc) x109 (.int .i64 1) w110) fun x111 w112 =>
  rd2 (gate x111 true (fun _ =>  some ((e 3), w112)) w112) fun x113 w114 =>
  rd2 (gate x111 true (fun _ => rd2 (F 18 [x113] w114) fun x115 w116 => some (x115, w116)) w114) fun x117 w118 =>
  rd2 (gate x111 true (fun _ =>  some ((e 7), w118)) w118) fun x119 w120 =>
  rd2 (gate x111 true (fun _ => rd2 (binG false Pg .mul 3 (.const .nilFunc) (.tmp 0) (.int .i64 2) x119 w120) fun x121 w122 => some (x121, w122)) w120) fun x123 w124 =>
  rd2 (gate x111 true (fun _ => rd2 (binG false Pg .sub 3 (.tmp 0) (.const .nilFunc) x123 (.int .i64 1) w124) fun x125 w126 => some (x125, w126)) w124) fun x127 w128 =>
  rd2 (gate x111 true (fun _ => rd2 (binG false Pg .lss 3 (.tmp 0) (.tmp 0) x117 x127 w128) fun x129 w130 => some (x129, w130)) w128) fun x131 w132 =>
  rd (pickV x111 x131 (.bool false)) fun x133 =>
  cnd x133 (fun _ => shutK (e 64) w132 fun w134 =>
  some ((.bool false), w134)) (fun _ => rd2 (binG false Pg .add 3 (.tmp 0) (.const .nilFunc) (e 4) (.int .i64 1) w132) fun x135 w136 =>
  evalLoop (cx3 F G) (cdA Go.Proofs.Try.f3 [1, 1, 1, 0, 1, 0, 0]) (K3_2 F G) (upd (upd (upd (upd (upd (upd (upd (upd (upd (upd (upd (upd (upd (upd (upd (upd (upd (upd e 44 (e 8)) 45 (e 6)) 46 x101) 47 x103) 52 (e 6)) 53 x109) 54 x111) 55 x111) 56 x113) 57 x117) 58 x119) 59 x123) 60 x127) 61 x131) 62 x133) 18 (e 4)) 19 x135) 4 x135) w136))
theorem S3_eq (F : FnT) (G : RndT) (x0 : Value) (w0 : World) : evalCode (cx3 F G) (cdA Go.Proofs.Try.f3 []) (endK Pg Go.Proofs.Try.f3) (envL [x0]) w0 = S3 F G x0 w0 := by kernel_rfl
theorem F3 (x0 : Value) (w0 : World) : Fn Pg 3 [x0] w0 = S3 (Fn Pg) (Rnd Pg) x0 w0 := (Fn_body (c := cdA Go.Proofs.Try.f3 []) Go.Proofs.Try.func3 (by kernel_rfl) (by kernel_rfl) [x0] w0 (Nat.le_of_ble_eq_true (by kernel_rfl))).trans (S3_eq _ _ x0 w0)
theorem S3_L1_eq (F : FnT) (G : RndT) (e : Env) (w0 : World) : evalLoop (cx3 F G) (cdA Go.Proofs.Try.f3 [1, 1, 1, 0, 1, 0, 0]) (K3_2 F G) e w0 = S3_L1 F G e w0 := by
  rw [evalLoop_eq]
  kernel_rfl
theorem S3_L2_eq (F : FnT) (G : RndT) (e : Env) (w0 : World) : evalLoop (cx3 F G) (cdA Go.Proofs.Try.f3 [1, 1, 1, 0, 1, 0, 0, 1, 0, 0, 1, 1, 1, 1, 1, 0, 1, 0, 0]) (K3_7 F G) e w0 = S3_L2 F G e w0 := by
  rw [evalLoop_eq]
  kernel_rfl

-- 4 ciborium/ciboriumlaw21.TreeWalks
noncomputable def cx4 (F : FnT) (G : RndT) : Ctx := ⟨Pg, F, G, 4, none, 203⟩
noncomputable def K4_0 : FnT → RndT → Exit → Env → World → R := fun _ _ => endK Pg Go.Proofs.Try.f4
noncomputable def K4_1 : FnT → RndT → Exit → Env → World → R := fun F G => thenK (evalCode (cx4 F G) (cdA Go.Proofs.Try.f4 [1, 1, 1, 1]) (K4_0 F G)) (K4_0 F G)
noncomputable def K4_2 : FnT → RndT → Exit → Env → World → R := fun F G => blkK 0 (K4_1 F G)
noncomputable def K4_3 : FnT → RndT → Exit → Env → World → R := fun F G => thenK (evalCode (cx4 F G) (cdA Go.Proofs.Try.f4 [1, 1, 1, 1, 1, 1, 1, 1]) (K4_0 F G)) (K4_0 F G)
noncomputable def K4_4 : FnT → RndT → Exit → Env → World → R := fun F G => blkK 2 (K4_3 F G)
noncomputable def K4_5 : FnT → RndT → Exit → Env → World → R := fun F G => thenK (evalCode (cx4 F G) (cdA Go.Proofs.Try.f4 [1, 1, 1, 1, 1, 1, 1, 1, 1, 1]) (K4_0 F G)) (K4_0 F G)
noncomputable def K4_6 : FnT → RndT → Exit → Env → World → R := fun F G => blkK 4 (K4_5 F G)
noncomputable def S4 (F : FnT) (G : RndT) (x0 x1 x2 : Value) (w0 : World) : R :=
  rd2 (rawV Pg (Instr.box 36 x1) w0) fun x4 w5 =>
  rd2 (F 11 [x0] w5) fun x6 w7 =>
  rd (unV .not x6) fun x8 =>
  rd2 (gate x8 false (fun _ => rd (fldA Pg 36 x4 0) fun x9 => some (x9, w7)) w7) fun x10 w11 =>
  rd2 (gate x8 false (fun _ => rd (ldV Pg 9 x10 w11) fun x12 => some (x12, w11)) w11) fun x13 w14 =>
  rd2 (gate x8 false (fun _ => rd2 (lenG false Pg .len #[9] 3 #[false] [x13] w14) fun x15 w16 => some (x15, w16)) w14) fun x17 w18 =>
  rd2 (gate x8 false (fun _ => rd2 (binG false Pg .gtr 3 (.tmp 0) (.const .nilFunc) x17 (.int .i64 60) w18) fun x19 w20 => some (x19, w20)) w18) fun x21 w22 =>
  rd (pickV x8 (.bool true) x21) fun x23 =>
  rd2 (gate x23 false (fun _ => rd (fldA Pg 36 x4 1) fun x24 => some (x24, w22)) w22) fun x25 w26 =>
  rd2 (gate x23 false (fun _ => rd (ldV Pg 9 x25 w26) fun x27 => some (x27, w26)) w26) fun x28 w29 =>
  rd2 (gate x23 false (fun _ => rd2 (lenG false Pg .len #[9] 3 #[false] [x28] w29) fun x30 w31 => some (x30, w31)) w29) fun x32 w33 =>
  rd2 (gate x23 false (fun _ => rd2 (binG false Pg .gtr 3 (.tmp 0) (.const .nilFunc) x32 (.int .i64 60) w33) fun x34 w35 => some (x34, w35)) w33) fun x36 w37 =>
  rd (pickV x23 (.bool true) x36) fun x38 =>
  rd2 (gate x38 false (fun _ =>  some (x2, w37)) w37) fun x39 w40 =>
  rd2 (gate x38 false (fun _ => rd2 (binG false Pg .lss 3 (.tmp 0) (.const .nilFunc) x39 (.int .i64 1) w40) fun x41 w42 => some (x41, w42)) w40) fun x43 w44 =>
  rd (pickV x38 (.bool true) x43) fun x45 =>
  cnd x45 (fun _ => rd2 (F 12 [] w44) fun x46 w47 =>
  some (x46, w47)) (fun _ => rd2 (F 13 [] w44) fun x48 w49 =>
  evalLoop (cx4 F G) (cdA Go.Proofs.Try.f4 [1, 1, 1, 0, 1, 0, 0]) (K4_2 F G) (upd (upd (upd (upd (upd (upd (upd (upd (upd (upd (upd (upd (upd (upd (upd (upd (upd (upd (upd (upd (upd (upd (upd (upd (envL [x0, x1, x2]) 4 x4) 6 (.bool false)) 20 x0) 21 x6) 22 x8) 23 x8) 24 x10) 25 x13) 26 x17) 27 x21) 28 x23) 29 x23) 30 x25) 31 x28) 32 x32) 33 x36) 34 x38) 35 x38) 36 x39) 37 x43) 38 x45) 40 x48) 7 x48) 8 (.int .i64 0)) w49)
noncomputable def S4_L1 (F : FnT) (G : RndT) (e : Env) (w0 : World) : R :=
  rd2 (lenG false Pg .len #[22] 3 #[false] [(e 0)] w0) fun x101 w102 =>
  rd2 (binG false Pg .lss 3 (.tmp 0) (.tmp 0) (e 8) x101 w102) fun x103 w104 =>
  cnd x103 (fun _ => rd (ixA Pg 22 (e 0) (e 8)) fun x105 =>
  rd (fldA Pg 28 x105 0) fun x106 =>
  rd (ldV Pg 3 x106 w104) fun x107 =>
  rd2 (binG false Pg .leq 3 (.tmp 0) (.const .nilFunc) x107 (.int .i64 2) w104) fun x108 w109 =>
  cnd x108 (fun _ => rd (ixA Pg 22 (e 0) (e 8)) fun x110 =>
  rd (fldA Pg 28 x110 1) fun x111 =>
  rd (ldV Pg 9 x111 (drw w109)) fun x112 =>
  rd (ixA Pg 22 (e 0) (e 8)) fun x113 =>
  rd (fldA Pg 28 x113 2) fun x114 =>
  rd (ldV Pg 3 x114 (drw w109)) fun x115 =>
  rd2 (F 14 [(e 7), x112, x115] (drw w109)) fun x116 w117 =>
  rd2 (binG false Pg .add 3 (.tmp 0) (.const .nilFunc) (e 8) (.int .i64 1) w117) fun x118 w119 =>
  evalLoop (cx4 F G) (cdA Go.Proofs.Try.f4 [1, 1, 1, 0, 1, 0, 0]) (K4_2 F G) (upd (upd (upd (upd (upd (upd (upd (upd (upd (upd (upd (upd (upd (upd (upd (upd (upd (upd (upd (upd (upd (upd (upd (upd (upd e 41 (e 8)) 42 (e 0)) 43 x101) 44 x103) 47 (e 0)) 48 (e 8)) 49 x105) 50 x106) 51 x107) 52 x108) 53 (e 7)) 54 (e 0)) 55 (e 8)) 56 x110) 57 x111) 58 x112) 59 (e 0)) 60 (e 8)) 61 x113) 62 x114) 63 x115) 64 x116) 45 (e 8)) 46 x118) 8 x118) w119) (fun _ => rd (ixA Pg 22 (e 0) (e 8)) fun x120 =>
  rd (fldA Pg 28 x120 1) fun x121 =>
  rd (ldV Pg 9 x121 w109) fun x122 =>
  rd2 (F 15 [(e 7), x122] w109) fun x123 w124 =>
  rd2 (binG false Pg .add 3 (.tmp 0) (.const .nilFunc) (e 8) (.int .i64 1) w124) fun x125 w126 =>
  evalLoop (cx4 F G) (cdA Go.Proofs.Try.f4 [1, 1, 1, 0, 1, 0, 0]) (K4_2 F G) (upd (upd (upd (upd (upd (upd (upd (upd (upd (upd (upd (upd (upd (upd (upd (upd (upd (upd (upd (upd e 41 (e 8)) 42 (e 0)) 43 x101) 44 x103) 47 (e 0)) 48 (e 8)) 49 x105) 50 x106) 51 x107) 52 x108) 65 (e 7)) 66 (e 0)) 67 (e 8)) 68 x120) 69 x121) 70 x122) 71 x123) 45 (e 8)) 46 x125) 8 x125) w126)) (fun _ => rd (ldV Pg 36 (e 4) w104) fun x127 =>
  rd2 (F 19 [(e 7), x127, (.int .i64 1000)] w104) fun x128 w129 =>
  rd (ldV Pg 36 (e 4) w129) fun x130 =>
  rd2 (rawV Pg (Instr.alloc 36 true (.tuple #[])) w129) fun x131 w132 =>
  rd2 (rawU Pg (Instr.storeAt 36 x131 x130) w132) fun x134 w133 =>
  evalLoop (cx4 F G) (cdA Go.Proofs.Try.f4 [1, 1, 1, 1, 1, 1, 1, 0, 1, 0, 0]) (K4_4 F G) (upd (upd (upd (upd (upd (upd (upd (upd (upd (upd (upd (upd e 41 (e 8)) 42 (e 0)) 43 x101) 44 x103) 72 (e 7)) 73 x127) 74 x128) 9 x128) 10 (.slice none 0 0)) 75 x130) 11 x131) 12 (.int .i64 0)) w133)
noncomputable def S4_L2 (F : FnT) (G : RndT) (e : Env) (w0 : World) : R :=
  rd2 (F 18 [(e 7)] w0) fun x101 w102 =>
  rd2 (binG false Pg .leq 3 (.tmp 0) (.tmp 0) (e 12) x101 w102) fun x103 w104 =>
  cnd x103 (fun _ => rd (ldV Pg 36 (e 11) w104) fun x105 =>
  rd2 (F 19 [(e 7), x105, (e 2)] w104) fun x106 w107 =>
  rd2 (lenG false Pg .len #[37] 3 #[false] [x106] w107) fun x108 w109 =>
  rd2 (binG false Pg .gtr 3 (.tmp 0) (.tmp 0) x108 (e 2) w109) fun x110 w111 =>
  cnd x110 (fun _ => shutK (e 203) w111 fun w112 =>
  some ((.bool false), w112)) (fun _ => rd2 (lenG false Pg .append #[37, 37] 37 #[false, false] [(e 10), x106] w111) fun x113 w114 =>
  rd2 (lenG false Pg .len #[37] 3 #[false] [x106] w114) fun x115 w116 =>
  rd2 (binG false Pg .gtr 3 (.tmp 0) (.const .nilFunc) x115 (.int .i64 0) w116) fun x117 w118 =>
  cnd x117 (fun _ => rd2 (lenG false Pg .len #[37] 3 #[false] [x106] w118) fun x119 w120 =>
  rd2 (binG false Pg .sub 3 (.tmp 0) (.const .nilFunc) x119 (.int .i64 1) w120) fun x121 w122 =>
  rd (ixA Pg 37 x106 x121) fun x123 =>
  rd (fldA Pg 40 x123 0) fun x124 =>
  rd (ldV Pg 9 x124 w122) fun x125 =>
  rd2 (binG false Pg .add 9 (.tmp 0) (.const .nilFunc) x125 (.string { data := #[0] }) w122) fun x126 w127 =>
  rd (fldA Pg 36 (e 11) 0) fun x128 =>
  rd2 (rawU Pg (Instr.storeAt 9 x128 x126) w127) fun x130 w129 =>
  rd2 (lenG false Pg .len #[37] 3 #[false] [x106] w129) fun x131 w132 =>
  rd2 (binG false Pg .lss 3 (.tmp 0) (.tmp 0) x131 (e 2) w132) fun x133 w134 =>
  rd2 (gate x133 false (fun _ => rd (fldA Pg 36 (e 11) 1) fun x135 => some (x135, w134)) w134) fun x136 w137 =>
  rd2 (gate x133 false (fun _ => rd (ldV Pg 9 x136 w137) fun x138 => some (x138, w137)) w137) fun x139 w140 =>
  rd2 (gate x133 false (fun _ => rd2 (binG false Pg .neq 9 (.tmp 0) (.const .nilFunc) x139 (.string { data := #[] }) w140) fun x141 w142 => some (x141, w142)) w140) fun x143 w144 =>
  rd2 (gate x133 false (fun _ =>  some (x143, w144)) w144) fun x145 w146 =>
  rd2 (gate x145 true (fun _ => rd (fldA Pg 36 (e 11) 0) fun x147 => some (x147, w146)) w146) fun x148 w149 =>
  rd2 (gate x145 true (fun _ => rd (ldV Pg 9 x148 w149) fun x150 => some (x150, w149)) w149) fun x151 w152 =>
  rd2 (gate x145 true (fun _ => rd (fldA Pg 36 (e 11) 1) fun x153 => some (x153, w152)) w152) fun x154 w155 =>
  rd2 (gate x145 true (fun _ => rd (ldV Pg 9 x154 w155) fun x156 => some (x156, w155)) w155) fun x157 w158 =>
  rd2 (gate x145 true (fun _ => rd2 (binG false Pg .geq 9 (.tmp 0) (.tmp 0) x151 x157 w158) fun x159 w160 => some (x159, w160)) w158) fun x161 w162 =>
  rd2 (gate x133 false (fun _ => rd (pickV x145 x161 (.bool false)) fun x163 => some (x163, w162)) w162) fun x164 w165 =>
  rd (pickV x133 (.bool true) x164) fun x166 =>
  cnd x166 (fun _ => rd2 (lenG false Pg .len #[37] 3 #[false] [x113] w165) fun x167 w168 =>
  rd2 (lenG false Pg .len #[37] 3 #[false] [(e 9)] w168) fun x169 w170 =>
  rd2 (binG false Pg .neq 3 (.tmp 0) (.tmp 0) x167 x169 w170) fun x171 w172 =>
  cnd x171 (fun _ => shutK (e 203) w172 fun w173 =>
  some ((.bool false), w173)) (fun _ => evalLoop (cx4 F G) (cdA Go.Proofs.Try.f4 [1, 1, 1, 1, 1, 1, 1, 1, 1, 0, 1, 0, 0]) (K4_6 F G) (upd (upd (upd (upd (upd (upd (upd (upd (upd (upd (upd (upd (upd (upd (upd (upd (upd (upd (upd (upd (upd (upd (upd (upd (upd (upd (upd (upd (upd (upd (upd (upd (upd (upd (upd (upd (upd (upd (upd (upd (upd (upd (upd (upd (upd (upd (upd (upd (upd (upd (upd e 76 (e 12)) 77 (e 7)) 78 x101) 79 x103) 82 (e 7)) 83 x105) 84 (e 2)) 85 x106) 13 x106) 86 x106) 87 x108) 88 (e 2)) 89 x110) 90 (e 10)) 91 x106) 92 x113) 10 x113) 93 x106) 94 x115) 95 x117) 96 x106) 97 x106) 98 x119) 99 x121) 100 x123) 101 x124) 102 x125) 103 x126) 104 x128) 105 x106) 106 x131) 107 (e 2)) 108 x133) 109 x133) 110 x136) 111 x139) 112 x143) 113 x145) 114 x148) 115 x151) 116 x154) 117 x157) 118 x161) 119 x164) 120 x166) 121 x113) 122 x167) 123 (e 9)) 124 x169) 125 x171) 14 (.int .i64 0)) w172)) (fun _ => rd2 (binG false Pg .add 3 (.tmp 0) (.const .nilFunc) (e 12) (.int .i64 1) w165) fun x174 w175 =>
  evalLoop (cx4 F G) (cdA Go.Proofs.Try.f4 [1, 1, 1, 1, 1, 1, 1, 0, 1, 0, 0]) (K4_4 F G) (upd (upd (upd (upd (upd (upd (upd (upd (upd (upd (upd (upd (upd (upd (upd (upd (upd (upd (upd (upd (upd (upd (upd (upd (upd (upd (upd (upd (upd (upd (upd (upd (upd (upd (upd (upd (upd (upd (upd (upd (upd (upd (upd (upd (upd (upd (upd (upd e 76 (e 12)) 77 (e 7)) 78 x101) 79 x103) 82 (e 7)) 83 x105) 84 (e 2)) 85 x106) 13 x106) 86 x106) 87 x108) 88 (e 2)) 89 x110) 90 (e 10)) 91 x106) 92 x113) 10 x113) 93 x106) 94 x115) 95 x117) 96 x106) 97 x106) 98 x119) 99 x121) 100 x123) 101 x124) 102 x125) 103 x126) 104 x128) 105 x106) 106 x131) 107 (e 2)) 108 x133) 109 x133) 110 x136) 111 x139) 112 x143) 113 x145) 114 x148) 115 x151) 116 x154) 117 x157) 118 x161) 119 x164) 120 x166) 80 (e 12)) 81 x174) 12 x174) w175)) (fun _ => rd2 (lenG false Pg .len #[37] 3 #[false] [x106] w118) fun x176 w177 =>
  rd2 (binG false Pg .lss 3 (.tmp 0) (.tmp 0) x176 (e 2) w177) fun x178 w179 =>
  rd2 (gate x178 false (fun _ => rd (fldA Pg 36 (e 11) 1) fun x180 => some (x180, w179)) w179) fun x181 w182 =>
  rd2 (gate x178 false (fun _ => rd (ldV Pg 9 x181 w182) fun x183 => some (x183, w182)) w182) fun x184 w185 =>
  rd2 (gate x178 false (fun _ => rd2 (binG false Pg .neq 9 (.tmp 0) (.const .nilFunc) x184 (.string { data := #[] }) w185) fun x186 w187 => some (x186, w187)) w185) fun x188 w189 =>
  rd2 (gate x178 false (fun _ =>  some (x188, w189)) w189) fun x190 w191 =>
  rd2 (gate x190 true (fun _ => rd (fldA Pg 36 (e 11) 0) fun x192 => some (x192, w191)) w191) fun x193 w194 =>
  rd2 (gate x190 true (fun _ => rd (ldV Pg 9 x193 w194) fun x195 => some (x195, w194)) w194) fun x196 w197 =>
  rd2 (gate x190 true (fun _ => rd (fldA Pg 36 (e 11) 1) fun x198 => some (x198, w197)) w197) fun x199 w200 =>
  rd2 (gate x190 true (fun _ => rd (ldV Pg 9 x199 w200) fun x201 => some (x201, w200)) w200) fun x202 w203 =>
  rd2 (gate x190 true (fun _ => rd2 (binG false Pg .geq 9 (.tmp 0) (.tmp 0) x196 x202 w203) fun x204 w205 => some (x204, w205)) w203) fun x206 w207 =>
  rd2 (gate x178 false (fun _ => rd (pickV x190 x206 (.bool false)) fun x208 => some (x208, w207)) w207) fun x209 w210 =>
  rd (pickV x178 (.bool true) x209) fun x211 =>
  cnd x211 (fun _ => rd2 (lenG false Pg .len #[37] 3 #[false] [x113] w210) fun x212 w213 =>
  rd2 (lenG false Pg .len #[37] 3 #[false] [(e 9)] w213) fun x214 w215 =>
  rd2 (binG false Pg .neq 3 (.tmp 0) (.tmp 0) x212 x214 w215) fun x216 w217 =>
  cnd x216 (fun _ => shutK (e 203) w217 fun w218 =>
  some ((.bool false), w218)) (fun _ => evalLoop (cx4 F G) (cdA Go.Proofs.Try.f4 [1, 1, 1, 1, 1, 1, 1, 1, 1, 0, 1, 0, 0]) (K4_6 F G) (upd (upd (upd (upd (upd (upd (upd (upd (upd (upd (upd (upd (upd (upd (upd (upd (upd (upd (upd (upd (upd (upd (upd (upd (upd (upd (upd (upd (upd (upd (upd (upd (upd (upd (upd (upd (upd (upd (upd (upd (upd (upd e 76 (e 12)) 77 (e 7)) 78 x101) 79 x103) 82 (e 7)) 83 x105) 84 (e 2)) 85 x106) 13 x106) 86 x106) 87 x108) 88 (e 2)) 89 x110) 90 (e 10)) 91 x106) 92 x113) 10 x113) 93 x106) 94 x115) 95 x117) 105 x106) 106 x176) 107 (e 2)) 108 x178) 109 x178) 110 x181) 111 x184) 112 x188) 113 x190) 114 x193) 115 x196) 116 x199) 117 x202) 118 x206) 119 x209) 120 x211) 121 x113) 122 x212) 123 (e 9)) 124 x214) 125 x216) 14 (.int .i64 0)) w217)) (fun _ => rd2 (binG false Pg .add 3 (.tmp 0) (.const .nilFunc) (e 12) (.int .i64 1) w210) fun x219 w220 =>
  evalLoop (cx4 F G) (cdA Go.Proofs.Try.f4 [1, 1, 1, 1, 1, 1, 1, 0, 1, 0, 0]) (K4_4 F G) (upd (upd (upd (upd (upd (upd (upd (upd (upd (upd (upd (upd (upd (upd (upd (upd (upd (upd (upd (upd (upd (upd (upd (upd (upd (upd (upd (upd (upd (upd (upd (upd (upd (upd (upd (upd (upd (upd (upd e 76 (e 12)) 77 (e 7)) 78 x101) 79 x103) 82 (e 7)) 83 x105) 84 (e 2)) 85 x106) 13 x106) 86 x106) 87 x108) 88 (e 2)) 89 x110) 90 (e 10)) 91 x106) 92 x113) 10 x113) 93 x106) 94 x115) 95 x117) 105 x106) 106 x176) 107 (e 2)) 108 x178) 109 x178) 110 x181) 111 x184) 112 x188) 113 x190) 114 x193) 115 x196) 116 x199) 117 x202) 118 x206) 119 x209) 120 x211) 80 (e 12)) 81 x219) 12 x219) w220)))) (fun _ => rd2 (lenG false Pg .len #[37] 3 #[false] [(e 10)] w104) fun x221 w222 =>
  rd2 (lenG false Pg .len #[37] 3 #[false] [(e 9)] w222) fun x223 w224 =>
  rd2 (binG false Pg .neq 3 (.tmp 0) (.tmp 0) x221 x223 w224) fun x225 w226 =>
  cnd x225 (fun _ => shutK (e 203) w226 fun w227 =>
  some ((.bool false), w227)) (fun _ => evalLoop (cx4 F G) (cdA Go.Proofs.Try.f4 [1, 1, 1, 1, 1, 1, 1, 1, 1, 0, 1, 0, 0]) (K4_6 F G) (upd (upd (upd (upd (upd (upd (upd (upd (upd (upd e 76 (e 12)) 77 (e 7)) 78 x101) 79 x103) 121 (e 10)) 122 x221) 123 (e 9)) 124 x223) 125 x225) 14 (.int .i64 0)) w226))
noncomputable def S4_L3 (F : FnT) (G : RndT) (e : Env) (w0 : World) : R :=
  rd2 (lenG false Pg .len #[37] 3 #[false] [(e 9)] w0) fun x101 w102 =>
  rd2 (binG false Pg .lss 3 (.tmp 0) (.tmp 0) (e 14) x101 w102) fun x103 w104 =>
  cnd x103 (fun _ => rd (ixA Pg 37 (e 9) (e 14)) fun x105 =>
  rd (fldA Pg 40 x105 0) fun x106 =>
  rd (ldV Pg 9 x106 w104) fun x107 =>
  rd2 (F 20 [(e 7), x107] w104) fun x108 w109 =>
  rd (extV x108 0) fun x110 =>
  rd (extV x108 1) fun x111 =>
  rd (ixA Pg 37 (e 10) (e 14)) fun x112 =>
  rd (ldV Pg 40 x112 (drw w109)) fun x113 =>
  rd (ixA Pg 37 (e 9) (e 14)) fun x114 =>
  rd (ldV Pg 40 x114 (drw w109)) fun x115 =>
  rd2 (binG true Pg .neq 40 (.tmp 0) (.tmp 0) x113 x115 (drw w109)) fun x116 _ =>
  rd2 (gate x116 false (fun _ =>  some (x107, (drw w109))) (drw w109)) fun x118 _ =>
  rd2 (gate x116 false (fun _ => rd (fldA Pg 36 (e 4) 0) fun x120 => some (x120, (drw w109))) (drw w109)) fun x121 _ =>
  rd2 (gate x116 false (fun _ => rd (ldV Pg 9 x121 (drw w109)) fun x123 => some (x123, (drw w109))) (drw w109)) fun x124 _ =>
  rd2 (gate x116 false (fun _ => rd2 (binG true Pg .lss 9 (.tmp 0) (.tmp 0) x118 x124 (drw w109)) fun x126 w127 => some (x126, w127)) (drw w109)) fun x128 _ =>
  rd (pickV x116 (.bool true) x128) fun x130 =>
  rd2 (gate x130 false (fun _ => rd (fldA Pg 36 (e 4) 1) fun x131 => some (x131, (drw w109))) (drw w109)) fun x132 _ =>
  rd2 (gate x130 false (fun _ => rd (ldV Pg 9 x132 (drw w109)) fun x134 => some (x134, (drw w109))) (drw w109)) fun x135 _ =>
  rd2 (gate x130 false (fun _ => rd2 (binG true Pg .neq 9 (.tmp 0) (.const .nilFunc) x135 (.string { data := #[] }) (drw w109)) fun x137 w138 => some (x137, w138)) (drw w109)) fun x139 _ =>
  rd2 (gate x130 false (fun _ =>  some (x139, (drw w109))) (drw w109)) fun x141 _ =>
  rd2 (gate x141 true (fun _ =>  some (x107, (drw w109))) (drw w109)) fun x143 _ =>
  rd2 (gate x141 true (fun _ => rd (fldA Pg 36 (e 4) 1) fun x145 => some (x145, (drw w109))) (drw w109)) fun x146 _ =>
  rd2 (gate x141 true (fun _ => rd (ldV Pg 9 x146 (drw w109)) fun x148 => some (x148, (drw w109))) (drw w109)) fun x149 _ =>
  rd2 (gate x141 true (fun _ => rd2 (binG true Pg .geq 9 (.tmp 0) (.tmp 0) x143 x149 (drw w109)) fun x151 w152 => some (x151, w152)) (drw w109)) fun x153 _ =>
  rd2 (gate x130 false (fun _ => rd (pickV x141 x153 (.bool false)) fun x155 => some (x155, (drw w109))) (drw w109)) fun x156 _ =>
  rd (pickV x130 (.bool true) x156) fun x158 =>
  rd2 (gate x158 false (fun _ =>  some (x111, (drw w109))) (drw w109)) fun x159 _ =>
  rd2 (gate x158 false (fun _ => rd (unV .not x159) fun x161 => some (x161, (drw w109))) (drw w109)) fun x162 _ =>
  rd (pickV x158 (.bool true) x162) fun x164 =>
  rd2 (gate x164 false (fun _ =>  some (x110, (drw w109))) (drw w109)) fun x165 _ =>
  rd2 (gate x164 false (fun _ =>  some ((e 9), (drw w109))) (drw w109)) fun x167 _ =>
  rd2 (gate x164 false (fun _ =>  some ((e 14), (drw w109))) (drw w109)) fun x169 _ =>
  rd2 (gate x164 false (fun _ => rd (ixA Pg 37 x167 x169) fun x171 => some (x171, (drw w109))) (drw w109)) fun x172 _ =>
  rd2 (gate x164 false (fun _ => rd (fldA Pg 40 x172 1) fun x174 => some (x174, (drw w109))) (drw w109)) fun x175 _ =>
  rd2 (gate x164 false (fun _ => rd (ldV Pg 3 x175 (drw w109)) fun x177 => some (x177, (drw w109))) (drw w109)) fun x178 _ =>
  rd2 (gate x164 false (fun _ => rd2 (binG true Pg .neq 3 (.tmp 0) (.tmp 0) x165 x178 (drw w109)) fun x180 w181 => some (x180, w181)) (drw w109)) fun x182 _ =>
  rd (pickV x164 (.bool true) x182) fun x184 =>
  cnd x184 (fun _ => shutK (e 203) (drw w109) fun w185 =>
  some ((.bool false), w185)) (fun _ => rd2 (binG false Pg .gtr 3 (.tmp 0) (.const .nilFunc) (e 14) (.int .i64 0) (drw w109)) fun x186 w187 =>
  cnd x186 (fun _ => rd2 (binG false Pg .sub 3 (.tmp 0) (.const .nilFunc) (e 14) (.int .i64 1) w187) fun x188 w189 =>
  rd (ixA Pg 37 (e 9) x188) fun x190 =>
  rd (fldA Pg 40 x190 0) fun x191 =>
  rd (ldV Pg 9 x191 w189) fun x192 =>
  rd2 (F 21 [(e 7), x192] w189) fun x193 w194 =>
  rd (extV x193 0) fun x195 =>
  rd (extV x193 1) fun x196 =>
  rd (unV .not x196) fun x197 =>
  rd2 (gate x197 false (fun _ =>  some (x195, w194)) w194) fun x198 w199 =>
  rd2 (gate x197 false (fun _ =>  some (x107, w199)) w199) fun x200 w201 =>
  rd2 (gate x197 false (fun _ => rd2 (binG false Pg .neq 9 (.tmp 0) (.tmp 0) x198 x200 w201) fun x202 w203 => some (x202, w203)) w201) fun x204 w205 =>
  rd (pickV x197 (.bool true) x204) fun x206 =>
  cnd x206 (fun _ => shutK (e 203) w205 fun w207 =>
  some ((.bool false), w207)) (fun _ => rd2 (binG false Pg .add 3 (.tmp 0) (.const .nilFunc) (e 14) (.int .i64 1) w205) fun x208 w209 =>
  evalLoop (cx4 F G) (cdA Go.Proofs.Try.f4 [1, 1, 1, 1, 1, 1, 1, 1, 1, 0, 1, 0, 0]) (K4_6 F G) (upd (upd (upd (upd (upd (upd (upd (upd (upd (upd (upd (upd (upd (upd (upd (upd (upd (upd (upd (upd (upd (upd (upd (upd (upd (upd (upd (upd (upd (upd (upd (upd (upd (upd (upd (upd (upd (upd (upd (upd (upd (upd (upd (upd (upd (upd (upd (upd (upd (upd (upd (upd (upd (upd (upd (upd (upd (upd (upd (upd (upd (upd (upd (upd (upd (upd (upd (upd (upd (upd (upd (upd (upd (upd (upd (upd (upd (upd (upd (upd (upd (upd e 126 (e 14)) 127 (e 9)) 128 x101) 129 x103) 132 (e 9)) 133 (e 14)) 134 x105) 135 x106) 136 x107) 15 x107) 138 (e 7)) 139 x107) 140 x108) 137 x108) 141 x110) 142 x111) 16 x110) 17 x111) 143 (e 10)) 144 (e 14)) 145 x112) 146 x113) 147 (e 9)) 148 (e 14)) 149 x114) 150 x115) 151 x116) 152 x116) 153 x118) 154 x121) 155 x124) 156 x128) 157 x130) 158 x130) 159 x132) 160 x135) 161 x139) 162 x141) 163 x143) 164 x146) 165 x149) 166 x153) 167 x156) 168 x158) 169 x158) 170 x159) 171 x162) 172 x164) 173 x164) 174 x165) 175 x167) 176 x169) 177 x172) 178 x175) 179 x178) 180 x182) 181 x184) 182 (e 14)) 183 x186) 185 (e 7)) 186 (e 9)) 187 (e 14)) 188 x188) 189 x190) 190 x191) 191 x192) 192 x193) 184 x193) 193 x195) 194 x196) 18 x195) 19 x196) 195 x196) 196 x197) 197 x197) 198 x198) 199 x200) 200 x204) 201 x206) 130 (e 14)) 131 x208) 14 x208) w209)) (fun _ => rd2 (binG false Pg .add 3 (.tmp 0) (.const .nilFunc) (e 14) (.int .i64 1) w187) fun x210 w211 =>
  evalLoop (cx4 F G) (cdA Go.Proofs.Try.f4 [1, 1, 1, 1, 1, 1, 1, 1, 1, 0, 1, 0, 0]) (K4_6 F G) (upd (upd (upd (upd (upd (upd (upd (upd (upd (upd (upd (upd (upd (upd (upd (upd (upd (upd (upd (upd (upd (upd (upd (upd (upd (upd (upd (upd (upd (upd (upd (upd (upd (upd (upd (upd (upd (upd (upd (upd (upd (upd (upd (upd (upd (upd (upd (upd (upd (upd (upd (upd (upd (upd (upd (upd (upd (upd (upd (upd (upd (upd e 126 (e 14)) 127 (e 9)) 128 x101) 129 x103) 132 (e 9)) 133 (e 14)) 134 x105) 135 x106) 136 x107) 15 x107) 138 (e 7)) 139 x107) 140 x108) 137 x108) 141 x110) 142 x111) 16 x110) 17 x111) 143 (e 10)) 144 (e 14)) 145 x112) 146 x113) 147 (e 9)) 148 (e 14)) 149 x114) 150 x115) 151 x116) 152 x116) 153 x118) 154 x121) 155 x124) 156 x128) 157 x130) 158 x130) 159 x132) 160 x135) 161 x139) 162 x141) 163 x143) 164 x146) 165 x149) 166 x153) 167 x156) 168 x158) 169 x158) 170 x159) 171 x162) 172 x164) 173 x164) 174 x165) 175 x167) 176 x169) 177 x172) 178 x175) 179 x178) 180 x182) 181 x184) 182 (e 14)) 183 x186) 130 (e 14)) 131 x210) 14 x210) w211))) (fun _ => rd2 (F 12 [] w104) fun x212 w213 =>
  shutK (e 203) w213 fun w214 =>
  some (x212, w214))
theorem S4_eq (F : FnT) (G : RndT) (x0 x1 x2 : Value) (w0 : World) : evalCode (cx4 F G) (cdA Go.Proofs.Try.f4 []) (endK Pg Go.Proofs.Try.f4) (envL [x0, x1, x2]) w0 = S4 F G x0 x1 x2 w0 := by kernel_rfl
theorem F4 (x0 x1 x2 : Value) (w0 : World) : Fn Pg 4 [x0, x1, x2] w0 = S4 (Fn Pg) (Rnd Pg) x0 x1 x2 w0 := (Fn_body (c := cdA Go.Proofs.Try.f4 []) Go.Proofs.Try.func4 (by kernel_rfl) (by kernel_rfl) [x0, x1, x2] w0 (Nat.le_of_ble_eq_true (by kernel_rfl))).trans (S4_eq _ _ x0 x1 x2 w0)
theorem S4_L1_eq (F : FnT) (G : RndT) (e : Env) (w0 : World) : evalLoop (cx4 F G) (cdA Go.Proofs.Try.f4 [1, 1, 1, 0, 1, 0, 0]) (K4_2 F G) e w0 = S4_L1 F G e w0 := by
  rw [evalLoop_eq]
  kernel_rfl
theorem S4_L2_eq (F : FnT) (G : RndT) (e : Env) (w0 : World) : evalLoop (cx4 F G) (cdA Go.Proofs.Try.f4 [1, 1, 1, 1, 1, 1, 1, 0, 1, 0, 0]) (K4_4 F G) e w0 = S4_L2 F G e w0 := by
  rw [evalLoop_eq]
  kernel_rfl
theorem S4_L3_eq (F : FnT) (G : RndT) (e : Env) (w0 : World) : evalLoop (cx4 F G) (cdA Go.Proofs.Try.f4 [1, 1, 1, 1, 1, 1, 1, 1, 1, 0, 1, 0, 0]) (K4_6 F G) e w0 = S4_L3 F G e w0 := by
  rw [evalLoop_eq]
  kernel_rfl

-- 5 ciborium/ciboriumlaw21.TreeApart
noncomputable def cx5 (F : FnT) (G : RndT) : Ctx := ⟨Pg, F, G, 5, none, 131⟩
noncomputable def K5_0 : FnT → RndT → Exit → Env → World → R := fun _ _ => endK Pg Go.Proofs.Try.f5
noncomputable def K5_1 : FnT → RndT → Exit → Env → World → R := fun F G => thenK (evalCode (cx5 F G) (cdA Go.Proofs.Try.f5 [1, 1, 1, 1]) (K5_0 F G)) (K5_0 F G)
noncomputable def K5_2 : FnT → RndT → Exit → Env → World → R := fun F G => blkK 0 (K5_1 F G)
noncomputable def K5_3 : FnT → RndT → Exit → Env → World → R := fun F G => thenK (evalCode (cx5 F G) (cdA Go.Proofs.Try.f5 [1, 1, 1, 1, 1, 1]) (K5_0 F G)) (K5_0 F G)
noncomputable def K5_4 : FnT → RndT → Exit → Env → World → R := fun F G => blkK 2 (K5_3 F G)
noncomputable def S5 (F : FnT) (G : RndT) (x0 x1 x2 : Value) (w0 : World) : R :=
  rd2 (F 11 [x0] w0) fun x4 w5 =>
  rd (unV .not x4) fun x6 =>
  rd2 (gate x6 false (fun _ =>  some (x1, w5)) w5) fun x7 w8 =>
  rd2 (gate x6 false (fun _ => rd2 (F 11 [x7] w8) fun x9 w10 => some (x9, w10)) w8) fun x11 w12 =>
  rd2 (gate x6 false (fun _ => rd (unV .not x11) fun x13 => some (x13, w12)) w12) fun x14 w15 =>
  rd (pickV x6 (.bool true) x14) fun x16 =>
  rd2 (gate x16 false (fun _ =>  some (x2, w15)) w15) fun x17 w18 =>
  rd2 (gate x16 false (fun _ => rd2 (F 11 [x17] w18) fun x19 w20 => some (x19, w20)) w18) fun x21 w22 =>
  rd2 (gate x16 false (fun _ => rd (unV .not x21) fun x23 => some (x23, w22)) w22) fun x24 w25 =>
  rd (pickV x16 (.bool true) x24) fun x26 =>
  cnd x26 (fun _ => rd2 (F 12 [] w25) fun x27 w28 =>
  some (x27, w28)) (fun _ => rd2 (F 13 [] w25) fun x29 w30 =>
  rd (bldV Pg 49 []) fun x31 =>
  rd2 (rawV Pg (Instr.box 49 x31) w30) fun x32 w33 =>
  evalLoop (cx5 F G) (cdA Go.Proofs.Try.f5 [1, 1, 1, 0, 1, 0, 0]) (K5_2 F G) (upd (upd (upd (upd (upd (upd (upd (upd (upd (upd (upd (upd (upd (upd (upd (upd (upd (upd (upd (upd (envL [x0, x1, x2]) 6 (.bool false)) 13 x0) 14 x4) 15 x6) 16 x6) 17 x7) 18 x11) 19 x14) 20 x16) 21 x16) 22 x17) 23 x21) 24 x24) 25 x26) 27 x29) 28 x31) 29 x32) 7 x29) 8 x32) 9 (.int .i64 0)) w33)
noncomputable def S5_L1 (F : FnT) (G : RndT) (e : Env) (w0 : World) : R :=
  rd2 (lenG false Pg .len #[22] 3 #[false] [(e 0)] w0) fun x101 w102 =>
  rd2 (binG false Pg .lss 3 (.tmp 0) (.tmp 0) (e 9) x101 w102) fun x103 w104 =>
  cnd x103 (fun _ => rd (ixA Pg 22 (e 0) (e 9)) fun x105 =>
  rd (ldV Pg 28 x105 w104) fun x106 =>
  rd2 (F 22 [(e 7), (e 8), x106] w104) fun x107 w108 =>
  rd (unV .not x107) fun x109 =>
  cnd x109 (fun _ => shutK (e 131) w108 fun w110 =>
  some ((.bool false), w110)) (fun _ => rd2 (binG false Pg .add 3 (.tmp 0) (.const .nilFunc) (e 9) (.int .i64 1) w108) fun x111 w112 =>
  evalLoop (cx5 F G) (cdA Go.Proofs.Try.f5 [1, 1, 1, 0, 1, 0, 0]) (K5_2 F G) (upd (upd (upd (upd (upd (upd (upd (upd (upd (upd (upd (upd (upd (upd (upd e 30 (e 9)) 31 (e 0)) 32 x101) 33 x103) 36 (e 7)) 37 (e 8)) 38 (e 0)) 39 (e 9)) 40 x105) 41 x106) 42 x107) 43 x109) 34 (e 9)) 35 x111) 9 x111) w112)) (fun _ => rd2 (F 23 [(e 7)] w104) fun x113 w114 =>
  rd2 (F 24 [(e 8)] w114) fun x115 w116 =>
  evalLoop (cx5 F G) (cdA Go.Proofs.Try.f5 [1, 1, 1, 1, 1, 0, 1, 0, 0]) (K5_4 F G) (upd (upd (upd (upd (upd (upd (upd (upd (upd (upd (upd e 30 (e 9)) 31 (e 0)) 32 x101) 33 x103) 44 (e 7)) 45 x113) 46 (e 8)) 47 x115) 10 x113) 11 x115) 12 (.int .i64 0)) w116)
noncomputable def S5_L2 (F : FnT) (G : RndT) (e : Env) (w0 : World) : R :=
  rd2 (lenG false Pg .len #[22] 3 #[false] [(e 1)] w0) fun x101 w102 =>
  rd2 (binG false Pg .lss 3 (.tmp 0) (.tmp 0) (e 12) x101 w102) fun x103 w104 =>
  rd2 (gate x103 false (fun _ =>  some ((e 12), w104)) w104) fun x105 w106 =>
  rd2 (gate x103 false (fun _ =>  some ((e 2), w106)) w106) fun x107 w108 =>
  rd2 (gate x103 false (fun _ => rd2 (lenG false Pg .len #[22] 3 #[false] [x107] w108) fun x109 w110 => some (x109, w110)) w108) fun x111 w112 =>
  rd2 (gate x103 false (fun _ => rd2 (binG false Pg .lss 3 (.tmp 0) (.tmp 0) x105 x111 w112) fun x113 w114 => some (x113, w114)) w112) fun x115 w116 =>
  rd (pickV x103 (.bool true) x115) fun x117 =>
  cnd x117 (fun _ => rd2 (lenG false Pg .len #[22] 3 #[false] [(e 1)] w116) fun x118 w119 =>
  rd2 (binG false Pg .lss 3 (.tmp 0) (.tmp 0) (e 12) x118 w119) fun x120 w121 =>
  rd2 (gate x120 true (fun _ =>  some ((e 7), w121)) w121) fun x122 w123 =>
  rd2 (gate x120 true (fun _ =>  some ((e 8), w123)) w123) fun x124 w125 =>
  rd2 (gate x120 true (fun _ =>  some ((e 1), w125)) w125) fun x126 w127 =>
  rd2 (gate x120 true (fun _ =>  some ((e 12), w127)) w127) fun x128 w129 =>
  rd2 (gate x120 true (fun _ => rd (ixA Pg 22 x126 x128) fun x130 => some (x130, w129)) w129) fun x131 w132 =>
  rd2 (gate x120 true (fun _ => rd (ldV Pg 28 x131 w132) fun x133 => some (x133, w132)) w132) fun x134 w135 =>
  rd2 (gate x120 true (fun _ => rd2 (F 22 [x122, x124, x134] w135) fun x136 w137 => some (x136, w137)) w135) fun x138 w139 =>
  rd2 (gate x120 true (fun _ => rd (unV .not x138) fun x140 => some (x140, w139)) w139) fun x141 w142 =>
  rd (pickV x120 x141 (.bool false)) fun x143 =>
  rd2 (gate x143 false (fun _ =>  some ((e 12), w142)) w142) fun x144 w145 =>
  rd2 (gate x143 false (fun _ =>  some ((e 2), w145)) w145) fun x146 w147 =>
  rd2 (gate x143 false (fun _ => rd2 (lenG false Pg .len #[22] 3 #[false] [x146] w147) fun x148 w149 => some (x148, w149)) w147) fun x150 w151 =>
  rd2 (gate x143 false (fun _ => rd2 (binG false Pg .lss 3 (.tmp 0) (.tmp 0) x144 x150 w151) fun x152 w153 => some (x152, w153)) w151) fun x154 w155 =>
  rd2 (gate x143 false (fun _ =>  some (x154, w155)) w155) fun x156 w157 =>
  rd2 (gate x156 true (fun _ =>  some ((e 10), w157)) w157) fun x158 w159 =>
  rd2 (gate x156 true (fun _ =>  some ((e 11), w159)) w159) fun x160 w161 =>
  rd2 (gate x156 true (fun _ =>  some ((e 2), w161)) w161) fun x162 w163 =>
  rd2 (gate x156 true (fun _ =>  some ((e 12), w163)) w163) fun x164 w165 =>
  rd2 (gate x156 true (fun _ => rd (ixA Pg 22 x162 x164) fun x166 => some (x166, w165)) w165) fun x167 w168 =>
  rd2 (gate x156 true (fun _ => rd (ldV Pg 28 x167 w168) fun x169 => some (x169, w168)) w168) fun x170 w171 =>
  rd2 (gate x156 true (fun _ => rd2 (F 22 [x158, x160, x170] w171) fun x172 w173 => some (x172, w173)) w171) fun x174 w175 =>
  rd2 (gate x156 true (fun _ => rd (unV .not x174) fun x176 => some (x176, w175)) w175) fun x177 w178 =>
  rd2 (gate x143 false (fun _ => rd (pickV x156 x177 (.bool false)) fun x179 => some (x179, w178)) w178) fun x180 w181 =>
  rd (pickV x143 (.bool true) x180) fun x182 =>
  cnd x182 (fun _ => shutK (e 131) w181 fun w183 =>
  some ((.bool false), w183)) (fun _ => rd2 (binG false Pg .add 3 (.tmp 0) (.const .nilFunc) (e 12) (.int .i64 1) w181) fun x184 w185 =>
  evalLoop (cx5 F G) (cdA Go.Proofs.Try.f5 [1, 1, 1, 1, 1, 0, 1, 0, 0]) (K5_4 F G) (upd (upd (upd (upd (upd (upd (upd (upd (upd (upd (upd (upd (upd (upd (upd (upd (upd (upd (upd (upd (upd (upd (upd (upd (upd (upd (upd (upd (upd (upd (upd (upd (upd (upd (upd (upd (upd (upd (upd (upd (upd (upd (upd e 48 (e 12)) 49 (e 1)) 50 x101) 51 x103) 52 x103) 53 x105) 54 x107) 55 x111) 56 x115) 57 x117) 60 (e 12)) 61 (e 1)) 62 x118) 63 x120) 64 x120) 65 x122) 66 x124) 67 x126) 68 x128) 69 x131) 70 x134) 71 x138) 72 x141) 73 x143) 74 x143) 75 x144) 76 x146) 77 x150) 78 x154) 79 x156) 80 x158) 81 x160) 82 x162) 83 x164) 84 x167) 85 x170) 86 x174) 87 x177) 88 x180) 89 x182) 58 (e 12)) 59 x184) 12 x184) w185)) (fun _ => rd (bldV Pg 36 []) fun x186 =>
  rd2 (F 19 [(e 7), x186, (.int .i64 1000)] (drw w116)) fun x187 w188 =>
  rd (nilV (e 8)) fun x189 =>
  rd (fldA Pg 49 x189 0) fun x190 =>
  rd (ldV Pg 47 x190 w188) fun x191 =>
  chk (holdsAt Pg none 47 x190 x191 (drw w116)) fun _ =>
  rd2 (F 25 [x187, x191] w188) fun x192 w193 =>
  rd2 (gate x192 true (fun _ =>  some ((e 10), w193)) w193) fun x194 _ =>
  rd2 (gate x192 true (fun _ => rd (bldV Pg 36 []) fun x196 => some (x196, w193)) w193) fun x197 _ =>
  rd2 (gate x192 true (fun _ => rd2 (F 19 [x194, x197, (.int .i64 1000)] w193) fun x199 w200 => some (x199, w200)) w193) fun x201 w202 =>
  rd2 (gate x192 true (fun _ =>  some ((e 11), w202)) w202) fun x203 _ =>
  rd2 (gate x192 true (fun _ => rd (nilV x203) fun x205 => some (x205, w202)) w202) fun x206 _ =>
  rd2 (gate x192 true (fun _ => rd (fldA Pg 49 x206 0) fun x208 => some (x208, w202)) w202) fun x209 _ =>
  rd2 (gate x192 true (fun _ => rd (ldV Pg 47 x209 w202) fun x211 => some (x211, w202)) w202) fun x212 _ =>
  chk (holdsAt Pg (some (x192, true)) 47 x209 x212 w193) fun _ =>
  rd2 (gate x192 true (fun _ => rd2 (F 25 [x201, x212] w202) fun x214 w215 => some (x214, w215)) w202) fun x216 w217 =>
  rd (pickV x192 x216 (.bool false)) fun x218 =>
  rd2 (gate x218 true (fun _ =>  some ((e 7), w217)) w217) fun x219 _ =>
  rd2 (gate x218 true (fun _ => rd2 (F 16 [x219] w217) fun x221 w222 => some (x221, w222)) w217) fun x223 w224 =>
  rd2 (gate x218 true (fun _ =>  some ((e 8), w224)) w224) fun x225 _ =>
  rd2 (gate x218 true (fun _ => rd (nilV x225) fun x227 => some (x227, w224)) w224) fun x228 _ =>
  rd2 (gate x218 true (fun _ => rd (fldA Pg 49 x228 0) fun x230 => some (x230, w224)) w224) fun x231 _ =>
  rd2 (gate x218 true (fun _ => rd (ldV Pg 47 x231 w224) fun x233 => some (x233, w224)) w224) fun x234 _ =>
  chk (holdsAt Pg (some (x218, true)) 47 x231 x234 w217) fun _ =>
  rd2 (gate x218 true (fun _ => rd2 (lenG true Pg .len #[47] 3 #[false] [x234] w224) fun x236 w237 => some (x236, w237)) w224) fun x238 _ =>
  rd2 (gate x218 true (fun _ => rd2 (F 17 [x223, x238] w224) fun x240 w241 => some (x240, w241)) w224) fun x242 w243 =>
  rd (pickV x218 x242 (.bool false)) fun x244 =>
  rd2 (gate x244 true (fun _ =>  some ((e 10), w243)) w243) fun x245 _ =>
  rd2 (gate x244 true (fun _ => rd2 (F 16 [x245] w243) fun x247 w248 => some (x247, w248)) w243) fun x249 w250 =>
  rd2 (gate x244 true (fun _ =>  some ((e 11), w250)) w250) fun x251 _ =>
  rd2 (gate x244 true (fun _ => rd (nilV x251) fun x253 => some (x253, w250)) w250) fun x254 _ =>
  rd2 (gate x244 true (fun _ => rd (fldA Pg 49 x254 0) fun x256 => some (x256, w250)) w250) fun x257 _ =>
  rd2 (gate x244 true (fun _ => rd (ldV Pg 47 x257 w250) fun x259 => some (x259, w250)) w250) fun x260 _ =>
  chk (holdsAt Pg (some (x244, true)) 47 x257 x260 w243) fun _ =>
  rd2 (gate x244 true (fun _ => rd2 (lenG true Pg .len #[47] 3 #[false] [x260] w250) fun x262 w263 => some (x262, w263)) w250) fun x264 _ =>
  rd2 (gate x244 true (fun _ => rd2 (F 17 [x249, x264] w250) fun x266 w267 => some (x266, w267)) w250) fun x268 w269 =>
  rd (pickV x244 x268 (.bool false)) fun x270 =>
  rd2 (gate x270 true (fun _ => rd2 (F 12 [] w269) fun x271 w272 => some (x271, w272)) w269) fun x273 w274 =>
  rd (pickV x270 x273 (.bool false)) fun x275 =>
  shutK (e 131) w274 fun w276 =>
  some (x275, w276))
theorem S5_eq (F : FnT) (G : RndT) (x0 x1 x2 : Value) (w0 : World) : evalCode (cx5 F G) (cdA Go.Proofs.Try.f5 []) (endK Pg Go.Proofs.Try.f5) (envL [x0, x1, x2]) w0 = S5 F G x0 x1 x2 w0 := by kernel_rfl
theorem F5 (x0 x1 x2 : Value) (w0 : World) : Fn Pg 5 [x0, x1, x2] w0 = S5 (Fn Pg) (Rnd Pg) x0 x1 x2 w0 := (Fn_body (c := cdA Go.Proofs.Try.f5 []) Go.Proofs.Try.func5 (by kernel_rfl) (by kernel_rfl) [x0, x1, x2] w0 (Nat.le_of_ble_eq_true (by kernel_rfl))).trans (S5_eq _ _ x0 x1 x2 w0)
theorem S5_L1_eq (F : FnT) (G : RndT) (e : Env) (w0 : World) : evalLoop (cx5 F G) (cdA Go.Proofs.Try.f5 [1, 1, 1, 0, 1, 0, 0]) (K5_2 F G) e w0 = S5_L1 F G e w0 := by
  rw [evalLoop_eq]
  kernel_rfl
theorem S5_L2_eq (F : FnT) (G : RndT) (e : Env) (w0 : World) : evalLoop (cx5 F G) (cdA Go.Proofs.Try.f5 [1, 1, 1, 1, 1, 0, 1, 0, 0]) (K5_4 F G) e w0 = S5_L2 F G e w0 := by
  rw [evalLoop_eq]
  kernel_rfl

-- 6 ciborium/ciboriumlaw21.TreePlays
noncomputable def cx6 (F : FnT) (G : RndT) : Ctx := ⟨Pg, F, G, 6, none, 136⟩
noncomputable def K6_0 : FnT → RndT → Exit → Env → World → R := fun _ _ => endK Pg Go.Proofs.Try.f6
noncomputable def K6_1 : FnT → RndT → Exit → Env → World → R := fun F G => thenK (evalCode (cx6 F G) (cdA Go.Proofs.Try.f6 [1, 1, 1, 1]) (K6_0 F G)) (K6_0 F G)
noncomputable def K6_2 : FnT → RndT → Exit → Env → World → R := fun F G => blkK 0 (K6_1 F G)
noncomputable def S6 (F : FnT) (G : RndT) (x0 x1 x2 : Value) (w0 : World) : R :=
  rd2 (rawV Pg (Instr.box 36 x1) w0) fun x4 w5 =>
  rd2 (F 11 [x0] w5) fun x6 w7 =>
  rd (unV .not x6) fun x8 =>
  rd2 (gate x8 false (fun _ => rd (fldA Pg 36 x4 0) fun x9 => some (x9, w7)) w7) fun x10 w11 =>
  rd2 (gate x8 false (fun _ => rd (ldV Pg 9 x10 w11) fun x12 => some (x12, w11)) w11) fun x13 w14 =>
  rd2 (gate x8 false (fun _ => rd2 (lenG false Pg .len #[9] 3 #[false] [x13] w14) fun x15 w16 => some (x15, w16)) w14) fun x17 w18 =>
  rd2 (gate x8 false (fun _ => rd2 (binG false Pg .gtr 3 (.tmp 0) (.const .nilFunc) x17 (.int .i64 60) w18) fun x19 w20 => some (x19, w20)) w18) fun x21 w22 =>
  rd (pickV x8 (.bool true) x21) fun x23 =>
  rd2 (gate x23 false (fun _ => rd (fldA Pg 36 x4 1) fun x24 => some (x24, w22)) w22) fun x25 w26 =>
  rd2 (gate x23 false (fun _ => rd (ldV Pg 9 x25 w26) fun x27 => some (x27, w26)) w26) fun x28 w29 =>
  rd2 (gate x23 false (fun _ => rd2 (lenG false Pg .len #[9] 3 #[false] [x28] w29) fun x30 w31 => some (x30, w31)) w29) fun x32 w33 =>
  rd2 (gate x23 false (fun _ => rd2 (binG false Pg .gtr 3 (.tmp 0) (.const .nilFunc) x32 (.int .i64 60) w33) fun x34 w35 => some (x34, w35)) w33) fun x36 w37 =>
  rd (pickV x23 (.bool true) x36) fun x38 =>
  cnd x38 (fun _ => rd2 (F 12 [] w37) fun x39 w40 =>
  some (x39, w40)) (fun _ => rd2 (F 13 [] w37) fun x41 w42 =>
  rd (bldV Pg 49 []) fun x43 =>
  rd2 (rawV Pg (Instr.box 49 x43) w42) fun x44 w45 =>
  evalLoop (cx6 F G) (cdA Go.Proofs.Try.f6 [1, 1, 1, 0, 1, 0, 0]) (K6_2 F G) (upd (upd (upd (upd (upd (upd (upd (upd (upd (upd (upd (upd (upd (upd (upd (upd (upd (upd (upd (upd (upd (upd (upd (envL [x0, x1, x2]) 4 x4) 6 (.bool false)) 19 x0) 20 x6) 21 x8) 22 x8) 23 x10) 24 x13) 25 x17) 26 x21) 27 x23) 28 x23) 29 x25) 30 x28) 31 x32) 32 x36) 33 x38) 35 x41) 36 x43) 37 x44) 7 x41) 8 x44) 9 (.int .i64 0)) w45)
noncomputable def S6_L1 (F : FnT) (G : RndT) (e : Env) (w0 : World) : R :=
  rd2 (lenG false Pg .len #[22] 3 #[false] [(e 0)] w0) fun x101 w102 =>
  rd2 (binG false Pg .lss 3 (.tmp 0) (.tmp 0) (e 9) x101 w102) fun x103 w104 =>
  cnd x103 (fun _ => rd (ixA Pg 22 (e 0) (e 9)) fun x105 =>
  rd (ldV Pg 28 x105 w104) fun x106 =>
  rd2 (rawV Pg (Instr.alloc 28 true (.tuple #[])) w104) fun x107 w108 =>
  rd2 (rawU Pg (Instr.storeAt 28 x107 x106) w108) fun x110 w109 =>
  rd (fldA Pg 28 x107 0) fun x111 =>
  rd (ldV Pg 3 x111 w109) fun x112 =>
  rd2 (binG false Pg .eql 3 (.tmp 0) (.const .nilFunc) x112 (.int .i64 5) w109) fun x113 w114 =>
  cnd x113 (fun _ => rd2 (F 23 [(e 7)] w114) fun x115 w116 =>
  rd (ldV Pg 28 x107 w116) fun x117 =>
  rd2 (F 22 [x115, (e 8), x117] w116) fun x118 w119 =>
  rd (unV .not x118) fun x120 =>
  cnd x120 (fun _ => shutK (e 136) w119 fun w121 =>
  some ((.bool false), w121)) (fun _ => rd (fldA Pg 28 x107 1) fun x122 =>
  rd (ldV Pg 9 x122 w119) fun x123 =>
  rd2 (F 20 [x115, x123] w119) fun x124 w125 =>
  rd (extV x124 0) fun x126 =>
  rd (extV x124 1) fun x127 =>
  rd (fldA Pg 28 x107 1) fun x128 =>
  rd (ldV Pg 9 x128 w125) fun x129 =>
  rd2 (F 26 [(e 8), x129] w125) fun x130 w131 =>
  rd (extV x130 0) fun x132 =>
  rd (extV x130 1) fun x133 =>
  rd (fldA Pg 28 x107 1) fun x134 =>
  rd (ldV Pg 9 x134 w131) fun x135 =>
  rd2 (F 21 [x115, x135] w131) fun x136 w137 =>
  rd (extV x136 0) fun x138 =>
  rd (extV x136 1) fun x139 =>
  rd (fldA Pg 28 x107 1) fun x140 =>
  rd (ldV Pg 9 x140 w137) fun x141 =>
  rd2 (F 27 [(e 8), x141] w137) fun x142 w143 =>
  rd (extV x142 0) fun x144 =>
  rd (extV x142 1) fun x145 =>
  rd2 (binG true Pg .neq 3 (.tmp 0) (.tmp 0) x126 x132 (drw w143)) fun x146 _ =>
  rd2 (gate x146 false (fun _ =>  some (x127, (drw w143))) (drw w143)) fun x148 _ =>
  rd2 (gate x146 false (fun _ =>  some (x133, (drw w143))) (drw w143)) fun x150 _ =>
  rd2 (gate x146 false (fun _ => rd2 (binG true Pg .neq 4 (.tmp 0) (.tmp 0) x148 x150 (drw w143)) fun x152 w153 => some (x152, w153)) (drw w143)) fun x154 _ =>
  rd (pickV x146 (.bool true) x154) fun x156 =>
  rd2 (gate x156 false (fun _ =>  some (x138, (drw w143))) (drw w143)) fun x157 _ =>
  rd2 (gate x156 false (fun _ =>  some (x144, (drw w143))) (drw w143)) fun x159 _ =>
  rd2 (gate x156 false (fun _ => rd2 (binG true Pg .neq 9 (.tmp 0) (.tmp 0) x157 x159 (drw w143)) fun x161 w162 => some (x161, w162)) (drw w143)) fun x163 _ =>
  rd (pickV x156 (.bool true) x163) fun x165 =>
  rd2 (gate x165 false (fun _ =>  some (x139, (drw w143))) (drw w143)) fun x166 _ =>
  rd2 (gate x165 false (fun _ =>  some (x145, (drw w143))) (drw w143)) fun x168 _ =>
  rd2 (gate x165 false (fun _ => rd2 (binG true Pg .neq 4 (.tmp 0) (.tmp 0) x166 x168 (drw w143)) fun x170 w171 => some (x170, w171)) (drw w143)) fun x172 _ =>
  rd (pickV x165 (.bool true) x172) fun x174 =>
  rd2 (gate x174 false (fun _ =>  some (x115, (drw w143))) (drw w143)) fun x175 _ =>
  rd2 (gate x174 false (fun _ => rd2 (F 18 [x175] (drw w143)) fun x177 w178 => some (x177, w178)) (drw w143)) fun x179 w180 =>
  rd2 (gate x174 false (fun _ =>  some ((e 8), w180)) w180) fun x181 _ =>
  rd2 (gate x174 false (fun _ => rd (nilV x181) fun x183 => some (x183, w180)) w180) fun x184 _ =>
  rd2 (gate x174 false (fun _ => rd (fldA Pg 49 x184 0) fun x186 => some (x186, w180)) w180) fun x187 _ =>
  rd2 (gate x174 false (fun _ => rd (ldV Pg 47 x187 w180) fun x189 => some (x189, w180)) w180) fun x190 _ =>
  chk (holdsAt Pg (some (x174, false)) 47 x187 x190 (drw w143)) fun _ =>
  rd2 (gate x174 false (fun _ => rd2 (lenG true Pg .len #[47] 3 #[false] [x190] w180) fun x192 w193 => some (x192, w193)) w180) fun x194 _ =>
  rd2 (gate x174 false (fun _ => rd2 (binG true Pg .neq 3 (.tmp 0) (.tmp 0) x179 x194 w180) fun x196 w197 => some (x196, w197)) w180) fun x198 _ =>
  rd (pickV x174 (.bool true) x198) fun x200 =>
  cnd x200 (fun _ => shutK (e 136) w180 fun w201 =>
  some ((.bool false), w201)) (fun _ => rd2 (binG false Pg .add 3 (.tmp 0) (.const .nilFunc) (e 9) (.int .i64 1) w180) fun x202 w203 =>
  evalLoop (cx6 F G) (cdA Go.Proofs.Try.f6 [1, 1, 1, 0, 1, 0, 0]) (K6_2 F G) (upd (upd (upd (upd (upd (upd (upd (upd (upd (upd (upd (upd (upd (upd (upd (upd (upd (upd (upd (upd (upd (upd (upd (upd (upd (upd (upd (upd (upd (upd (upd (upd (upd (upd (upd (upd (upd (upd (upd (upd (upd (upd (upd (upd (upd (upd (upd (upd (upd (upd (upd (upd (upd (upd (upd (upd (upd (upd (upd (upd (upd (upd (upd (upd (upd (upd (upd (upd (upd (upd (upd (upd (upd (upd (upd (upd (upd (upd (upd (upd (upd (upd (upd (upd (upd (upd (upd e 38 (e 9)) 39 (e 0)) 40 x101) 41 x103) 44 (e 0)) 45 (e 9)) 46 x105) 47 x106) 10 x107) 48 x111) 49 x112) 50 x113) 51 (e 7)) 52 x115) 7 x115) 53 x115) 54 (e 8)) 55 x117) 56 x118) 57 x120) 59 x115) 60 x122) 61 x123) 62 x124) 58 x124) 63 x126) 64 x127) 11 x126) 12 x127) 66 (e 8)) 67 x128) 68 x129) 69 x130) 65 x130) 70 x132) 71 x133) 13 x132) 14 x133) 73 x115) 74 x134) 75 x135) 76 x136) 72 x136) 77 x138) 78 x139) 15 x138) 16 x139) 80 (e 8)) 81 x140) 82 x141) 83 x142) 79 x142) 84 x144) 85 x145) 17 x144) 18 x145) 86 x126) 87 x132) 88 x146) 89 x146) 90 x148) 91 x150) 92 x154) 93 x156) 94 x156) 95 x157) 96 x159) 97 x163) 98 x165) 99 x165) 100 x166) 101 x168) 102 x172) 103 x174) 104 x174) 105 x175) 106 x179) 107 x181) 108 x184) 109 x187) 110 x190) 111 x194) 112 x198) 113 x200) 42 (e 9)) 43 x202) 9 x202) w203))) (fun _ => rd (ldV Pg 28 x107 w114) fun x204 =>
  rd2 (F 22 [(e 7), (e 8), x204] w114) fun x205 w206 =>
  rd (unV .not x205) fun x207 =>
  cnd x207 (fun _ => shutK (e 136) w206 fun w208 =>
  some ((.bool false), w208)) (fun _ => rd (fldA Pg 28 x107 1) fun x209 =>
  rd (ldV Pg 9 x209 w206) fun x210 =>
  rd2 (F 20 [(e 7), x210] w206) fun x211 w212 =>
  rd (extV x211 0) fun x213 =>
  rd (extV x211 1) fun x214 =>
  rd (fldA Pg 28 x107 1) fun x215 =>
  rd (ldV Pg 9 x215 w212) fun x216 =>
  rd2 (F 26 [(e 8), x216] w212) fun x217 w218 =>
  rd (extV x217 0) fun x219 =>
  rd (extV x217 1) fun x220 =>
  rd (fldA Pg 28 x107 1) fun x221 =>
  rd (ldV Pg 9 x221 w218) fun x222 =>
  rd2 (F 21 [(e 7), x222] w218) fun x223 w224 =>
  rd (extV x223 0) fun x225 =>
  rd (extV x223 1) fun x226 =>
  rd (fldA Pg 28 x107 1) fun x227 =>
  rd (ldV Pg 9 x227 w224) fun x228 =>
  rd2 (F 27 [(e 8), x228] w224) fun x229 w230 =>
  rd (extV x229 0) fun x231 =>
  rd (extV x229 1) fun x232 =>
  rd2 (binG true Pg .neq 3 (.tmp 0) (.tmp 0) x213 x219 (drw w230)) fun x233 _ =>
  rd2 (gate x233 false (fun _ =>  some (x214, (drw w230))) (drw w230)) fun x235 _ =>
  rd2 (gate x233 false (fun _ =>  some (x220, (drw w230))) (drw w230)) fun x237 _ =>
  rd2 (gate x233 false (fun _ => rd2 (binG true Pg .neq 4 (.tmp 0) (.tmp 0) x235 x237 (drw w230)) fun x239 w240 => some (x239, w240)) (drw w230)) fun x241 _ =>
  rd (pickV x233 (.bool true) x241) fun x243 =>
  rd2 (gate x243 false (fun _ =>  some (x225, (drw w230))) (drw w230)) fun x244 _ =>
  rd2 (gate x243 false (fun _ =>  some (x231, (drw w230))) (drw w230)) fun x246 _ =>
  rd2 (gate x243 false (fun _ => rd2 (binG true Pg .neq 9 (.tmp 0) (.tmp 0) x244 x246 (drw w230)) fun x248 w249 => some (x248, w249)) (drw w230)) fun x250 _ =>
  rd (pickV x243 (.bool true) x250) fun x252 =>
  rd2 (gate x252 false (fun _ =>  some (x226, (drw w230))) (drw w230)) fun x253 _ =>
  rd2 (gate x252 false (fun _ =>  some (x232, (drw w230))) (drw w230)) fun x255 _ =>
  rd2 (gate x252 false (fun _ => rd2 (binG true Pg .neq 4 (.tmp 0) (.tmp 0) x253 x255 (drw w230)) fun x257 w258 => some (x257, w258)) (drw w230)) fun x259 _ =>
  rd (pickV x252 (.bool true) x259) fun x261 =>
  rd2 (gate x261 false (fun _ =>  some ((e 7), (drw w230))) (drw w230)) fun x262 _ =>
  rd2 (gate x261 false (fun _ => rd2 (F 18 [x262] (drw w230)) fun x264 w265 => some (x264, w265)) (drw w230)) fun x266 w267 =>
  rd2 (gate x261 false (fun _ =>  some ((e 8), w267)) w267) fun x268 _ =>
  rd2 (gate x261 false (fun _ => rd (nilV x268) fun x270 => some (x270, w267)) w267) fun x271 _ =>
  rd2 (gate x261 false (fun _ => rd (fldA Pg 49 x271 0) fun x273 => some (x273, w267)) w267) fun x274 _ =>
  rd2 (gate x261 false (fun _ => rd (ldV Pg 47 x274 w267) fun x276 => some (x276, w267)) w267) fun x277 _ =>
  chk (holdsAt Pg (some (x261, false)) 47 x274 x277 (drw w230)) fun _ =>
  rd2 (gate x261 false (fun _ => rd2 (lenG true Pg .len #[47] 3 #[false] [x277] w267) fun x279 w280 => some (x279, w280)) w267) fun x281 _ =>
  rd2 (gate x261 false (fun _ => rd2 (binG true Pg .neq 3 (.tmp 0) (.tmp 0) x266 x281 w267) fun x283 w284 => some (x283, w284)) w267) fun x285 _ =>
  rd (pickV x261 (.bool true) x285) fun x287 =>
  cnd x287 (fun _ => shutK (e 136) w267 fun w288 =>
  some ((.bool false), w288)) (fun _ => rd2 (binG false Pg .add 3 (.tmp 0) (.const .nilFunc) (e 9) (.int .i64 1) w267) fun x289 w290 =>
  evalLoop (cx6 F G) (cdA Go.Proofs.Try.f6 [1, 1, 1, 0, 1, 0, 0]) (K6_2 F G) (upd (upd (upd (upd (upd (upd (upd (upd (upd (upd (upd (upd (upd (upd (upd (upd (upd (upd (upd (upd (upd (upd (upd (upd (upd (upd (upd (upd (upd (upd (upd (upd (upd (upd (upd (upd (upd (upd (upd (upd (upd (upd (upd (upd (upd (upd (upd (upd (upd (upd (upd (upd (upd (upd (upd (upd (upd (upd (upd (upd (upd (upd (upd (upd (upd (upd (upd (upd (upd (upd (upd (upd (upd (upd (upd (upd (upd (upd (upd (upd (upd (upd (upd (upd e 38 (e 9)) 39 (e 0)) 40 x101) 41 x103) 44 (e 0)) 45 (e 9)) 46 x105) 47 x106) 10 x107) 48 x111) 49 x112) 50 x113) 53 (e 7)) 54 (e 8)) 55 x204) 56 x205) 57 x207) 59 (e 7)) 60 x209) 61 x210) 62 x211) 58 x211) 63 x213) 64 x214) 11 x213) 12 x214) 66 (e 8)) 67 x215) 68 x216) 69 x217) 65 x217) 70 x219) 71 x220) 13 x219) 14 x220) 73 (e 7)) 74 x221) 75 x222) 76 x223) 72 x223) 77 x225) 78 x226) 15 x225) 16 x226) 80 (e 8)) 81 x227) 82 x228) 83 x229) 79 x229) 84 x231) 85 x232) 17 x231) 18 x232) 86 x213) 87 x219) 88 x233) 89 x233) 90 x235) 91 x237) 92 x241) 93 x243) 94 x243) 95 x244) 96 x246) 97 x250) 98 x252) 99 x252) 100 x253) 101 x255) 102 x259) 103 x261) 104 x261) 105 x262) 106 x266) 107 x268) 108 x271) 109 x274) 110 x277) 111 x281) 112 x285) 113 x287) 42 (e 9)) 43 x289) 9 x289) w290)))) (fun _ => rd (ldV Pg 36 (e 4) (drw w104)) fun x291 =>
  rd2 (F 19 [(e 7), x291, (e 2)] (drw w104)) fun x292 w293 =>
  rd (ldV Pg 36 (e 4) w293) fun x294 =>
  chk (holdsAt Pg none 36 (e 4) x294 (drw w104)) fun _ =>
  rd2 (F 28 [(e 8), x294, (e 2)] w293) fun x295 w296 =>
  rd2 (F 25 [x292, x295] w296) fun x297 w298 =>
  rd2 (gate x297 true (fun _ =>  some ((e 7), w298)) w298) fun x299 _ =>
  rd2 (gate x297 true (fun _ => rd (bldV Pg 36 []) fun x301 => some (x301, w298)) w298) fun x302 _ =>
  rd2 (gate x297 true (fun _ => rd2 (F 19 [x299, x302, (.int .i64 1000)] w298) fun x304 w305 => some (x304, w305)) w298) fun x306 w307 =>
  rd2 (gate x297 true (fun _ =>  some ((e 8), w307)) w307) fun x308 _ =>
  rd2 (gate x297 true (fun _ => rd (nilV x308) fun x310 => some (x310, w307)) w307) fun x311 _ =>
  rd2 (gate x297 true (fun _ => rd (fldA Pg 49 x311 0) fun x313 => some (x313, w307)) w307) fun x314 _ =>
  rd2 (gate x297 true (fun _ => rd (ldV Pg 47 x314 w307) fun x316 => some (x316, w307)) w307) fun x317 _ =>
  chk (holdsAt Pg (some (x297, true)) 47 x314 x317 w298) fun _ =>
  rd2 (gate x297 true (fun _ => rd2 (F 25 [x306, x317] w307) fun x319 w320 => some (x319, w320)) w307) fun x321 w322 =>
  rd (pickV x297 x321 (.bool false)) fun x323 =>
  rd2 (gate x323 true (fun _ => rd2 (F 12 [] w322) fun x324 w325 => some (x324, w325)) w322) fun x326 w327 =>
  rd (pickV x323 x326 (.bool false)) fun x328 =>
  shutK (e 136) w327 fun w329 =>
  some (x328, w329))
theorem S6_eq (F : FnT) (G : RndT) (x0 x1 x2 : Value) (w0 : World) : evalCode (cx6 F G) (cdA Go.Proofs.Try.f6 []) (endK Pg Go.Proofs.Try.f6) (envL [x0, x1, x2]) w0 = S6 F G x0 x1 x2 w0 := by kernel_rfl
theorem F6 (x0 x1 x2 : Value) (w0 : World) : Fn Pg 6 [x0, x1, x2] w0 = S6 (Fn Pg) (Rnd Pg) x0 x1 x2 w0 := (Fn_body (c := cdA Go.Proofs.Try.f6 []) Go.Proofs.Try.func6 (by kernel_rfl) (by kernel_rfl) [x0, x1, x2] w0 (Nat.le_of_ble_eq_true (by kernel_rfl))).trans (S6_eq _ _ x0 x1 x2 w0)
theorem S6_L1_eq (F : FnT) (G : RndT) (e : Env) (w0 : World) : evalLoop (cx6 F G) (cdA Go.Proofs.Try.f6 [1, 1, 1, 0, 1, 0, 0]) (K6_2 F G) e w0 = S6_L1 F G e w0 := by
  rw [evalLoop_eq]
  kernel_rfl

-- 7 ciborium/ciboriumlaw21.TreeNil
noncomputable def cx7 (F : FnT) (G : RndT) : Ctx := ⟨Pg, F, G, 7, none, 74⟩
noncomputable def K7_0 : FnT → RndT → Exit → Env → World → R := fun _ _ => endK Pg Go.Proofs.Try.f7
noncomputable def K7_1 : FnT → RndT → Exit → Env → World → R := fun F G => thenK (evalCode (cx7 F G) (cdA Go.Proofs.Try.f7 [1, 1, 1]) (K7_0 F G)) (K7_0 F G)
noncomputable def K7_2 : FnT → RndT → Exit → Env → World → R := fun F G => blkK 0 (K7_1 F G)
noncomputable def S7 (F : FnT) (G : RndT) (x0 x1 : Value) (w0 : World) : R :=
  evalLoop (cx7 F G) (cdA Go.Proofs.Try.f7 [1, 1, 0, 1, 0, 0]) (K7_2 F G) (upd (upd (upd (envL [x0, x1]) 4 (.bool false)) 5 (.pointer none)) 6 (.int .i64 0)) w0
noncomputable def S7_L1 (F : FnT) (G : RndT) (e : Env) (w0 : World) : R :=
  rd2 (binG false Pg .lss 3 (.tmp 0) (.const .nilFunc) (e 6) (.int .i64 2) w0) fun x101 w102 =>
  cnd x101 (fun _ => rd2 (F 14 [(e 5), (e 0), (e 1)] w102) fun x103 w104 =>
  rd2 (F 20 [(e 5), (e 0)] w104) fun x105 w106 =>
  rd (extV x105 0) fun x107 =>
  rd (extV x105 1) fun x108 =>
  rd2 (F 21 [(e 5), (e 0)] w106) fun x109 w110 =>
  rd (extV x109 0) fun x111 =>
  rd (extV x109 1) fun x112 =>
  rd2 (gate x103 false (fun _ =>  some (x107, w110)) w110) fun x113 w114 =>
  rd2 (gate x103 false (fun _ => rd2 (binG false Pg .neq 3 (.tmp 0) (.const .nilFunc) x113 (.int .i64 0) w114) fun x115 w116 => some (x115, w116)) w114) fun x117 w118 =>
  rd (pickV x103 (.bool true) x117) fun x119 =>
  rd2 (gate x119 false (fun _ =>  some (x108, w118)) w118) fun x120 w121 =>
  rd (pickV x119 (.bool true) x120) fun x122 =>
  rd2 (gate x122 false (fun _ =>  some (x111, w121)) w121) fun x123 w124 =>
  rd2 (gate x122 false (fun _ => rd2 (binG false Pg .neq 9 (.tmp 0) (.const .nilFunc) x123 (.string { data := #[] }) w124) fun x125 w126 => some (x125, w126)) w124) fun x127 w128 =>
  rd (pickV x122 (.bool true) x127) fun x129 =>
  rd2 (gate x129 false (fun _ =>  some (x112, w128)) w128) fun x130 w131 =>
  rd (pickV x129 (.bool true) x130) fun x132 =>
  rd2 (gate x132 false (fun _ =>  some ((e 5), w131)) w131) fun x133 w134 =>
  rd2 (gate x132 false (fun _ =>  some ((e 0), w134)) w134) fun x135 w136 =>
  rd2 (gate x132 false (fun _ => rd2 (F 15 [x133, x135] w136) fun x137 w138 => some (x137, w138)) w136) fun x139 w140 =>
  rd (pickV x132 (.bool true) x139) fun x141 =>
  rd2 (gate x141 false (fun _ =>  some ((e 5), w140)) w140) fun x142 w143 =>
  rd2 (gate x141 false (fun _ => rd2 (F 18 [x142] w143) fun x144 w145 => some (x144, w145)) w143) fun x146 w147 =>
  rd2 (gate x141 false (fun _ =>  some ((e 5), w147)) w147) fun x148 w149 =>
  rd2 (gate x141 false (fun _ => rd (bldV Pg 36 []) fun x150 => some (x150, w149)) w149) fun x151 w152 =>
  rd2 (gate x141 false (fun _ => rd2 (F 19 [x148, x151, (.int .i64 5)] w152) fun x153 w154 => some (x153, w154)) w152) fun x155 w156 =>
  rd2 (gate x141 false (fun _ => rd2 (lenG false Pg .len #[37] 3 #[false] [x155] w156) fun x157 w158 => some (x157, w158)) w156) fun x159 w160 =>
  rd2 (gate x141 false (fun _ => rd2 (binG false Pg .add 3 (.tmp 0) (.tmp 0) x146 x159 w160) fun x161 w162 => some (x161, w162)) w160) fun x163 w164 =>
  rd2 (gate x141 false (fun _ =>  some ((e 5), w164)) w164) fun x165 w166 =>
  rd2 (gate x141 false (fun _ => rd2 (F 16 [x165] w166) fun x167 w168 => some (x167, w168)) w166) fun x169 w170 =>
  rd2 (gate x141 false (fun _ => rd2 (lenG false Pg .len #[31] 3 #[false] [x169] w170) fun x171 w172 => some (x171, w172)) w170) fun x173 w174 =>
  rd2 (gate x141 false (fun _ => rd2 (binG false Pg .add 3 (.tmp 0) (.tmp 0) x163 x173 w174) fun x175 w176 => some (x175, w176)) w174) fun x177 w178 =>
  rd2 (gate x141 false (fun _ => rd2 (binG false Pg .neq 3 (.tmp 0) (.const .nilFunc) x177 (.int .i64 0) w178) fun x179 w180 => some (x179, w180)) w178) fun x181 w182 =>
  rd (pickV x141 (.bool true) x181) fun x183 =>
  rd2 (gate x183 false (fun _ =>  some ((e 5), w182)) w182) fun x184 w185 =>
  rd2 (gate x183 false (fun _ => rd2 (F 23 [x184] w185) fun x186 w187 => some (x186, w187)) w185) fun x188 w189 =>
  rd2 (gate x183 false (fun _ => rd2 (binG false Pg .neq 25 (.tmp 0) (.const .nilFunc) x188 (.pointer none) w189) fun x190 w191 => some (x190, w191)) w189) fun x192 w193 =>
  rd (pickV x183 (.bool true) x192) fun x194 =>
  cnd x194 (fun _ => shutK (e 74) w193 fun w195 =>
  some ((.bool false), w195)) (fun _ => rd (bldV Pg 57 []) fun x196 =>
  rd2 (rawV Pg (Instr.box 57 x196) w193) fun x197 w198 =>
  rd2 (binG false Pg .add 3 (.tmp 0) (.const .nilFunc) (e 6) (.int .i64 1) w198) fun x199 w200 =>
  evalLoop (cx7 F G) (cdA Go.Proofs.Try.f7 [1, 1, 0, 1, 0, 0]) (K7_2 F G) (upd (upd (upd (upd (upd (upd (upd (upd (upd (upd (upd (upd (upd (upd (upd (upd (upd (upd (upd (upd (upd (upd (upd (upd (upd (upd (upd (upd (upd (upd (upd (upd (upd (upd (upd (upd (upd (upd (upd (upd (upd (upd (upd (upd (upd (upd (upd (upd (upd (upd (upd (upd (upd (upd (upd (upd (upd (upd (upd (upd (upd (upd (upd (upd (upd (upd (upd (upd e 12 (e 6)) 13 x101) 16 (e 5)) 17 (e 0)) 18 (e 1)) 19 x103) 7 x103) 21 (e 5)) 22 (e 0)) 23 x105) 20 x105) 24 x107) 25 x108) 8 x107) 9 x108) 27 (e 5)) 28 (e 0)) 29 x109) 26 x109) 30 x111) 31 x112) 10 x111) 11 x112) 32 x103) 33 x103) 34 x113) 35 x117) 36 x119) 37 x119) 38 x120) 39 x122) 40 x122) 41 x123) 42 x127) 43 x129) 44 x129) 45 x130) 46 x132) 47 x132) 48 x133) 49 x135) 50 x139) 51 x141) 52 x141) 53 x142) 54 x146) 55 x148) 56 x151) 57 x155) 58 x159) 59 x163) 60 x165) 61 x169) 62 x173) 63 x177) 64 x181) 65 x183) 66 x183) 67 x184) 68 x188) 69 x192) 70 x194) 71 x196) 72 x197) 5 x197) 14 (e 6)) 15 x199) 6 x199) w200)) (fun _ => rd2 (F 12 [] w102) fun x201 w202 =>
  shutK (e 74) w202 fun w203 =>
  some (x201, w203))
theorem S7_eq (F : FnT) (G : RndT) (x0 x1 : Value) (w0 : World) : evalCode (cx7 F G) (cdA Go.Proofs.Try.f7 []) (endK Pg Go.Proofs.Try.f7) (envL [x0, x1]) w0 = S7 F G x0 x1 w0 := by kernel_rfl
theorem F7 (x0 x1 : Value) (w0 : World) : Fn Pg 7 [x0, x1] w0 = S7 (Fn Pg) (Rnd Pg) x0 x1 w0 := (Fn_body (c := cdA Go.Proofs.Try.f7 []) Go.Proofs.Try.func7 (by kernel_rfl) (by kernel_rfl) [x0, x1] w0 (Nat.le_of_ble_eq_true (by kernel_rfl))).trans (S7_eq _ _ x0 x1 w0)
theorem S7_L1_eq (F : FnT) (G : RndT) (e : Env) (w0 : World) : evalLoop (cx7 F G) (cdA Go.Proofs.Try.f7 [1, 1, 0, 1, 0, 0]) (K7_2 F G) e w0 = S7_L1 F G e w0 := by
  rw [evalLoop_eq]
  kernel_rfl

-- 11 ciborium/ciboriumlaw21.few
noncomputable def cx11 (F : FnT) (G : RndT) : Ctx := ⟨Pg, F, G, 11, none, 24⟩
noncomputable def K11_0 : FnT → RndT → Exit → Env → World → R := fun _ _ => endK Pg Go.Proofs.Try.f11
noncomputable def K11_1 : FnT → RndT → Exit → Env → World → R := fun F G => thenK (evalCode (cx11 F G) (cdA Go.Proofs.Try.f11 [1, 1]) (K11_0 F G)) (K11_0 F G)
noncomputable def K11_2 : FnT → RndT → Exit → Env → World → R := fun F G => blkK 0 (K11_1 F G)
noncomputable def S11 (F : FnT) (G : RndT) (x0 : Value) (w0 : World) : R :=
  evalLoop (cx11 F G) (cdA Go.Proofs.Try.f11 [1, 0, 1, 0, 0]) (K11_2 F G) (upd (upd (envL [x0]) 2 (.bool false)) 3 (.int .i64 0)) w0
noncomputable def S11_L1 (F : FnT) (G : RndT) (e : Env) (w0 : World) : R :=
  rd2 (lenG false Pg .len #[22] 3 #[false] [(e 0)] w0) fun x101 w102 =>
  rd2 (binG false Pg .lss 3 (.tmp 0) (.tmp 0) (e 3) x101 w102) fun x103 w104 =>
  rd2 (gate x103 true (fun _ =>  some ((e 3), w104)) w104) fun x105 w106 =>
  rd2 (gate x103 true (fun _ => rd2 (binG false Pg .lss 3 (.tmp 0) (.const .nilFunc) x105 (.int .i64 400) w106) fun x107 w108 => some (x107, w108)) w106) fun x109 w110 =>
  rd (pickV x103 x109 (.bool false)) fun x111 =>
  cnd x111 (fun _ => rd (ixA Pg 22 (e 0) (e 3)) fun x112 =>
  rd (fldA Pg 28 x112 1) fun x113 =>
  rd (ldV Pg 9 x113 w110) fun x114 =>
  rd2 (lenG false Pg .len #[9] 3 #[false] [x114] w110) fun x115 w116 =>
  rd2 (binG false Pg .gtr 3 (.tmp 0) (.const .nilFunc) x115 (.int .i64 60) w116) fun x117 w118 =>
  cnd x117 (fun _ => shutK (e 24) w118 fun w119 =>
  some ((.bool false), w119)) (fun _ => rd2 (binG false Pg .add 3 (.tmp 0) (.const .nilFunc) (e 3) (.int .i64 1) w118) fun x120 w121 =>
  evalLoop (cx11 F G) (cdA Go.Proofs.Try.f11 [1, 0, 1, 0, 0]) (K11_2 F G) (upd (upd (upd (upd (upd (upd (upd (upd (upd (upd (upd (upd (upd (upd (upd (upd (upd (upd e 4 (e 3)) 5 (e 0)) 6 x101) 7 x103) 8 x103) 9 x105) 10 x109) 11 x111) 14 (e 0)) 15 (e 3)) 16 x112) 17 x113) 18 x114) 19 x115) 20 x117) 12 (e 3)) 13 x120) 3 x120) w121)) (fun _ => rd2 (lenG false Pg .len #[22] 3 #[false] [(e 0)] w110) fun x122 w123 =>
  rd2 (binG false Pg .leq 3 (.tmp 0) (.const .nilFunc) x122 (.int .i64 200) w123) fun x124 w125 =>
  shutK (e 24) w125 fun w126 =>
  some (x124, w126))
theorem S11_eq (F : FnT) (G : RndT) (x0 : Value) (w0 : World) : evalCode (cx11 F G) (cdA Go.Proofs.Try.f11 []) (endK Pg Go.Proofs.Try.f11) (envL [x0]) w0 = S11 F G x0 w0 := by kernel_rfl
theorem F11 (x0 : Value) (w0 : World) : Fn Pg 11 [x0] w0 = S11 (Fn Pg) (Rnd Pg) x0 w0 := (Fn_body (c := cdA Go.Proofs.Try.f11 []) Go.Proofs.Try.func11 (by kernel_rfl) (by kernel_rfl) [x0] w0 (Nat.le_of_ble_eq_true (by kernel_rfl))).trans (S11_eq _ _ x0 w0)
theorem S11_L1_eq (F : FnT) (G : RndT) (e : Env) (w0 : World) : evalLoop (cx11 F G) (cdA Go.Proofs.Try.f11 [1, 0, 1, 0, 0]) (K11_2 F G) e w0 = S11_L1 F G e w0 := by
  rw [evalLoop_eq]
  kernel_rfl

-- 12 ciborium/ciboriumlaw21.grows
noncomputable def cx12 (F : FnT) (G : RndT) : Ctx := ⟨Pg, F, G, 12, none, 83⟩
noncomputable def K12_0 : FnT → RndT → Exit → Env → World → R := fun _ _ => endK Pg Go.Proofs.Try.f12
noncomputable def K12_1 : FnT → RndT → Exit → Env → World → R := fun F G => thenK (evalCode (cx12 F G) (cdA Go.Proofs.Try.f12 [1, 1, 1, 1]) (K12_0 F G)) (K12_0 F G)
noncomputable def K12_2 : FnT → RndT → Exit → Env → World → R := fun F G => blkK 0 (K12_1 F G)
noncomputable def S12 (F : FnT) (G : RndT) (w0 : World) : R :=
  rd2 (F 13 [] w0) fun x1 w2 =>
  rd2 (rawV Pg (Instr.buildSlice 87 6 #[(0, (.string { data := #[97] })), (1, (.string { data := #[98] })), (2, (.string { data := #[99] })), (3, (.string { data := #[100] })), (4, (.string { data := #[101] })), (5, (.string { data := #[102] }))]) w2) fun x3 w4 =>
  evalLoop (cx12 F G) (cdA Go.Proofs.Try.f12 [1, 1, 1, 0, 1, 0, 0]) (K12_2 F G) (upd (upd (upd (upd (upd (upd (envL []) 0 (.bool false)) 7 x1) 1 x1) 8 x3) 2 x3) 3 (.int .i64 0)) w4
noncomputable def S12_L1 (F : FnT) (G : RndT) (e : Env) (w0 : World) : R :=
  rd2 (lenG false Pg .len #[87] 3 #[false] [(e 2)] w0) fun x101 w102 =>
  rd2 (binG false Pg .lss 3 (.tmp 0) (.tmp 0) (e 3) x101 w102) fun x103 w104 =>
  cnd x103 (fun _ => rd (ixA Pg 87 (e 2) (e 3)) fun x105 =>
  rd (ldV Pg 9 x105 w104) fun x106 =>
  rd2 (F 14 [(e 1), x106, (e 3)] w104) fun x107 w108 =>
  rd (unV .not x107) fun x109 =>
  cnd x109 (fun _ => shutK (e 83) w108 fun w110 =>
  some ((.bool false), w110)) (fun _ => rd2 (binG false Pg .add 3 (.tmp 0) (.const .nilFunc) (e 3) (.int .i64 1) w108) fun x111 w112 =>
  evalLoop (cx12 F G) (cdA Go.Proofs.Try.f12 [1, 1, 1, 0, 1, 0, 0]) (K12_2 F G) (upd (upd (upd (upd (upd (upd (upd (upd (upd (upd (upd (upd (upd (upd (upd e 9 (e 3)) 10 (e 2)) 11 x101) 12 x103) 15 (e 1)) 16 (e 2)) 17 (e 3)) 18 x105) 19 x106) 20 (e 3)) 21 x107) 22 x109) 13 (e 3)) 14 x111) 3 x111) w112)) (fun _ => rd2 (F 16 [(e 1)] w104) fun x113 w114 =>
  rd2 (F 20 [(e 1), (.string { data := #[100] })] w114) fun x115 w116 =>
  rd (extV x115 0) fun x117 =>
  rd (extV x115 1) fun x118 =>
  rd2 (lenG false Pg .len #[31] 3 #[false] [x113] w116) fun x119 w120 =>
  rd2 (binG false Pg .eql 3 (.tmp 0) (.const .nilFunc) x119 (.int .i64 2) w120) fun x121 w122 =>
  rd2 (gate x121 true (fun _ =>  some (x113, w122)) w122) fun x123 w124 =>
  rd2 (gate x121 true (fun _ => rd (ixA Pg 31 x123 (.int .i64 0)) fun x125 => some (x125, w124)) w124) fun x126 w127 =>
  rd2 (gate x121 true (fun _ => rd (ldV Pg 81 x126 w127) fun x128 => some (x128, w127)) w127) fun x129 w130 =>
  rd2 (gate x121 true (fun _ => rd2 (lenG false Pg .len #[81] 3 #[false] [x129] w130) fun x131 w132 => some (x131, w132)) w130) fun x133 w134 =>
  rd2 (gate x121 true (fun _ => rd2 (binG false Pg .eql 3 (.tmp 0) (.const .nilFunc) x133 (.int .i64 1) w134) fun x135 w136 => some (x135, w136)) w134) fun x137 w138 =>
  rd (pickV x121 x137 (.bool false)) fun x139 =>
  rd2 (gate x139 true (fun _ =>  some (x113, w138)) w138) fun x140 w141 =>
  rd2 (gate x139 true (fun _ => rd (ixA Pg 31 x140 (.int .i64 0)) fun x142 => some (x142, w141)) w141) fun x143 w144 =>
  rd2 (gate x139 true (fun _ => rd (ldV Pg 81 x143 w144) fun x145 => some (x145, w144)) w144) fun x146 w147 =>
  rd2 (gate x139 true (fun _ => rd (ixA Pg 81 x146 (.int .i64 0)) fun x148 => some (x148, w147)) w147) fun x149 w150 =>
  rd2 (gate x139 true (fun _ => rd (ldV Pg 3 x149 w150) fun x151 => some (x151, w150)) w150) fun x152 w153 =>
  rd2 (gate x139 true (fun _ => rd2 (binG false Pg .eql 3 (.tmp 0) (.const .nilFunc) x152 (.int .i64 1) w153) fun x154 w155 => some (x154, w155)) w153) fun x156 w157 =>
  rd (pickV x139 x156 (.bool false)) fun x158 =>
  rd2 (gate x158 true (fun _ =>  some (x113, w157)) w157) fun x159 w160 =>
  rd2 (gate x158 true (fun _ => rd (ixA Pg 31 x159 (.int .i64 1)) fun x161 => some (x161, w160)) w160) fun x162 w163 =>
  rd2 (gate x158 true (fun _ => rd (ldV Pg 81 x162 w163) fun x164 => some (x164, w163)) w163) fun x165 w166 =>
  rd2 (gate x158 true (fun _ => rd2 (lenG false Pg .len #[81] 3 #[false] [x165] w166) fun x167 w168 => some (x167, w168)) w166) fun x169 w170 =>
  rd2 (gate x158 true (fun _ => rd2 (binG false Pg .eql 3 (.tmp 0) (.const .nilFunc) x169 (.int .i64 2) w170) fun x171 w172 => some (x171, w172)) w170) fun x173 w174 =>
  rd (pickV x158 x173 (.bool false)) fun x175 =>
  rd2 (gate x175 true (fun _ =>  some (x113, w174)) w174) fun x176 w177 =>
  rd2 (gate x175 true (fun _ => rd (ixA Pg 31 x176 (.int .i64 1)) fun x178 => some (x178, w177)) w177) fun x179 w180 =>
  rd2 (gate x175 true (fun _ => rd (ldV Pg 81 x179 w180) fun x181 => some (x181, w180)) w180) fun x182 w183 =>
  rd2 (gate x175 true (fun _ => rd (ixA Pg 81 x182 (.int .i64 0)) fun x184 => some (x184, w183)) w183) fun x185 w186 =>
  rd2 (gate x175 true (fun _ => rd (ldV Pg 3 x185 w186) fun x187 => some (x187, w186)) w186) fun x188 w189 =>
  rd2 (gate x175 true (fun _ => rd2 (binG false Pg .eql 3 (.tmp 0) (.const .nilFunc) x188 (.int .i64 2) w189) fun x190 w191 => some (x190, w191)) w189) fun x192 w193 =>
  rd (pickV x175 x192 (.bool false)) fun x194 =>
  rd2 (gate x194 true (fun _ =>  some (x113, w193)) w193) fun x195 w196 =>
  rd2 (gate x194 true (fun _ => rd (ixA Pg 31 x195 (.int .i64 1)) fun x197 => some (x197, w196)) w196) fun x198 w199 =>
  rd2 (gate x194 true (fun _ => rd (ldV Pg 81 x198 w199) fun x200 => some (x200, w199)) w199) fun x201 w202 =>
  rd2 (gate x194 true (fun _ => rd (ixA Pg 81 x201 (.int .i64 1)) fun x203 => some (x203, w202)) w202) fun x204 w205 =>
  rd2 (gate x194 true (fun _ => rd (ldV Pg 3 x204 w205) fun x206 => some (x206, w205)) w205) fun x207 w208 =>
  rd2 (gate x194 true (fun _ => rd2 (binG false Pg .eql 3 (.tmp 0) (.const .nilFunc) x207 (.int .i64 3) w208) fun x209 w210 => some (x209, w210)) w208) fun x211 w212 =>
  rd (pickV x194 x211 (.bool false)) fun x213 =>
  rd2 (gate x213 true (fun _ =>  some (x117, w212)) w212) fun x214 w215 =>
  rd2 (gate x213 true (fun _ => rd2 (binG false Pg .eql 3 (.tmp 0) (.const .nilFunc) x214 (.int .i64 3) w215) fun x216 w217 => some (x216, w217)) w215) fun x218 w219 =>
  rd (pickV x213 x218 (.bool false)) fun x220 =>
  rd2 (gate x220 true (fun _ =>  some (x118, w219)) w219) fun x221 w222 =>
  rd (pickV x220 x221 (.bool false)) fun x223 =>
  rd2 (gate x223 true (fun _ =>  some ((e 1), w222)) w222) fun x224 w225 =>
  rd2 (gate x223 true (fun _ => rd2 (F 18 [x224] w225) fun x226 w227 => some (x226, w227)) w225) fun x228 w229 =>
  rd2 (gate x223 true (fun _ => rd2 (binG false Pg .eql 3 (.tmp 0) (.const .nilFunc) x228 (.int .i64 6) w229) fun x230 w231 => some (x230, w231)) w229) fun x232 w233 =>
  rd (pickV x223 x232 (.bool false)) fun x234 =>
  shutK (e 83) w233 fun w235 =>
  some (x234, w235))
theorem S12_eq (F : FnT) (G : RndT) (w0 : World) : evalCode (cx12 F G) (cdA Go.Proofs.Try.f12 []) (endK Pg Go.Proofs.Try.f12) (envL []) w0 = S12 F G w0 := by kernel_rfl
theorem F12 (w0 : World) : Fn Pg 12 [] w0 = S12 (Fn Pg) (Rnd Pg) w0 := (Fn_body (c := cdA Go.Proofs.Try.f12 []) Go.Proofs.Try.func12 (by kernel_rfl) (by kernel_rfl) [] w0 (Nat.le_of_ble_eq_true (by kernel_rfl))).trans (S12_eq _ _ w0)
theorem S12_L1_eq (F : FnT) (G : RndT) (e : Env) (w0 : World) : evalLoop (cx12 F G) (cdA Go.Proofs.Try.f12 [1, 1, 1, 0, 1, 0, 0]) (K12_2 F G) e w0 = S12_L1 F G e w0 := by
  rw [evalLoop_eq]
  kernel_rfl

-- 13 ciborium/tree.New[int]
noncomputable def cx13 (F : FnT) (G : RndT) : Ctx := ⟨Pg, F, G, 13, none, 5⟩
noncomputable def S13 (F : FnT) (G : RndT) (w0 : World) : R :=
  rd (bldV Pg 100 []) fun x1 =>
  rd2 (rawV Pg (Instr.box 100 x1) w0) fun x2 w3 =>
  rd (bldV Pg 57 [(0, x2)]) fun x4 =>
  rd2 (rawV Pg (Instr.box 57 x4) w3) fun x5 w6 =>
  some (x5, w6)
theorem S13_eq (F : FnT) (G : RndT) (w0 : World) : evalCode (cx13 F G) (cdA Go.Proofs.Try.f13 []) (endK Pg Go.Proofs.Try.f13) (envL []) w0 = S13 F G w0 := by kernel_rfl
theorem F13 (w0 : World) : Fn Pg 13 [] w0 = S13 (Fn Pg) (Rnd Pg) w0 := (Fn_body (c := cdA Go.Proofs.Try.f13 []) Go.Proofs.Try.func13 (by kernel_rfl) (by kernel_rfl) [] w0 (Nat.le_of_ble_eq_true (by kernel_rfl))).trans (S13_eq _ _ w0)

-- 14 (*ciborium/tree.Tree[int]).Put
noncomputable def cx14 (F : FnT) (G : RndT) : Ctx := ⟨Pg, F, G, 14, none, 54⟩
noncomputable def S14 (F : FnT) (G : RndT) (x0 x1 x2 : Value) (w0 : World) : R :=
  rd2 (F 45 [x0] w0) fun x4 w5 =>
  cnd x4 (fun _ => some ((.bool false), w5)) (fun _ => rd2 (F 46 [x0, x1] w5) fun x6 w7 =>
  rd2 (binG false Pg .neq 101 (.tmp 0) (.const .nilFunc) x6 (.pointer none) w7) fun x8 w9 =>
  cnd x8 (fun _ => rd (nilV x6) fun x10 =>
  rd (fldA Pg 40 x10 1) fun x11 =>
  rd2 (rawU Pg (Instr.storeAt 3 x11 x2) w9) fun x13 w12 =>
  some ((.bool false), w12)) (fun _ => rd (nilV x0) fun x14 =>
  rd (fldA Pg 57 x14 0) fun x15 =>
  rd (ldV Pg 55 x15 w9) fun x16 =>
  rd2 (F 47 [x16] w9) fun x17 w18 =>
  cnd x17 (fun _ => rd (nilV x0) fun x19 =>
  rd (fldA Pg 57 x19 0) fun x20 =>
  rd (ldV Pg 55 x20 w18) fun x21 =>
  rd2 (rawV Pg (Instr.buildSlice 98 1 #[(0, x21)]) w18) fun x22 w23 =>
  rd (bldV Pg 100 [(1, x22)]) fun x24 =>
  rd2 (rawV Pg (Instr.box 100 x24) w23) fun x25 w26 =>
  rd (nilV x0) fun x27 =>
  rd (fldA Pg 57 x27 0) fun x28 =>
  rd2 (rawU Pg (Instr.storeAt 55 x28 x25) w26) fun x30 w29 =>
  rd (nilV x0) fun x31 =>
  rd (fldA Pg 57 x31 0) fun x32 =>
  rd (ldV Pg 55 x32 w29) fun x33 =>
  rd2 (F 48 [x33, (.int .i64 0)] w29) fun x34 w35 =>
  rd (nilV x0) fun x36 =>
  rd (fldA Pg 57 x36 0) fun x37 =>
  rd (ldV Pg 55 x37 w35) fun x38 =>
  rd (bldV Pg 40 [(0, x1), (1, x2)]) fun x39 =>
  rd2 (F 49 [x38, x39] w35) fun x40 w41 =>
  rd (nilV x0) fun x42 =>
  rd (fldA Pg 57 x42 1) fun x43 =>
  rd (ldV Pg 3 x43 w41) fun x44 =>
  rd2 (binG false Pg .add 3 (.tmp 0) (.const .nilFunc) x44 (.int .i64 1) w41) fun x45 w46 =>
  rd (nilV x0) fun x47 =>
  rd (fldA Pg 57 x47 1) fun x48 =>
  rd2 (rawU Pg (Instr.storeAt 3 x48 x45) w46) fun x50 w49 =>
  some ((.bool true), w49)) (fun _ => rd (nilV x0) fun x51 =>
  rd (fldA Pg 57 x51 0) fun x52 =>
  rd (ldV Pg 55 x52 w18) fun x53 =>
  rd (bldV Pg 40 [(0, x1), (1, x2)]) fun x54 =>
  rd2 (F 49 [x53, x54] w18) fun x55 w56 =>
  rd (nilV x0) fun x57 =>
  rd (fldA Pg 57 x57 1) fun x58 =>
  rd (ldV Pg 3 x58 w56) fun x59 =>
  rd2 (binG false Pg .add 3 (.tmp 0) (.const .nilFunc) x59 (.int .i64 1) w56) fun x60 w61 =>
  rd (nilV x0) fun x62 =>
  rd (fldA Pg 57 x62 1) fun x63 =>
  rd2 (rawU Pg (Instr.storeAt 3 x63 x60) w61) fun x65 w64 =>
  some ((.bool true), w64))))
theorem S14_eq (F : FnT) (G : RndT) (x0 x1 x2 : Value) (w0 : World) : evalCode (cx14 F G) (cdA Go.Proofs.Try.f14 []) (endK Pg Go.Proofs.Try.f14) (envL [x0, x1, x2]) w0 = S14 F G x0 x1 x2 w0 := by kernel_rfl
theorem F14 (x0 x1 x2 : Value) (w0 : World) : Fn Pg 14 [x0, x1, x2] w0 = S14 (Fn Pg) (Rnd Pg) x0 x1 x2 w0 := (Fn_body (c := cdA Go.Proofs.Try.f14 []) Go.Proofs.Try.func14 (by kernel_rfl) (by kernel_rfl) [x0, x1, x2] w0 (Nat.le_of_ble_eq_true (by kernel_rfl))).trans (S14_eq _ _ x0 x1 x2 w0)

-- 15 (*ciborium/tree.Tree[int]).Delete
noncomputable def cx15 (F : FnT) (G : RndT) : Ctx := ⟨Pg, F, G, 15, none, 55⟩
noncomputable def S15 (F : FnT) (G : RndT) (x0 x1 : Value) (w0 : World) : R :=
  rd2 (F 45 [x0] w0) fun x3 w4 =>
  rd2 (gate x3 false (fun _ =>  some (x0, w4)) w4) fun x5 w6 =>
  rd2 (gate x3 false (fun _ =>  some (x1, w6)) w6) fun x7 w8 =>
  rd2 (gate x3 false (fun _ => rd2 (F 46 [x5, x7] w8) fun x9 w10 => some (x9, w10)) w8) fun x11 w12 =>
  rd2 (gate x3 false (fun _ => rd2 (binG false Pg .eql 101 (.tmp 0) (.const .nilFunc) x11 (.pointer none) w12) fun x13 w14 => some (x13, w14)) w12) fun x15 w16 =>
  rd (pickV x3 (.bool true) x15) fun x17 =>
  cnd x17 (fun _ => some ((.bool false), w16)) (fun _ => rd (nilV x0) fun x18 =>
  rd (fldA Pg 57 x18 0) fun x19 =>
  rd (ldV Pg 55 x19 w16) fun x20 =>
  rd2 (F 50 [x20, x1] w16) fun x21 w22 =>
  rd (nilV x0) fun x23 =>
  rd (fldA Pg 57 x23 0) fun x24 =>
  rd (ldV Pg 55 x24 w22) fun x25 =>
  rd (nilV x25) fun x26 =>
  rd (fldA Pg 100 x26 0) fun x27 =>
  rd (ldV Pg 37 x27 w22) fun x28 =>
  rd2 (lenG false Pg .len #[37] 3 #[false] [x28] w22) fun x29 w30 =>
  rd2 (binG false Pg .eql 3 (.tmp 0) (.const .nilFunc) x29 (.int .i64 0) w30) fun x31 w32 =>
  rd2 (gate x31 true (fun _ =>  some (x0, w32)) w32) fun x33 w34 =>
  rd2 (gate x31 true (fun _ => rd (nilV x33) fun x35 => some (x35, w34)) w34) fun x36 w37 =>
  rd2 (gate x31 true (fun _ => rd (fldA Pg 57 x36 0) fun x38 => some (x38, w37)) w37) fun x39 w40 =>
  rd2 (gate x31 true (fun _ => rd (ldV Pg 55 x39 w40) fun x41 => some (x41, w40)) w40) fun x42 w43 =>
  rd2 (gate x31 true (fun _ => rd2 (F 51 [x42] w43) fun x44 w45 => some (x44, w45)) w43) fun x46 w47 =>
  rd2 (gate x31 true (fun _ => rd (unV .not x46) fun x48 => some (x48, w47)) w47) fun x49 w50 =>
  rd (pickV x31 x49 (.bool false)) fun x51 =>
  cnd x51 (fun _ => rd (nilV x0) fun x52 =>
  rd (fldA Pg 57 x52 0) fun x53 =>
  rd (ldV Pg 55 x53 w50) fun x54 =>
  rd (nilV x54) fun x55 =>
  rd (fldA Pg 100 x55 1) fun x56 =>
  rd (ldV Pg 98 x56 w50) fun x57 =>
  rd (ixA Pg 98 x57 (.int .i64 0)) fun x58 =>
  rd (ldV Pg 55 x58 w50) fun x59 =>
  rd (nilV x0) fun x60 =>
  rd (fldA Pg 57 x60 0) fun x61 =>
  rd2 (rawU Pg (Instr.storeAt 55 x61 x59) w50) fun x63 w62 =>
  rd (nilV x0) fun x64 =>
  rd (fldA Pg 57 x64 1) fun x65 =>
  rd (ldV Pg 3 x65 w62) fun x66 =>
  rd2 (binG false Pg .sub 3 (.tmp 0) (.const .nilFunc) x66 (.int .i64 1) w62) fun x67 w68 =>
  rd (nilV x0) fun x69 =>
  rd (fldA Pg 57 x69 1) fun x70 =>
  rd2 (rawU Pg (Instr.storeAt 3 x70 x67) w68) fun x72 w71 =>
  some ((.bool true), w71)) (fun _ => rd (nilV x0) fun x73 =>
  rd (fldA Pg 57 x73 1) fun x74 =>
  rd (ldV Pg 3 x74 w50) fun x75 =>
  rd2 (binG false Pg .sub 3 (.tmp 0) (.const .nilFunc) x75 (.int .i64 1) w50) fun x76 w77 =>
  rd (nilV x0) fun x78 =>
  rd (fldA Pg 57 x78 1) fun x79 =>
  rd2 (rawU Pg (Instr.storeAt 3 x79 x76) w77) fun x81 w80 =>
  some ((.bool true), w80)))
theorem S15_eq (F : FnT) (G : RndT) (x0 x1 : Value) (w0 : World) : evalCode (cx15 F G) (cdA Go.Proofs.Try.f15 []) (endK Pg Go.Proofs.Try.f15) (envL [x0, x1]) w0 = S15 F G x0 x1 w0 := by kernel_rfl
theorem F15 (x0 x1 : Value) (w0 : World) : Fn Pg 15 [x0, x1] w0 = S15 (Fn Pg) (Rnd Pg) x0 x1 w0 := (Fn_body (c := cdA Go.Proofs.Try.f15 []) Go.Proofs.Try.func15 (by kernel_rfl) (by kernel_rfl) [x0, x1] w0 (Nat.le_of_ble_eq_true (by kernel_rfl))).trans (S15_eq _ _ x0 x1 w0)

-- 16 (*ciborium/tree.Tree[int]).Levels
noncomputable def cx16 (F : FnT) (G : RndT) : Ctx := ⟨Pg, F, G, 16, none, 46⟩
noncomputable def K16_0 : FnT → RndT → Exit → Env → World → R := fun _ _ => endK Pg Go.Proofs.Try.f16
noncomputable def K16_1 : FnT → RndT → Exit → Env → World → R := fun F G => thenK (evalCode (cx16 F G) (cdA Go.Proofs.Try.f16 [1, 1, 1, 1]) (K16_0 F G)) (K16_0 F G)
noncomputable def K16_2 : FnT → RndT → Exit → Env → World → R := fun F G => blkK 0 (K16_1 F G)
noncomputable def K16_3 : FnT → RndT → Exit → Env → World → R := fun F G => thenK (evalLoop (cx16 F G) (cdA Go.Proofs.Try.f16 [1, 1, 1, 0, 1, 0, 0]) (K16_2 F G)) (K16_2 F G)
noncomputable def K16_4 : FnT → RndT → Exit → Env → World → R := fun F G => blkK 1 (K16_3 F G)
noncomputable def K16_5 : FnT → RndT → Exit → Env → World → R := fun F G => thenK (evalCode (cx16 F G) (cdA Go.Proofs.Try.f16 [1, 1, 1, 0, 1, 0, 0, 1, 0, 1, 1, 1]) (K16_4 F G)) (K16_4 F G)
noncomputable def K16_6 : FnT → RndT → Exit → Env → World → R := fun F G => blkK 2 (K16_5 F G)
noncomputable def S16 (F : FnT) (G : RndT) (x0 : Value) (w0 : World) : R :=
  rd2 (F 45 [x0] w0) fun x2 w3 =>
  cnd x2 (fun _ => some ((.slice none 0 0), w3)) (fun _ => rd (nilV x0) fun x4 =>
  rd (fldA Pg 57 x4 0) fun x5 =>
  rd (ldV Pg 55 x5 w3) fun x6 =>
  rd2 (rawV Pg (Instr.buildSlice 98 1 #[(0, x6)]) w3) fun x7 w8 =>
  evalLoop (cx16 F G) (cdA Go.Proofs.Try.f16 [1, 1, 1, 0, 1, 0, 0]) (K16_2 F G) (upd (upd (upd (upd (upd (upd (upd (upd (upd (upd (envL [x0]) 2 (.slice none 0 0)) 9 x0) 10 x2) 3 (.slice none 0 0)) 11 x0) 12 x4) 13 x5) 14 x6) 15 x7) 4 x7) w8)
noncomputable def S16_L1 (F : FnT) (G : RndT) (e : Env) (w0 : World) : R :=
  rd2 (lenG false Pg .len #[98] 3 #[false] [(e 4)] w0) fun x101 w102 =>
  rd2 (binG false Pg .gtr 3 (.tmp 0) (.const .nilFunc) x101 (.int .i64 0) w102) fun x103 w104 =>
  cnd x103 (fun _ => rd2 (lenG false Pg .len #[98] 3 #[false] [(e 4)] w104) fun x105 w106 =>
  evalLoop (cx16 F G) (cdA Go.Proofs.Try.f16 [1, 1, 1, 0, 1, 0, 0, 1, 0, 1, 1, 0, 1, 0, 0]) (K16_6 F G) (upd (upd (upd (upd (upd (upd (upd (upd e 16 (e 4)) 17 x101) 18 x103) 5 (.slice none 0 0)) 6 (.slice none 0 0)) 19 (e 4)) 20 x105) 21 (.int .i64 0)) w106) (fun _ => shutK (e 46) w104 fun w107 =>
  some ((e 3), w107))
noncomputable def S16_L2 (F : FnT) (G : RndT) (e : Env) (w0 : World) : R :=
  rd2 (binG false Pg .lss 3 (.tmp 0) (.tmp 0) (e 21) (e 20) w0) fun x101 w102 =>
  cnd x101 (fun _ => rd (ixA Pg 98 (e 19) (e 21)) fun x103 =>
  rd (ldV Pg 55 x103 w102) fun x104 =>
  rd (nilV x104) fun x105 =>
  rd (fldA Pg 100 x105 0) fun x106 =>
  rd (ldV Pg 37 x106 w102) fun x107 =>
  rd2 (lenG false Pg .len #[37] 3 #[false] [x107] w102) fun x108 w109 =>
  rd2 (rawV Pg (Instr.buildSlice 81 1 #[(0, x108)]) w109) fun x110 w111 =>
  rd2 (lenG false Pg .append #[81, 81] 81 #[false, false] [(e 5), x110] w111) fun x112 w113 =>
  rd (nilV x104) fun x114 =>
  rd (fldA Pg 100 x114 1) fun x115 =>
  rd (ldV Pg 98 x115 w113) fun x116 =>
  rd2 (lenG false Pg .append #[98, 98] 98 #[false, false] [(e 6), x116] w113) fun x117 w118 =>
  rd2 (binG false Pg .add 3 (.tmp 0) (.const .nilFunc) (e 21) (.int .i64 1) w118) fun x119 w120 =>
  evalLoop (cx16 F G) (cdA Go.Proofs.Try.f16 [1, 1, 1, 0, 1, 0, 0, 1, 0, 1, 1, 0, 1, 0, 0]) (K16_6 F G) (upd (upd (upd (upd (upd (upd (upd (upd (upd (upd (upd (upd (upd (upd (upd (upd (upd (upd (upd (upd (upd (upd e 22 x101) 23 x103) 24 x104) 8 x104) 25 (e 5)) 26 x104) 27 x105) 28 x106) 29 x107) 30 x108) 31 x110) 32 x112) 5 x112) 33 (e 6)) 34 x104) 35 x114) 36 x115) 37 x116) 38 x117) 6 x117) 39 x119) 21 x119) w120) (fun _ => rd2 (rawV Pg (Instr.buildSlice 31 1 #[(0, (e 5))]) w102) fun x121 w122 =>
  rd2 (lenG false Pg .append #[31, 31] 31 #[false, false] [(e 3), x121] w122) fun x123 w124 =>
  evalLoop (cx16 F G) (cdA Go.Proofs.Try.f16 [1, 1, 1, 0, 1, 0, 0]) (K16_2 F G) (upd (upd (upd (upd (upd (upd (upd (upd e 22 x101) 40 (e 3)) 41 (e 5)) 42 x121) 43 x123) 44 (e 6)) 3 x123) 4 (e 6)) w124)
theorem S16_eq (F : FnT) (G : RndT) (x0 : Value) (w0 : World) : evalCode (cx16 F G) (cdA Go.Proofs.Try.f16 []) (endK Pg Go.Proofs.Try.f16) (envL [x0]) w0 = S16 F G x0 w0 := by kernel_rfl
theorem F16 (x0 : Value) (w0 : World) : Fn Pg 16 [x0] w0 = S16 (Fn Pg) (Rnd Pg) x0 w0 := (Fn_body (c := cdA Go.Proofs.Try.f16 []) Go.Proofs.Try.func16 (by kernel_rfl) (by kernel_rfl) [x0] w0 (Nat.le_of_ble_eq_true (by kernel_rfl))).trans (S16_eq _ _ x0 w0)
theorem S16_L1_eq (F : FnT) (G : RndT) (e : Env) (w0 : World) : evalLoop (cx16 F G) (cdA Go.Proofs.Try.f16 [1, 1, 1, 0, 1, 0, 0]) (K16_2 F G) e w0 = S16_L1 F G e w0 := by
  rw [evalLoop_eq]
  kernel_rfl
theorem S16_L2_eq (F : FnT) (G : RndT) (e : Env) (w0 : World) : evalLoop (cx16 F G) (cdA Go.Proofs.Try.f16 [1, 1, 1, 0, 1, 0, 0, 1, 0, 1, 1, 0, 1, 0, 0]) (K16_6 F G) e w0 = S16_L2 F G e w0 := by
  rw [evalLoop_eq]
  kernel_rfl

-- 17 ciborium/ciboriumlaw21.shaped
noncomputable def cx17 (F : FnT) (G : RndT) : Ctx := ⟨Pg, F, G, 17, none, 95⟩
noncomputable def K17_0 : FnT → RndT → Exit → Env → World → R := fun _ _ => endK Pg Go.Proofs.Try.f17
noncomputable def K17_1 : FnT → RndT → Exit → Env → World → R := fun F G => thenK (evalCode (cx17 F G) (cdA Go.Proofs.Try.f17 [1, 1, 1, 1]) (K17_0 F G)) (K17_0 F G)
noncomputable def K17_2 : FnT → RndT → Exit → Env → World → R := fun F G => blkK 0 (K17_1 F G)
noncomputable def K17_3 : FnT → RndT → Exit → Env → World → R := fun F G => thenK (evalLoop (cx17 F G) (cdA Go.Proofs.Try.f17 [1, 1, 1, 0, 1, 0, 0]) (K17_2 F G)) (K17_2 F G)
noncomputable def K17_4 : FnT → RndT → Exit → Env → World → R := fun F G => thenK (evalCode (cx17 F G) (cdA Go.Proofs.Try.f17 [1, 1, 1, 0, 1, 0, 0, 1, 1]) (K17_3 F G)) (K17_3 F G)
noncomputable def K17_5 : FnT → RndT → Exit → Env → World → R := fun F G => blkK 1 (K17_4 F G)
noncomputable def K17_6 : FnT → RndT → Exit → Env → World → R := fun F G => thenK (evalCode (cx17 F G) (cdA Go.Proofs.Try.f17 [1, 1, 1, 0, 1, 0, 0, 1, 0, 0, 1, 1]) (K17_5 F G)) (K17_5 F G)
noncomputable def K17_7 : FnT → RndT → Exit → Env → World → R := fun F G => blkK 2 (K17_6 F G)
noncomputable def S17 (F : FnT) (G : RndT) (x0 x1 : Value) (w0 : World) : R :=
  rd2 (lenG false Pg .len #[31] 3 #[false] [x0] w0) fun x3 w4 =>
  rd2 (binG false Pg .eql 3 (.tmp 0) (.const .nilFunc) x3 (.int .i64 0) w4) fun x5 w6 =>
  rd2 (gate x5 false (fun _ =>  some (x0, w6)) w6) fun x7 w8 =>
  rd2 (gate x5 false (fun _ => rd (ixA Pg 31 x7 (.int .i64 0)) fun x9 => some (x9, w8)) w8) fun x10 w11 =>
  rd2 (gate x5 false (fun _ => rd (ldV Pg 81 x10 w11) fun x12 => some (x12, w11)) w11) fun x13 w14 =>
  rd2 (gate x5 false (fun _ => rd2 (lenG false Pg .len #[81] 3 #[false] [x13] w14) fun x15 w16 => some (x15, w16)) w14) fun x17 w18 =>
  rd2 (gate x5 false (fun _ => rd2 (binG false Pg .neq 3 (.tmp 0) (.const .nilFunc) x17 (.int .i64 1) w18) fun x19 w20 => some (x19, w20)) w18) fun x21 w22 =>
  rd (pickV x5 (.bool true) x21) fun x23 =>
  cnd x23 (fun _ => some ((.bool false), w22)) (fun _ => evalLoop (cx17 F G) (cdA Go.Proofs.Try.f17 [1, 1, 1, 0, 1, 0, 0]) (K17_2 F G) (upd (upd (upd (upd (upd (upd (upd (upd (upd (upd (upd (upd (upd (envL [x0, x1]) 4 (.bool false)) 10 x0) 11 x3) 12 x5) 13 x5) 14 x7) 15 x10) 16 x13) 17 x17) 18 x21) 19 x23) 5 (.int .i64 0)) 6 (.int .i64 0)) w22)
noncomputable def S17_L1 (F : FnT) (G : RndT) (e : Env) (w0 : World) : R :=
  rd2 (lenG false Pg .len #[31] 3 #[false] [(e 0)] w0) fun x101 w102 =>
  rd2 (binG false Pg .lss 3 (.tmp 0) (.tmp 0) (e 6) x101 w102) fun x103 w104 =>
  cnd x103 (fun _ => evalLoop (cx17 F G) (cdA Go.Proofs.Try.f17 [1, 1, 1, 0, 1, 0, 0, 1, 0, 0, 1, 0, 1, 0, 0]) (K17_7 F G) (upd (upd (upd (upd (upd (upd e 20 (e 6)) 21 (e 0)) 22 x101) 23 x103) 7 (.int .i64 0)) 8 (.int .i64 0)) w104) (fun _ => rd2 (binG false Pg .eql 3 (.tmp 0) (.tmp 0) (e 5) (e 1) w104) fun x105 w106 =>
  shutK (e 95) w106 fun w107 =>
  some (x105, w107))
noncomputable def S17_L2 (F : FnT) (G : RndT) (e : Env) (w0 : World) : R :=
  rd (ixA Pg 31 (e 0) (e 6)) fun x101 =>
  rd (ldV Pg 81 x101 w0) fun x102 =>
  rd2 (lenG false Pg .len #[81] 3 #[false] [x102] w0) fun x103 w104 =>
  rd2 (binG false Pg .lss 3 (.tmp 0) (.tmp 0) (e 8) x103 w104) fun x105 w106 =>
  cnd x105 (fun _ => rd2 (binG false Pg .eql 3 (.tmp 0) (.const .nilFunc) (e 6) (.int .i64 0) w106) fun x107 w108 =>
  cnd x107 (fun _ => rd2 (lenG false Pg .min #[3, 3] 3 #[false, true] [(e 1), (.int .i64 1)] w108) fun x109 w110 =>
  rd (ixA Pg 31 (e 0) (e 6)) fun x111 =>
  rd (ldV Pg 81 x111 w110) fun x112 =>
  rd (ixA Pg 81 x112 (e 8)) fun x113 =>
  rd (ldV Pg 3 x113 w110) fun x114 =>
  rd2 (binG false Pg .lss 3 (.tmp 0) (.tmp 0) x114 x109 w110) fun x115 w116 =>
  rd2 (gate x115 false (fun _ =>  some ((e 0), w116)) w116) fun x117 w118 =>
  rd2 (gate x115 false (fun _ =>  some ((e 6), w118)) w118) fun x119 w120 =>
  rd2 (gate x115 false (fun _ => rd (ixA Pg 31 x117 x119) fun x121 => some (x121, w120)) w120) fun x122 w123 =>
  rd2 (gate x115 false (fun _ => rd (ldV Pg 81 x122 w123) fun x124 => some (x124, w123)) w123) fun x125 w126 =>
  rd2 (gate x115 false (fun _ =>  some ((e 8), w126)) w126) fun x127 w128 =>
  rd2 (gate x115 false (fun _ => rd (ixA Pg 81 x125 x127) fun x129 => some (x129, w128)) w128) fun x130 w131 =>
  rd2 (gate x115 false (fun _ => rd (ldV Pg 3 x130 w131) fun x132 => some (x132, w131)) w131) fun x133 w134 =>
  rd2 (gate x115 false (fun _ => rd2 (binG false Pg .gtr 3 (.tmp 0) (.const .nilFunc) x133 (.int .i64 5) w134) fun x135 w136 => some (x135, w136)) w134) fun x137 w138 =>
  rd (pickV x115 (.bool true) x137) fun x139 =>
  cnd x139 (fun _ => shutK (e 95) w138 fun w140 =>
  some ((.bool false), w140)) (fun _ => rd (ixA Pg 31 (e 0) (e 6)) fun x141 =>
  rd (ldV Pg 81 x141 w138) fun x142 =>
  rd (ixA Pg 81 x142 (e 8)) fun x143 =>
  rd (ldV Pg 3 x143 w138) fun x144 =>
  rd2 (binG false Pg .add 3 (.tmp 0) (.tmp 0) (e 5) x144 w138) fun x145 w146 =>
  rd (ixA Pg 31 (e 0) (e 6)) fun x147 =>
  rd (ldV Pg 81 x147 w146) fun x148 =>
  rd (ixA Pg 81 x148 (e 8)) fun x149 =>
  rd (ldV Pg 3 x149 w146) fun x150 =>
  rd2 (binG false Pg .add 3 (.tmp 0) (.tmp 0) (e 7) x150 w146) fun x151 w152 =>
  rd2 (binG false Pg .add 3 (.tmp 0) (.const .nilFunc) x151 (.int .i64 1) w152) fun x153 w154 =>
  rd2 (binG false Pg .add 3 (.tmp 0) (.const .nilFunc) (e 8) (.int .i64 1) w154) fun x155 w156 =>
  evalLoop (cx17 F G) (cdA Go.Proofs.Try.f17 [1, 1, 1, 0, 1, 0, 0, 1, 0, 0, 1, 0, 1, 0, 0]) (K17_7 F G) (upd (upd (upd (upd (upd (upd (upd (upd (upd (upd (upd (upd (upd (upd (upd (upd (upd (upd (upd (upd (upd (upd (upd (upd (upd (upd (upd (upd (upd (upd (upd (upd (upd (upd (upd (upd (upd (upd (upd (upd (upd (upd (upd (upd (upd (upd (upd (upd (upd (upd (upd (upd (upd (upd (upd (upd e 26 (e 8)) 27 (e 0)) 28 (e 6)) 29 x101) 30 x102) 31 x103) 32 x105) 9 (.int .i64 2)) 35 (e 6)) 36 x107) 37 (e 1)) 38 x109) 9 x109) 39 (e 0)) 40 (e 6)) 41 x111) 42 x112) 43 (e 8)) 44 x113) 45 x114) 46 x109) 47 x115) 48 x115) 49 x117) 50 x119) 51 x122) 52 x125) 53 x127) 54 x130) 55 x133) 56 x137) 57 x139) 58 (e 5)) 59 (e 0)) 60 (e 6)) 61 x141) 62 x142) 63 (e 8)) 64 x143) 65 x144) 66 x145) 5 x145) 67 (e 7)) 68 (e 0)) 69 (e 6)) 70 x147) 71 x148) 72 (e 8)) 73 x149) 74 x150) 75 x151) 76 x153) 7 x153) 33 (e 8)) 34 x155) 8 x155) w156)) (fun _ => rd (ixA Pg 31 (e 0) (e 6)) fun x157 =>
  rd (ldV Pg 81 x157 w108) fun x158 =>
  rd (ixA Pg 81 x158 (e 8)) fun x159 =>
  rd (ldV Pg 3 x159 w108) fun x160 =>
  rd2 (binG false Pg .lss 3 (.tmp 0) (.tmp 0) x160 (.int .i64 2) w108) fun x161 w162 =>
  rd2 (gate x161 false (fun _ =>  some ((e 0), w162)) w162) fun x163 w164 =>
  rd2 (gate x161 false (fun _ =>  some ((e 6), w164)) w164) fun x165 w166 =>
  rd2 (gate x161 false (fun _ => rd (ixA Pg 31 x163 x165) fun x167 => some (x167, w166)) w166) fun x168 w169 =>
  rd2 (gate x161 false (fun _ => rd (ldV Pg 81 x168 w169) fun x170 => some (x170, w169)) w169) fun x171 w172 =>
  rd2 (gate x161 false (fun _ =>  some ((e 8), w172)) w172) fun x173 w174 =>
  rd2 (gate x161 false (fun _ => rd (ixA Pg 81 x171 x173) fun x175 => some (x175, w174)) w174) fun x176 w177 =>
  rd2 (gate x161 false (fun _ => rd (ldV Pg 3 x176 w177) fun x178 => some (x178, w177)) w177) fun x179 w180 =>
  rd2 (gate x161 false (fun _ => rd2 (binG false Pg .gtr 3 (.tmp 0) (.const .nilFunc) x179 (.int .i64 5) w180) fun x181 w182 => some (x181, w182)) w180) fun x183 w184 =>
  rd (pickV x161 (.bool true) x183) fun x185 =>
  cnd x185 (fun _ => shutK (e 95) w184 fun w186 =>
  some ((.bool false), w186)) (fun _ => rd (ixA Pg 31 (e 0) (e 6)) fun x187 =>
  rd (ldV Pg 81 x187 w184) fun x188 =>
  rd (ixA Pg 81 x188 (e 8)) fun x189 =>
  rd (ldV Pg 3 x189 w184) fun x190 =>
  rd2 (binG false Pg .add 3 (.tmp 0) (.tmp 0) (e 5) x190 w184) fun x191 w192 =>
  rd (ixA Pg 31 (e 0) (e 6)) fun x193 =>
  rd (ldV Pg 81 x193 w192) fun x194 =>
  rd (ixA Pg 81 x194 (e 8)) fun x195 =>
  rd (ldV Pg 3 x195 w192) fun x196 =>
  rd2 (binG false Pg .add 3 (.tmp 0) (.tmp 0) (e 7) x196 w192) fun x197 w198 =>
  rd2 (binG false Pg .add 3 (.tmp 0) (.const .nilFunc) x197 (.int .i64 1) w198) fun x199 w200 =>
  rd2 (binG false Pg .add 3 (.tmp 0) (.const .nilFunc) (e 8) (.int .i64 1) w200) fun x201 w202 =>
  evalLoop (cx17 F G) (cdA Go.Proofs.Try.f17 [1, 1, 1, 0, 1, 0, 0, 1, 0, 0, 1, 0, 1, 0, 0]) (K17_7 F G) (upd (upd (upd (upd (upd (upd (upd (upd (upd (upd (upd (upd (upd (upd (upd (upd (upd (upd (upd (upd (upd (upd (upd (upd (upd (upd (upd (upd (upd (upd (upd (upd (upd (upd (upd (upd (upd (upd (upd (upd (upd (upd (upd (upd (upd (upd (upd (upd (upd (upd (upd (upd (upd e 26 (e 8)) 27 (e 0)) 28 (e 6)) 29 x101) 30 x102) 31 x103) 32 x105) 9 (.int .i64 2)) 35 (e 6)) 36 x107) 39 (e 0)) 40 (e 6)) 41 x157) 42 x158) 43 (e 8)) 44 x159) 45 x160) 46 (.int .i64 2)) 47 x161) 48 x161) 49 x163) 50 x165) 51 x168) 52 x171) 53 x173) 54 x176) 55 x179) 56 x183) 57 x185) 58 (e 5)) 59 (e 0)) 60 (e 6)) 61 x187) 62 x188) 63 (e 8)) 64 x189) 65 x190) 66 x191) 5 x191) 67 (e 7)) 68 (e 0)) 69 (e 6)) 70 x193) 71 x194) 72 (e 8)) 73 x195) 74 x196) 75 x197) 76 x199) 7 x199) 33 (e 8)) 34 x201) 8 x201) w202))) (fun _ => rd2 (binG false Pg .add 3 (.tmp 0) (.const .nilFunc) (e 6) (.int .i64 1) w106) fun x203 w204 =>
  rd2 (lenG false Pg .len #[31] 3 #[false] [(e 0)] w204) fun x205 w206 =>
  rd2 (binG false Pg .lss 3 (.tmp 0) (.tmp 0) x203 x205 w206) fun x207 w208 =>
  rd2 (gate x207 true (fun _ =>  some ((e 0), w208)) w208) fun x209 w210 =>
  rd2 (gate x207 true (fun _ =>  some ((e 6), w210)) w210) fun x211 w212 =>
  rd2 (gate x207 true (fun _ => rd2 (binG false Pg .add 3 (.tmp 0) (.const .nilFunc) x211 (.int .i64 1) w212) fun x213 w214 => some (x213, w214)) w212) fun x215 w216 =>
  rd2 (gate x207 true (fun _ => rd (ixA Pg 31 x209 x215) fun x217 => some (x217, w216)) w216) fun x218 w219 =>
  rd2 (gate x207 true (fun _ => rd (ldV Pg 81 x218 w219) fun x220 => some (x220, w219)) w219) fun x221 w222 =>
  rd2 (gate x207 true (fun _ => rd2 (lenG false Pg .len #[81] 3 #[false] [x221] w222) fun x223 w224 => some (x223, w224)) w222) fun x225 w226 =>
  rd2 (gate x207 true (fun _ =>  some ((e 7), w226)) w226) fun x227 w228 =>
  rd2 (gate x207 true (fun _ => rd2 (binG false Pg .neq 3 (.tmp 0) (.tmp 0) x225 x227 w228) fun x229 w230 => some (x229, w230)) w228) fun x231 w232 =>
  rd (pickV x207 x231 (.bool false)) fun x233 =>
  cnd x233 (fun _ => shutK (e 95) w232 fun w234 =>
  some ((.bool false), w234)) (fun _ => rd2 (binG false Pg .add 3 (.tmp 0) (.const .nilFunc) (e 6) (.int .i64 1) w232) fun x235 w236 =>
  evalLoop (cx17 F G) (cdA Go.Proofs.Try.f17 [1, 1, 1, 0, 1, 0, 0]) (K17_2 F G) (upd (upd (upd (upd (upd (upd (upd (upd (upd (upd (upd (upd (upd (upd (upd (upd (upd (upd (upd (upd (upd (upd (upd (upd (upd e 26 (e 8)) 27 (e 0)) 28 (e 6)) 29 x101) 30 x102) 31 x103) 32 x105) 77 (e 6)) 78 x203) 79 (e 0)) 80 x205) 81 x207) 82 x207) 83 x209) 84 x211) 85 x215) 86 x218) 87 x221) 88 x225) 89 x227) 90 x231) 91 x233) 24 (e 6)) 25 x235) 6 x235) w236))
theorem S17_eq (F : FnT) (G : RndT) (x0 x1 : Value) (w0 : World) : evalCode (cx17 F G) (cdA Go.Proofs.Try.f17 []) (endK Pg Go.Proofs.Try.f17) (envL [x0, x1]) w0 = S17 F G x0 x1 w0 := by kernel_rfl
theorem F17 (x0 x1 : Value) (w0 : World) : Fn Pg 17 [x0, x1] w0 = S17 (Fn Pg) (Rnd Pg) x0 x1 w0 := (Fn_body (c := cdA Go.Proofs.Try.f17 []) Go.Proofs.Try.func17 (by kernel_rfl) (by kernel_rfl) [x0, x1] w0 (Nat.le_of_ble_eq_true (by kernel_rfl))).trans (S17_eq _ _ x0 x1 w0)
theorem S17_L1_eq (F : FnT) (G : RndT) (e : Env) (w0 : World) : evalLoop (cx17 F G) (cdA Go.Proofs.Try.f17 [1, 1, 1, 0, 1, 0, 0]) (K17_2 F G) e w0 = S17_L1 F G e w0 := by
  rw [evalLoop_eq]
  kernel_rfl
theorem S17_L2_eq (F : FnT) (G : RndT) (e : Env) (w0 : World) : evalLoop (cx17 F G) (cdA Go.Proofs.Try.f17 [1, 1, 1, 0, 1, 0, 0, 1, 0, 0, 1, 0, 1, 0, 0]) (K17_7 F G) e w0 = S17_L2 F G e w0 := by
  rw [evalLoop_eq]
  kernel_rfl

-- 18 (*ciborium/tree.Tree[int]).Len
noncomputable def cx18 (F : FnT) (G : RndT) : Ctx := ⟨Pg, F, G, 18, none, 9⟩
noncomputable def S18 (F : FnT) (G : RndT) (x0 : Value) (w0 : World) : R :=
  rd2 (F 45 [x0] w0) fun x2 w3 =>
  cnd x2 (fun _ => some ((.int .i64 0), w3)) (fun _ => rd (nilV x0) fun x4 =>
  rd (fldA Pg 57 x4 1) fun x5 =>
  rd (ldV Pg 3 x5 w3) fun x6 =>
  some (x6, w3))
theorem S18_eq (F : FnT) (G : RndT) (x0 : Value) (w0 : World) : evalCode (cx18 F G) (cdA Go.Proofs.Try.f18 []) (endK Pg Go.Proofs.Try.f18) (envL [x0]) w0 = S18 F G x0 w0 := by kernel_rfl
theorem F18 (x0 : Value) (w0 : World) : Fn Pg 18 [x0] w0 = S18 (Fn Pg) (Rnd Pg) x0 w0 := (Fn_body (c := cdA Go.Proofs.Try.f18 []) Go.Proofs.Try.func18 (by kernel_rfl) (by kernel_rfl) [x0] w0 (Nat.le_of_ble_eq_true (by kernel_rfl))).trans (S18_eq _ _ x0 w0)

-- 19 (*ciborium/tree.Tree[int]).Walk
noncomputable def rx19 (l : Nat) (F : FnT) (G : RndT) : Ctx := ⟨Pg, F, G, 19, some l, 30⟩
noncomputable def cx19 (F : FnT) (G : RndT) : Ctx := ⟨Pg, F, G, 19, none, 30⟩
noncomputable def K19_0 : FnT → RndT → Exit → Env → World → R := fun _ _ => endK Pg Go.Proofs.Try.f19
noncomputable def K19_1 : FnT → RndT → Exit → Env → World → R := fun F G => thenK (evalCode (cx19 F G) (cdA Go.Proofs.Try.f19 [1, 1, 1]) (K19_0 F G)) (K19_0 F G)
noncomputable def K19_2 : FnT → RndT → Exit → Env → World → R := fun F G => blkK 0 (K19_1 F G)
noncomputable def S19 (F : FnT) (G : RndT) (x0 x1 x2 : Value) (w0 : World) : R :=
  rd2 (rawV Pg (Instr.box 36 x1) w0) fun x4 w5 =>
  rd2 (rawV Pg (Instr.box 3 x2) w5) fun x6 w7 =>
  rd2 (rawV Pg (Instr.alloc 37 true (.tuple #[])) w7) fun x8 w9 =>
  rd (fldA Pg 36 x4 0) fun x10 =>
  rd (ldV Pg 9 x10 w9) fun x11 =>
  rd2 (F 52 [x0, x11] w9) fun x12 w13 =>
  rngR (cx19 F G) x12 #[13] (cdA Go.Proofs.Try.f19 [1, 1, 0, 1, 0, 0]) (cdA Go.Proofs.Try.f19 [1, 1, 0, 1, 0, 1]) (K19_2 F G) (upd (upd (upd (upd (upd (upd (upd (upd (envL [x0, x1, x2]) 4 x4) 5 x6) 6 (.slice none 0 0)) 7 x8) 9 x0) 10 x10) 11 x11) 12 x12) w13
noncomputable def S19_N1 (F : FnT) (G : RndT) (e : Env) (w0 : World) : R :=
  rd (ldV Pg 37 (e 7) w0) fun x101 =>
  shutK (e 30) w0 fun w102 =>
  some (x101, w102)
noncomputable def S19_T1 (F : FnT) (G : RndT) (e : Env) (w0 : World) : R :=
  shutK (e 30) w0 fun w101 =>
  some ((e 6), w101)
noncomputable def S19_X0_1 (F : FnT) (G : RndT) (e : Env) (w0 : World) : R :=
  rd (ldV Pg 37 (e 7) w0) fun x101 =>
  shutK (e 30) w0 fun w102 =>
  some (x101, w102)
noncomputable def S19_R1 (F : FnT) (G : RndT) (l : Nat) (e : Env) (w0 : World) : R :=
  rd2 (rawV Pg (Instr.alloc 40 true (.tuple #[])) w0) fun x101 w102 =>
  rd2 (rawU Pg (Instr.storeAt 40 x101 (e 13)) w102) fun x104 w103 =>
  begR l w103 fun w105 =>
  rd (ldV Pg 37 (e 7) w105) fun x106 =>
  rd2 (lenG false Pg .len #[37] 3 #[false] [x106] w105) fun x107 w108 =>
  rd (ldV Pg 3 (e 5) w108) fun x109 =>
  rd2 (binG false Pg .geq 3 (.tmp 0) (.tmp 0) x107 x109 w108) fun x110 w111 =>
  rd2 (gate x110 false (fun _ => rd (ldV Pg 36 (e 4) w111) fun x112 => some (x112, w111)) w111) fun x113 w114 =>
  rd2 (gate x110 false (fun _ => rd (fldA Pg 40 x101 0) fun x115 => some (x115, w114)) w114) fun x116 w117 =>
  rd2 (gate x110 false (fun _ => rd (ldV Pg 9 x116 w117) fun x118 => some (x118, w117)) w117) fun x119 w120 =>
  rd2 (gate x110 false (fun _ => rd2 (F 53 [x113, x119] w120) fun x121 w122 => some (x121, w122)) w120) fun x123 w124 =>
  rd2 (gate x110 false (fun _ => rd (unV .not x123) fun x125 => some (x125, w124)) w124) fun x126 w127 =>
  rd (pickV x110 (.bool true) x126) fun x128 =>
  cnd x128 (fun _ => finR l (some (.exit 0)) w127) (fun _ => rd (ldV Pg 37 (e 7) w127) fun x129 =>
  rd (ldV Pg 40 x101 w127) fun x130 =>
  rd2 (rawV Pg (Instr.buildSlice 37 1 #[(0, x130)]) w127) fun x131 w132 =>
  rd2 (lenG false Pg .append #[37, 37] 37 #[false, false] [x129, x131] w132) fun x133 w134 =>
  rd2 (rawU Pg (Instr.storeAt 37 (e 7) x133) w134) fun x136 w135 =>
  finR l none w135)
theorem S19_eq (F : FnT) (G : RndT) (x0 x1 x2 : Value) (w0 : World) : evalCode (cx19 F G) (cdA Go.Proofs.Try.f19 []) (endK Pg Go.Proofs.Try.f19) (envL [x0, x1, x2]) w0 = S19 F G x0 x1 x2 w0 := by kernel_rfl
theorem F19 (x0 x1 x2 : Value) (w0 : World) : Fn Pg 19 [x0, x1, x2] w0 = S19 (Fn Pg) (Rnd Pg) x0 x1 x2 w0 := (Fn_body (c := cdA Go.Proofs.Try.f19 []) Go.Proofs.Try.func19 (by kernel_rfl) (by kernel_rfl) [x0, x1, x2] w0 (Nat.le_of_ble_eq_true (by kernel_rfl))).trans (S19_eq _ _ x0 x1 x2 w0)
theorem S19_N1_eq (F : FnT) (G : RndT) (e : Env) (w0 : World) : K19_2 F G .normal e w0 = S19_N1 F G e w0 := by kernel_rfl
theorem S19_T1_eq (F : FnT) (G : RndT) (e : Env) (w0 : World) : K19_2 F G .ret e w0 = S19_T1 F G e w0 := by kernel_rfl
theorem S19_X0_1_eq (F : FnT) (G : RndT) (e : Env) (w0 : World) : K19_2 F G (.exit 0) e w0 = S19_X0_1 F G e w0 := by kernel_rfl
theorem S19_R1_eq (F : FnT) (G : RndT) (l : Nat) (ts : List Value) (w0 : World) : evalRound (rx19 l F G) l ts (cdA Go.Proofs.Try.f19 [1, 1, 0, 1, 0, 0]) (cdA Go.Proofs.Try.f19 [1, 1, 0, 1, 0, 1]) w0 = S19_R1 F G l (envL ts) w0 := by kernel_rfl
theorem R19_1 {l : Nat} {ts : List Value} (w0 : World) (h : ts.length = 30) : Rnd Pg l 19 ts (cdA Go.Proofs.Try.f19 [1, 1, 0, 1, 0, 0]) (cdA Go.Proofs.Try.f19 [1, 1, 0, 1, 0, 1]) w0 = S19_R1 (Fn Pg) (Rnd Pg) l (envL ts) w0 := by
  rw [Rnd_eq]; unfold rndS; rw [h]; exact S19_R1_eq _ _ _ _ _

-- 20 (*ciborium/tree.Tree[int]).Get
noncomputable def cx20 (F : FnT) (G : RndT) : Ctx := ⟨Pg, F, G, 20, none, 21⟩
noncomputable def S20 (F : FnT) (G : RndT) (x0 x1 : Value) (w0 : World) : R :=
  rd2 (F 45 [x0] w0) fun x3 w4 =>
  cnd x3 (fun _ => some ((.tuple #[(.int .i64 0), (.bool false)]), w4)) (fun _ => rd2 (F 46 [x0, x1] w4) fun x5 w6 =>
  rd2 (binG false Pg .eql 101 (.tmp 0) (.const .nilFunc) x5 (.pointer none) w6) fun x7 w8 =>
  cnd x7 (fun _ => some ((.tuple #[(.int .i64 0), (.bool false)]), w8)) (fun _ => rd (nilV x5) fun x9 =>
  rd (fldA Pg 40 x9 1) fun x10 =>
  rd (ldV Pg 3 x10 w8) fun x11 =>
  some ((.tuple #[x11, (.bool true)]), w8)))
theorem S20_eq (F : FnT) (G : RndT) (x0 x1 : Value) (w0 : World) : evalCode (cx20 F G) (cdA Go.Proofs.Try.f20 []) (endK Pg Go.Proofs.Try.f20) (envL [x0, x1]) w0 = S20 F G x0 x1 w0 := by kernel_rfl
theorem F20 (x0 x1 : Value) (w0 : World) : Fn Pg 20 [x0, x1] w0 = S20 (Fn Pg) (Rnd Pg) x0 x1 w0 := (Fn_body (c := cdA Go.Proofs.Try.f20 []) Go.Proofs.Try.func20 (by kernel_rfl) (by kernel_rfl) [x0, x1] w0 (Nat.le_of_ble_eq_true (by kernel_rfl))).trans (S20_eq _ _ x0 x1 w0)

-- 21 (*ciborium/tree.Tree[int]).After
noncomputable def rx21 (l : Nat) (F : FnT) (G : RndT) : Ctx := ⟨Pg, F, G, 21, some l, 14⟩
noncomputable def cx21 (F : FnT) (G : RndT) : Ctx := ⟨Pg, F, G, 21, none, 14⟩
noncomputable def K21_0 : FnT → RndT → Exit → Env → World → R := fun _ _ => endK Pg Go.Proofs.Try.f21
noncomputable def K21_1 : FnT → RndT → Exit → Env → World → R := fun F G => thenK (evalCode (cx21 F G) (cdA Go.Proofs.Try.f21 [1, 1]) (K21_0 F G)) (K21_0 F G)
noncomputable def K21_2 : FnT → RndT → Exit → Env → World → R := fun F G => blkK 0 (K21_1 F G)
noncomputable def S21 (F : FnT) (G : RndT) (x0 x1 : Value) (w0 : World) : R :=
  rd2 (rawV Pg (Instr.alloc 9 true (.tuple #[])) w0) fun x3 w4 =>
  rd2 (rawV Pg (Instr.alloc 4 true (.tuple #[])) w4) fun x5 w6 =>
  rd2 (F 54 [x1] w6) fun x7 w8 =>
  rd2 (F 52 [x0, x7] w8) fun x9 w10 =>
  rngR (cx21 F G) x9 #[11] (cdA Go.Proofs.Try.f21 [1, 0, 1, 0, 0]) (cdA Go.Proofs.Try.f21 [1, 0, 1, 0, 1]) (K21_2 F G) (upd (upd (upd (upd (upd (upd (envL [x0, x1]) 4 x3) 5 x5) 7 x0) 8 x1) 9 x7) 10 x9) w10
noncomputable def S21_N1 (F : FnT) (G : RndT) (e : Env) (w0 : World) : R :=
  rd2 (rawU Pg (Instr.storeAt 9 (e 4) (.string { data := #[] })) w0) fun x102 w101 =>
  rd2 (rawU Pg (Instr.storeAt 4 (e 5) (.bool false)) w101) fun x104 w103 =>
  shutK (e 14) w103 fun w105 =>
  rd (ldV Pg 9 (e 4) w105) fun x106 =>
  rd (ldV Pg 4 (e 5) w105) fun x107 =>
  some ((.tuple #[x106, x107]), w105)
noncomputable def S21_T1 (F : FnT) (G : RndT) (e : Env) (w0 : World) : R :=
  shutK (e 14) w0 fun w101 =>
  rd (ldV Pg 9 (e 4) w101) fun x102 =>
  rd (ldV Pg 4 (e 5) w101) fun x103 =>
  some ((.tuple #[x102, x103]), w101)
noncomputable def S21_X0_1 (F : FnT) (G : RndT) (e : Env) (w0 : World) : R :=
  rd2 (rawU Pg (Instr.storeAt 9 (e 4) (.string { data := #[] })) w0) fun x102 w101 =>
  rd2 (rawU Pg (Instr.storeAt 4 (e 5) (.bool false)) w101) fun x104 w103 =>
  shutK (e 14) w103 fun w105 =>
  rd (ldV Pg 9 (e 4) w105) fun x106 =>
  rd (ldV Pg 4 (e 5) w105) fun x107 =>
  some ((.tuple #[x106, x107]), w105)
noncomputable def S21_R1 (F : FnT) (G : RndT) (l : Nat) (e : Env) (w0 : World) : R :=
  rd2 (rawV Pg (Instr.alloc 40 true (.tuple #[])) w0) fun x101 w102 =>
  rd2 (rawU Pg (Instr.storeAt 40 x101 (e 11)) w102) fun x104 w103 =>
  begR l w103 fun w105 =>
  rd (fldA Pg 40 x101 0) fun x106 =>
  rd (ldV Pg 9 x106 w105) fun x107 =>
  rd2 (rawU Pg (Instr.storeAt 9 (e 4) x107) w105) fun x109 w108 =>
  rd2 (rawU Pg (Instr.storeAt 4 (e 5) (.bool true)) w108) fun x111 w110 =>
  finR l (some .ret) w110
theorem S21_eq (F : FnT) (G : RndT) (x0 x1 : Value) (w0 : World) : evalCode (cx21 F G) (cdA Go.Proofs.Try.f21 []) (endK Pg Go.Proofs.Try.f21) (envL [x0, x1]) w0 = S21 F G x0 x1 w0 := by kernel_rfl
theorem F21 (x0 x1 : Value) (w0 : World) : Fn Pg 21 [x0, x1] w0 = S21 (Fn Pg) (Rnd Pg) x0 x1 w0 := (Fn_body (c := cdA Go.Proofs.Try.f21 []) Go.Proofs.Try.func21 (by kernel_rfl) (by kernel_rfl) [x0, x1] w0 (Nat.le_of_ble_eq_true (by kernel_rfl))).trans (S21_eq _ _ x0 x1 w0)
theorem S21_N1_eq (F : FnT) (G : RndT) (e : Env) (w0 : World) : K21_2 F G .normal e w0 = S21_N1 F G e w0 := by kernel_rfl
theorem S21_T1_eq (F : FnT) (G : RndT) (e : Env) (w0 : World) : K21_2 F G .ret e w0 = S21_T1 F G e w0 := by kernel_rfl
theorem S21_X0_1_eq (F : FnT) (G : RndT) (e : Env) (w0 : World) : K21_2 F G (.exit 0) e w0 = S21_X0_1 F G e w0 := by kernel_rfl
theorem S21_R1_eq (F : FnT) (G : RndT) (l : Nat) (ts : List Value) (w0 : World) : evalRound (rx21 l F G) l ts (cdA Go.Proofs.Try.f21 [1, 0, 1, 0, 0]) (cdA Go.Proofs.Try.f21 [1, 0, 1, 0, 1]) w0 = S21_R1 F G l (envL ts) w0 := by kernel_rfl
theorem R21_1 {l : Nat} {ts : List Value} (w0 : World) (h : ts.length = 14) : Rnd Pg l 21 ts (cdA Go.Proofs.Try.f21 [1, 0, 1, 0, 0]) (cdA Go.Proofs.Try.f21 [1, 0, 1, 0, 1]) w0 = S21_R1 (Fn Pg) (Rnd Pg) l (envL ts) w0 := by
  rw [Rnd_eq]; unfold rndS; rw [h]; exact S21_R1_eq _ _ _ _ _

-- 22 ciborium/ciboriumlaw21.act
noncomputable def cx22 (F : FnT) (G : RndT) : Ctx := ⟨Pg, F, G, 22, none, 38⟩
noncomputable def S22 (F : FnT) (G : RndT) (x0 x1 x2 : Value) (w0 : World) : R :=
  rd2 (rawV Pg (Instr.box 28 x2) w0) fun x4 w5 =>
  rd (fldA Pg 28 x4 0) fun x6 =>
  rd (ldV Pg 3 x6 w5) fun x7 =>
  rd2 (binG false Pg .eql 3 (.tmp 0) (.const .nilFunc) x7 (.int .i64 0) w5) fun x8 w9 =>
  cnd x8 (fun _ => cnd x8 (fun _ => rd (fldA Pg 28 x4 1) fun x10 =>
  rd (ldV Pg 9 x10 (drw w9)) fun x11 =>
  rd (fldA Pg 28 x4 2) fun x12 =>
  rd (ldV Pg 3 x12 (drw w9)) fun x13 =>
  rd2 (F 14 [x0, x11, x13] (drw w9)) fun x14 w15 =>
  rd (fldA Pg 28 x4 1) fun x16 =>
  rd (ldV Pg 9 x16 w15) fun x17 =>
  chk (holdsAt Pg none 9 x16 x17 (drw w9)) fun _ =>
  rd (fldA Pg 28 x4 2) fun x18 =>
  rd (ldV Pg 3 x18 w15) fun x19 =>
  chk (holdsAt Pg none 3 x18 x19 (drw w9)) fun _ =>
  rd2 (F 55 [x1, x17, x19] w15) fun x20 w21 =>
  rd2 (binG true Pg .eql 4 (.tmp 0) (.tmp 0) x14 x20 w21) fun x22 _ =>
  some (x22, w21)) (fun _ => rd2 (binG false Pg .eql 3 (.tmp 0) (.const .nilFunc) x7 (.int .i64 3) w9) fun x24 w25 =>
  cnd x24 (fun _ => cnd x24 (fun _ => rd (fldA Pg 28 x4 1) fun x26 =>
  rd (ldV Pg 9 x26 (drw w25)) fun x27 =>
  rd2 (F 15 [x0, x27] (drw w25)) fun x28 w29 =>
  rd (fldA Pg 28 x4 1) fun x30 =>
  rd (ldV Pg 9 x30 w29) fun x31 =>
  chk (holdsAt Pg none 9 x30 x31 (drw w25)) fun _ =>
  rd2 (F 56 [x1, x31] w29) fun x32 w33 =>
  rd2 (binG true Pg .eql 4 (.tmp 0) (.tmp 0) x28 x32 w33) fun x34 _ =>
  some (x34, w33)) (fun _ => some ((.bool true), w25))) (fun _ => rd2 (binG false Pg .eql 3 (.tmp 0) (.const .nilFunc) x7 (.int .i64 4) w25) fun x36 w37 =>
  cnd x36 (fun _ => rd (fldA Pg 28 x4 1) fun x38 =>
  rd (ldV Pg 9 x38 (drw w37)) fun x39 =>
  rd2 (F 15 [x0, x39] (drw w37)) fun x40 w41 =>
  rd (fldA Pg 28 x4 1) fun x42 =>
  rd (ldV Pg 9 x42 w41) fun x43 =>
  chk (holdsAt Pg none 9 x42 x43 (drw w37)) fun _ =>
  rd2 (F 56 [x1, x43] w41) fun x44 w45 =>
  rd2 (binG true Pg .eql 4 (.tmp 0) (.tmp 0) x40 x44 w45) fun x46 _ =>
  some (x46, w45)) (fun _ => some ((.bool true), w37))))) (fun _ => rd2 (binG false Pg .eql 3 (.tmp 0) (.const .nilFunc) x7 (.int .i64 1) w9) fun x48 w49 =>
  cnd x48 (fun _ => cnd x48 (fun _ => rd (fldA Pg 28 x4 1) fun x50 =>
  rd (ldV Pg 9 x50 (drw w49)) fun x51 =>
  rd (fldA Pg 28 x4 2) fun x52 =>
  rd (ldV Pg 3 x52 (drw w49)) fun x53 =>
  rd2 (F 14 [x0, x51, x53] (drw w49)) fun x54 w55 =>
  rd (fldA Pg 28 x4 1) fun x56 =>
  rd (ldV Pg 9 x56 w55) fun x57 =>
  chk (holdsAt Pg none 9 x56 x57 (drw w49)) fun _ =>
  rd (fldA Pg 28 x4 2) fun x58 =>
  rd (ldV Pg 3 x58 w55) fun x59 =>
  chk (holdsAt Pg none 3 x58 x59 (drw w49)) fun _ =>
  rd2 (F 55 [x1, x57, x59] w55) fun x60 w61 =>
  rd2 (binG true Pg .eql 4 (.tmp 0) (.tmp 0) x54 x60 w61) fun x62 _ =>
  some (x62, w61)) (fun _ => rd2 (binG false Pg .eql 3 (.tmp 0) (.const .nilFunc) x7 (.int .i64 3) w49) fun x64 w65 =>
  cnd x64 (fun _ => cnd x64 (fun _ => rd (fldA Pg 28 x4 1) fun x66 =>
  rd (ldV Pg 9 x66 (drw w65)) fun x67 =>
  rd2 (F 15 [x0, x67] (drw w65)) fun x68 w69 =>
  rd (fldA Pg 28 x4 1) fun x70 =>
  rd (ldV Pg 9 x70 w69) fun x71 =>
  chk (holdsAt Pg none 9 x70 x71 (drw w65)) fun _ =>
  rd2 (F 56 [x1, x71] w69) fun x72 w73 =>
  rd2 (binG true Pg .eql 4 (.tmp 0) (.tmp 0) x68 x72 w73) fun x74 _ =>
  some (x74, w73)) (fun _ => some ((.bool true), w65))) (fun _ => rd2 (binG false Pg .eql 3 (.tmp 0) (.const .nilFunc) x7 (.int .i64 4) w65) fun x76 w77 =>
  cnd x76 (fun _ => rd (fldA Pg 28 x4 1) fun x78 =>
  rd (ldV Pg 9 x78 (drw w77)) fun x79 =>
  rd2 (F 15 [x0, x79] (drw w77)) fun x80 w81 =>
  rd (fldA Pg 28 x4 1) fun x82 =>
  rd (ldV Pg 9 x82 w81) fun x83 =>
  chk (holdsAt Pg none 9 x82 x83 (drw w77)) fun _ =>
  rd2 (F 56 [x1, x83] w81) fun x84 w85 =>
  rd2 (binG true Pg .eql 4 (.tmp 0) (.tmp 0) x80 x84 w85) fun x86 _ =>
  some (x86, w85)) (fun _ => some ((.bool true), w77))))) (fun _ => rd2 (binG false Pg .eql 3 (.tmp 0) (.const .nilFunc) x7 (.int .i64 2) w49) fun x88 w89 =>
  cnd x88 (fun _ => rd (fldA Pg 28 x4 1) fun x90 =>
  rd (ldV Pg 9 x90 (drw w89)) fun x91 =>
  rd (fldA Pg 28 x4 2) fun x92 =>
  rd (ldV Pg 3 x92 (drw w89)) fun x93 =>
  rd2 (F 14 [x0, x91, x93] (drw w89)) fun x94 w95 =>
  rd (fldA Pg 28 x4 1) fun x96 =>
  rd (ldV Pg 9 x96 w95) fun x97 =>
  chk (holdsAt Pg none 9 x96 x97 (drw w89)) fun _ =>
  rd (fldA Pg 28 x4 2) fun x98 =>
  rd (ldV Pg 3 x98 w95) fun x99 =>
  chk (holdsAt Pg none 3 x98 x99 (drw w89)) fun _ =>
  rd2 (F 55 [x1, x97, x99] w95) fun x100 w101 =>
  rd2 (binG true Pg .eql 4 (.tmp 0) (.tmp 0) x94 x100 w101) fun x102 _ =>
  some (x102, w101)) (fun _ => rd2 (binG false Pg .eql 3 (.tmp 0) (.const .nilFunc) x7 (.int .i64 3) w89) fun x104 w105 =>
  cnd x104 (fun _ => cnd x104 (fun _ => rd (fldA Pg 28 x4 1) fun x106 =>
  rd (ldV Pg 9 x106 (drw w105)) fun x107 =>
  rd2 (F 15 [x0, x107] (drw w105)) fun x108 w109 =>
  rd (fldA Pg 28 x4 1) fun x110 =>
  rd (ldV Pg 9 x110 w109) fun x111 =>
  chk (holdsAt Pg none 9 x110 x111 (drw w105)) fun _ =>
  rd2 (F 56 [x1, x111] w109) fun x112 w113 =>
  rd2 (binG true Pg .eql 4 (.tmp 0) (.tmp 0) x108 x112 w113) fun x114 _ =>
  some (x114, w113)) (fun _ => some ((.bool true), w105))) (fun _ => rd2 (binG false Pg .eql 3 (.tmp 0) (.const .nilFunc) x7 (.int .i64 4) w105) fun x116 w117 =>
  cnd x116 (fun _ => rd (fldA Pg 28 x4 1) fun x118 =>
  rd (ldV Pg 9 x118 (drw w117)) fun x119 =>
  rd2 (F 15 [x0, x119] (drw w117)) fun x120 w121 =>
  rd (fldA Pg 28 x4 1) fun x122 =>
  rd (ldV Pg 9 x122 w121) fun x123 =>
  chk (holdsAt Pg none 9 x122 x123 (drw w117)) fun _ =>
  rd2 (F 56 [x1, x123] w121) fun x124 w125 =>
  rd2 (binG true Pg .eql 4 (.tmp 0) (.tmp 0) x120 x124 w125) fun x126 _ =>
  some (x126, w125)) (fun _ => some ((.bool true), w117))))))
theorem S22_eq (F : FnT) (G : RndT) (x0 x1 x2 : Value) (w0 : World) : evalCode (cx22 F G) (cdA Go.Proofs.Try.f22 []) (endK Pg Go.Proofs.Try.f22) (envL [x0, x1, x2]) w0 = S22 F G x0 x1 x2 w0 := by kernel_rfl
theorem F22 (x0 x1 x2 : Value) (w0 : World) : Fn Pg 22 [x0, x1, x2] w0 = S22 (Fn Pg) (Rnd Pg) x0 x1 x2 w0 := (Fn_body (c := cdA Go.Proofs.Try.f22 []) Go.Proofs.Try.func22 (by kernel_rfl) (by kernel_rfl) [x0, x1, x2] w0 (Nat.le_of_ble_eq_true (by kernel_rfl))).trans (S22_eq _ _ x0 x1 x2 w0)

-- 23 (*ciborium/tree.Tree[int]).Copy
noncomputable def cx23 (F : FnT) (G : RndT) : Ctx := ⟨Pg, F, G, 23, none, 16⟩
noncomputable def S23 (F : FnT) (G : RndT) (x0 : Value) (w0 : World) : R :=
  rd2 (F 45 [x0] w0) fun x2 w3 =>
  cnd x2 (fun _ => some ((.pointer none), w3)) (fun _ => rd (nilV x0) fun x4 =>
  rd (fldA Pg 57 x4 0) fun x5 =>
  rd (ldV Pg 55 x5 (drw w3)) fun x6 =>
  rd2 (F 57 [x6] (drw w3)) fun x7 w8 =>
  rd (nilV x0) fun x9 =>
  rd (fldA Pg 57 x9 1) fun x10 =>
  rd (ldV Pg 3 x10 w8) fun x11 =>
  chk (holdsAt Pg none 3 x10 x11 (drw w3)) fun _ =>
  rd (bldV Pg 57 [(0, x7), (1, x11)]) fun x12 =>
  rd2 (rawV Pg (Instr.box 57 x12) w8) fun x13 w14 =>
  some (x13, w14))
theorem S23_eq (F : FnT) (G : RndT) (x0 : Value) (w0 : World) : evalCode (cx23 F G) (cdA Go.Proofs.Try.f23 []) (endK Pg Go.Proofs.Try.f23) (envL [x0]) w0 = S23 F G x0 w0 := by kernel_rfl
theorem F23 (x0 : Value) (w0 : World) : Fn Pg 23 [x0] w0 = S23 (Fn Pg) (Rnd Pg) x0 w0 := (Fn_body (c := cdA Go.Proofs.Try.f23 []) Go.Proofs.Try.func23 (by kernel_rfl) (by kernel_rfl) [x0] w0 (Nat.le_of_ble_eq_true (by kernel_rfl))).trans (S23_eq _ _ x0 w0)

-- 24 (*ciborium/ciboriumref21.List).Copy
noncomputable def cx24 (F : FnT) (G : RndT) : Ctx := ⟨Pg, F, G, 24, none, 11⟩
noncomputable def S24 (F : FnT) (G : RndT) (x0 : Value) (w0 : World) : R :=
  rd2 (rawV Pg (Instr.buildSlice 47 0 #[]) w0) fun x2 w3 =>
  rd (nilV x0) fun x4 =>
  rd (fldA Pg 49 x4 0) fun x5 =>
  rd (ldV Pg 47 x5 w3) fun x6 =>
  rd2 (lenG false Pg .append #[47, 47] 47 #[false, false] [x2, x6] w3) fun x7 w8 =>
  rd (bldV Pg 49 [(0, x7)]) fun x9 =>
  rd2 (rawV Pg (Instr.box 49 x9) w8) fun x10 w11 =>
  some (x10, w11)
theorem S24_eq (F : FnT) (G : RndT) (x0 : Value) (w0 : World) : evalCode (cx24 F G) (cdA Go.Proofs.Try.f24 []) (endK Pg Go.Proofs.Try.f24) (envL [x0]) w0 = S24 F G x0 w0 := by kernel_rfl
theorem F24 (x0 : Value) (w0 : World) : Fn Pg 24 [x0] w0 = S24 (Fn Pg) (Rnd Pg) x0 w0 := (Fn_body (c := cdA Go.Proofs.Try.f24 []) Go.Proofs.Try.func24 (by kernel_rfl) (by kernel_rfl) [x0] w0 (Nat.le_of_ble_eq_true (by kernel_rfl))).trans (S24_eq _ _ x0 w0)

-- 25 ciborium/ciboriumlaw21.same
noncomputable def cx25 (F : FnT) (G : RndT) : Ctx := ⟨Pg, F, G, 25, none, 41⟩
noncomputable def K25_0 : FnT → RndT → Exit → Env → World → R := fun _ _ => endK Pg Go.Proofs.Try.f25
noncomputable def K25_1 : FnT → RndT → Exit → Env → World → R := fun F G => thenK (evalCode (cx25 F G) (cdA Go.Proofs.Try.f25 [1, 1, 1]) (K25_0 F G)) (K25_0 F G)
noncomputable def K25_2 : FnT → RndT → Exit → Env → World → R := fun F G => blkK 0 (K25_1 F G)
noncomputable def S25 (F : FnT) (G : RndT) (x0 x1 : Value) (w0 : World) : R :=
  rd2 (lenG false Pg .len #[37] 3 #[false] [x0] w0) fun x3 w4 =>
  rd2 (lenG false Pg .len #[47] 3 #[false] [x1] w4) fun x5 w6 =>
  rd2 (binG false Pg .neq 3 (.tmp 0) (.tmp 0) x3 x5 w6) fun x7 w8 =>
  cnd x7 (fun _ => some ((.bool false), w8)) (fun _ => evalLoop (cx25 F G) (cdA Go.Proofs.Try.f25 [1, 1, 0, 1, 0, 0]) (K25_2 F G) (upd (upd (upd (upd (upd (upd (upd (envL [x0, x1]) 4 (.bool false)) 6 x0) 7 x3) 8 x1) 9 x5) 10 x7) 5 (.int .i64 0)) w8)
noncomputable def S25_L1 (F : FnT) (G : RndT) (e : Env) (w0 : World) : R :=
  rd2 (lenG false Pg .len #[37] 3 #[false] [(e 0)] w0) fun x101 w102 =>
  rd2 (binG false Pg .lss 3 (.tmp 0) (.tmp 0) (e 5) x101 w102) fun x103 w104 =>
  cnd x103 (fun _ => rd (ixA Pg 37 (e 0) (e 5)) fun x105 =>
  rd (fldA Pg 40 x105 0) fun x106 =>
  rd (ldV Pg 9 x106 (drw w104)) fun x107 =>
  rd (ixA Pg 47 (e 1) (e 5)) fun x108 =>
  rd (fldA Pg 112 x108 0) fun x109 =>
  rd (ldV Pg 9 x109 (drw w104)) fun x110 =>
  rd2 (binG true Pg .neq 9 (.tmp 0) (.tmp 0) x107 x110 (drw w104)) fun x111 _ =>
  rd2 (gate x111 false (fun _ =>  some ((e 0), (drw w104))) (drw w104)) fun x113 _ =>
  rd2 (gate x111 false (fun _ =>  some ((e 5), (drw w104))) (drw w104)) fun x115 _ =>
  rd2 (gate x111 false (fun _ => rd (ixA Pg 37 x113 x115) fun x117 => some (x117, (drw w104))) (drw w104)) fun x118 _ =>
  rd2 (gate x111 false (fun _ => rd (fldA Pg 40 x118 1) fun x120 => some (x120, (drw w104))) (drw w104)) fun x121 _ =>
  rd2 (gate x111 false (fun _ => rd (ldV Pg 3 x121 (drw w104)) fun x123 => some (x123, (drw w104))) (drw w104)) fun x124 _ =>
  rd2 (gate x111 false (fun _ =>  some ((e 1), (drw w104))) (drw w104)) fun x126 _ =>
  rd2 (gate x111 false (fun _ =>  some ((e 5), (drw w104))) (drw w104)) fun x128 _ =>
  rd2 (gate x111 false (fun _ => rd (ixA Pg 47 x126 x128) fun x130 => some (x130, (drw w104))) (drw w104)) fun x131 _ =>
  rd2 (gate x111 false (fun _ => rd (fldA Pg 112 x131 1) fun x133 => some (x133, (drw w104))) (drw w104)) fun x134 _ =>
  rd2 (gate x111 false (fun _ => rd (ldV Pg 3 x134 (drw w104)) fun x136 => some (x136, (drw w104))) (drw w104)) fun x137 _ =>
  rd2 (gate x111 false (fun _ => rd2 (binG true Pg .neq 3 (.tmp 0) (.tmp 0) x124 x137 (drw w104)) fun x139 w140 => some (x139, w140)) (drw w104)) fun x141 _ =>
  rd (pickV x111 (.bool true) x141) fun x143 =>
  cnd x143 (fun _ => shutK (e 41) (drw w104) fun w144 =>
  some ((.bool false), w144)) (fun _ => rd2 (binG false Pg .add 3 (.tmp 0) (.const .nilFunc) (e 5) (.int .i64 1) (drw w104)) fun x145 w146 =>
  evalLoop (cx25 F G) (cdA Go.Proofs.Try.f25 [1, 1, 0, 1, 0, 0]) (K25_2 F G) (upd (upd (upd (upd (upd (upd (upd (upd (upd (upd (upd (upd (upd (upd (upd (upd (upd (upd (upd (upd (upd (upd (upd (upd (upd (upd (upd (upd (upd (upd (upd e 11 (e 5)) 12 (e 0)) 13 x101) 14 x103) 17 (e 0)) 18 (e 5)) 19 x105) 20 x106) 21 x107) 22 (e 1)) 23 (e 5)) 24 x108) 25 x109) 26 x110) 27 x111) 28 x111) 29 x113) 30 x115) 31 x118) 32 x121) 33 x124) 34 x126) 35 x128) 36 x131) 37 x134) 38 x137) 39 x141) 40 x143) 15 (e 5)) 16 x145) 5 x145) w146)) (fun _ => shutK (e 41) w104 fun w147 =>
  some ((.bool true), w147))
theorem S25_eq (F : FnT) (G : RndT) (x0 x1 : Value) (w0 : World) : evalCode (cx25 F G) (cdA Go.Proofs.Try.f25 []) (endK Pg Go.Proofs.Try.f25) (envL [x0, x1]) w0 = S25 F G x0 x1 w0 := by kernel_rfl
theorem F25 (x0 x1 : Value) (w0 : World) : Fn Pg 25 [x0, x1] w0 = S25 (Fn Pg) (Rnd Pg) x0 x1 w0 := (Fn_body (c := cdA Go.Proofs.Try.f25 []) Go.Proofs.Try.func25 (by kernel_rfl) (by kernel_rfl) [x0, x1] w0 (Nat.le_of_ble_eq_true (by kernel_rfl))).trans (S25_eq _ _ x0 x1 w0)
theorem S25_L1_eq (F : FnT) (G : RndT) (e : Env) (w0 : World) : evalLoop (cx25 F G) (cdA Go.Proofs.Try.f25 [1, 1, 0, 1, 0, 0]) (K25_2 F G) e w0 = S25_L1 F G e w0 := by
  rw [evalLoop_eq]
  kernel_rfl

-- 26 (*ciborium/ciboriumref21.List).Get
noncomputable def cx26 (F : FnT) (G : RndT) : Ctx := ⟨Pg, F, G, 26, none, 24⟩
noncomputable def S26 (F : FnT) (G : RndT) (x0 x1 : Value) (w0 : World) : R :=
  rd2 (F 58 [x0, x1] w0) fun x3 w4 =>
  rd (extV x3 0) fun x5 =>
  rd (extV x3 1) fun x6 =>
  rd (unV .not x6) fun x7 =>
  cnd x7 (fun _ => some ((.tuple #[(.int .i64 0), (.bool false)]), w4)) (fun _ => rd (nilV x0) fun x8 =>
  rd (fldA Pg 49 x8 0) fun x9 =>
  rd (ldV Pg 47 x9 w4) fun x10 =>
  rd (ixA Pg 47 x10 x5) fun x11 =>
  rd (fldA Pg 112 x11 1) fun x12 =>
  rd (ldV Pg 3 x12 w4) fun x13 =>
  some ((.tuple #[x13, (.bool true)]), w4))
theorem S26_eq (F : FnT) (G : RndT) (x0 x1 : Value) (w0 : World) : evalCode (cx26 F G) (cdA Go.Proofs.Try.f26 []) (endK Pg Go.Proofs.Try.f26) (envL [x0, x1]) w0 = S26 F G x0 x1 w0 := by kernel_rfl
theorem F26 (x0 x1 : Value) (w0 : World) : Fn Pg 26 [x0, x1] w0 = S26 (Fn Pg) (Rnd Pg) x0 x1 w0 := (Fn_body (c := cdA Go.Proofs.Try.f26 []) Go.Proofs.Try.func26 (by kernel_rfl) (by kernel_rfl) [x0, x1] w0 (Nat.le_of_ble_eq_true (by kernel_rfl))).trans (S26_eq _ _ x0 x1 w0)

-- 27 (*ciborium/ciboriumref21.List).After
noncomputable def cx27 (F : FnT) (G : RndT) : Ctx := ⟨Pg, F, G, 27, none, 34⟩
noncomputable def K27_0 : FnT → RndT → Exit → Env → World → R := fun _ _ => endK Pg Go.Proofs.Try.f27
noncomputable def K27_1 : FnT → RndT → Exit → Env → World → R := fun F G => thenK (evalCode (cx27 F G) (cdA Go.Proofs.Try.f27 [1, 1]) (K27_0 F G)) (K27_0 F G)
noncomputable def K27_2 : FnT → RndT → Exit → Env → World → R := fun F G => blkK 0 (K27_1 F G)
noncomputable def S27 (F : FnT) (G : RndT) (x0 x1 : Value) (w0 : World) : R :=
  evalLoop (cx27 F G) (cdA Go.Proofs.Try.f27 [1, 0, 1, 0, 0]) (K27_2 F G) (upd (upd (upd (envL [x0, x1]) 4 (.string { data := #[] })) 5 (.bool false)) 6 (.int .i64 0)) w0
noncomputable def S27_L1 (F : FnT) (G : RndT) (e : Env) (w0 : World) : R :=
  rd (nilV (e 0)) fun x101 =>
  rd (fldA Pg 49 x101 0) fun x102 =>
  rd (ldV Pg 47 x102 w0) fun x103 =>
  rd2 (lenG false Pg .len #[47] 3 #[false] [x103] w0) fun x104 w105 =>
  rd2 (binG false Pg .lss 3 (.tmp 0) (.tmp 0) (e 6) x104 w105) fun x106 w107 =>
  cnd x106 (fun _ => rd (nilV (e 0)) fun x108 =>
  rd (fldA Pg 49 x108 0) fun x109 =>
  rd (ldV Pg 47 x109 w107) fun x110 =>
  rd (ixA Pg 47 x110 (e 6)) fun x111 =>
  rd (fldA Pg 112 x111 0) fun x112 =>
  rd (ldV Pg 9 x112 w107) fun x113 =>
  rd2 (binG false Pg .gtr 9 (.tmp 0) (.tmp 0) x113 (e 1) w107) fun x114 w115 =>
  cnd x114 (fun _ => rd (nilV (e 0)) fun x116 =>
  rd (fldA Pg 49 x116 0) fun x117 =>
  rd (ldV Pg 47 x117 w115) fun x118 =>
  rd (ixA Pg 47 x118 (e 6)) fun x119 =>
  rd (fldA Pg 112 x119 0) fun x120 =>
  rd (ldV Pg 9 x120 w115) fun x121 =>
  shutK (e 34) w115 fun w122 =>
  some ((.tuple #[x121, (.bool true)]), w122)) (fun _ => rd2 (binG false Pg .add 3 (.tmp 0) (.const .nilFunc) (e 6) (.int .i64 1) w115) fun x123 w124 =>
  evalLoop (cx27 F G) (cdA Go.Proofs.Try.f27 [1, 0, 1, 0, 0]) (K27_2 F G) (upd (upd (upd (upd (upd (upd (upd (upd (upd (upd (upd (upd (upd (upd (upd (upd (upd (upd (upd (upd e 7 (e 6)) 8 (e 0)) 9 x101) 10 x102) 11 x103) 12 x104) 13 x106) 16 (e 0)) 17 x108) 18 x109) 19 x110) 20 (e 6)) 21 x111) 22 x112) 23 x113) 24 (e 1)) 25 x114) 14 (e 6)) 15 x123) 6 x123) w124)) (fun _ => shutK (e 34) w107 fun w125 =>
  some ((.tuple #[(.string { data := #[] }), (.bool false)]), w125))
theorem S27_eq (F : FnT) (G : RndT) (x0 x1 : Value) (w0 : World) : evalCode (cx27 F G) (cdA Go.Proofs.Try.f27 []) (endK Pg Go.Proofs.Try.f27) (envL [x0, x1]) w0 = S27 F G x0 x1 w0 := by kernel_rfl
theorem F27 (x0 x1 : Value) (w0 : World) : Fn Pg 27 [x0, x1] w0 = S27 (Fn Pg) (Rnd Pg) x0 x1 w0 := (Fn_body (c := cdA Go.Proofs.Try.f27 []) Go.Proofs.Try.func27 (by kernel_rfl) (by kernel_rfl) [x0, x1] w0 (Nat.le_of_ble_eq_true (by kernel_rfl))).trans (S27_eq _ _ x0 x1 w0)
theorem S27_L1_eq (F : FnT) (G : RndT) (e : Env) (w0 : World) : evalLoop (cx27 F G) (cdA Go.Proofs.Try.f27 [1, 0, 1, 0, 0]) (K27_2 F G) e w0 = S27_L1 F G e w0 := by
  rw [evalLoop_eq]
  kernel_rfl

-- 28 (*ciborium/ciboriumref21.List).Walk
noncomputable def cx28 (F : FnT) (G : RndT) : Ctx := ⟨Pg, F, G, 28, none, 45⟩
noncomputable def K28_0 : FnT → RndT → Exit → Env → World → R := fun _ _ => endK Pg Go.Proofs.Try.f28
noncomputable def K28_1 : FnT → RndT → Exit → Env → World → R := fun F G => thenK (evalCode (cx28 F G) (cdA Go.Proofs.Try.f28 [1, 1, 1]) (K28_0 F G)) (K28_0 F G)
noncomputable def K28_2 : FnT → RndT → Exit → Env → World → R := fun F G => blkK 0 (K28_1 F G)
noncomputable def S28 (F : FnT) (G : RndT) (x0 x1 x2 : Value) (w0 : World) : R :=
  rd2 (rawV Pg (Instr.box 36 x1) w0) fun x4 w5 =>
  evalLoop (cx28 F G) (cdA Go.Proofs.Try.f28 [1, 1, 0, 1, 0, 0]) (K28_2 F G) (upd (upd (upd (upd (envL [x0, x1, x2]) 4 x4) 6 (.slice none 0 0)) 7 (.slice none 0 0)) 8 (.int .i64 0)) w5
noncomputable def S28_L1 (F : FnT) (G : RndT) (e : Env) (w0 : World) : R :=
  rd (nilV (e 0)) fun x101 =>
  rd (fldA Pg 49 x101 0) fun x102 =>
  rd (ldV Pg 47 x102 w0) fun x103 =>
  rd2 (lenG false Pg .len #[47] 3 #[false] [x103] w0) fun x104 w105 =>
  rd2 (binG false Pg .lss 3 (.tmp 0) (.tmp 0) (e 8) x104 w105) fun x106 w107 =>
  rd2 (gate x106 true (fun _ =>  some ((e 7), w107)) w107) fun x108 w109 =>
  rd2 (gate x106 true (fun _ => rd2 (lenG false Pg .len #[47] 3 #[false] [x108] w109) fun x110 w111 => some (x110, w111)) w109) fun x112 w113 =>
  rd2 (gate x106 true (fun _ =>  some ((e 2), w113)) w113) fun x114 w115 =>
  rd2 (gate x106 true (fun _ => rd2 (binG false Pg .lss 3 (.tmp 0) (.tmp 0) x112 x114 w115) fun x116 w117 => some (x116, w117)) w115) fun x118 w119 =>
  rd (pickV x106 x118 (.bool false)) fun x120 =>
  cnd x120 (fun _ => rd (ldV Pg 36 (e 4) (drw w119)) fun x121 =>
  rd (nilV (e 0)) fun x122 =>
  rd (fldA Pg 49 x122 0) fun x123 =>
  rd (ldV Pg 47 x123 (drw w119)) fun x124 =>
  rd (ixA Pg 47 x124 (e 8)) fun x125 =>
  rd (fldA Pg 112 x125 0) fun x126 =>
  rd (ldV Pg 9 x126 (drw w119)) fun x127 =>
  rd2 (F 59 [x121, x127] (drw w119)) fun x128 w129 =>
  cnd x128 (fun _ => rd (nilV (e 0)) fun x130 =>
  rd (fldA Pg 49 x130 0) fun x131 =>
  rd (ldV Pg 47 x131 w129) fun x132 =>
  rd (ixA Pg 47 x132 (e 8)) fun x133 =>
  rd (ldV Pg 112 x133 w129) fun x134 =>
  rd2 (rawV Pg (Instr.buildSlice 47 1 #[(0, x134)]) w129) fun x135 w136 =>
  rd2 (lenG false Pg .append #[47, 47] 47 #[false, false] [(e 7), x135] w136) fun x137 w138 =>
  rd2 (binG false Pg .add 3 (.tmp 0) (.const .nilFunc) (e 8) (.int .i64 1) w138) fun x139 w140 =>
  evalLoop (cx28 F G) (cdA Go.Proofs.Try.f28 [1, 1, 0, 1, 0, 0]) (K28_2 F G) (upd (upd (upd (upd (upd (upd (upd (upd (upd (upd (upd (upd (upd (upd (upd (upd (upd (upd (upd (upd (upd (upd (upd (upd (upd (upd (upd (upd (upd (upd (upd (upd (upd (upd (upd (upd (upd e 9 (e 8)) 10 (e 0)) 11 x101) 12 x102) 13 x103) 14 x104) 15 x106) 16 x106) 17 x108) 18 x112) 19 x114) 20 x118) 21 x120) 24 x121) 25 (e 0)) 26 x122) 27 x123) 28 x124) 29 (e 8)) 30 x125) 31 x126) 32 x127) 33 x128) 34 (e 7)) 35 (e 0)) 36 x130) 37 x131) 38 x132) 39 (e 8)) 40 x133) 41 x134) 42 x135) 43 x137) 7 x137) 22 (e 8)) 23 x139) 8 x139) w140) (fun _ => rd2 (binG false Pg .add 3 (.tmp 0) (.const .nilFunc) (e 8) (.int .i64 1) w129) fun x141 w142 =>
  evalLoop (cx28 F G) (cdA Go.Proofs.Try.f28 [1, 1, 0, 1, 0, 0]) (K28_2 F G) (upd (upd (upd (upd (upd (upd (upd (upd (upd (upd (upd (upd (upd (upd (upd (upd (upd (upd (upd (upd (upd (upd (upd (upd (upd (upd e 9 (e 8)) 10 (e 0)) 11 x101) 12 x102) 13 x103) 14 x104) 15 x106) 16 x106) 17 x108) 18 x112) 19 x114) 20 x118) 21 x120) 24 x121) 25 (e 0)) 26 x122) 27 x123) 28 x124) 29 (e 8)) 30 x125) 31 x126) 32 x127) 33 x128) 22 (e 8)) 23 x141) 8 x141) w142)) (fun _ => shutK (e 45) w119 fun w143 =>
  some ((e 7), w143))
theorem S28_eq (F : FnT) (G : RndT) (x0 x1 x2 : Value) (w0 : World) : evalCode (cx28 F G) (cdA Go.Proofs.Try.f28 []) (endK Pg Go.Proofs.Try.f28) (envL [x0, x1, x2]) w0 = S28 F G x0 x1 x2 w0 := by kernel_rfl
theorem F28 (x0 x1 x2 : Value) (w0 : World) : Fn Pg 28 [x0, x1, x2] w0 = S28 (Fn Pg) (Rnd Pg) x0 x1 x2 w0 := (Fn_body (c := cdA Go.Proofs.Try.f28 []) Go.Proofs.Try.func28 (by kernel_rfl) (by kernel_rfl) [x0, x1, x2] w0 (Nat.le_of_ble_eq_true (by kernel_rfl))).trans (S28_eq _ _ x0 x1 x2 w0)
theorem S28_L1_eq (F : FnT) (G : RndT) (e : Env) (w0 : World) : evalLoop (cx28 F G) (cdA Go.Proofs.Try.f28 [1, 1, 0, 1, 0, 0]) (K28_2 F G) e w0 = S28_L1 F G e w0 := by
  rw [evalLoop_eq]
  kernel_rfl

-- 45 (*ciborium/tree.Tree[int]).none
noncomputable def cx45 (F : FnT) (G : RndT) : Ctx := ⟨Pg, F, G, 45, none, 12⟩
noncomputable def S45 (F : FnT) (G : RndT) (x0 : Value) (w0 : World) : R :=
  rd2 (binG false Pg .eql 25 (.tmp 0) (.const .nilFunc) x0 (.pointer none) w0) fun x2 w3 =>
  rd2 (gate x2 false (fun _ =>  some (x0, w3)) w3) fun x4 w5 =>
  rd2 (gate x2 false (fun _ => rd (nilV x4) fun x6 => some (x6, w5)) w5) fun x7 w8 =>
  rd2 (gate x2 false (fun _ => rd (fldA Pg 57 x7 0) fun x9 => some (x9, w8)) w8) fun x10 w11 =>
  rd2 (gate x2 false (fun _ => rd (ldV Pg 55 x10 w11) fun x12 => some (x12, w11)) w11) fun x13 w14 =>
  rd2 (gate x2 false (fun _ => rd2 (binG false Pg .eql 55 (.tmp 0) (.const .nilFunc) x13 (.pointer none) w14) fun x15 w16 => some (x15, w16)) w14) fun x17 w18 =>
  rd (pickV x2 (.bool true) x17) fun x19 =>
  some (x19, w18)
theorem S45_eq (F : FnT) (G : RndT) (x0 : Value) (w0 : World) : evalCode (cx45 F G) (cdA Go.Proofs.Try.f45 []) (endK Pg Go.Proofs.Try.f45) (envL [x0]) w0 = S45 F G x0 w0 := by kernel_rfl
theorem F45 (x0 : Value) (w0 : World) : Fn Pg 45 [x0] w0 = S45 (Fn Pg) (Rnd Pg) x0 w0 := (Fn_body (c := cdA Go.Proofs.Try.f45 []) Go.Proofs.Try.func45 (by kernel_rfl) (by kernel_rfl) [x0] w0 (Nat.le_of_ble_eq_true (by kernel_rfl))).trans (S45_eq _ _ x0 w0)

-- 46 (*ciborium/tree.Tree[int]).seek
noncomputable def cx46 (F : FnT) (G : RndT) : Ctx := ⟨Pg, F, G, 46, none, 36⟩
noncomputable def K46_0 : FnT → RndT → Exit → Env → World → R := fun _ _ => endK Pg Go.Proofs.Try.f46
noncomputable def K46_1 : FnT → RndT → Exit → Env → World → R := fun F G => blkK 0 (K46_0 F G)
noncomputable def S46 (F : FnT) (G : RndT) (x0 x1 : Value) (w0 : World) : R :=
  rd (nilV x0) fun x3 =>
  rd (fldA Pg 57 x3 0) fun x4 =>
  rd (ldV Pg 55 x4 w0) fun x5 =>
  evalLoop (cx46 F G) (cdA Go.Proofs.Try.f46 [1, 1, 0, 0]) (K46_1 F G) (upd (upd (upd (upd (upd (upd (envL [x0, x1]) 4 (.pointer none)) 8 x0) 9 x3) 10 x4) 11 x5) 5 x5) w0
noncomputable def S46_L1 (F : FnT) (G : RndT) (e : Env) (w0 : World) : R :=
  rd2 (F 80 [(e 5), (e 1)] w0) fun x101 w102 =>
  rd (extV x101 0) fun x103 =>
  rd (extV x101 1) fun x104 =>
  cnd x104 (fun _ => rd (nilV (e 5)) fun x105 =>
  rd (fldA Pg 100 x105 0) fun x106 =>
  rd (ldV Pg 37 x106 w102) fun x107 =>
  rd (ixA Pg 37 x107 x103) fun x108 =>
  shutK (e 36) w102 fun w109 =>
  some (x108, w109)) (fun _ => rd2 (F 51 [(e 5)] w102) fun x110 w111 =>
  cnd x110 (fun _ => shutK (e 36) w111 fun w112 =>
  some ((.pointer none), w112)) (fun _ => rd (nilV (e 5)) fun x113 =>
  rd (fldA Pg 100 x113 1) fun x114 =>
  rd (ldV Pg 98 x114 w111) fun x115 =>
  rd (ixA Pg 98 x115 x103) fun x116 =>
  rd (ldV Pg 55 x116 w111) fun x117 =>
  evalLoop (cx46 F G) (cdA Go.Proofs.Try.f46 [1, 1, 0, 0]) (K46_1 F G) (upd (upd (upd (upd (upd (upd (upd (upd (upd (upd (upd (upd (upd (upd (upd (upd (upd (upd (upd (upd (upd e 13 (e 5)) 14 (e 1)) 15 x101) 12 x101) 16 x103) 17 x104) 6 x103) 7 x104) 19 x104) 18 x104) 27 (e 5)) 28 x110) 26 x110) 29 (e 5)) 30 x113) 31 x114) 32 x115) 33 x103) 34 x116) 35 x117) 5 x117) w111))
theorem S46_eq (F : FnT) (G : RndT) (x0 x1 : Value) (w0 : World) : evalCode (cx46 F G) (cdA Go.Proofs.Try.f46 []) (endK Pg Go.Proofs.Try.f46) (envL [x0, x1]) w0 = S46 F G x0 x1 w0 := by kernel_rfl
theorem F46 (x0 x1 : Value) (w0 : World) : Fn Pg 46 [x0, x1] w0 = S46 (Fn Pg) (Rnd Pg) x0 x1 w0 := (Fn_body (c := cdA Go.Proofs.Try.f46 []) Go.Proofs.Try.func46 (by kernel_rfl) (by kernel_rfl) [x0, x1] w0 (Nat.le_of_ble_eq_true (by kernel_rfl))).trans (S46_eq _ _ x0 x1 w0)
theorem S46_L1_eq (F : FnT) (G : RndT) (e : Env) (w0 : World) : evalLoop (cx46 F G) (cdA Go.Proofs.Try.f46 [1, 1, 0, 0]) (K46_1 F G) e w0 = S46_L1 F G e w0 := by
  rw [evalLoop_eq]
  kernel_rfl

-- 47 (*ciborium/tree.node[int]).full
noncomputable def cx47 (F : FnT) (G : RndT) : Ctx := ⟨Pg, F, G, 47, none, 9⟩
noncomputable def S47 (F : FnT) (G : RndT) (x0 : Value) (w0 : World) : R :=
  rd (nilV x0) fun x2 =>
  rd (fldA Pg 100 x2 0) fun x3 =>
  rd (ldV Pg 37 x3 w0) fun x4 =>
  rd2 (lenG false Pg .len #[37] 3 #[false] [x4] w0) fun x5 w6 =>
  rd2 (binG false Pg .eql 3 (.tmp 0) (.const .nilFunc) x5 (.int .i64 5) w6) fun x7 w8 =>
  some (x7, w8)
theorem S47_eq (F : FnT) (G : RndT) (x0 : Value) (w0 : World) : evalCode (cx47 F G) (cdA Go.Proofs.Try.f47 []) (endK Pg Go.Proofs.Try.f47) (envL [x0]) w0 = S47 F G x0 w0 := by kernel_rfl
theorem F47 (x0 : Value) (w0 : World) : Fn Pg 47 [x0] w0 = S47 (Fn Pg) (Rnd Pg) x0 w0 := (Fn_body (c := cdA Go.Proofs.Try.f47 []) Go.Proofs.Try.func47 (by kernel_rfl) (by kernel_rfl) [x0] w0 (Nat.le_of_ble_eq_true (by kernel_rfl))).trans (S47_eq _ _ x0 w0)

-- 48 (*ciborium/tree.node[int]).split
noncomputable def cx48 (F : FnT) (G : RndT) : Ctx := ⟨Pg, F, G, 48, none, 79⟩
noncomputable def S48 (F : FnT) (G : RndT) (x0 x1 : Value) (w0 : World) : R :=
  rd (nilV x0) fun x3 =>
  rd (fldA Pg 100 x3 1) fun x4 =>
  rd (ldV Pg 98 x4 w0) fun x5 =>
  rd (ixA Pg 98 x5 x1) fun x6 =>
  rd (ldV Pg 55 x6 w0) fun x7 =>
  rd (nilV x7) fun x8 =>
  rd (fldA Pg 100 x8 0) fun x9 =>
  rd (ldV Pg 37 x9 w0) fun x10 =>
  rd (slV Pg 37 x10 (some (.int .i64 3)) none none) fun x11 =>
  rd2 (F 81 [x11] w0) fun x12 w13 =>
  rd (bldV Pg 100 [(0, x12)]) fun x14 =>
  rd2 (rawV Pg (Instr.box 100 x14) w13) fun x15 w16 =>
  rd2 (F 51 [x7] w16) fun x17 w18 =>
  rd (unV .not x17) fun x19 =>
  cnd x19 (fun _ => rd (nilV x7) fun x20 =>
  rd (fldA Pg 100 x20 1) fun x21 =>
  rd (ldV Pg 98 x21 w18) fun x22 =>
  rd (slV Pg 98 x22 (some (.int .i64 3)) none none) fun x23 =>
  rd2 (F 82 [x23] w18) fun x24 w25 =>
  rd (nilV x15) fun x26 =>
  rd (fldA Pg 100 x26 1) fun x27 =>
  rd2 (rawU Pg (Instr.storeAt 98 x27 x24) w25) fun x29 w28 =>
  rd (nilV x7) fun x30 =>
  rd (fldA Pg 100 x30 1) fun x31 =>
  rd (ldV Pg 98 x31 w28) fun x32 =>
  rd (slV Pg 98 x32 none (some (.int .i64 3)) none) fun x33 =>
  rd2 (F 82 [x33] w28) fun x34 w35 =>
  rd (nilV x7) fun x36 =>
  rd (fldA Pg 100 x36 1) fun x37 =>
  rd2 (rawU Pg (Instr.storeAt 98 x37 x34) w35) fun x39 w38 =>
  rd (nilV x0) fun x40 =>
  rd (fldA Pg 100 x40 0) fun x41 =>
  rd (ldV Pg 37 x41 (drw w38)) fun x42 =>
  rd (nilV x7) fun x43 =>
  rd (fldA Pg 100 x43 0) fun x44 =>
  rd (ldV Pg 37 x44 (drw w38)) fun x45 =>
  rd (ixA Pg 37 x45 (.int .i64 2)) fun x46 =>
  rd (ldV Pg 40 x46 (drw w38)) fun x47 =>
  rd2 (rawV Pg (Instr.buildSlice 37 1 #[(0, x47)]) (drw w38)) fun x48 w49 =>
  rd2 (F 83 [x42, x1, x48] w49) fun x50 w51 =>
  rd (nilV x0) fun x52 =>
  rd (fldA Pg 100 x52 0) fun x53 =>
  rd2 (rawU Pg (Instr.storeAt 37 x53 x50) w51) fun x55 w54 =>
  rd (nilV x0) fun x56 =>
  rd (fldA Pg 100 x56 1) fun x57 =>
  rd (ldV Pg 98 x57 w54) fun x58 =>
  rd2 (binG false Pg .add 3 (.tmp 0) (.const .nilFunc) x1 (.int .i64 1) w54) fun x59 w60 =>
  rd2 (rawV Pg (Instr.buildSlice 98 1 #[(0, x15)]) w60) fun x61 w62 =>
  rd2 (F 84 [x58, x59, x61] w62) fun x63 w64 =>
  rd (nilV x0) fun x65 =>
  rd (fldA Pg 100 x65 1) fun x66 =>
  rd2 (rawU Pg (Instr.storeAt 98 x66 x63) w64) fun x68 w67 =>
  rd (nilV x7) fun x69 =>
  rd (fldA Pg 100 x69 0) fun x70 =>
  rd (ldV Pg 37 x70 w67) fun x71 =>
  rd (slV Pg 37 x71 none (some (.int .i64 2)) none) fun x72 =>
  rd2 (F 81 [x72] w67) fun x73 w74 =>
  rd (nilV x7) fun x75 =>
  rd (fldA Pg 100 x75 0) fun x76 =>
  rd2 (rawU Pg (Instr.storeAt 37 x76 x73) w74) fun x78 w77 =>
  some ((.tuple #[]), w77)) (fun _ => rd (nilV x0) fun x79 =>
  rd (fldA Pg 100 x79 0) fun x80 =>
  rd (ldV Pg 37 x80 (drw w18)) fun x81 =>
  rd (nilV x7) fun x82 =>
  rd (fldA Pg 100 x82 0) fun x83 =>
  rd (ldV Pg 37 x83 (drw w18)) fun x84 =>
  rd (ixA Pg 37 x84 (.int .i64 2)) fun x85 =>
  rd (ldV Pg 40 x85 (drw w18)) fun x86 =>
  rd2 (rawV Pg (Instr.buildSlice 37 1 #[(0, x86)]) (drw w18)) fun x87 w88 =>
  rd2 (F 83 [x81, x1, x87] w88) fun x89 w90 =>
  rd (nilV x0) fun x91 =>
  rd (fldA Pg 100 x91 0) fun x92 =>
  rd2 (rawU Pg (Instr.storeAt 37 x92 x89) w90) fun x94 w93 =>
  rd (nilV x0) fun x95 =>
  rd (fldA Pg 100 x95 1) fun x96 =>
  rd (ldV Pg 98 x96 w93) fun x97 =>
  rd2 (binG false Pg .add 3 (.tmp 0) (.const .nilFunc) x1 (.int .i64 1) w93) fun x98 w99 =>
  rd2 (rawV Pg (Instr.buildSlice 98 1 #[(0, x15)]) w99) fun x100 w101 =>
  rd2 (F 84 [x97, x98, x100] w101) fun x102 w103 =>
  rd (nilV x0) fun x104 =>
  rd (fldA Pg 100 x104 1) fun x105 =>
  rd2 (rawU Pg (Instr.storeAt 98 x105 x102) w103) fun x107 w106 =>
  rd (nilV x7) fun x108 =>
  rd (fldA Pg 100 x108 0) fun x109 =>
  rd (ldV Pg 37 x109 w106) fun x110 =>
  rd (slV Pg 37 x110 none (some (.int .i64 2)) none) fun x111 =>
  rd2 (F 81 [x111] w106) fun x112 w113 =>
  rd (nilV x7) fun x114 =>
  rd (fldA Pg 100 x114 0) fun x115 =>
  rd2 (rawU Pg (Instr.storeAt 37 x115 x112) w113) fun x117 w116 =>
  some ((.tuple #[]), w116))
theorem S48_eq (F : FnT) (G : RndT) (x0 x1 : Value) (w0 : World) : evalCode (cx48 F G) (cdA Go.Proofs.Try.f48 []) (endK Pg Go.Proofs.Try.f48) (envL [x0, x1]) w0 = S48 F G x0 x1 w0 := by kernel_rfl
theorem F48 (x0 x1 : Value) (w0 : World) : Fn Pg 48 [x0, x1] w0 = S48 (Fn Pg) (Rnd Pg) x0 x1 w0 := (Fn_body (c := cdA Go.Proofs.Try.f48 []) Go.Proofs.Try.func48 (by kernel_rfl) (by kernel_rfl) [x0, x1] w0 (Nat.le_of_ble_eq_true (by kernel_rfl))).trans (S48_eq _ _ x0 x1 w0)

-- 49 (*ciborium/tree.node[int]).insert
noncomputable def cx49 (F : FnT) (G : RndT) : Ctx := ⟨Pg, F, G, 49, none, 57⟩
noncomputable def K49_0 : FnT → RndT → Exit → Env → World → R := fun _ _ => endK Pg Go.Proofs.Try.f49
noncomputable def K49_1 : FnT → RndT → Exit → Env → World → R := fun F G => blkK 0 (K49_0 F G)
noncomputable def S49 (F : FnT) (G : RndT) (x0 x1 : Value) (w0 : World) : R :=
  rd2 (rawV Pg (Instr.box 40 x1) w0) fun x3 w4 =>
  evalLoop (cx49 F G) (cdA Go.Proofs.Try.f49 [1, 0, 0]) (K49_1 F G) (upd (envL [x0, x1]) 3 x3) w4
noncomputable def S49_L1 (F : FnT) (G : RndT) (e : Env) (w0 : World) : R :=
  rd (fldA Pg 40 (e 3) 0) fun x101 =>
  rd (ldV Pg 9 x101 w0) fun x102 =>
  rd2 (F 80 [(e 0), x102] w0) fun x103 w104 =>
  rd (extV x103 0) fun x105 =>
  rd (extV x103 1) fun x106 =>
  rd2 (F 51 [(e 0)] w104) fun x107 w108 =>
  cnd x107 (fun _ => rd (nilV (e 0)) fun x109 =>
  rd (fldA Pg 100 x109 0) fun x110 =>
  rd (ldV Pg 37 x110 (drw w108)) fun x111 =>
  rd (ldV Pg 40 (e 3) (drw w108)) fun x112 =>
  rd2 (rawV Pg (Instr.buildSlice 37 1 #[(0, x112)]) (drw w108)) fun x113 w114 =>
  rd2 (F 83 [x111, x105, x113] w114) fun x115 w116 =>
  rd (nilV (e 0)) fun x117 =>
  rd (fldA Pg 100 x117 0) fun x118 =>
  rd2 (rawU Pg (Instr.storeAt 37 x118 x115) w116) fun x120 w119 =>
  shutK (e 57) w119 fun w121 =>
  some ((.tuple #[]), w121)) (fun _ => rd (nilV (e 0)) fun x122 =>
  rd (fldA Pg 100 x122 1) fun x123 =>
  rd (ldV Pg 98 x123 w108) fun x124 =>
  rd (ixA Pg 98 x124 x105) fun x125 =>
  rd (ldV Pg 55 x125 w108) fun x126 =>
  rd2 (F 47 [x126] w108) fun x127 w128 =>
  cnd x127 (fun _ => rd2 (F 48 [(e 0), x105] w128) fun x129 w130 =>
  rd (nilV (e 0)) fun x131 =>
  rd (fldA Pg 100 x131 0) fun x132 =>
  rd (ldV Pg 37 x132 (drw w130)) fun x133 =>
  rd (ixA Pg 37 x133 x105) fun x134 =>
  rd (fldA Pg 40 x134 0) fun x135 =>
  rd (ldV Pg 9 x135 (drw w130)) fun x136 =>
  rd (fldA Pg 40 (e 3) 0) fun x137 =>
  rd (ldV Pg 9 x137 (drw w130)) fun x138 =>
  rd2 (binG true Pg .lss 9 (.tmp 0) (.tmp 0) x136 x138 (drw w130)) fun x139 _ =>
  cnd x139 (fun _ => rd2 (binG false Pg .add 3 (.tmp 0) (.const .nilFunc) x105 (.int .i64 1) (drw w130)) fun x141 w142 =>
  rd (nilV (e 0)) fun x143 =>
  rd (fldA Pg 100 x143 1) fun x144 =>
  rd (ldV Pg 98 x144 w142) fun x145 =>
  rd (ixA Pg 98 x145 x141) fun x146 =>
  rd (ldV Pg 55 x146 w142) fun x147 =>
  evalLoop (cx49 F G) (cdA Go.Proofs.Try.f49 [1, 0, 0]) (K49_1 F G) (upd (upd (upd (upd (upd (upd (upd (upd (upd (upd (upd (upd (upd (upd (upd (upd (upd (upd (upd (upd (upd (upd (upd (upd (upd (upd (upd (upd (upd (upd (upd (upd (upd (upd (upd (upd (upd (upd (upd (upd (upd (upd (upd (upd e 7 (e 0)) 8 x101) 9 x102) 10 x103) 6 x103) 11 x105) 12 x106) 4 x105) 5 x106) 13 (e 0)) 14 x107) 26 (e 0)) 27 x122) 28 x123) 29 x124) 30 x105) 31 x125) 32 x126) 33 x127) 34 (e 0)) 35 x105) 36 x129) 37 (e 0)) 38 x131) 39 x132) 40 x133) 41 x105) 42 x134) 43 x135) 44 x136) 45 x137) 46 x138) 47 x139) 48 x105) 49 x141) 4 x141) 50 (e 0)) 51 x143) 52 x144) 53 x145) 54 x141) 55 x146) 56 x147) 0 x147) w142) (fun _ => rd (nilV (e 0)) fun x148 =>
  rd (fldA Pg 100 x148 1) fun x149 =>
  rd (ldV Pg 98 x149 (drw w130)) fun x150 =>
  rd (ixA Pg 98 x150 x105) fun x151 =>
  rd (ldV Pg 55 x151 (drw w130)) fun x152 =>
  evalLoop (cx49 F G) (cdA Go.Proofs.Try.f49 [1, 0, 0]) (K49_1 F G) (upd (upd (upd (upd (upd (upd (upd (upd (upd (upd (upd (upd (upd (upd (upd (upd (upd (upd (upd (upd (upd (upd (upd (upd (upd (upd (upd (upd (upd (upd (upd (upd (upd (upd (upd (upd (upd (upd (upd (upd (upd e 7 (e 0)) 8 x101) 9 x102) 10 x103) 6 x103) 11 x105) 12 x106) 4 x105) 5 x106) 13 (e 0)) 14 x107) 26 (e 0)) 27 x122) 28 x123) 29 x124) 30 x105) 31 x125) 32 x126) 33 x127) 34 (e 0)) 35 x105) 36 x129) 37 (e 0)) 38 x131) 39 x132) 40 x133) 41 x105) 42 x134) 43 x135) 44 x136) 45 x137) 46 x138) 47 x139) 50 (e 0)) 51 x148) 52 x149) 53 x150) 54 x105) 55 x151) 56 x152) 0 x152) (drw w130))) (fun _ => rd (nilV (e 0)) fun x153 =>
  rd (fldA Pg 100 x153 1) fun x154 =>
  rd (ldV Pg 98 x154 w128) fun x155 =>
  rd (ixA Pg 98 x155 x105) fun x156 =>
  rd (ldV Pg 55 x156 w128) fun x157 =>
  evalLoop (cx49 F G) (cdA Go.Proofs.Try.f49 [1, 0, 0]) (K49_1 F G) (upd (upd (upd (upd (upd (upd (upd (upd (upd (upd (upd (upd (upd (upd (upd (upd (upd (upd (upd (upd (upd (upd (upd (upd (upd (upd (upd e 7 (e 0)) 8 x101) 9 x102) 10 x103) 6 x103) 11 x105) 12 x106) 4 x105) 5 x106) 13 (e 0)) 14 x107) 26 (e 0)) 27 x122) 28 x123) 29 x124) 30 x105) 31 x125) 32 x126) 33 x127) 50 (e 0)) 51 x153) 52 x154) 53 x155) 54 x105) 55 x156) 56 x157) 0 x157) w128))
theorem S49_eq (F : FnT) (G : RndT) (x0 x1 : Value) (w0 : World) : evalCode (cx49 F G) (cdA Go.Proofs.Try.f49 []) (endK Pg Go.Proofs.Try.f49) (envL [x0, x1]) w0 = S49 F G x0 x1 w0 := by kernel_rfl
theorem F49 (x0 x1 : Value) (w0 : World) : Fn Pg 49 [x0, x1] w0 = S49 (Fn Pg) (Rnd Pg) x0 x1 w0 := (Fn_body (c := cdA Go.Proofs.Try.f49 []) Go.Proofs.Try.func49 (by kernel_rfl) (by kernel_rfl) [x0, x1] w0 (Nat.le_of_ble_eq_true (by kernel_rfl))).trans (S49_eq _ _ x0 x1 w0)
theorem S49_L1_eq (F : FnT) (G : RndT) (e : Env) (w0 : World) : evalLoop (cx49 F G) (cdA Go.Proofs.Try.f49 [1, 0, 0]) (K49_1 F G) e w0 = S49_L1 F G e w0 := by
  rw [evalLoop_eq]
  kernel_rfl

-- 50 (*ciborium/tree.node[int]).remove
noncomputable def cx50 (F : FnT) (G : RndT) : Ctx := ⟨Pg, F, G, 50, none, 151⟩
noncomputable def S50 (F : FnT) (G : RndT) (x0 x1 : Value) (w0 : World) : R :=
  rd2 (F 80 [x0, x1] w0) fun x3 w4 =>
  rd (extV x3 0) fun x5 =>
  rd (extV x3 1) fun x6 =>
  rd2 (gate x6 true (fun _ =>  some (x0, w4)) w4) fun x7 w8 =>
  rd2 (gate x6 true (fun _ => rd2 (F 51 [x7] w8) fun x9 w10 => some (x9, w10)) w8) fun x11 w12 =>
  rd (pickV x6 x11 (.bool false)) fun x13 =>
  cnd x13 (fun _ => rd (nilV x0) fun x14 =>
  rd (fldA Pg 100 x14 0) fun x15 =>
  rd (ldV Pg 37 x15 w12) fun x16 =>
  rd2 (binG false Pg .add 3 (.tmp 0) (.const .nilFunc) x5 (.int .i64 1) w12) fun x17 w18 =>
  rd2 (F 85 [x16, x5, x17] w18) fun x19 w20 =>
  rd (nilV x0) fun x21 =>
  rd (fldA Pg 100 x21 0) fun x22 =>
  rd2 (rawU Pg (Instr.storeAt 37 x22 x19) w20) fun x24 w23 =>
  some ((.tuple #[]), w23)) (fun _ => rd2 (gate x6 true (fun _ =>  some (x0, w12)) w12) fun x25 w26 =>
  rd2 (gate x6 true (fun _ => rd (nilV x25) fun x27 => some (x27, w26)) w26) fun x28 w29 =>
  rd2 (gate x6 true (fun _ => rd (fldA Pg 100 x28 1) fun x30 => some (x30, w29)) w29) fun x31 w32 =>
  rd2 (gate x6 true (fun _ => rd (ldV Pg 98 x31 w32) fun x33 => some (x33, w32)) w32) fun x34 w35 =>
  rd2 (gate x6 true (fun _ =>  some (x5, w35)) w35) fun x36 w37 =>
  rd2 (gate x6 true (fun _ => rd (ixA Pg 98 x34 x36) fun x38 => some (x38, w37)) w37) fun x39 w40 =>
  rd2 (gate x6 true (fun _ => rd (ldV Pg 55 x39 w40) fun x41 => some (x41, w40)) w40) fun x42 w43 =>
  rd2 (gate x6 true (fun _ => rd (nilV x42) fun x44 => some (x44, w43)) w43) fun x45 w46 =>
  rd2 (gate x6 true (fun _ => rd (fldA Pg 100 x45 0) fun x47 => some (x47, w46)) w46) fun x48 w49 =>
  rd2 (gate x6 true (fun _ => rd (ldV Pg 37 x48 w49) fun x50 => some (x50, w49)) w49) fun x51 w52 =>
  rd2 (gate x6 true (fun _ => rd2 (lenG false Pg .len #[37] 3 #[false] [x51] w52) fun x53 w54 => some (x53, w54)) w52) fun x55 w56 =>
  rd2 (gate x6 true (fun _ => rd2 (binG false Pg .gtr 3 (.tmp 0) (.const .nilFunc) x55 (.int .i64 2) w56) fun x57 w58 => some (x57, w58)) w56) fun x59 w60 =>
  rd (pickV x6 x59 (.bool false)) fun x61 =>
  cnd x61 (fun _ => rd (nilV x0) fun x62 =>
  rd (fldA Pg 100 x62 0) fun x63 =>
  rd (ldV Pg 37 x63 (drw w60)) fun x64 =>
  rd (nilV x0) fun x65 =>
  rd (fldA Pg 100 x65 1) fun x66 =>
  rd (ldV Pg 98 x66 (drw w60)) fun x67 =>
  rd (ixA Pg 98 x67 x5) fun x68 =>
  rd (ldV Pg 55 x68 (drw w60)) fun x69 =>
  rd2 (F 86 [x69, (.bool true)] (drw w60)) fun x70 w71 =>
  chk (holdsAt Pg none 37 x63 x64 w71) fun _ =>
  rd (ixA Pg 37 x64 x5) fun x72 =>
  rd2 (rawU Pg (Instr.storeAt 40 x72 x70) w71) fun x74 w73 =>
  rd (nilV x0) fun x75 =>
  rd (fldA Pg 100 x75 1) fun x76 =>
  rd (ldV Pg 98 x76 (drw w73)) fun x77 =>
  rd (ixA Pg 98 x77 x5) fun x78 =>
  rd (ldV Pg 55 x78 (drw w73)) fun x79 =>
  rd (nilV x0) fun x80 =>
  rd (fldA Pg 100 x80 0) fun x81 =>
  rd (ldV Pg 37 x81 (drw w73)) fun x82 =>
  rd (ixA Pg 37 x82 x5) fun x83 =>
  rd (fldA Pg 40 x83 0) fun x84 =>
  rd (ldV Pg 9 x84 (drw w73)) fun x85 =>
  rd2 (F 50 [x79, x85] (drw w73)) fun x86 w87 =>
  some ((.tuple #[]), w87)) (fun _ => rd2 (gate x6 true (fun _ =>  some (x0, w60)) w60) fun x88 w89 =>
  rd2 (gate x6 true (fun _ => rd (nilV x88) fun x90 => some (x90, w89)) w89) fun x91 w92 =>
  rd2 (gate x6 true (fun _ => rd (fldA Pg 100 x91 1) fun x93 => some (x93, w92)) w92) fun x94 w95 =>
  rd2 (gate x6 true (fun _ => rd (ldV Pg 98 x94 w95) fun x96 => some (x96, w95)) w95) fun x97 w98 =>
  rd2 (gate x6 true (fun _ =>  some (x5, w98)) w98) fun x99 w100 =>
  rd2 (gate x6 true (fun _ => rd2 (binG false Pg .add 3 (.tmp 0) (.const .nilFunc) x99 (.int .i64 1) w100) fun x101 w102 => some (x101, w102)) w100) fun x103 w104 =>
  rd2 (gate x6 true (fun _ => rd (ixA Pg 98 x97 x103) fun x105 => some (x105, w104)) w104) fun x106 w107 =>
  rd2 (gate x6 true (fun _ => rd (ldV Pg 55 x106 w107) fun x108 => some (x108, w107)) w107) fun x109 w110 =>
  rd2 (gate x6 true (fun _ => rd (nilV x109) fun x111 => some (x111, w110)) w110) fun x112 w113 =>
  rd2 (gate x6 true (fun _ => rd (fldA Pg 100 x112 0) fun x114 => some (x114, w113)) w113) fun x115 w116 =>
  rd2 (gate x6 true (fun _ => rd (ldV Pg 37 x115 w116) fun x117 => some (x117, w116)) w116) fun x118 w119 =>
  rd2 (gate x6 true (fun _ => rd2 (lenG false Pg .len #[37] 3 #[false] [x118] w119) fun x120 w121 => some (x120, w121)) w119) fun x122 w123 =>
  rd2 (gate x6 true (fun _ => rd2 (binG false Pg .gtr 3 (.tmp 0) (.const .nilFunc) x122 (.int .i64 2) w123) fun x124 w125 => some (x124, w125)) w123) fun x126 w127 =>
  rd (pickV x6 x126 (.bool false)) fun x128 =>
  cnd x128 (fun _ => rd (nilV x0) fun x129 =>
  rd (fldA Pg 100 x129 0) fun x130 =>
  rd (ldV Pg 37 x130 (drw w127)) fun x131 =>
  rd (nilV x0) fun x132 =>
  rd (fldA Pg 100 x132 1) fun x133 =>
  rd (ldV Pg 98 x133 (drw w127)) fun x134 =>
  rd2 (binG true Pg .add 3 (.tmp 0) (.const .nilFunc) x5 (.int .i64 1) (drw w127)) fun x135 _ =>
  rd (ixA Pg 98 x134 x135) fun x137 =>
  rd (ldV Pg 55 x137 (drw w127)) fun x138 =>
  rd2 (F 86 [x138, (.bool false)] (drw w127)) fun x139 w140 =>
  chk (holdsAt Pg none 37 x130 x131 w140) fun _ =>
  rd (ixA Pg 37 x131 x5) fun x141 =>
  rd2 (rawU Pg (Instr.storeAt 40 x141 x139) w140) fun x143 w142 =>
  rd (nilV x0) fun x144 =>
  rd (fldA Pg 100 x144 1) fun x145 =>
  rd (ldV Pg 98 x145 (drw w142)) fun x146 =>
  rd2 (binG true Pg .add 3 (.tmp 0) (.const .nilFunc) x5 (.int .i64 1) (drw w142)) fun x147 _ =>
  rd (ixA Pg 98 x146 x147) fun x149 =>
  rd (ldV Pg 55 x149 (drw w142)) fun x150 =>
  rd (nilV x0) fun x151 =>
  rd (fldA Pg 100 x151 0) fun x152 =>
  rd (ldV Pg 37 x152 (drw w142)) fun x153 =>
  rd (ixA Pg 37 x153 x5) fun x154 =>
  rd (fldA Pg 40 x154 0) fun x155 =>
  rd (ldV Pg 9 x155 (drw w142)) fun x156 =>
  rd2 (F 50 [x150, x156] (drw w142)) fun x157 w158 =>
  some ((.tuple #[]), w158)) (fun _ => cnd x6 (fun _ => rd2 (F 87 [x0, x5] w127) fun x159 w160 =>
  rd (nilV x0) fun x161 =>
  rd (fldA Pg 100 x161 1) fun x162 =>
  rd (ldV Pg 98 x162 w160) fun x163 =>
  rd (ixA Pg 98 x163 x5) fun x164 =>
  rd (ldV Pg 55 x164 w160) fun x165 =>
  rd2 (F 50 [x165, x1] w160) fun x166 w167 =>
  some ((.tuple #[]), w167)) (fun _ => rd2 (F 88 [x0, x5] w127) fun x168 w169 =>
  rd (nilV x0) fun x170 =>
  rd (fldA Pg 100 x170 1) fun x171 =>
  rd (ldV Pg 98 x171 w169) fun x172 =>
  rd (ixA Pg 98 x172 x168) fun x173 =>
  rd (ldV Pg 55 x173 w169) fun x174 =>
  rd2 (F 50 [x174, x1] w169) fun x175 w176 =>
  some ((.tuple #[]), w176)))))
theorem S50_eq (F : FnT) (G : RndT) (x0 x1 : Value) (w0 : World) : evalCode (cx50 F G) (cdA Go.Proofs.Try.f50 []) (endK Pg Go.Proofs.Try.f50) (envL [x0, x1]) w0 = S50 F G x0 x1 w0 := by kernel_rfl
theorem F50 (x0 x1 : Value) (w0 : World) : Fn Pg 50 [x0, x1] w0 = S50 (Fn Pg) (Rnd Pg) x0 x1 w0 := (Fn_body (c := cdA Go.Proofs.Try.f50 []) Go.Proofs.Try.func50 (by kernel_rfl) (by kernel_rfl) [x0, x1] w0 (Nat.le_of_ble_eq_true (by kernel_rfl))).trans (S50_eq _ _ x0 x1 w0)

-- 51 (*ciborium/tree.node[int]).leaf
noncomputable def cx51 (F : FnT) (G : RndT) : Ctx := ⟨Pg, F, G, 51, none, 9⟩
noncomputable def S51 (F : FnT) (G : RndT) (x0 : Value) (w0 : World) : R :=
  rd (nilV x0) fun x2 =>
  rd (fldA Pg 100 x2 1) fun x3 =>
  rd (ldV Pg 98 x3 w0) fun x4 =>
  rd2 (lenG false Pg .len #[98] 3 #[false] [x4] w0) fun x5 w6 =>
  rd2 (binG false Pg .eql 3 (.tmp 0) (.const .nilFunc) x5 (.int .i64 0) w6) fun x7 w8 =>
  some (x7, w8)
theorem S51_eq (F : FnT) (G : RndT) (x0 : Value) (w0 : World) : evalCode (cx51 F G) (cdA Go.Proofs.Try.f51 []) (endK Pg Go.Proofs.Try.f51) (envL [x0]) w0 = S51 F G x0 w0 := by kernel_rfl
theorem F51 (x0 : Value) (w0 : World) : Fn Pg 51 [x0] w0 = S51 (Fn Pg) (Rnd Pg) x0 w0 := (Fn_body (c := cdA Go.Proofs.Try.f51 []) Go.Proofs.Try.func51 (by kernel_rfl) (by kernel_rfl) [x0] w0 (Nat.le_of_ble_eq_true (by kernel_rfl))).trans (S51_eq _ _ x0 w0)

-- 52 (*ciborium/tree.Tree[int]).from
noncomputable def cx52 (F : FnT) (G : RndT) : Ctx := ⟨Pg, F, G, 52, none, 6⟩
noncomputable def S52 (F : FnT) (G : RndT) (x0 x1 : Value) (w0 : World) : R :=
  rd2 (rawV Pg (Instr.box 25 x0) w0) fun x3 w4 =>
  rd2 (rawV Pg (Instr.box 9 x1) w4) fun x5 w6 =>
  some ((.func (.func 89) #[] #[x3, x5]), w6)
theorem S52_eq (F : FnT) (G : RndT) (x0 x1 : Value) (w0 : World) : evalCode (cx52 F G) (cdA Go.Proofs.Try.f52 []) (endK Pg Go.Proofs.Try.f52) (envL [x0, x1]) w0 = S52 F G x0 x1 w0 := by kernel_rfl
theorem F52 (x0 x1 : Value) (w0 : World) : Fn Pg 52 [x0, x1] w0 = S52 (Fn Pg) (Rnd Pg) x0 x1 w0 := (Fn_body (c := cdA Go.Proofs.Try.f52 []) Go.Proofs.Try.func52 (by kernel_rfl) (by kernel_rfl) [x0, x1] w0 (Nat.le_of_ble_eq_true (by kernel_rfl))).trans (S52_eq _ _ x0 x1 w0)

-- 53 ciborium/order.In
noncomputable def cx53 (F : FnT) (G : RndT) : Ctx := ⟨Pg, F, G, 53, none, 15⟩
noncomputable def S53 (F : FnT) (G : RndT) (x0 x1 : Value) (w0 : World) : R :=
  rd2 (rawV Pg (Instr.box 36 x0) w0) fun x3 w4 =>
  rd (fldA Pg 36 x3 0) fun x5 =>
  rd (ldV Pg 9 x5 w4) fun x6 =>
  rd2 (binG false Pg .geq 9 (.tmp 0) (.tmp 0) x1 x6 w4) fun x7 w8 =>
  rd2 (gate x7 true (fun _ =>  some (x1, w8)) w8) fun x9 w10 =>
  rd2 (gate x7 true (fun _ => rd (fldA Pg 36 x3 1) fun x11 => some (x11, w10)) w10) fun x12 w13 =>
  rd2 (gate x7 true (fun _ => rd (ldV Pg 9 x12 w13) fun x14 => some (x14, w13)) w13) fun x15 w16 =>
  rd2 (gate x7 true (fun _ => rd2 (F 91 [x9, x15] w16) fun x17 w18 => some (x17, w18)) w16) fun x19 w20 =>
  rd (pickV x7 x19 (.bool false)) fun x21 =>
  some (x21, w20)
theorem S53_eq (F : FnT) (G : RndT) (x0 x1 : Value) (w0 : World) : evalCode (cx53 F G) (cdA Go.Proofs.Try.f53 []) (endK Pg Go.Proofs.Try.f53) (envL [x0, x1]) w0 = S53 F G x0 x1 w0 := by kernel_rfl
theorem F53 (x0 x1 : Value) (w0 : World) : Fn Pg 53 [x0, x1] w0 = S53 (Fn Pg) (Rnd Pg) x0 x1 w0 := (Fn_body (c := cdA Go.Proofs.Try.f53 []) Go.Proofs.Try.func53 (by kernel_rfl) (by kernel_rfl) [x0, x1] w0 (Nat.le_of_ble_eq_true (by kernel_rfl))).trans (S53_eq _ _ x0 x1 w0)

-- 54 ciborium/order.Next
noncomputable def cx54 (F : FnT) (G : RndT) : Ctx := ⟨Pg, F, G, 54, none, 5⟩
noncomputable def S54 (F : FnT) (G : RndT) (x0 : Value) (w0 : World) : R :=
  rd2 (binG false Pg .add 9 (.tmp 0) (.const .nilFunc) x0 (.string { data := #[0] }) w0) fun x2 w3 =>
  some (x2, w3)
theorem S54_eq (F : FnT) (G : RndT) (x0 : Value) (w0 : World) : evalCode (cx54 F G) (cdA Go.Proofs.Try.f54 []) (endK Pg Go.Proofs.Try.f54) (envL [x0]) w0 = S54 F G x0 w0 := by kernel_rfl
theorem F54 (x0 : Value) (w0 : World) : Fn Pg 54 [x0] w0 = S54 (Fn Pg) (Rnd Pg) x0 w0 := (Fn_body (c := cdA Go.Proofs.Try.f54 []) Go.Proofs.Try.func54 (by kernel_rfl) (by kernel_rfl) [x0] w0 (Nat.le_of_ble_eq_true (by kernel_rfl))).trans (S54_eq _ _ x0 w0)

-- 55 (*ciborium/ciboriumref21.List).Put
noncomputable def cx55 (F : FnT) (G : RndT) : Ctx := ⟨Pg, F, G, 55, none, 46⟩
noncomputable def S55 (F : FnT) (G : RndT) (x0 x1 x2 : Value) (w0 : World) : R :=
  rd2 (F 58 [x0, x1] w0) fun x4 w5 =>
  rd (extV x4 0) fun x6 =>
  rd (extV x4 1) fun x7 =>
  rd2 (rawV Pg (Instr.buildSlice 47 0 #[]) w5) fun x8 w9 =>
  rd (nilV x0) fun x10 =>
  rd (fldA Pg 49 x10 0) fun x11 =>
  rd (ldV Pg 47 x11 w9) fun x12 =>
  rd (slV Pg 47 x12 none (some x6) none) fun x13 =>
  rd2 (lenG false Pg .append #[47, 47] 47 #[false, false] [x8, x13] w9) fun x14 w15 =>
  rd (bldV Pg 112 [(0, x1), (1, x2)]) fun x16 =>
  rd2 (rawV Pg (Instr.buildSlice 47 1 #[(0, x16)]) w15) fun x17 w18 =>
  rd2 (lenG false Pg .append #[47, 47] 47 #[false, false] [x14, x17] w18) fun x19 w20 =>
  cnd x7 (fun _ => rd2 (binG false Pg .add 3 (.tmp 0) (.const .nilFunc) x6 (.int .i64 1) w20) fun x21 w22 =>
  rd (nilV x0) fun x23 =>
  rd (fldA Pg 49 x23 0) fun x24 =>
  rd (ldV Pg 47 x24 w22) fun x25 =>
  rd (slV Pg 47 x25 (some x21) none none) fun x26 =>
  rd2 (lenG false Pg .append #[47, 47] 47 #[false, false] [x19, x26] w22) fun x27 w28 =>
  rd (nilV x0) fun x29 =>
  rd (fldA Pg 49 x29 0) fun x30 =>
  rd2 (rawU Pg (Instr.storeAt 47 x30 x27) w28) fun x32 w31 =>
  rd (unV .not x7) fun x33 =>
  some (x33, w31)) (fun _ => rd (nilV x0) fun x34 =>
  rd (fldA Pg 49 x34 0) fun x35 =>
  rd (ldV Pg 47 x35 w20) fun x36 =>
  rd (slV Pg 47 x36 (some x6) none none) fun x37 =>
  rd2 (lenG false Pg .append #[47, 47] 47 #[false, false] [x19, x37] w20) fun x38 w39 =>
  rd (nilV x0) fun x40 =>
  rd (fldA Pg 49 x40 0) fun x41 =>
  rd2 (rawU Pg (Instr.storeAt 47 x41 x38) w39) fun x43 w42 =>
  rd (unV .not x7) fun x44 =>
  some (x44, w42))
theorem S55_eq (F : FnT) (G : RndT) (x0 x1 x2 : Value) (w0 : World) : evalCode (cx55 F G) (cdA Go.Proofs.Try.f55 []) (endK Pg Go.Proofs.Try.f55) (envL [x0, x1, x2]) w0 = S55 F G x0 x1 x2 w0 := by kernel_rfl
theorem F55 (x0 x1 x2 : Value) (w0 : World) : Fn Pg 55 [x0, x1, x2] w0 = S55 (Fn Pg) (Rnd Pg) x0 x1 x2 w0 := (Fn_body (c := cdA Go.Proofs.Try.f55 []) Go.Proofs.Try.func55 (by kernel_rfl) (by kernel_rfl) [x0, x1, x2] w0 (Nat.le_of_ble_eq_true (by kernel_rfl))).trans (S55_eq _ _ x0 x1 x2 w0)

-- 56 (*ciborium/ciboriumref21.List).Delete
noncomputable def cx56 (F : FnT) (G : RndT) : Ctx := ⟨Pg, F, G, 56, none, 34⟩
noncomputable def S56 (F : FnT) (G : RndT) (x0 x1 : Value) (w0 : World) : R :=
  rd2 (F 58 [x0, x1] w0) fun x3 w4 =>
  rd (extV x3 0) fun x5 =>
  rd (extV x3 1) fun x6 =>
  cnd x6 (fun _ => rd2 (rawV Pg (Instr.buildSlice 47 0 #[]) (drw w4)) fun x7 w8 =>
  rd (nilV x0) fun x9 =>
  rd (fldA Pg 49 x9 0) fun x10 =>
  rd (ldV Pg 47 x10 w8) fun x11 =>
  chk (holdsAt Pg none 47 x10 x11 (drw w4)) fun _ =>
  rd (slV Pg 47 x11 none (some x5) none) fun x12 =>
  rd2 (lenG false Pg .append #[47, 47] 47 #[false, false] [x7, x12] w8) fun x13 w14 =>
  rd (nilV x0) fun x15 =>
  rd (fldA Pg 49 x15 0) fun x16 =>
  rd (ldV Pg 47 x16 w14) fun x17 =>
  chk (holdsAt Pg none 47 x16 x17 w8) fun _ =>
  chk (holdsAt Pg none 47 x16 x17 (drw w4)) fun _ =>
  rd2 (binG true Pg .add 3 (.tmp 0) (.const .nilFunc) x5 (.int .i64 1) w14) fun x18 _ =>
  rd (slV Pg 47 x17 (some x18) none none) fun x20 =>
  rd2 (lenG false Pg .append #[47, 47] 47 #[false, false] [x13, x20] w14) fun x21 w22 =>
  rd (nilV x0) fun x23 =>
  rd (fldA Pg 49 x23 0) fun x24 =>
  rd2 (rawU Pg (Instr.storeAt 47 x24 x21) w22) fun x26 w25 =>
  some (x6, w25)) (fun _ => some (x6, w4))
theorem S56_eq (F : FnT) (G : RndT) (x0 x1 : Value) (w0 : World) : evalCode (cx56 F G) (cdA Go.Proofs.Try.f56 []) (endK Pg Go.Proofs.Try.f56) (envL [x0, x1]) w0 = S56 F G x0 x1 w0 := by kernel_rfl
theorem F56 (x0 x1 : Value) (w0 : World) : Fn Pg 56 [x0, x1] w0 = S56 (Fn Pg) (Rnd Pg) x0 x1 w0 := (Fn_body (c := cdA Go.Proofs.Try.f56 []) Go.Proofs.Try.func56 (by kernel_rfl) (by kernel_rfl) [x0, x1] w0 (Nat.le_of_ble_eq_true (by kernel_rfl))).trans (S56_eq _ _ x0 x1 w0)

-- 57 (*ciborium/tree.node[int]).copied
noncomputable def cx57 (F : FnT) (G : RndT) : Ctx := ⟨Pg, F, G, 57, none, 35⟩
noncomputable def K57_0 : FnT → RndT → Exit → Env → World → R := fun _ _ => endK Pg Go.Proofs.Try.f57
noncomputable def K57_1 : FnT → RndT → Exit → Env → World → R := fun F G => thenK (evalCode (cx57 F G) (cdA Go.Proofs.Try.f57 [1, 1, 1]) (K57_0 F G)) (K57_0 F G)
noncomputable def K57_2 : FnT → RndT → Exit → Env → World → R := fun F G => blkK 0 (K57_1 F G)
noncomputable def S57 (F : FnT) (G : RndT) (x0 : Value) (w0 : World) : R :=
  rd (nilV x0) fun x2 =>
  rd (fldA Pg 100 x2 0) fun x3 =>
  rd (ldV Pg 37 x3 w0) fun x4 =>
  rd2 (F 81 [x4] w0) fun x5 w6 =>
  rd (bldV Pg 100 [(0, x5)]) fun x7 =>
  rd2 (rawV Pg (Instr.box 100 x7) w6) fun x8 w9 =>
  rd (nilV x0) fun x10 =>
  rd (fldA Pg 100 x10 1) fun x11 =>
  rd (ldV Pg 98 x11 w9) fun x12 =>
  rd2 (lenG false Pg .len #[98] 3 #[false] [x12] w9) fun x13 w14 =>
  evalLoop (cx57 F G) (cdA Go.Proofs.Try.f57 [1, 1, 0, 1, 0, 0]) (K57_2 F G) (upd (upd (upd (upd (upd (upd (upd (upd (upd (upd (upd (upd (upd (upd (upd (envL [x0]) 2 (.pointer none)) 6 x0) 7 x2) 8 x3) 9 x4) 10 x5) 11 x7) 12 x8) 3 x8) 13 x0) 14 x10) 15 x11) 16 x12) 17 x13) 18 (.int .i64 0)) w14
noncomputable def S57_L1 (F : FnT) (G : RndT) (e : Env) (w0 : World) : R :=
  rd2 (binG false Pg .lss 3 (.tmp 0) (.tmp 0) (e 18) (e 17) w0) fun x101 w102 =>
  cnd x101 (fun _ => rd (ixA Pg 98 (e 16) (e 18)) fun x103 =>
  rd (ldV Pg 55 x103 w102) fun x104 =>
  rd (nilV (e 3)) fun x105 =>
  rd (fldA Pg 100 x105 1) fun x106 =>
  rd (ldV Pg 98 x106 (drw w102)) fun x107 =>
  rd2 (F 57 [x104] (drw w102)) fun x108 w109 =>
  chk (holdsAt Pg none 98 x106 x107 w109) fun _ =>
  rd2 (rawV Pg (Instr.buildSlice 98 1 #[(0, x108)]) w109) fun x110 w111 =>
  rd2 (lenG false Pg .append #[98, 98] 98 #[false, false] [x107, x110] w111) fun x112 w113 =>
  rd (nilV (e 3)) fun x114 =>
  rd (fldA Pg 100 x114 1) fun x115 =>
  rd2 (rawU Pg (Instr.storeAt 98 x115 x112) w113) fun x117 w116 =>
  rd2 (binG false Pg .add 3 (.tmp 0) (.const .nilFunc) (e 18) (.int .i64 1) w116) fun x118 w119 =>
  evalLoop (cx57 F G) (cdA Go.Proofs.Try.f57 [1, 1, 0, 1, 0, 0]) (K57_2 F G) (upd (upd (upd (upd (upd (upd (upd (upd (upd (upd (upd (upd (upd (upd (upd (upd (upd e 19 x101) 20 x103) 21 x104) 5 x104) 22 (e 3)) 23 (e 3)) 24 x105) 25 x106) 26 x107) 27 x104) 28 x108) 29 x110) 30 x112) 31 x114) 32 x115) 33 x118) 18 x118) w119) (fun _ => shutK (e 35) w102 fun w120 =>
  some ((e 3), w120))
theorem S57_eq (F : FnT) (G : RndT) (x0 : Value) (w0 : World) : evalCode (cx57 F G) (cdA Go.Proofs.Try.f57 []) (endK Pg Go.Proofs.Try.f57) (envL [x0]) w0 = S57 F G x0 w0 := by kernel_rfl
theorem F57 (x0 : Value) (w0 : World) : Fn Pg 57 [x0] w0 = S57 (Fn Pg) (Rnd Pg) x0 w0 := (Fn_body (c := cdA Go.Proofs.Try.f57 []) Go.Proofs.Try.func57 (by kernel_rfl) (by kernel_rfl) [x0] w0 (Nat.le_of_ble_eq_true (by kernel_rfl))).trans (S57_eq _ _ x0 w0)
theorem S57_L1_eq (F : FnT) (G : RndT) (e : Env) (w0 : World) : evalLoop (cx57 F G) (cdA Go.Proofs.Try.f57 [1, 1, 0, 1, 0, 0]) (K57_2 F G) e w0 = S57_L1 F G e w0 := by
  rw [evalLoop_eq]
  kernel_rfl

-- 58 (*ciborium/ciboriumref21.List).place
noncomputable def cx58 (F : FnT) (G : RndT) : Ctx := ⟨Pg, F, G, 58, none, 42⟩
noncomputable def K58_0 : FnT → RndT → Exit → Env → World → R := fun _ _ => endK Pg Go.Proofs.Try.f58
noncomputable def K58_1 : FnT → RndT → Exit → Env → World → R := fun F G => thenK (evalCode (cx58 F G) (cdA Go.Proofs.Try.f58 [1, 1]) (K58_0 F G)) (K58_0 F G)
noncomputable def K58_2 : FnT → RndT → Exit → Env → World → R := fun F G => blkK 0 (K58_1 F G)
noncomputable def S58 (F : FnT) (G : RndT) (x0 x1 : Value) (w0 : World) : R :=
  evalLoop (cx58 F G) (cdA Go.Proofs.Try.f58 [1, 0, 1, 0, 0]) (K58_2 F G) (upd (upd (upd (envL [x0, x1]) 4 (.int .i64 0)) 5 (.bool false)) 6 (.int .i64 0)) w0
noncomputable def S58_L1 (F : FnT) (G : RndT) (e : Env) (w0 : World) : R :=
  rd (nilV (e 0)) fun x101 =>
  rd (fldA Pg 49 x101 0) fun x102 =>
  rd (ldV Pg 47 x102 w0) fun x103 =>
  rd2 (lenG false Pg .len #[47] 3 #[false] [x103] w0) fun x104 w105 =>
  rd2 (binG false Pg .lss 3 (.tmp 0) (.tmp 0) (e 6) x104 w105) fun x106 w107 =>
  cnd x106 (fun _ => rd (nilV (e 0)) fun x108 =>
  rd (fldA Pg 49 x108 0) fun x109 =>
  rd (ldV Pg 47 x109 w107) fun x110 =>
  rd (ixA Pg 47 x110 (e 6)) fun x111 =>
  rd (fldA Pg 112 x111 0) fun x112 =>
  rd (ldV Pg 9 x112 w107) fun x113 =>
  rd2 (binG false Pg .geq 9 (.tmp 0) (.tmp 0) x113 (e 1) w107) fun x114 w115 =>
  cnd x114 (fun _ => rd (nilV (e 0)) fun x116 =>
  rd (fldA Pg 49 x116 0) fun x117 =>
  rd (ldV Pg 47 x117 (drw w115)) fun x118 =>
  rd (ixA Pg 47 x118 (e 6)) fun x119 =>
  rd (fldA Pg 112 x119 0) fun x120 =>
  rd (ldV Pg 9 x120 (drw w115)) fun x121 =>
  rd2 (binG true Pg .eql 9 (.tmp 0) (.tmp 0) x121 (e 1) (drw w115)) fun x122 _ =>
  shutK (e 42) (drw w115) fun w124 =>
  some ((.tuple #[(e 6), x122]), w124)) (fun _ => rd2 (binG false Pg .add 3 (.tmp 0) (.const .nilFunc) (e 6) (.int .i64 1) w115) fun x125 w126 =>
  evalLoop (cx58 F G) (cdA Go.Proofs.Try.f58 [1, 0, 1, 0, 0]) (K58_2 F G) (upd (upd (upd (upd (upd (upd (upd (upd (upd (upd (upd (upd (upd (upd (upd (upd (upd (upd (upd (upd e 7 (e 6)) 8 (e 0)) 9 x101) 10 x102) 11 x103) 12 x104) 13 x106) 16 (e 0)) 17 x108) 18 x109) 19 x110) 20 (e 6)) 21 x111) 22 x112) 23 x113) 24 (e 1)) 25 x114) 14 (e 6)) 15 x125) 6 x125) w126)) (fun _ => rd (nilV (e 0)) fun x127 =>
  rd (fldA Pg 49 x127 0) fun x128 =>
  rd (ldV Pg 47 x128 w107) fun x129 =>
  rd2 (lenG false Pg .len #[47] 3 #[false] [x129] w107) fun x130 w131 =>
  shutK (e 42) w131 fun w132 =>
  some ((.tuple #[x130, (.bool false)]), w132))
theorem S58_eq (F : FnT) (G : RndT) (x0 x1 : Value) (w0 : World) : evalCode (cx58 F G) (cdA Go.Proofs.Try.f58 []) (endK Pg Go.Proofs.Try.f58) (envL [x0, x1]) w0 = S58 F G x0 x1 w0 := by kernel_rfl
theorem F58 (x0 x1 : Value) (w0 : World) : Fn Pg 58 [x0, x1] w0 = S58 (Fn Pg) (Rnd Pg) x0 x1 w0 := (Fn_body (c := cdA Go.Proofs.Try.f58 []) Go.Proofs.Try.func58 (by kernel_rfl) (by kernel_rfl) [x0, x1] w0 (Nat.le_of_ble_eq_true (by kernel_rfl))).trans (S58_eq _ _ x0 x1 w0)
theorem S58_L1_eq (F : FnT) (G : RndT) (e : Env) (w0 : World) : evalLoop (cx58 F G) (cdA Go.Proofs.Try.f58 [1, 0, 1, 0, 0]) (K58_2 F G) e w0 = S58_L1 F G e w0 := by
  rw [evalLoop_eq]
  kernel_rfl

-- 59 ciborium/ciboriumref20.In
noncomputable def cx59 (F : FnT) (G : RndT) : Ctx := ⟨Pg, F, G, 59, none, 20⟩
noncomputable def S59 (F : FnT) (G : RndT) (x0 x1 : Value) (w0 : World) : R :=
  rd2 (rawV Pg (Instr.box 36 x0) w0) fun x3 w4 =>
  rd (fldA Pg 36 x3 0) fun x5 =>
  rd (ldV Pg 9 x5 w4) fun x6 =>
  rd2 (binG false Pg .geq 9 (.tmp 0) (.tmp 0) x1 x6 w4) fun x7 w8 =>
  rd2 (gate x7 true (fun _ => rd (fldA Pg 36 x3 1) fun x9 => some (x9, w8)) w8) fun x10 w11 =>
  rd2 (gate x7 true (fun _ => rd (ldV Pg 9 x10 w11) fun x12 => some (x12, w11)) w11) fun x13 w14 =>
  rd2 (gate x7 true (fun _ => rd2 (binG false Pg .eql 9 (.tmp 0) (.const .nilFunc) x13 (.string { data := #[] }) w14) fun x15 w16 => some (x15, w16)) w14) fun x17 w18 =>
  rd2 (gate x7 true (fun _ =>  some (x17, w18)) w18) fun x19 w20 =>
  rd2 (gate x19 false (fun _ =>  some (x1, w20)) w20) fun x21 w22 =>
  rd2 (gate x19 false (fun _ => rd (fldA Pg 36 x3 1) fun x23 => some (x23, w22)) w22) fun x24 w25 =>
  rd2 (gate x19 false (fun _ => rd (ldV Pg 9 x24 w25) fun x26 => some (x26, w25)) w25) fun x27 w28 =>
  rd2 (gate x19 false (fun _ => rd2 (binG false Pg .lss 9 (.tmp 0) (.tmp 0) x21 x27 w28) fun x29 w30 => some (x29, w30)) w28) fun x31 w32 =>
  rd2 (gate x7 true (fun _ => rd (pickV x19 (.bool true) x31) fun x33 => some (x33, w32)) w32) fun x34 w35 =>
  rd (pickV x7 x34 (.bool false)) fun x36 =>
  some (x36, w35)
theorem S59_eq (F : FnT) (G : RndT) (x0 x1 : Value) (w0 : World) : evalCode (cx59 F G) (cdA Go.Proofs.Try.f59 []) (endK Pg Go.Proofs.Try.f59) (envL [x0, x1]) w0 = S59 F G x0 x1 w0 := by kernel_rfl
theorem F59 (x0 x1 : Value) (w0 : World) : Fn Pg 59 [x0, x1] w0 = S59 (Fn Pg) (Rnd Pg) x0 x1 w0 := (Fn_body (c := cdA Go.Proofs.Try.f59 []) Go.Proofs.Try.func59 (by kernel_rfl) (by kernel_rfl) [x0, x1] w0 (Nat.le_of_ble_eq_true (by kernel_rfl))).trans (S59_eq _ _ x0 x1 w0)

-- 80 (*ciborium/tree.node[int]).find
noncomputable def cx80 (F : FnT) (G : RndT) : Ctx := ⟨Pg, F, G, 80, none, 33⟩
noncomputable def K80_0 : FnT → RndT → Exit → Env → World → R := fun _ _ => endK Pg Go.Proofs.Try.f80
noncomputable def K80_1 : FnT → RndT → Exit → Env → World → R := fun F G => thenK (evalCode (cx80 F G) (cdA Go.Proofs.Try.f80 [1, 1]) (K80_0 F G)) (K80_0 F G)
noncomputable def K80_2 : FnT → RndT → Exit → Env → World → R := fun F G => blkK 0 (K80_1 F G)
noncomputable def S80 (F : FnT) (G : RndT) (x0 x1 : Value) (w0 : World) : R :=
  rd (nilV x0) fun x3 =>
  rd (fldA Pg 100 x3 0) fun x4 =>
  rd (ldV Pg 37 x4 w0) fun x5 =>
  rd2 (lenG false Pg .len #[37] 3 #[false] [x5] w0) fun x6 w7 =>
  evalLoop (cx80 F G) (cdA Go.Proofs.Try.f80 [1, 0, 1, 0, 0]) (K80_2 F G) (upd (upd (upd (upd (upd (upd (upd (upd (envL [x0, x1]) 4 (.int .i64 0)) 5 (.bool false)) 8 x0) 9 x3) 10 x4) 11 x5) 12 x6) 13 (.int .i64 0)) w7
noncomputable def S80_L1 (F : FnT) (G : RndT) (e : Env) (w0 : World) : R :=
  rd2 (binG false Pg .lss 3 (.tmp 0) (.tmp 0) (e 13) (e 12) w0) fun x101 w102 =>
  cnd x101 (fun _ => rd (ixA Pg 37 (e 11) (e 13)) fun x103 =>
  rd (ldV Pg 40 x103 w102) fun x104 =>
  rd2 (rawV Pg (Instr.alloc 40 true (.tuple #[])) w102) fun x105 w106 =>
  rd2 (rawU Pg (Instr.storeAt 40 x105 x104) w106) fun x108 w107 =>
  rd (fldA Pg 40 x105 0) fun x109 =>
  rd (ldV Pg 9 x109 w107) fun x110 =>
  rd2 (binG false Pg .geq 9 (.tmp 0) (.tmp 0) x110 (e 1) w107) fun x111 w112 =>
  cnd x111 (fun _ => rd (fldA Pg 40 x105 0) fun x113 =>
  rd (ldV Pg 9 x113 (drw w112)) fun x114 =>
  rd2 (binG true Pg .eql 9 (.tmp 0) (.tmp 0) x114 (e 1) (drw w112)) fun x115 _ =>
  shutK (e 33) (drw w112) fun w117 =>
  some ((.tuple #[(e 13), x115]), w117)) (fun _ => rd2 (binG false Pg .add 3 (.tmp 0) (.const .nilFunc) (e 13) (.int .i64 1) w112) fun x118 w119 =>
  evalLoop (cx80 F G) (cdA Go.Proofs.Try.f80 [1, 0, 1, 0, 0]) (K80_2 F G) (upd (upd (upd (upd (upd (upd (upd (upd (upd (upd (upd (upd e 14 x101) 15 (e 13)) 16 x103) 17 x104) 7 x105) 6 (e 13)) 18 x109) 19 x110) 20 (e 1)) 21 x111) 27 x118) 13 x118) w119)) (fun _ => rd (nilV (e 0)) fun x120 =>
  rd (fldA Pg 100 x120 0) fun x121 =>
  rd (ldV Pg 37 x121 w102) fun x122 =>
  rd2 (lenG false Pg .len #[37] 3 #[false] [x122] w102) fun x123 w124 =>
  shutK (e 33) w124 fun w125 =>
  some ((.tuple #[x123, (.bool false)]), w125))
theorem S80_eq (F : FnT) (G : RndT) (x0 x1 : Value) (w0 : World) : evalCode (cx80 F G) (cdA Go.Proofs.Try.f80 []) (endK Pg Go.Proofs.Try.f80) (envL [x0, x1]) w0 = S80 F G x0 x1 w0 := by kernel_rfl
theorem F80 (x0 x1 : Value) (w0 : World) : Fn Pg 80 [x0, x1] w0 = S80 (Fn Pg) (Rnd Pg) x0 x1 w0 := (Fn_body (c := cdA Go.Proofs.Try.f80 []) Go.Proofs.Try.func80 (by kernel_rfl) (by kernel_rfl) [x0, x1] w0 (Nat.le_of_ble_eq_true (by kernel_rfl))).trans (S80_eq _ _ x0 x1 w0)
theorem S80_L1_eq (F : FnT) (G : RndT) (e : Env) (w0 : World) : evalLoop (cx80 F G) (cdA Go.Proofs.Try.f80 [1, 0, 1, 0, 0]) (K80_2 F G) e w0 = S80_L1 F G e w0 := by
  rw [evalLoop_eq]
  kernel_rfl

-- 81 slices.Clone[[]ciborium/tree.Entry[int],ciborium/tree.Entry[int]]
noncomputable def cx81 (F : FnT) (G : RndT) : Ctx := ⟨Pg, F, G, 81, none, 8⟩
noncomputable def S81 (F : FnT) (G : RndT) (x0 : Value) (w0 : World) : R :=
  rd2 (binG false Pg .eql 37 (.tmp 0) (.const .nilFunc) x0 (.slice none 0 0) w0) fun x2 w3 =>
  cnd x2 (fun _ => some ((.slice none 0 0), w3)) (fun _ => rd2 (rawV Pg (Instr.buildSlice 37 0 #[]) w3) fun x4 w5 =>
  rd2 (lenG false Pg .append #[37, 37] 37 #[false, false] [x4, x0] w5) fun x6 w7 =>
  some (x6, w7))
theorem S81_eq (F : FnT) (G : RndT) (x0 : Value) (w0 : World) : evalCode (cx81 F G) (cdA Go.Proofs.Try.f81 []) (endK Pg Go.Proofs.Try.f81) (envL [x0]) w0 = S81 F G x0 w0 := by kernel_rfl
theorem F81 (x0 : Value) (w0 : World) : Fn Pg 81 [x0] w0 = S81 (Fn Pg) (Rnd Pg) x0 w0 := (Fn_body (c := cdA Go.Proofs.Try.f81 []) Go.Proofs.Try.func81 (by kernel_rfl) (by kernel_rfl) [x0] w0 (Nat.le_of_ble_eq_true (by kernel_rfl))).trans (S81_eq _ _ x0 w0)

-- 82 slices.Clone[[]*ciborium/tree.node[int],*ciborium/tree.node[int]]
noncomputable def cx82 (F : FnT) (G : RndT) : Ctx := ⟨Pg, F, G, 82, none, 8⟩
noncomputable def S82 (F : FnT) (G : RndT) (x0 : Value) (w0 : World) : R :=
  rd2 (binG false Pg .eql 98 (.tmp 0) (.const .nilFunc) x0 (.slice none 0 0) w0) fun x2 w3 =>
  cnd x2 (fun _ => some ((.slice none 0 0), w3)) (fun _ => rd2 (rawV Pg (Instr.buildSlice 98 0 #[]) w3) fun x4 w5 =>
  rd2 (lenG false Pg .append #[98, 98] 98 #[false, false] [x4, x0] w5) fun x6 w7 =>
  some (x6, w7))
theorem S82_eq (F : FnT) (G : RndT) (x0 : Value) (w0 : World) : evalCode (cx82 F G) (cdA Go.Proofs.Try.f82 []) (endK Pg Go.Proofs.Try.f82) (envL [x0]) w0 = S82 F G x0 w0 := by kernel_rfl
theorem F82 (x0 : Value) (w0 : World) : Fn Pg 82 [x0] w0 = S82 (Fn Pg) (Rnd Pg) x0 w0 := (Fn_body (c := cdA Go.Proofs.Try.f82 []) Go.Proofs.Try.func82 (by kernel_rfl) (by kernel_rfl) [x0] w0 (Nat.le_of_ble_eq_true (by kernel_rfl))).trans (S82_eq _ _ x0 w0)

-- 83 slices.Insert[[]ciborium/tree.Entry[int],ciborium/tree.Entry[int]]
noncomputable def cx83 (F : FnT) (G : RndT) : Ctx := ⟨Pg, F, G, 83, none, 95⟩
noncomputable def S83 (F : FnT) (G : RndT) (x0 x1 x2 : Value) (w0 : World) : R :=
  rd (slV Pg 37 x0 (some x1) none none) fun x4 =>
  rd2 (lenG false Pg .len #[37] 3 #[false] [x2] w0) fun x5 w6 =>
  rd2 (binG false Pg .eql 3 (.tmp 0) (.const .nilFunc) x5 (.int .i64 0) w6) fun x7 w8 =>
  cnd x7 (fun _ => some (x0, w8)) (fun _ => rd2 (lenG false Pg .len #[37] 3 #[false] [x0] w8) fun x9 w10 =>
  rd2 (binG false Pg .eql 3 (.tmp 0) (.tmp 0) x1 x9 w10) fun x11 w12 =>
  cnd x11 (fun _ => rd2 (lenG false Pg .append #[37, 37] 37 #[false, false] [x0, x2] w12) fun x13 w14 =>
  some (x13, w14)) (fun _ => rd2 (binG false Pg .add 3 (.tmp 0) (.tmp 0) x9 x5 w12) fun x15 w16 =>
  rd2 (lenG false Pg .cap #[37] 3 #[false] [x0] w16) fun x17 w18 =>
  rd2 (binG false Pg .gtr 3 (.tmp 0) (.tmp 0) x15 x17 w18) fun x19 w20 =>
  cnd x19 (fun _ => rd (slV Pg 37 x0 none (some x1) none) fun x21 =>
  rd2 (binG false Pg .add 3 (.tmp 0) (.tmp 0) x9 x5 w20) fun x22 w23 =>
  rd2 (binG false Pg .sub 3 (.tmp 0) (.tmp 0) x22 x1 w23) fun x24 w25 =>
  rd2 (lenG false Pg .append #[37, 3] 37 #[false, false] [x21, x24] w25) fun x26 w27 =>
  rd (slV Pg 37 x26 (some x1) none none) fun x28 =>
  rd2 (lenG false Pg .copy #[37, 37] 3 #[false, false] [x28, x2] w27) fun x29 w30 =>
  rd2 (binG true Pg .add 3 (.tmp 0) (.tmp 0) x1 x5 (drw w30)) fun x31 _ =>
  rd (slV Pg 37 x26 (some x31) none none) fun x33 =>
  rd (slV Pg 37 x0 (some x1) none none) fun x34 =>
  rd2 (lenG false Pg .copy #[37, 37] 3 #[false, false] [x33, x34] (drw w30)) fun x35 w36 =>
  some (x26, w36)) (fun _ => rd2 (binG false Pg .add 3 (.tmp 0) (.tmp 0) x9 x5 w20) fun x37 w38 =>
  rd (slV Pg 37 x0 none (some x37) none) fun x39 =>
  rd2 (binG false Pg .add 3 (.tmp 0) (.tmp 0) x1 x5 w38) fun x40 w41 =>
  rd (slV Pg 37 x39 (some x40) none none) fun x42 =>
  rd2 (F 110 [x2, x42] w41) fun x43 w44 =>
  rd (unV .not x43) fun x45 =>
  cnd x45 (fun _ => rd2 (binG true Pg .add 3 (.tmp 0) (.tmp 0) x1 x5 (drw w44)) fun x46 _ =>
  rd (slV Pg 37 x39 (some x46) none none) fun x48 =>
  rd (slV Pg 37 x39 (some x1) none none) fun x49 =>
  rd2 (lenG false Pg .copy #[37, 37] 3 #[false, false] [x48, x49] (drw w44)) fun x50 w51 =>
  rd (slV Pg 37 x39 (some x1) none none) fun x52 =>
  rd2 (lenG false Pg .copy #[37, 37] 3 #[false, false] [x52, x2] w51) fun x53 w54 =>
  some (x39, w54)) (fun _ => rd (slV Pg 37 x39 (some x9) none none) fun x55 =>
  rd2 (lenG false Pg .copy #[37, 37] 3 #[false, false] [x55, x2] w44) fun x56 w57 =>
  rd (slV Pg 37 x39 (some x1) none none) fun x58 =>
  rd2 (F 111 [x58, x5] w57) fun x59 w60 =>
  some (x39, w60)))))
theorem S83_eq (F : FnT) (G : RndT) (x0 x1 x2 : Value) (w0 : World) : evalCode (cx83 F G) (cdA Go.Proofs.Try.f83 []) (endK Pg Go.Proofs.Try.f83) (envL [x0, x1, x2]) w0 = S83 F G x0 x1 x2 w0 := by kernel_rfl
theorem F83 (x0 x1 x2 : Value) (w0 : World) : Fn Pg 83 [x0, x1, x2] w0 = S83 (Fn Pg) (Rnd Pg) x0 x1 x2 w0 := (Fn_body (c := cdA Go.Proofs.Try.f83 []) Go.Proofs.Try.func83 (by kernel_rfl) (by kernel_rfl) [x0, x1, x2] w0 (Nat.le_of_ble_eq_true (by kernel_rfl))).trans (S83_eq _ _ x0 x1 x2 w0)

-- 84 slices.Insert[[]*ciborium/tree.node[int],*ciborium/tree.node[int]]
noncomputable def cx84 (F : FnT) (G : RndT) : Ctx := ⟨Pg, F, G, 84, none, 95⟩
noncomputable def S84 (F : FnT) (G : RndT) (x0 x1 x2 : Value) (w0 : World) : R :=
  rd (slV Pg 98 x0 (some x1) none none) fun x4 =>
  rd2 (lenG false Pg .len #[98] 3 #[false] [x2] w0) fun x5 w6 =>
  rd2 (binG false Pg .eql 3 (.tmp 0) (.const .nilFunc) x5 (.int .i64 0) w6) fun x7 w8 =>
  cnd x7 (fun _ => some (x0, w8)) (fun _ => rd2 (lenG false Pg .len #[98] 3 #[false] [x0] w8) fun x9 w10 =>
  rd2 (binG false Pg .eql 3 (.tmp 0) (.tmp 0) x1 x9 w10) fun x11 w12 =>
  cnd x11 (fun _ => rd2 (lenG false Pg .append #[98, 98] 98 #[false, false] [x0, x2] w12) fun x13 w14 =>
  some (x13, w14)) (fun _ => rd2 (binG false Pg .add 3 (.tmp 0) (.tmp 0) x9 x5 w12) fun x15 w16 =>
  rd2 (lenG false Pg .cap #[98] 3 #[false] [x0] w16) fun x17 w18 =>
  rd2 (binG false Pg .gtr 3 (.tmp 0) (.tmp 0) x15 x17 w18) fun x19 w20 =>
  cnd x19 (fun _ => rd (slV Pg 98 x0 none (some x1) none) fun x21 =>
  rd2 (binG false Pg .add 3 (.tmp 0) (.tmp 0) x9 x5 w20) fun x22 w23 =>
  rd2 (binG false Pg .sub 3 (.tmp 0) (.tmp 0) x22 x1 w23) fun x24 w25 =>
  rd2 (lenG false Pg .append #[98, 3] 98 #[false, false] [x21, x24] w25) fun x26 w27 =>
  rd (slV Pg 98 x26 (some x1) none none) fun x28 =>
  rd2 (lenG false Pg .copy #[98, 98] 3 #[false, false] [x28, x2] w27) fun x29 w30 =>
  rd2 (binG true Pg .add 3 (.tmp 0) (.tmp 0) x1 x5 (drw w30)) fun x31 _ =>
  rd (slV Pg 98 x26 (some x31) none none) fun x33 =>
  rd (slV Pg 98 x0 (some x1) none none) fun x34 =>
  rd2 (lenG false Pg .copy #[98, 98] 3 #[false, false] [x33, x34] (drw w30)) fun x35 w36 =>
  some (x26, w36)) (fun _ => rd2 (binG false Pg .add 3 (.tmp 0) (.tmp 0) x9 x5 w20) fun x37 w38 =>
  rd (slV Pg 98 x0 none (some x37) none) fun x39 =>
  rd2 (binG false Pg .add 3 (.tmp 0) (.tmp 0) x1 x5 w38) fun x40 w41 =>
  rd (slV Pg 98 x39 (some x40) none none) fun x42 =>
  rd2 (F 112 [x2, x42] w41) fun x43 w44 =>
  rd (unV .not x43) fun x45 =>
  cnd x45 (fun _ => rd2 (binG true Pg .add 3 (.tmp 0) (.tmp 0) x1 x5 (drw w44)) fun x46 _ =>
  rd (slV Pg 98 x39 (some x46) none none) fun x48 =>
  rd (slV Pg 98 x39 (some x1) none none) fun x49 =>
  rd2 (lenG false Pg .copy #[98, 98] 3 #[false, false] [x48, x49] (drw w44)) fun x50 w51 =>
  rd (slV Pg 98 x39 (some x1) none none) fun x52 =>
  rd2 (lenG false Pg .copy #[98, 98] 3 #[false, false] [x52, x2] w51) fun x53 w54 =>
  some (x39, w54)) (fun _ => rd (slV Pg 98 x39 (some x9) none none) fun x55 =>
  rd2 (lenG false Pg .copy #[98, 98] 3 #[false, false] [x55, x2] w44) fun x56 w57 =>
  rd (slV Pg 98 x39 (some x1) none none) fun x58 =>
  rd2 (F 113 [x58, x5] w57) fun x59 w60 =>
  some (x39, w60)))))
theorem S84_eq (F : FnT) (G : RndT) (x0 x1 x2 : Value) (w0 : World) : evalCode (cx84 F G) (cdA Go.Proofs.Try.f84 []) (endK Pg Go.Proofs.Try.f84) (envL [x0, x1, x2]) w0 = S84 F G x0 x1 x2 w0 := by kernel_rfl
theorem F84 (x0 x1 x2 : Value) (w0 : World) : Fn Pg 84 [x0, x1, x2] w0 = S84 (Fn Pg) (Rnd Pg) x0 x1 x2 w0 := (Fn_body (c := cdA Go.Proofs.Try.f84 []) Go.Proofs.Try.func84 (by kernel_rfl) (by kernel_rfl) [x0, x1, x2] w0 (Nat.le_of_ble_eq_true (by kernel_rfl))).trans (S84_eq _ _ x0 x1 x2 w0)

-- 85 slices.Delete[[]ciborium/tree.Entry[int],ciborium/tree.Entry[int]]
noncomputable def cx85 (F : FnT) (G : RndT) : Ctx := ⟨Pg, F, G, 85, none, 33⟩
noncomputable def S85 (F : FnT) (G : RndT) (x0 x1 x2 : Value) (w0 : World) : R :=
  rd2 (lenG false Pg .len #[37] 3 #[false] [x0] w0) fun x4 w5 =>
  rd (slV Pg 37 x0 (some x1) (some x2) (some x4)) fun x6 =>
  rd2 (binG false Pg .eql 3 (.tmp 0) (.tmp 0) x1 x2 w5) fun x7 w8 =>
  cnd x7 (fun _ => some (x0, w8)) (fun _ => rd2 (lenG false Pg .len #[37] 3 #[false] [x0] w8) fun x9 w10 =>
  rd (slV Pg 37 x0 none (some x1) none) fun x11 =>
  rd (slV Pg 37 x0 (some x2) none none) fun x12 =>
  rd2 (lenG false Pg .append #[37, 37] 37 #[false, false] [x11, x12] (drw w10)) fun x13 w14 =>
  rd2 (lenG false Pg .len #[37] 3 #[false] [x13] w14) fun x15 w16 =>
  rd (slV Pg 37 x13 (some x15) (some x9) none) fun x17 =>
  rd2 (lenG false Pg .clear #[37] 0 #[false] [x17] w16) fun x18 w19 =>
  some (x13, w19))
theorem S85_eq (F : FnT) (G : RndT) (x0 x1 x2 : Value) (w0 : World) : evalCode (cx85 F G) (cdA Go.Proofs.Try.f85 []) (endK Pg Go.Proofs.Try.f85) (envL [x0, x1, x2]) w0 = S85 F G x0 x1 x2 w0 := by kernel_rfl
theorem F85 (x0 x1 x2 : Value) (w0 : World) : Fn Pg 85 [x0, x1, x2] w0 = S85 (Fn Pg) (Rnd Pg) x0 x1 x2 w0 := (Fn_body (c := cdA Go.Proofs.Try.f85 []) Go.Proofs.Try.func85 (by kernel_rfl) (by kernel_rfl) [x0, x1, x2] w0 (Nat.le_of_ble_eq_true (by kernel_rfl))).trans (S85_eq _ _ x0 x1 x2 w0)

-- 86 (*ciborium/tree.node[int]).edge
noncomputable def cx86 (F : FnT) (G : RndT) : Ctx := ⟨Pg, F, G, 86, none, 45⟩
noncomputable def K86_0 : FnT → RndT → Exit → Env → World → R := fun _ _ => endK Pg Go.Proofs.Try.f86
noncomputable def K86_1 : FnT → RndT → Exit → Env → World → R := fun F G => thenK (evalCode (cx86 F G) (cdA Go.Proofs.Try.f86 [1, 1]) (K86_0 F G)) (K86_0 F G)
noncomputable def K86_2 : FnT → RndT → Exit → Env → World → R := fun F G => blkK 0 (K86_1 F G)
noncomputable def S86 (F : FnT) (G : RndT) (x0 x1 : Value) (w0 : World) : R :=
  rd2 (rawV Pg (Instr.alloc 40 true (.tuple #[])) w0) fun x3 w4 =>
  evalLoop (cx86 F G) (cdA Go.Proofs.Try.f86 [1, 0, 0, 0]) (K86_2 F G) (upd (envL [x0, x1]) 4 x3) w4
noncomputable def S86_L1 (F : FnT) (G : RndT) (e : Env) (w0 : World) : R :=
  rd2 (F 51 [(e 0)] w0) fun x101 w102 =>
  rd (unV .not x101) fun x103 =>
  cnd x103 (fun _ => cnd (e 1) (fun _ => rd (nilV (e 0)) fun x104 =>
  rd (fldA Pg 100 x104 1) fun x105 =>
  rd (ldV Pg 98 x105 (drw w102)) fun x106 =>
  rd (nilV (e 0)) fun x107 =>
  rd (fldA Pg 100 x107 0) fun x108 =>
  rd (ldV Pg 37 x108 (drw w102)) fun x109 =>
  rd2 (lenG true Pg .len #[37] 3 #[false] [x109] (drw w102)) fun x110 _ =>
  rd (ixA Pg 98 x106 x110) fun x112 =>
  rd (ldV Pg 55 x112 (drw w102)) fun x113 =>
  evalLoop (cx86 F G) (cdA Go.Proofs.Try.f86 [1, 0, 0, 0]) (K86_2 F G) (upd (upd (upd (upd (upd (upd (upd (upd (upd (upd (upd (upd (upd (upd (upd (upd e 5 (e 0)) 6 x101) 7 x103) 8 (e 1)) 9 (e 0)) 10 x104) 11 x105) 12 x106) 13 (e 0)) 14 x107) 15 x108) 16 x109) 17 x110) 18 x112) 19 x113) 0 x113) (drw w102)) (fun _ => rd (nilV (e 0)) fun x114 =>
  rd (fldA Pg 100 x114 1) fun x115 =>
  rd (ldV Pg 98 x115 w102) fun x116 =>
  rd (ixA Pg 98 x116 (.int .i64 0)) fun x117 =>
  rd (ldV Pg 55 x117 w102) fun x118 =>
  evalLoop (cx86 F G) (cdA Go.Proofs.Try.f86 [1, 0, 0, 0]) (K86_2 F G) (upd (upd (upd (upd (upd (upd (upd (upd (upd (upd (upd e 5 (e 0)) 6 x101) 7 x103) 8 (e 1)) 20 (e 0)) 21 x114) 22 x115) 23 x116) 24 x117) 25 x118) 0 x118) w102)) (fun _ => cnd (e 1) (fun _ => rd (nilV (e 0)) fun x119 =>
  rd (fldA Pg 100 x119 0) fun x120 =>
  rd (ldV Pg 37 x120 (drw w102)) fun x121 =>
  rd (nilV (e 0)) fun x122 =>
  rd (fldA Pg 100 x122 0) fun x123 =>
  rd (ldV Pg 37 x123 (drw w102)) fun x124 =>
  rd2 (lenG true Pg .len #[37] 3 #[false] [x124] (drw w102)) fun x125 _ =>
  rd2 (binG true Pg .sub 3 (.tmp 0) (.const .nilFunc) x125 (.int .i64 1) (drw w102)) fun x127 _ =>
  rd (ixA Pg 37 x121 x127) fun x129 =>
  rd (ldV Pg 40 x129 (drw w102)) fun x130 =>
  rd2 (rawU Pg (Instr.storeAt 40 (e 4) x130) (drw w102)) fun x132 w131 =>
  shutK (e 45) w131 fun w133 =>
  rd (ldV Pg 40 (e 4) w133) fun x134 =>
  some (x134, w133)) (fun _ => rd (nilV (e 0)) fun x135 =>
  rd (fldA Pg 100 x135 0) fun x136 =>
  rd (ldV Pg 37 x136 w102) fun x137 =>
  rd (ixA Pg 37 x137 (.int .i64 0)) fun x138 =>
  rd (ldV Pg 40 x138 w102) fun x139 =>
  rd2 (rawU Pg (Instr.storeAt 40 (e 4) x139) w102) fun x141 w140 =>
  shutK (e 45) w140 fun w142 =>
  rd (ldV Pg 40 (e 4) w142) fun x143 =>
  some (x143, w142)))
theorem S86_eq (F : FnT) (G : RndT) (x0 x1 : Value) (w0 : World) : evalCode (cx86 F G) (cdA Go.Proofs.Try.f86 []) (endK Pg Go.Proofs.Try.f86) (envL [x0, x1]) w0 = S86 F G x0 x1 w0 := by kernel_rfl
theorem F86 (x0 x1 : Value) (w0 : World) : Fn Pg 86 [x0, x1] w0 = S86 (Fn Pg) (Rnd Pg) x0 x1 w0 := (Fn_body (c := cdA Go.Proofs.Try.f86 []) Go.Proofs.Try.func86 (by kernel_rfl) (by kernel_rfl) [x0, x1] w0 (Nat.le_of_ble_eq_true (by kernel_rfl))).trans (S86_eq _ _ x0 x1 w0)
theorem S86_L1_eq (F : FnT) (G : RndT) (e : Env) (w0 : World) : evalLoop (cx86 F G) (cdA Go.Proofs.Try.f86 [1, 0, 0, 0]) (K86_2 F G) e w0 = S86_L1 F G e w0 := by
  rw [evalLoop_eq]
  kernel_rfl

-- 87 (*ciborium/tree.node[int]).merge
noncomputable def cx87 (F : FnT) (G : RndT) : Ctx := ⟨Pg, F, G, 87, none, 77⟩
noncomputable def S87 (F : FnT) (G : RndT) (x0 x1 : Value) (w0 : World) : R :=
  rd (nilV x0) fun x3 =>
  rd (fldA Pg 100 x3 1) fun x4 =>
  rd (ldV Pg 98 x4 (drw w0)) fun x5 =>
  rd (ixA Pg 98 x5 x1) fun x6 =>
  rd (ldV Pg 55 x6 (drw w0)) fun x7 =>
  rd (nilV x0) fun x8 =>
  rd (fldA Pg 100 x8 1) fun x9 =>
  rd (ldV Pg 98 x9 (drw w0)) fun x10 =>
  rd2 (binG true Pg .add 3 (.tmp 0) (.const .nilFunc) x1 (.int .i64 1) (drw w0)) fun x11 _ =>
  rd (ixA Pg 98 x10 x11) fun x13 =>
  rd (ldV Pg 55 x13 (drw w0)) fun x14 =>
  rd (nilV x7) fun x15 =>
  rd (fldA Pg 100 x15 0) fun x16 =>
  rd (ldV Pg 37 x16 (drw (drw w0))) fun x17 =>
  rd (nilV x0) fun x18 =>
  rd (fldA Pg 100 x18 0) fun x19 =>
  rd (ldV Pg 37 x19 (drw (drw w0))) fun x20 =>
  rd (ixA Pg 37 x20 x1) fun x21 =>
  rd (ldV Pg 40 x21 (drw (drw w0))) fun x22 =>
  rd2 (rawV Pg (Instr.buildSlice 37 1 #[(0, x22)]) (drw (drw w0))) fun x23 w24 =>
  rd2 (lenG false Pg .append #[37, 37] 37 #[false, false] [x17, x23] w24) fun x25 w26 =>
  rd (nilV x14) fun x27 =>
  rd (fldA Pg 100 x27 0) fun x28 =>
  rd (ldV Pg 37 x28 w26) fun x29 =>
  chk (holdsAt Pg none 37 x28 x29 w24) fun _ =>
  chk (holdsAt Pg none 37 x28 x29 (drw (drw w0))) fun _ =>
  rd2 (lenG false Pg .append #[37, 37] 37 #[false, false] [x25, x29] w26) fun x30 w31 =>
  rd (nilV x7) fun x32 =>
  rd (fldA Pg 100 x32 0) fun x33 =>
  rd2 (rawU Pg (Instr.storeAt 37 x33 x30) w31) fun x35 w34 =>
  rd (nilV x7) fun x36 =>
  rd (fldA Pg 100 x36 1) fun x37 =>
  rd (ldV Pg 98 x37 (drw w34)) fun x38 =>
  rd (nilV x14) fun x39 =>
  rd (fldA Pg 100 x39 1) fun x40 =>
  rd (ldV Pg 98 x40 (drw w34)) fun x41 =>
  rd2 (lenG false Pg .append #[98, 98] 98 #[false, false] [x38, x41] (drw w34)) fun x42 w43 =>
  rd (nilV x7) fun x44 =>
  rd (fldA Pg 100 x44 1) fun x45 =>
  rd2 (rawU Pg (Instr.storeAt 98 x45 x42) w43) fun x47 w46 =>
  rd (nilV x0) fun x48 =>
  rd (fldA Pg 100 x48 0) fun x49 =>
  rd (ldV Pg 37 x49 w46) fun x50 =>
  rd2 (binG false Pg .add 3 (.tmp 0) (.const .nilFunc) x1 (.int .i64 1) w46) fun x51 w52 =>
  rd2 (F 85 [x50, x1, x51] w52) fun x53 w54 =>
  rd (nilV x0) fun x55 =>
  rd (fldA Pg 100 x55 0) fun x56 =>
  rd2 (rawU Pg (Instr.storeAt 37 x56 x53) w54) fun x58 w57 =>
  rd (nilV x0) fun x59 =>
  rd (fldA Pg 100 x59 1) fun x60 =>
  rd (ldV Pg 98 x60 w57) fun x61 =>
  rd2 (binG false Pg .add 3 (.tmp 0) (.const .nilFunc) x1 (.int .i64 1) w57) fun x62 w63 =>
  rd2 (binG false Pg .add 3 (.tmp 0) (.const .nilFunc) x1 (.int .i64 2) w63) fun x64 w65 =>
  rd2 (F 114 [x61, x62, x64] w65) fun x66 w67 =>
  rd (nilV x0) fun x68 =>
  rd (fldA Pg 100 x68 1) fun x69 =>
  rd2 (rawU Pg (Instr.storeAt 98 x69 x66) w67) fun x71 w70 =>
  some ((.tuple #[]), w70)
theorem S87_eq (F : FnT) (G : RndT) (x0 x1 : Value) (w0 : World) : evalCode (cx87 F G) (cdA Go.Proofs.Try.f87 []) (endK Pg Go.Proofs.Try.f87) (envL [x0, x1]) w0 = S87 F G x0 x1 w0 := by kernel_rfl
theorem F87 (x0 x1 : Value) (w0 : World) : Fn Pg 87 [x0, x1] w0 = S87 (Fn Pg) (Rnd Pg) x0 x1 w0 := (Fn_body (c := cdA Go.Proofs.Try.f87 []) Go.Proofs.Try.func87 (by kernel_rfl) (by kernel_rfl) [x0, x1] w0 (Nat.le_of_ble_eq_true (by kernel_rfl))).trans (S87_eq _ _ x0 x1 w0)

-- 88 (*ciborium/tree.node[int]).rich
noncomputable def cx88 (F : FnT) (G : RndT) : Ctx := ⟨Pg, F, G, 88, none, 87⟩
noncomputable def S88 (F : FnT) (G : RndT) (x0 x1 : Value) (w0 : World) : R :=
  rd (nilV x0) fun x3 =>
  rd (fldA Pg 100 x3 1) fun x4 =>
  rd (ldV Pg 98 x4 w0) fun x5 =>
  rd (ixA Pg 98 x5 x1) fun x6 =>
  rd (ldV Pg 55 x6 w0) fun x7 =>
  rd (nilV x7) fun x8 =>
  rd (fldA Pg 100 x8 0) fun x9 =>
  rd (ldV Pg 37 x9 w0) fun x10 =>
  rd2 (lenG false Pg .len #[37] 3 #[false] [x10] w0) fun x11 w12 =>
  rd2 (binG false Pg .gtr 3 (.tmp 0) (.const .nilFunc) x11 (.int .i64 2) w12) fun x13 w14 =>
  cnd x13 (fun _ => some (x1, w14)) (fun _ => rd2 (binG false Pg .gtr 3 (.tmp 0) (.const .nilFunc) x1 (.int .i64 0) w14) fun x15 w16 =>
  rd2 (gate x15 true (fun _ =>  some (x0, w16)) w16) fun x17 w18 =>
  rd2 (gate x15 true (fun _ => rd (nilV x17) fun x19 => some (x19, w18)) w18) fun x20 w21 =>
  rd2 (gate x15 true (fun _ => rd (fldA Pg 100 x20 1) fun x22 => some (x22, w21)) w21) fun x23 w24 =>
  rd2 (gate x15 true (fun _ => rd (ldV Pg 98 x23 w24) fun x25 => some (x25, w24)) w24) fun x26 w27 =>
  rd2 (gate x15 true (fun _ =>  some (x1, w27)) w27) fun x28 w29 =>
  rd2 (gate x15 true (fun _ => rd2 (binG false Pg .sub 3 (.tmp 0) (.const .nilFunc) x28 (.int .i64 1) w29) fun x30 w31 => some (x30, w31)) w29) fun x32 w33 =>
  rd2 (gate x15 true (fun _ => rd (ixA Pg 98 x26 x32) fun x34 => some (x34, w33)) w33) fun x35 w36 =>
  rd2 (gate x15 true (fun _ => rd (ldV Pg 55 x35 w36) fun x37 => some (x37, w36)) w36) fun x38 w39 =>
  rd2 (gate x15 true (fun _ => rd (nilV x38) fun x40 => some (x40, w39)) w39) fun x41 w42 =>
  rd2 (gate x15 true (fun _ => rd (fldA Pg 100 x41 0) fun x43 => some (x43, w42)) w42) fun x44 w45 =>
  rd2 (gate x15 true (fun _ => rd (ldV Pg 37 x44 w45) fun x46 => some (x46, w45)) w45) fun x47 w48 =>
  rd2 (gate x15 true (fun _ => rd2 (lenG false Pg .len #[37] 3 #[false] [x47] w48) fun x49 w50 => some (x49, w50)) w48) fun x51 w52 =>
  rd2 (gate x15 true (fun _ => rd2 (binG false Pg .gtr 3 (.tmp 0) (.const .nilFunc) x51 (.int .i64 2) w52) fun x53 w54 => some (x53, w54)) w52) fun x55 w56 =>
  rd (pickV x15 x55 (.bool false)) fun x57 =>
  cnd x57 (fun _ => rd2 (binG false Pg .sub 3 (.tmp 0) (.const .nilFunc) x1 (.int .i64 1) w56) fun x58 w59 =>
  rd2 (F 115 [x0, x1, x58] w59) fun x60 w61 =>
  some (x1, w61)) (fun _ => rd (nilV x0) fun x62 =>
  rd (fldA Pg 100 x62 0) fun x63 =>
  rd (ldV Pg 37 x63 w56) fun x64 =>
  rd2 (lenG false Pg .len #[37] 3 #[false] [x64] w56) fun x65 w66 =>
  rd2 (binG false Pg .lss 3 (.tmp 0) (.tmp 0) x1 x65 w66) fun x67 w68 =>
  rd2 (gate x67 true (fun _ =>  some (x0, w68)) w68) fun x69 w70 =>
  rd2 (gate x67 true (fun _ => rd (nilV x69) fun x71 => some (x71, w70)) w70) fun x72 w73 =>
  rd2 (gate x67 true (fun _ => rd (fldA Pg 100 x72 1) fun x74 => some (x74, w73)) w73) fun x75 w76 =>
  rd2 (gate x67 true (fun _ => rd (ldV Pg 98 x75 w76) fun x77 => some (x77, w76)) w76) fun x78 w79 =>
  rd2 (gate x67 true (fun _ =>  some (x1, w79)) w79) fun x80 w81 =>
  rd2 (gate x67 true (fun _ => rd2 (binG false Pg .add 3 (.tmp 0) (.const .nilFunc) x80 (.int .i64 1) w81) fun x82 w83 => some (x82, w83)) w81) fun x84 w85 =>
  rd2 (gate x67 true (fun _ => rd (ixA Pg 98 x78 x84) fun x86 => some (x86, w85)) w85) fun x87 w88 =>
  rd2 (gate x67 true (fun _ => rd (ldV Pg 55 x87 w88) fun x89 => some (x89, w88)) w88) fun x90 w91 =>
  rd2 (gate x67 true (fun _ => rd (nilV x90) fun x92 => some (x92, w91)) w91) fun x93 w94 =>
  rd2 (gate x67 true (fun _ => rd (fldA Pg 100 x93 0) fun x95 => some (x95, w94)) w94) fun x96 w97 =>
  rd2 (gate x67 true (fun _ => rd (ldV Pg 37 x96 w97) fun x98 => some (x98, w97)) w97) fun x99 w100 =>
  rd2 (gate x67 true (fun _ => rd2 (lenG false Pg .len #[37] 3 #[false] [x99] w100) fun x101 w102 => some (x101, w102)) w100) fun x103 w104 =>
  rd2 (gate x67 true (fun _ => rd2 (binG false Pg .gtr 3 (.tmp 0) (.const .nilFunc) x103 (.int .i64 2) w104) fun x105 w106 => some (x105, w106)) w104) fun x107 w108 =>
  rd (pickV x67 x107 (.bool false)) fun x109 =>
  cnd x109 (fun _ => rd2 (binG false Pg .add 3 (.tmp 0) (.const .nilFunc) x1 (.int .i64 1) w108) fun x110 w111 =>
  rd2 (F 115 [x0, x1, x110] w111) fun x112 w113 =>
  some (x1, w113)) (fun _ => rd (nilV x0) fun x114 =>
  rd (fldA Pg 100 x114 0) fun x115 =>
  rd (ldV Pg 37 x115 w108) fun x116 =>
  rd2 (lenG false Pg .len #[37] 3 #[false] [x116] w108) fun x117 w118 =>
  rd2 (binG false Pg .lss 3 (.tmp 0) (.tmp 0) x1 x117 w118) fun x119 w120 =>
  cnd x119 (fun _ => rd2 (F 87 [x0, x1] w120) fun x121 w122 =>
  some (x1, w122)) (fun _ => rd2 (binG false Pg .sub 3 (.tmp 0) (.const .nilFunc) x1 (.int .i64 1) w120) fun x123 w124 =>
  rd2 (F 87 [x0, x123] w124) fun x125 w126 =>
  rd2 (binG false Pg .sub 3 (.tmp 0) (.const .nilFunc) x1 (.int .i64 1) w126) fun x127 w128 =>
  some (x127, w128)))))
theorem S88_eq (F : FnT) (G : RndT) (x0 x1 : Value) (w0 : World) : evalCode (cx88 F G) (cdA Go.Proofs.Try.f88 []) (endK Pg Go.Proofs.Try.f88) (envL [x0, x1]) w0 = S88 F G x0 x1 w0 := by kernel_rfl
theorem F88 (x0 x1 : Value) (w0 : World) : Fn Pg 88 [x0, x1] w0 = S88 (Fn Pg) (Rnd Pg) x0 x1 w0 := (Fn_body (c := cdA Go.Proofs.Try.f88 []) Go.Proofs.Try.func88 (by kernel_rfl) (by kernel_rfl) [x0, x1] w0 (Nat.le_of_ble_eq_true (by kernel_rfl))).trans (S88_eq _ _ x0 x1 w0)

-- 89 (*ciborium/tree.Tree[int]).from$1
noncomputable def cx89 (F : FnT) (G : RndT) : Ctx := ⟨Pg, F, G, 89, none, 14⟩
noncomputable def S89 (F : FnT) (G : RndT) (x0 x1 x2 : Value) (w0 : World) : R :=
  rd (ldV Pg 25 x1 w0) fun x4 =>
  rd2 (F 45 [x4] w0) fun x5 w6 =>
  rd (unV .not x5) fun x7 =>
  cnd x7 (fun _ => rd (ldV Pg 25 x1 (drw w6)) fun x8 =>
  rd (nilV x8) fun x9 =>
  rd (fldA Pg 57 x9 0) fun x10 =>
  rd (ldV Pg 55 x10 (drw w6)) fun x11 =>
  rd (ldV Pg 9 x2 (drw w6)) fun x12 =>
  rd2 (F 90 [x11, x12, x0] (drw w6)) fun x13 w14 =>
  some ((.tuple #[]), w14)) (fun _ => some ((.tuple #[]), w6))
theorem S89_eq (F : FnT) (G : RndT) (x0 x1 x2 : Value) (w0 : World) : evalCode (cx89 F G) (cdA Go.Proofs.Try.f89 []) (endK Pg Go.Proofs.Try.f89) (envL [x0, x1, x2]) w0 = S89 F G x0 x1 x2 w0 := by kernel_rfl
theorem F89 (x0 x1 x2 : Value) (w0 : World) : Fn Pg 89 [x0, x1, x2] w0 = S89 (Fn Pg) (Rnd Pg) x0 x1 x2 w0 := (Fn_body (c := cdA Go.Proofs.Try.f89 []) Go.Proofs.Try.func89 (by kernel_rfl) (by kernel_rfl) [x0, x1, x2] w0 (Nat.le_of_ble_eq_true (by kernel_rfl))).trans (S89_eq _ _ x0 x1 x2 w0)

-- 90 (*ciborium/tree.node[int]).walk
noncomputable def cx90 (F : FnT) (G : RndT) : Ctx := ⟨Pg, F, G, 90, none, 50⟩
noncomputable def K90_0 : FnT → RndT → Exit → Env → World → R := fun _ _ => endK Pg Go.Proofs.Try.f90
noncomputable def K90_1 : FnT → RndT → Exit → Env → World → R := fun F G => blkK 0 (K90_0 F G)
noncomputable def S90 (F : FnT) (G : RndT) (x0 x1 x2 : Value) (w0 : World) : R :=
  rd2 (F 80 [x0, x1] w0) fun x4 w5 =>
  rd (extV x4 0) fun x6 =>
  rd (extV x4 1) fun x7 =>
  evalLoop (cx90 F G) (cdA Go.Proofs.Try.f90 [1, 1, 0, 0]) (K90_1 F G) (upd (upd (upd (upd (upd (upd (upd (upd (upd (envL [x0, x1, x2]) 6 (.bool false)) 10 x0) 11 x1) 12 x4) 9 x4) 13 x6) 14 x7) 7 x6) 8 x7) w5
noncomputable def S90_L1 (F : FnT) (G : RndT) (e : Env) (w0 : World) : R :=
  rd2 (F 51 [(e 0)] w0) fun x101 w102 =>
  rd (unV .not x101) fun x103 =>
  rd2 (gate x103 true (fun _ =>  some ((e 0), w102)) w102) fun x104 w105 =>
  rd2 (gate x103 true (fun _ => rd (nilV x104) fun x106 => some (x106, w105)) w105) fun x107 w108 =>
  rd2 (gate x103 true (fun _ => rd (fldA Pg 100 x107 1) fun x109 => some (x109, w108)) w108) fun x110 w111 =>
  rd2 (gate x103 true (fun _ => rd (ldV Pg 98 x110 w111) fun x112 => some (x112, w111)) w111) fun x113 w114 =>
  rd2 (gate x103 true (fun _ =>  some ((e 7), w114)) w114) fun x115 w116 =>
  rd2 (gate x103 true (fun _ => rd (ixA Pg 98 x113 x115) fun x117 => some (x117, w116)) w116) fun x118 w119 =>
  rd2 (gate x103 true (fun _ => rd (ldV Pg 55 x118 w119) fun x120 => some (x120, w119)) w119) fun x121 w122 =>
  rd2 (gate x103 true (fun _ =>  some ((e 1), w122)) w122) fun x123 w124 =>
  rd2 (gate x103 true (fun _ =>  some ((e 2), w124)) w124) fun x125 w126 =>
  rd2 (gate x103 true (fun _ => rd2 (F 90 [x121, x123, x125] w126) fun x127 w128 => some (x127, w128)) w126) fun x129 w130 =>
  rd2 (gate x103 true (fun _ => rd (unV .not x129) fun x131 => some (x131, w130)) w130) fun x132 w133 =>
  rd (pickV x103 x132 (.bool false)) fun x134 =>
  cnd x134 (fun _ => shutK (e 50) w133 fun w135 =>
  some ((.bool false), w135)) (fun _ => rd (nilV (e 0)) fun x136 =>
  rd (fldA Pg 100 x136 0) fun x137 =>
  rd (ldV Pg 37 x137 w133) fun x138 =>
  rd2 (lenG false Pg .len #[37] 3 #[false] [x138] w133) fun x139 w140 =>
  rd2 (binG false Pg .eql 3 (.tmp 0) (.tmp 0) (e 7) x139 w140) fun x141 w142 =>
  cnd x141 (fun _ => shutK (e 50) w142 fun w143 =>
  some ((.bool true), w143)) (fun _ => rd (nilV (e 0)) fun x144 =>
  rd (fldA Pg 100 x144 0) fun x145 =>
  rd (ldV Pg 37 x145 w142) fun x146 =>
  rd (ixA Pg 37 x146 (e 7)) fun x147 =>
  rd (ldV Pg 40 x147 w142) fun x148 =>
  rd2 (callV (cx90 F G) (e 2) [x148] w142) fun x149 w150 =>
  rd (unV .not x149) fun x151 =>
  cnd x151 (fun _ => shutK (e 50) w150 fun w152 =>
  some ((.bool false), w152)) (fun _ => rd2 (binG false Pg .add 3 (.tmp 0) (.const .nilFunc) (e 7) (.int .i64 1) w150) fun x153 w154 =>
  evalLoop (cx90 F G) (cdA Go.Proofs.Try.f90 [1, 1, 0, 0]) (K90_1 F G) (upd (upd (upd (upd (upd (upd (upd (upd (upd (upd (upd (upd (upd (upd (upd (upd (upd (upd (upd (upd (upd (upd (upd (upd (upd (upd (upd (upd (upd (upd (upd (upd (upd (upd (upd (upd e 17 (e 0)) 18 x101) 19 x103) 20 x103) 21 x104) 22 x107) 23 x110) 24 x113) 25 x115) 26 x118) 27 x121) 28 x123) 29 x125) 30 x129) 31 x132) 32 x134) 33 (e 7)) 34 (e 0)) 35 x136) 36 x137) 37 x138) 38 x139) 39 x141) 40 (e 2)) 41 (e 0)) 42 x144) 43 x145) 44 x146) 45 (e 7)) 46 x147) 47 x148) 48 x149) 49 x151) 15 (e 7)) 16 x153) 7 x153) w154)))
theorem S90_eq (F : FnT) (G : RndT) (x0 x1 x2 : Value) (w0 : World) : evalCode (cx90 F G) (cdA Go.Proofs.Try.f90 []) (endK Pg Go.Proofs.Try.f90) (envL [x0, x1, x2]) w0 = S90 F G x0 x1 x2 w0 := by kernel_rfl
theorem F90 (x0 x1 x2 : Value) (w0 : World) : Fn Pg 90 [x0, x1, x2] w0 = S90 (Fn Pg) (Rnd Pg) x0 x1 x2 w0 := (Fn_body (c := cdA Go.Proofs.Try.f90 []) Go.Proofs.Try.func90 (by kernel_rfl) (by kernel_rfl) [x0, x1, x2] w0 (Nat.le_of_ble_eq_true (by kernel_rfl))).trans (S90_eq _ _ x0 x1 x2 w0)
theorem S90_L1_eq (F : FnT) (G : RndT) (e : Env) (w0 : World) : evalLoop (cx90 F G) (cdA Go.Proofs.Try.f90 [1, 1, 0, 0]) (K90_1 F G) e w0 = S90_L1 F G e w0 := by
  rw [evalLoop_eq]
  kernel_rfl

-- 91 ciborium/order.ahead
noncomputable def cx91 (F : FnT) (G : RndT) : Ctx := ⟨Pg, F, G, 91, none, 12⟩
noncomputable def S91 (F : FnT) (G : RndT) (x0 x1 : Value) (w0 : World) : R :=
  rd2 (binG false Pg .eql 9 (.tmp 0) (.const .nilFunc) x1 (.string { data := #[] }) w0) fun x3 w4 =>
  rd2 (gate x3 false (fun _ =>  some (x0, w4)) w4) fun x5 w6 =>
  rd2 (gate x3 false (fun _ =>  some (x1, w6)) w6) fun x7 w8 =>
  rd2 (gate x3 false (fun _ => rd2 (binG false Pg .lss 9 (.tmp 0) (.tmp 0) x5 x7 w8) fun x9 w10 => some (x9, w10)) w8) fun x11 w12 =>
  rd (pickV x3 (.bool true) x11) fun x13 =>
  some (x13, w12)
theorem S91_eq (F : FnT) (G : RndT) (x0 x1 : Value) (w0 : World) : evalCode (cx91 F G) (cdA Go.Proofs.Try.f91 []) (endK Pg Go.Proofs.Try.f91) (envL [x0, x1]) w0 = S91 F G x0 x1 w0 := by kernel_rfl
theorem F91 (x0 x1 : Value) (w0 : World) : Fn Pg 91 [x0, x1] w0 = S91 (Fn Pg) (Rnd Pg) x0 x1 w0 := (Fn_body (c := cdA Go.Proofs.Try.f91 []) Go.Proofs.Try.func91 (by kernel_rfl) (by kernel_rfl) [x0, x1] w0 (Nat.le_of_ble_eq_true (by kernel_rfl))).trans (S91_eq _ _ x0 x1 w0)

-- 114 slices.Delete[[]*ciborium/tree.node[int],*ciborium/tree.node[int]]
noncomputable def cx114 (F : FnT) (G : RndT) : Ctx := ⟨Pg, F, G, 114, none, 33⟩
noncomputable def S114 (F : FnT) (G : RndT) (x0 x1 x2 : Value) (w0 : World) : R :=
  rd2 (lenG false Pg .len #[98] 3 #[false] [x0] w0) fun x4 w5 =>
  rd (slV Pg 98 x0 (some x1) (some x2) (some x4)) fun x6 =>
  rd2 (binG false Pg .eql 3 (.tmp 0) (.tmp 0) x1 x2 w5) fun x7 w8 =>
  cnd x7 (fun _ => some (x0, w8)) (fun _ => rd2 (lenG false Pg .len #[98] 3 #[false] [x0] w8) fun x9 w10 =>
  rd (slV Pg 98 x0 none (some x1) none) fun x11 =>
  rd (slV Pg 98 x0 (some x2) none none) fun x12 =>
  rd2 (lenG false Pg .append #[98, 98] 98 #[false, false] [x11, x12] (drw w10)) fun x13 w14 =>
  rd2 (lenG false Pg .len #[98] 3 #[false] [x13] w14) fun x15 w16 =>
  rd (slV Pg 98 x13 (some x15) (some x9) none) fun x17 =>
  rd2 (lenG false Pg .clear #[98] 0 #[false] [x17] w16) fun x18 w19 =>
  some (x13, w19))
theorem S114_eq (F : FnT) (G : RndT) (x0 x1 x2 : Value) (w0 : World) : evalCode (cx114 F G) (cdA Go.Proofs.Try.f114 []) (endK Pg Go.Proofs.Try.f114) (envL [x0, x1, x2]) w0 = S114 F G x0 x1 x2 w0 := by kernel_rfl
theorem F114 (x0 x1 x2 : Value) (w0 : World) : Fn Pg 114 [x0, x1, x2] w0 = S114 (Fn Pg) (Rnd Pg) x0 x1 x2 w0 := (Fn_body (c := cdA Go.Proofs.Try.f114 []) Go.Proofs.Try.func114 (by kernel_rfl) (by kernel_rfl) [x0, x1, x2] w0 (Nat.le_of_ble_eq_true (by kernel_rfl))).trans (S114_eq _ _ x0 x1 x2 w0)

-- 115 (*ciborium/tree.node[int]).lend
noncomputable def cx115 (F : FnT) (G : RndT) : Ctx := ⟨Pg, F, G, 115, none, 162⟩
noncomputable def S115 (F : FnT) (G : RndT) (x0 x1 x2 : Value) (w0 : World) : R :=
  rd (nilV x0) fun x4 =>
  rd (fldA Pg 100 x4 1) fun x5 =>
  rd (ldV Pg 98 x5 (drw w0)) fun x6 =>
  rd (ixA Pg 98 x6 x1) fun x7 =>
  rd (ldV Pg 55 x7 (drw w0)) fun x8 =>
  rd (nilV x0) fun x9 =>
  rd (fldA Pg 100 x9 1) fun x10 =>
  rd (ldV Pg 98 x10 (drw w0)) fun x11 =>
  rd (ixA Pg 98 x11 x2) fun x12 =>
  rd (ldV Pg 55 x12 (drw w0)) fun x13 =>
  rd2 (binG false Pg .lss 3 (.tmp 0) (.tmp 0) x2 x1 (drw w0)) fun x14 w15 =>
  cnd x14 (fun _ => rd (nilV x13) fun x16 =>
  rd (fldA Pg 100 x16 0) fun x17 =>
  rd (ldV Pg 37 x17 w15) fun x18 =>
  rd2 (lenG false Pg .len #[37] 3 #[false] [x18] w15) fun x19 w20 =>
  rd2 (binG false Pg .sub 3 (.tmp 0) (.const .nilFunc) x19 (.int .i64 1) w20) fun x21 w22 =>
  rd (nilV x8) fun x23 =>
  rd (fldA Pg 100 x23 0) fun x24 =>
  rd (ldV Pg 37 x24 (drw w22)) fun x25 =>
  rd (nilV x0) fun x26 =>
  rd (fldA Pg 100 x26 0) fun x27 =>
  rd (ldV Pg 37 x27 (drw w22)) fun x28 =>
  rd (ixA Pg 37 x28 x2) fun x29 =>
  rd (ldV Pg 40 x29 (drw w22)) fun x30 =>
  rd2 (rawV Pg (Instr.buildSlice 37 1 #[(0, x30)]) (drw w22)) fun x31 w32 =>
  rd2 (F 83 [x25, (.int .i64 0), x31] w32) fun x33 w34 =>
  rd (nilV x8) fun x35 =>
  rd (fldA Pg 100 x35 0) fun x36 =>
  rd2 (rawU Pg (Instr.storeAt 37 x36 x33) w34) fun x38 w37 =>
  rd (nilV x0) fun x39 =>
  rd (fldA Pg 100 x39 0) fun x40 =>
  rd (ldV Pg 37 x40 (drw w37)) fun x41 =>
  rd (nilV x13) fun x42 =>
  rd (fldA Pg 100 x42 0) fun x43 =>
  rd (ldV Pg 37 x43 (drw w37)) fun x44 =>
  rd (ixA Pg 37 x44 x21) fun x45 =>
  rd (ldV Pg 40 x45 (drw w37)) fun x46 =>
  rd (ixA Pg 37 x41 x2) fun x47 =>
  rd2 (rawU Pg (Instr.storeAt 40 x47 x46) (drw w37)) fun x49 w48 =>
  rd (nilV x13) fun x50 =>
  rd (fldA Pg 100 x50 0) fun x51 =>
  rd (ldV Pg 37 x51 w48) fun x52 =>
  rd (slV Pg 37 x52 none (some x21) none) fun x53 =>
  rd (nilV x13) fun x54 =>
  rd (fldA Pg 100 x54 0) fun x55 =>
  rd2 (rawU Pg (Instr.storeAt 37 x55 x53) w48) fun x57 w56 =>
  rd2 (F 51 [x13] w56) fun x58 w59 =>
  rd (unV .not x58) fun x60 =>
  cnd x60 (fun _ => rd (nilV x8) fun x61 =>
  rd (fldA Pg 100 x61 1) fun x62 =>
  rd (ldV Pg 98 x62 (drw w59)) fun x63 =>
  rd (nilV x13) fun x64 =>
  rd (fldA Pg 100 x64 1) fun x65 =>
  rd (ldV Pg 98 x65 (drw w59)) fun x66 =>
  rd2 (binG true Pg .add 3 (.tmp 0) (.const .nilFunc) x21 (.int .i64 1) (drw w59)) fun x67 _ =>
  rd (ixA Pg 98 x66 x67) fun x69 =>
  rd (ldV Pg 55 x69 (drw w59)) fun x70 =>
  rd2 (rawV Pg (Instr.buildSlice 98 1 #[(0, x70)]) (drw w59)) fun x71 w72 =>
  rd2 (F 84 [x63, (.int .i64 0), x71] w72) fun x73 w74 =>
  rd (nilV x8) fun x75 =>
  rd (fldA Pg 100 x75 1) fun x76 =>
  rd2 (rawU Pg (Instr.storeAt 98 x76 x73) w74) fun x78 w77 =>
  rd (nilV x13) fun x79 =>
  rd (fldA Pg 100 x79 1) fun x80 =>
  rd (ldV Pg 98 x80 w77) fun x81 =>
  rd2 (binG false Pg .add 3 (.tmp 0) (.const .nilFunc) x21 (.int .i64 1) w77) fun x82 w83 =>
  rd (slV Pg 98 x81 none (some x82) none) fun x84 =>
  rd (nilV x13) fun x85 =>
  rd (fldA Pg 100 x85 1) fun x86 =>
  rd2 (rawU Pg (Instr.storeAt 98 x86 x84) w83) fun x88 w87 =>
  some ((.tuple #[]), w87)) (fun _ => some ((.tuple #[]), w59))) (fun _ => rd (nilV x8) fun x89 =>
  rd (fldA Pg 100 x89 0) fun x90 =>
  rd (ldV Pg 37 x90 (drw w15)) fun x91 =>
  rd (nilV x0) fun x92 =>
  rd (fldA Pg 100 x92 0) fun x93 =>
  rd (ldV Pg 37 x93 (drw w15)) fun x94 =>
  rd (ixA Pg 37 x94 x1) fun x95 =>
  rd (ldV Pg 40 x95 (drw w15)) fun x96 =>
  rd2 (rawV Pg (Instr.buildSlice 37 1 #[(0, x96)]) (drw w15)) fun x97 w98 =>
  rd2 (lenG false Pg .append #[37, 37] 37 #[false, false] [x91, x97] w98) fun x99 w100 =>
  rd (nilV x8) fun x101 =>
  rd (fldA Pg 100 x101 0) fun x102 =>
  rd2 (rawU Pg (Instr.storeAt 37 x102 x99) w100) fun x104 w103 =>
  rd (nilV x0) fun x105 =>
  rd (fldA Pg 100 x105 0) fun x106 =>
  rd (ldV Pg 37 x106 (drw w103)) fun x107 =>
  rd (nilV x13) fun x108 =>
  rd (fldA Pg 100 x108 0) fun x109 =>
  rd (ldV Pg 37 x109 (drw w103)) fun x110 =>
  rd (ixA Pg 37 x110 (.int .i64 0)) fun x111 =>
  rd (ldV Pg 40 x111 (drw w103)) fun x112 =>
  rd (ixA Pg 37 x107 x1) fun x113 =>
  rd2 (rawU Pg (Instr.storeAt 40 x113 x112) (drw w103)) fun x115 w114 =>
  rd (nilV x13) fun x116 =>
  rd (fldA Pg 100 x116 0) fun x117 =>
  rd (ldV Pg 37 x117 w114) fun x118 =>
  rd2 (F 85 [x118, (.int .i64 0), (.int .i64 1)] w114) fun x119 w120 =>
  rd (nilV x13) fun x121 =>
  rd (fldA Pg 100 x121 0) fun x122 =>
  rd2 (rawU Pg (Instr.storeAt 37 x122 x119) w120) fun x124 w123 =>
  rd2 (F 51 [x13] w123) fun x125 w126 =>
  rd (unV .not x125) fun x127 =>
  cnd x127 (fun _ => rd (nilV x8) fun x128 =>
  rd (fldA Pg 100 x128 1) fun x129 =>
  rd (ldV Pg 98 x129 (drw w126)) fun x130 =>
  rd (nilV x13) fun x131 =>
  rd (fldA Pg 100 x131 1) fun x132 =>
  rd (ldV Pg 98 x132 (drw w126)) fun x133 =>
  rd (ixA Pg 98 x133 (.int .i64 0)) fun x134 =>
  rd (ldV Pg 55 x134 (drw w126)) fun x135 =>
  rd2 (rawV Pg (Instr.buildSlice 98 1 #[(0, x135)]) (drw w126)) fun x136 w137 =>
  rd2 (lenG false Pg .append #[98, 98] 98 #[false, false] [x130, x136] w137) fun x138 w139 =>
  rd (nilV x8) fun x140 =>
  rd (fldA Pg 100 x140 1) fun x141 =>
  rd2 (rawU Pg (Instr.storeAt 98 x141 x138) w139) fun x143 w142 =>
  rd (nilV x13) fun x144 =>
  rd (fldA Pg 100 x144 1) fun x145 =>
  rd (ldV Pg 98 x145 w142) fun x146 =>
  rd2 (F 114 [x146, (.int .i64 0), (.int .i64 1)] w142) fun x147 w148 =>
  rd (nilV x13) fun x149 =>
  rd (fldA Pg 100 x149 1) fun x150 =>
  rd2 (rawU Pg (Instr.storeAt 98 x150 x147) w148) fun x152 w151 =>
  some ((.tuple #[]), w151)) (fun _ => some ((.tuple #[]), w126)))
theorem S115_eq (F : FnT) (G : RndT) (x0 x1 x2 : Value) (w0 : World) : evalCode (cx115 F G) (cdA Go.Proofs.Try.f115 []) (endK Pg Go.Proofs.Try.f115) (envL [x0, x1, x2]) w0 = S115 F G x0 x1 x2 w0 := by kernel_rfl
theorem F115 (x0 x1 x2 : Value) (w0 : World) : Fn Pg 115 [x0, x1, x2] w0 = S115 (Fn Pg) (Rnd Pg) x0 x1 x2 w0 := (Fn_body (c := cdA Go.Proofs.Try.f115 []) Go.Proofs.Try.func115 (by kernel_rfl) (by kernel_rfl) [x0, x1, x2] w0 (Nat.le_of_ble_eq_true (by kernel_rfl))).trans (S115_eq _ _ x0 x1 x2 w0)

end Go.Cb
