/-
  BODIES OF FUNCTIONS OF THE PROGRAM AS SMALL OPERATIONS (written by gen.py; checked by the kernel against the program). Conditions: none.
-/
import Derived.Test.YthnpflkpjimkfaaKAmH
import Derived.Test.YthnpflkpjimkfaaK02
import Derived.Test.YthnpflkpjimkfaaK03
import Derived.Test.YthnpflkpjimkfaaK01
import Derived.Test.YthnpflkpjimkfaaK00
set_option linter.all false
namespace Go.Proofs.Ythnpflkpjimkfaa
open Go.AM
open Go.Proofs.Try (prog)
set_option maxRecDepth 100000
set_option linter.all false
namespace l07_BrandProduct
noncomputable section
variable (K : List Item) (s : St)
def b : Code := (Try.f8.body).getD .skip
theorem hf : prog.funcs[8]? = some Try.f8 := by kernel_rfl
def r0 := findReg b 0
def r1 := findReg b 1
def r2 := findReg b 2
def r3 := findReg b 3
def r4 := findReg b 4
def i0 := findCond b 0
def i0t := thenOf i0
def i0e := elseOf i0
def r5 := findReg b 5
def r6 := findReg b 6
def r7 := findReg b 7
def r8 := findReg b 8
def r9 := findReg b 9
def r10 := findReg b 10
def r11 := findReg b 11
def r12 := findReg b 12
def r13 := findReg b 13
def i1 := findCond b 1
def i1t := thenOf i1
def i1e := elseOf i1
def r14 := findReg b 14
def r15 := findReg b 15
def r16 := findReg b 16
def r17 := findReg b 17
def r18 := findReg b 18
def k0 := findBlk b 0
def l0 := loopOf k0
def L0 (x10 x18 x26 x27 x28 x29 x30 x31 : AV) (m : Mem) (K : List Item) : Option Res := den prog ann 8 (.code l0 :: .inLoop l0 :: .inBlock 0 :: K) ⟨[(10, x10), (18, x18), (26, x26), (27, x27), (28, x28), (29, x29), (30, x30), (31, x31)], 188, m⟩
def r19 := findReg b 19
def i2 := findCond b 2
def i2t := thenOf i2
def i2e := elseOf i2
def k1 := findBlk b 1
def r21 := findReg b 21
def r20 := findReg b 20
def r22 := findReg b 22
theorem b_eq : den prog ann 8 (.code b :: K) s = den prog ann 8 (.code r0 :: .code r1 :: .code r2 :: .code r3 :: .code r4 :: .code i0 :: .code r7 :: .code r8 :: .code r9 :: .code r10 :: .code r11 :: .code r12 :: .code r13 :: .code i1 :: .code r15 :: .code r16 :: .code r17 :: .code r18 :: .code k0 :: .code r22 :: .code .ret :: K) s := den_flat hf (l := [r0, r1, r2, r3, r4, i0, r7, r8, r9, r10, r11, r12, r13, i1, r15, r16, r17, r18, k0, r22, .ret]) (by kernel_rfl) K s
theorem r0_eq : den prog ann 8 (.code r0 :: K) s = mreg prog ann 8 none [] none [] [qA 3 frozenPtr 0,qF 6 fun s => some (.bool false)] K s := (den_reg hf _ K s).trans (by kernel_rfl)
theorem r1_eq : den prog ann 8 (.code r1 :: K) s = mreg prog ann 8 none [] none [7] [qA 32 (loadF true 4) 3,⟨some 33, none, .c 0 (fun s => (.fn 22 [] [])) fun s => [(s.get 32)]⟩,⟨some 7, none, .w false none fun s => newPtr s.m [.nils, .nils]⟩,⟨none, none, .w false none fun s => stA true 2 s.m (s.get 7) (s.get 33)⟩] K s := (den_reg hf _ K s).trans (by kernel_rfl)
theorem r2_draw : drawOk (fun g => (ann g).pure) (modeOf (ann 8) (idOf r2)) (frzOf (ann 8) (idOf r2)) (opsOf r2) = true := drawOk_of (an := [0, 0, 3, 0, 0, 31, 63, 127]) (by kernel_rfl) (by kernel_rfl)
theorem r2_eq : den prog ann 8 (.code r2 :: K) s = mreg prog ann 8 none [] (some 8) [] [qA 34 (loadF true 2) 7,qC 35 1,⟨some 36, none, .c 0 (fun s => (.fn 35 [] [])) fun s => [(s.get 34), (s.get 35), (.int .i64 30)]⟩,qA 37 (loadF true 2) 7,qC 38 2,⟨some 39, none, .c 0 (fun s => (.fn 35 [] [])) fun s => [(s.get 37), (s.get 38), (.int .i64 30)]⟩,qC 8 36,qC 9 39] K s := (den_regD hf r2_draw K s).trans (by kernel_rfl)
theorem r3_eq : den prog ann 8 (.code r3 :: K) s = mreg prog ann 8 none [] none [] [qA 41 (loadF true 2) 7,⟨some 42, none, .c 2 (fun s => (.fn 36 [] [])) fun s => [(s.get 41)]⟩,qC 40 42,qF 43 fun s => extA (s.get 40) 0,qF 44 fun s => extA (s.get 40) 1,qC 10 43,qC 11 44] K s := (den_reg hf _ K s).trans (by kernel_rfl)
theorem r4_eq : den prog ann 8 (.code r4 :: K) s = mreg prog ann 8 none [] none [] [qC 45 11,qF 46 fun s => binA prog .eql 27 (s.get 45) (.int .i64 7)] K s := (den_reg hf _ K s).trans (by kernel_rfl)
theorem i0_eq : den prog ann 8 (.code i0 :: K) s = ifV prog ann 8 46 i0t i0e K s (s.get 46) := den_if hf (by kernel_rfl) K s
theorem i0t_eq : den prog ann 8 (.code i0t :: K) s = den prog ann 8 (.code r5 :: .code r6 :: .code .ret :: K) s := den_flat hf (l := [r5, r6, .ret]) (by kernel_rfl) K s
theorem r5_eq : den prog ann 8 (.code r5 :: K) s = mreg prog ann 8 none [] none [] [qA 48 (loadF true 2) 7,qC 49 8,⟨some 50, none, .c 0 (fun s => (.fn 37 [] [])) fun s => [(s.get 48), (s.get 49)]⟩,qC 47 50,qF 51 fun s => extA (s.get 47) 0,qF 52 fun s => extA (s.get 47) 1,qC 12 51,qC 13 52] K s := (den_reg hf _ K s).trans (by kernel_rfl)
theorem r6_eq : den prog ann 8 (.code r6 :: K) s = mreg prog ann 8 none [] none [] [qC 53 10,qA 54 lenSl 53,qF 55 fun s => binA prog .eql 3 (s.get 54) (.int .i64 0),qC 56 55,⟨some 57, some (56, true), .v fun s => some (s.get 13)⟩,⟨some 58, some (56, true), .v fun s => binA prog .eql 27 (s.get 57) (.int .i64 7)⟩,qF 59 fun s => pickA (s.get 56) (s.get 58) (.bool false),qC 60 59,⟨some 61, some (60, true), .c 0 (fun s => (.fn 21 [] [])) fun s => []⟩,qF 62 fun s => pickA (s.get 60) (s.get 61) (.bool false),qC 6 62] K s := (den_reg hf _ K s).trans (by kernel_rfl)
theorem i0e_eq : den prog ann 8 (.code i0e :: K) s = den prog ann 8 (K) s := den_flat hf (l := []) (by kernel_rfl) K s
theorem r7_eq : den prog ann 8 (.code r7 :: K) s = mreg prog ann 8 none [] none [] [qA 64 (loadF true 2) 7,qC 65 8,⟨some 66, none, .c 0 (fun s => (.fn 37 [] [])) fun s => [(s.get 64), (s.get 65)]⟩,qC 63 66,qF 67 fun s => extA (s.get 63) 0,qF 68 fun s => extA (s.get 63) 1,qC 14 67,qC 15 68] K s := (den_reg hf _ K s).trans (by kernel_rfl)
theorem r8_eq : den prog ann 8 (.code r8 :: K) s = mreg prog ann 8 none [] none [] [qA 70 (loadF true 2) 7,qC 71 9,⟨some 72, none, .c 0 (fun s => (.fn 37 [] [])) fun s => [(s.get 70), (s.get 71)]⟩,qC 69 72,qF 73 fun s => extA (s.get 69) 0,qF 74 fun s => extA (s.get 69) 1,qC 16 73,qC 17 74] K s := (den_reg hf _ K s).trans (by kernel_rfl)
theorem r9_eq : den prog ann 8 (.code r9 :: K) s = mreg prog ann 8 none [] none [] [qA 76 (loadF true 2) 7,qC 77 8,qC 78 9,qB 79 (binA prog .add 9) 77 78,⟨some 80, none, .c 0 (fun s => (.fn 37 [] [])) fun s => [(s.get 76), (s.get 79)]⟩,qC 75 80,qF 81 fun s => extA (s.get 75) 0,qF 82 fun s => extA (s.get 75) 1,qC 18 81,qC 19 82] K s := (den_reg hf _ K s).trans (by kernel_rfl)
theorem r10_eq : den prog ann 8 (.code r10 :: K) s = mreg prog ann 8 none [] none [] [qA 84 (loadF true 2) 7,qC 85 14,qC 86 16,qB 87 (binA prog .add 9) 85 86,⟨some 88, none, .c 0 (fun s => (.fn 37 [] [])) fun s => [(s.get 84), (s.get 87)]⟩,qC 83 88,qF 89 fun s => extA (s.get 83) 0,qF 90 fun s => extA (s.get 83) 1,qC 20 89,qC 21 90] K s := (den_reg hf _ K s).trans (by kernel_rfl)
theorem r11_eq : den prog ann 8 (.code r11 :: K) s = mreg prog ann 8 none [] none [22] [qA 92 (loadF true 2) 7,⟨some 93, none, .c 2 (fun s => (.fn 26 [] [])) fun s => [(s.get 92)]⟩,qC 91 93,qF 94 fun s => extA (s.get 91) 0,qF 95 fun s => extA (s.get 91) 1,⟨some 22, none, .w false none fun s => newPtr s.m [.nils, .nils]⟩,⟨none, none, .w false none fun s => stA true 2 s.m (s.get 22) (s.get 94)⟩,qC 23 95] K s := (den_reg hf _ K s).trans (by kernel_rfl)
theorem r12_eq : den prog ann 8 (.code r12 :: K) s = mreg prog ann 8 none [] none [] [qA 97 (loadF true 2) 22,⟨some 98, none, .c 2 (fun s => (.fn 36 [] [])) fun s => [(s.get 97)]⟩,qC 96 98,qF 99 fun s => extA (s.get 96) 0,qF 100 fun s => extA (s.get 96) 1,qC 24 99,qC 25 100] K s := (den_reg hf _ K s).trans (by kernel_rfl)
theorem r13_eq : den prog ann 8 (.code r13 :: K) s = mreg prog ann 8 none [] none [] [qC 101 11,qF 102 fun s => binA prog .neq 27 (s.get 101) (.int .i64 0),qC 103 102,⟨some 104, some (103, false), .v fun s => some (s.get 15)⟩,⟨some 105, some (103, false), .v fun s => binA prog .neq 27 (s.get 104) (.int .i64 0)⟩,qF 106 fun s => pickA (s.get 103) (.bool true) (s.get 105),qC 107 106,⟨some 108, some (107, false), .v fun s => some (s.get 17)⟩,⟨some 109, some (107, false), .v fun s => binA prog .neq 27 (s.get 108) (.int .i64 0)⟩,qF 110 fun s => pickA (s.get 107) (.bool true) (s.get 109),qC 111 110,⟨some 112, some (111, false), .v fun s => some (s.get 19)⟩,⟨some 113, some (111, false), .v fun s => binA prog .neq 27 (s.get 112) (.int .i64 0)⟩,qF 114 fun s => pickA (s.get 111) (.bool true) (s.get 113),qC 115 114,⟨some 116, some (115, false), .v fun s => some (s.get 21)⟩,⟨some 117, some (115, false), .v fun s => binA prog .neq 27 (s.get 116) (.int .i64 0)⟩,qF 118 fun s => pickA (s.get 115) (.bool true) (s.get 117),qC 119 118,⟨some 120, some (119, false), .v fun s => some (s.get 23)⟩,⟨some 121, some (119, false), .v fun s => binA prog .neq 27 (s.get 120) (.int .i64 0)⟩,qF 122 fun s => pickA (s.get 119) (.bool true) (s.get 121),qC 123 122,⟨some 124, some (123, false), .v fun s => some (s.get 25)⟩,⟨some 125, some (123, false), .v fun s => binA prog .neq 27 (s.get 124) (.int .i64 0)⟩,qF 126 fun s => pickA (s.get 123) (.bool true) (s.get 125),qC 127 126,⟨some 128, some (127, false), .v fun s => some (s.get 18)⟩,⟨some 129, some (127, false), .v fun s => some (s.get 20)⟩,⟨some 130, some (127, false), .v fun s => binA prog .neq 9 (s.get 128) (s.get 129)⟩,qF 131 fun s => pickA (s.get 127) (.bool true) (s.get 130),qC 132 131,⟨some 133, some (132, false), .v fun s => some (s.get 10)⟩,⟨some 134, some (132, false), .v fun s => some (s.get 24)⟩,⟨some 135, some (132, false), .c 0 (fun s => (.fn 38 [] [])) fun s => [(s.get 133), (s.get 134)]⟩,⟨some 136, some (132, false), .v fun s => unA .not (s.get 135)⟩,qF 137 fun s => pickA (s.get 132) (.bool true) (s.get 136),qC 138 137,⟨some 139, some (138, false), .v fun s => some (s.get 8)⟩,⟨some 140, some (138, false), .v fun s => some (s.get 14)⟩,⟨some 141, some (138, false), .c 0 (fun s => (.fn 39 [] [])) fun s => [(s.get 139), (s.get 140)]⟩,qF 142 fun s => pickA (s.get 138) (.bool true) (s.get 141),qC 143 142,⟨some 144, some (143, false), .c 0 (fun s => (.fn 21 [] [])) fun s => []⟩,⟨some 145, some (143, false), .v fun s => unA .not (s.get 144)⟩,qF 146 fun s => pickA (s.get 143) (.bool true) (s.get 145)] K s := (den_reg hf _ K s).trans (by kernel_rfl)
theorem i1_eq : den prog ann 8 (.code i1 :: K) s = ifV prog ann 8 146 i1t i1e K s (s.get 146) := den_if hf (by kernel_rfl) K s
theorem i1t_eq : den prog ann 8 (.code i1t :: K) s = den prog ann 8 (.code r14 :: .code .ret :: K) s := den_flat hf (l := [r14, .ret]) (by kernel_rfl) K s
theorem r14_eq : den prog ann 8 (.code r14 :: K) s = mreg prog ann 8 none [] none [] [qF 6 fun s => some (.bool false)] K s := (den_reg hf _ K s).trans (by kernel_rfl)
theorem i1e_eq : den prog ann 8 (.code i1e :: K) s = den prog ann 8 (K) s := den_flat hf (l := []) (by kernel_rfl) K s
theorem r15_eq : den prog ann 8 (.code r15 :: K) s = mreg prog ann 8 none [] none [] [qA 148 (loadF true 2) 7,qC 149 8,⟨some 150, none, .c 0 (fun s => (.fn 31 [] [])) fun s => [(s.get 148), (s.get 149)]⟩,qC 147 150,qF 151 fun s => extA (s.get 147) 0,qF 152 fun s => extA (s.get 147) 1,qC 26 151,qC 27 152] K s := (den_reg hf _ K s).trans (by kernel_rfl)
theorem r16_eq : den prog ann 8 (.code r16 :: K) s = mreg prog ann 8 none [] none [] [qA 154 (loadF true 2) 7,qC 155 14,⟨some 156, none, .c 0 (fun s => (.fn 31 [] [])) fun s => [(s.get 154), (s.get 155)]⟩,qC 153 156,qF 157 fun s => extA (s.get 153) 0,qF 158 fun s => extA (s.get 153) 1,qC 28 157,qC 29 158] K s := (den_reg hf _ K s).trans (by kernel_rfl)
theorem r17_eq : den prog ann 8 (.code r17 :: K) s = mreg prog ann 8 none [] none [] [qF 30 fun s => some (.bool false)] K s := (den_reg hf _ K s).trans (by kernel_rfl)
theorem r18_eq : den prog ann 8 (.code r18 :: K) s = mreg prog ann 8 none [] none [] [qF 31 fun s => some (.int .i64 0)] K s := (den_reg hf _ K s).trans (by kernel_rfl)
theorem k0_eq (K : List Item) (t : List (Nat × AV)) (m : Mem) : den prog ann 8 (.code k0 :: K) ⟨t, 188, m⟩ = L0 (get t 10) (get t 18) (get t 26) (get t 27) (get t 28) (get t 29) (get t 30) (get t 31) m K := den_loop_enter hf (b := l0) (id := 19) (l := [10, 18, 26, 27, 28, 29, 30, 31]) (by kernel_rfl) (by kernel_rfl) (by kernel_rfl) K _
theorem l0_eq (K : List Item) (t : List (Nat × AV)) (m : Mem) : den prog ann 8 (.inLoop l0 :: .inBlock 0 :: K) ⟨t, 188, m⟩ = L0 (get t 10) (get t 18) (get t 26) (get t 27) (get t 28) (get t 29) (get t 30) (get t 31) m K := den_loop_again hf (id := 19) (l := [10, 18, 26, 27, 28, 29, 30, 31]) (by kernel_rfl) (by kernel_rfl) (.inBlock 0 :: K) _
theorem L0_eq (x10 x18 x26 x27 x28 x29 x30 x31 : AV) (m : Mem) (K : List Item) : L0 x10 x18 x26 x27 x28 x29 x30 x31 m K = den prog ann 8 (.code r19 :: .code i2 :: .code k1 :: .code r20 :: .inLoop l0 :: .inBlock 0 :: K) ⟨[(10, x10), (18, x18), (26, x26), (27, x27), (28, x28), (29, x29), (30, x30), (31, x31)], 188, m⟩ := den_flat hf (l := [r19, i2, k1, r20]) (by kernel_rfl) _ _
theorem r19_eq : den prog ann 8 (.code r19 :: K) s = mreg prog ann 8 (some [10, 18, 26, 27, 28, 29, 30, 31]) [] none [] [qC 159 31,qC 160 10,qA 161 lenSl 160,qB 162 (binA prog .lss 3) 159 161] K s := (den_reg hf _ K s).trans (by kernel_rfl)
theorem i2_eq : den prog ann 8 (.code i2 :: K) s = ifV prog ann 8 162 i2t i2e K s (s.get 162) := den_if hf (by kernel_rfl) K s
theorem i2t_eq : den prog ann 8 (.code i2t :: K) s = den prog ann 8 (K) s := den_flat hf (l := []) (by kernel_rfl) K s
theorem i2e_eq : den prog ann 8 (.code i2e :: K) s = den prog ann 8 (.code (.exit 0) :: K) s := den_flat hf (l := [(.exit 0)]) (by kernel_rfl) K s
theorem k1_eq : den prog ann 8 (.code k1 :: K) s = den prog ann 8 (.code r21 :: .inBlock 1 :: K) s := den_blk hf (b := blkOf k1) (l := [r21]) (by kernel_rfl) (by kernel_rfl) K s
theorem r21_eq : den prog ann 8 (.code r21 :: K) s = mreg prog ann 8 none [] none [] [qC 165 30,qC 166 165,⟨some 167, some (166, false), .v fun s => some (s.get 10)⟩,⟨some 168, some (166, false), .v fun s => some (s.get 31)⟩,⟨some 169, some (166, false), .v fun s => idxSl 1 (s.get 167) (s.get 168)⟩,⟨some 170, some (166, false), .v fun s => loadF false 1 (s.get 169)⟩,⟨some 171, some (166, false), .v fun s => some (s.get 18)⟩,⟨some 172, some (166, false), .v fun s => binA prog .eql 9 (s.get 170) (s.get 171)⟩,qF 173 fun s => pickA (s.get 166) (.bool true) (s.get 172),qC 30 173] K s := (den_reg hf _ K s).trans (by kernel_rfl)
theorem r20_eq : den prog ann 8 (.code r20 :: K) s = mreg prog ann 8 (some [10, 18, 26, 27, 28, 29, 30, 31]) [] none [] [qC 163 31,qF 164 fun s => binA prog .add 3 (s.get 163) (.int .i64 1),qC 31 164] K s := (den_reg hf _ K s).trans (by kernel_rfl)
theorem r22_eq : den prog ann 8 (.code r22 :: K) s = mreg prog ann 8 (some [26, 27, 28, 29, 30]) [] none [] [qC 174 27,qF 175 fun s => binA prog .eql 27 (s.get 174) (.int .i64 0),qC 176 175,⟨some 177, some (176, true), .v fun s => some (s.get 29)⟩,⟨some 178, some (176, true), .v fun s => binA prog .eql 27 (s.get 177) (.int .i64 0)⟩,qF 179 fun s => pickA (s.get 176) (s.get 178) (.bool false),qC 180 179,⟨some 181, some (180, true), .v fun s => some (s.get 26)⟩,⟨some 182, some (180, true), .v fun s => some (s.get 28)⟩,⟨some 183, some (180, true), .v fun s => binA prog .eql 4 (s.get 181) (s.get 182)⟩,qF 184 fun s => pickA (s.get 180) (s.get 183) (.bool false),qC 185 184,⟨some 186, some (185, true), .v fun s => some (s.get 30)⟩,qF 187 fun s => pickA (s.get 185) (s.get 186) (.bool false),qC 6 187] K s := (den_reg hf _ K s).trans (by kernel_rfl)
theorem ret_eq : den prog ann 8 (.code .ret :: K) s = finM true [fun s => some (s.get 6)] s := (den_ret hf K s).trans (by kernel_rfl)
theorem nil_eq (s : St) : den prog ann 8 [] s = finM true [fun s => some (s.get 6)] s := (den_nil hf s).trans (by kernel_rfl)
theorem inBlock_eq (id : Nat) (K : List Item) (s : St) : den prog ann 8 (.inBlock id :: K) s = den prog ann 8 K s := den_inBlock hf id K s
theorem exit_eq (id : Nat) (K : List Item) (s : St) : den prog ann 8 (.code (.exit id) :: K) s = exitV prog ann 8 (exitTo id K) s := den_exitV hf id K s
theorem call_eq (v0 v1 v2 : AV) (m : Mem) (h : closedL [v0, v1, v2] = true) : denC prog ann 8 [v0, v1, v2] m = (den prog ann 8 [.code b] ⟨[(0, v0), (1, v1), (2, v2)], 188, Mem.empty⟩).bind fun r => some (r.1, m) := (denC_pure hf (b := b) (by kernel_rfl) (by kernel_rfl) (by kernel_rfl) h m).trans (by kernel_rfl)
theorem pure_eq : (ann 8).pure = true := by kernel_rfl
attribute [simp] b_eq r0_eq r1_eq r2_eq r3_eq r4_eq i0_eq i0t_eq r5_eq r6_eq i0e_eq r7_eq r8_eq r9_eq r10_eq r11_eq r12_eq r13_eq i1_eq i1t_eq r14_eq i1e_eq r15_eq r16_eq r17_eq r18_eq k0_eq l0_eq r19_eq i2_eq i2t_eq i2e_eq k1_eq r21_eq r20_eq r22_eq ret_eq nil_eq inBlock_eq exit_eq pure_eq
end
end l07_BrandProduct
namespace l07_word
noncomputable section
variable (K : List Item) (s : St)
def b : Code := (Try.f35.body).getD .skip
theorem hf : prog.funcs[35]? = some Try.f35 := by kernel_rfl
def r0 := findReg b 0
def r1 := findReg b 1
def r2 := findReg b 2
def k0 := findBlk b 0
def l0 := loopOf k0
def L0 (x1 x2 x7 x8 x9 : AV) (m : Mem) (K : List Item) : Option Res := den prog ann 35 (.code l0 :: .inLoop l0 :: .inBlock 0 :: K) ⟨[(1, x1), (2, x2), (7, x7), (8, x8), (9, x9)], 45, m⟩
def r3 := findReg b 3
def i0 := findCond b 0
def i0t := thenOf i0
def i0e := elseOf i0
def k1 := findBlk b 1
def r5 := findReg b 5
def r4 := findReg b 4
def r6 := findReg b 6
theorem b_eq : den prog ann 35 (.code b :: K) s = den prog ann 35 (.code r0 :: .code r1 :: .code r2 :: .code k0 :: .code r6 :: .code .ret :: K) s := den_flat hf (l := [r0, r1, r2, k0, r6, .ret]) (by kernel_rfl) K s
theorem r0_eq : den prog ann 35 (.code r0 :: K) s = mreg prog ann 35 none [] none [] [qA 3 frozenPtr 0,qF 6 fun s => some (.str [])] K s := (den_reg hf _ K s).trans (by kernel_rfl)
theorem r1_draw : drawOk (fun g => (ann g).pure) (modeOf (ann 35) (idOf r1)) (frzOf (ann 35) (idOf r1)) (opsOf r1) = true := drawOk_of (an := [0, 1, 3, 7, 15, 0, 63]) (by kernel_rfl) (by kernel_rfl)
theorem r1_eq : den prog ann 35 (.code r1 :: K) s = mreg prog ann 35 none [] (some 7) [] [qA 10 (fieldA 0) 3,qA 11 (loadF false 1) 10,qF 12 fun s => idxSl 1 (s.get 11) (.int .i64 0),qA 13 (loadF false 1) 12,qA 14 lenSl 13,qF 7 fun s => some (.str []),qC 8 14] K s := (den_regD hf r1_draw K s).trans (by kernel_rfl)
theorem r2_eq : den prog ann 35 (.code r2 :: K) s = mreg prog ann 35 none [] none [] [qF 9 fun s => some (.int .i64 0)] K s := (den_reg hf _ K s).trans (by kernel_rfl)
theorem k0_eq (K : List Item) (t : List (Nat × AV)) (m : Mem) : den prog ann 35 (.code k0 :: K) ⟨t, 45, m⟩ = L0 (get t 1) (get t 2) (get t 7) (get t 8) (get t 9) m K := den_loop_enter hf (b := l0) (id := 3) (l := [1, 2, 7, 8, 9]) (by kernel_rfl) (by kernel_rfl) (by kernel_rfl) K _
theorem l0_eq (K : List Item) (t : List (Nat × AV)) (m : Mem) : den prog ann 35 (.inLoop l0 :: .inBlock 0 :: K) ⟨t, 45, m⟩ = L0 (get t 1) (get t 2) (get t 7) (get t 8) (get t 9) m K := den_loop_again hf (id := 3) (l := [1, 2, 7, 8, 9]) (by kernel_rfl) (by kernel_rfl) (.inBlock 0 :: K) _
theorem L0_eq (x1 x2 x7 x8 x9 : AV) (m : Mem) (K : List Item) : L0 x1 x2 x7 x8 x9 m K = den prog ann 35 (.code r3 :: .code i0 :: .code k1 :: .code r4 :: .inLoop l0 :: .inBlock 0 :: K) ⟨[(1, x1), (2, x2), (7, x7), (8, x8), (9, x9)], 45, m⟩ := den_flat hf (l := [r3, i0, k1, r4]) (by kernel_rfl) _ _
theorem r3_eq : den prog ann 35 (.code r3 :: K) s = mreg prog ann 35 (some [1, 2, 7, 8, 9]) [] none [] [qC 15 9,qC 16 1,qA 17 lenSl 16,qB 18 (binA prog .lss 3) 15 17,qC 19 18,⟨some 20, some (19, true), .v fun s => some (s.get 9)⟩,⟨some 21, some (19, true), .v fun s => some (s.get 2)⟩,⟨some 22, some (19, true), .v fun s => binA prog .lss 3 (s.get 20) (s.get 21)⟩,qF 23 fun s => pickA (s.get 19) (s.get 22) (.bool false)] K s := (den_reg hf _ K s).trans (by kernel_rfl)
theorem i0_eq : den prog ann 35 (.code i0 :: K) s = ifV prog ann 35 23 i0t i0e K s (s.get 23) := den_if hf (by kernel_rfl) K s
theorem i0t_eq : den prog ann 35 (.code i0t :: K) s = den prog ann 35 (K) s := den_flat hf (l := []) (by kernel_rfl) K s
theorem i0e_eq : den prog ann 35 (.code i0e :: K) s = den prog ann 35 (.code (.exit 0) :: K) s := den_flat hf (l := [(.exit 0)]) (by kernel_rfl) K s
theorem k1_eq : den prog ann 35 (.code k1 :: K) s = den prog ann 35 (.code r5 :: .inBlock 1 :: K) s := den_blk hf (b := blkOf k1) (l := [r5]) (by kernel_rfl) (by kernel_rfl) K s
theorem r5_draw : drawOk (fun g => (ann g).pure) (modeOf (ann 35) (idOf r5)) (frzOf (ann 35) (idOf r5)) (opsOf r5) = true := drawOk_of (an := [0, 0, 0, 6, 14, 30, 0, 126, 0, 0, 768, 1792, 3840, 0, 16128, 32512, 65534, 131071, 262143]) (by kernel_rfl) (by kernel_rfl)
theorem r5_eq : den prog ann 35 (.code r5 :: K) s = mreg prog ann 35 none [] (some 19) [] [qC 26 7,qC 27 1,qC 28 9,qB 29 (idxSl 1) 27 28,qA 30 (loadF false 1) 29,qA 31 (convInt .i64) 30,qC 32 8,qB 33 (binA prog .rem 3) 31 32,qC 34 1,qC 35 9,qB 36 (idxSl 1) 34 35,qA 37 (loadF false 1) 36,qA 38 (convInt .i64) 37,qC 39 8,qB 40 (binA prog .rem 3) 38 39,qF 41 fun s => binA prog .add 3 (s.get 40) (.int .i64 1),qF 42 fun s => sliceStr (.str [97, 98, 99]) (some (s.get 33)) (some (s.get 41)),qB 43 (binA prog .add 9) 26 42,qC 7 43] K s := (den_regD hf r5_draw K s).trans (by kernel_rfl)
theorem r4_eq : den prog ann 35 (.code r4 :: K) s = mreg prog ann 35 (some [1, 2, 7, 8, 9]) [] none [] [qC 24 9,qF 25 fun s => binA prog .add 3 (s.get 24) (.int .i64 1),qC 9 25] K s := (den_reg hf _ K s).trans (by kernel_rfl)
theorem r6_eq : den prog ann 35 (.code r6 :: K) s = mreg prog ann 35 (some [7]) [] none [] [qC 44 7,qC 6 44] K s := (den_reg hf _ K s).trans (by kernel_rfl)
theorem ret_eq : den prog ann 35 (.code .ret :: K) s = finM true [fun s => some (s.get 6)] s := (den_ret hf K s).trans (by kernel_rfl)
theorem nil_eq (s : St) : den prog ann 35 [] s = finM true [fun s => some (s.get 6)] s := (den_nil hf s).trans (by kernel_rfl)
theorem inBlock_eq (id : Nat) (K : List Item) (s : St) : den prog ann 35 (.inBlock id :: K) s = den prog ann 35 K s := den_inBlock hf id K s
theorem exit_eq (id : Nat) (K : List Item) (s : St) : den prog ann 35 (.code (.exit id) :: K) s = exitV prog ann 35 (exitTo id K) s := den_exitV hf id K s
theorem call_eq (v0 v1 v2 : AV) (m : Mem) (h : closedL [v0, v1, v2] = true) : denC prog ann 35 [v0, v1, v2] m = (den prog ann 35 [.code b] ⟨[(0, v0), (1, v1), (2, v2)], 45, Mem.empty⟩).bind fun r => some (r.1, m) := (denC_pure hf (b := b) (by kernel_rfl) (by kernel_rfl) (by kernel_rfl) h m).trans (by kernel_rfl)
theorem pure_eq : (ann 35).pure = true := by kernel_rfl
attribute [simp] b_eq r0_eq r1_eq r2_eq k0_eq l0_eq r3_eq i0_eq i0t_eq i0e_eq k1_eq r5_eq r4_eq r6_eq ret_eq nil_eq inBlock_eq exit_eq pure_eq
end
end l07_word
end Go.Proofs.Ythnpflkpjimkfaa

/-
  BODIES OF FUNCTIONS OF THE PROGRAM AS SMALL OPERATIONS (written by gen.py; checked by the kernel against the program). Conditions: none.
-/
namespace Go.Proofs.Ythnpflkpjimkfaa
open Go.AM
open Go.Proofs.Try (prog)
set_option maxRecDepth 100000
set_option linter.all false
namespace r07_Less
noncomputable section
variable (K : List Item) (s : St)
def b : Code := (Try.f39.body).getD .skip
theorem hf : prog.funcs[39]? = some Try.f39 := by kernel_rfl
def r0 := findReg b 0
def r1 := findReg b 1
theorem b_eq : den prog ann 39 (.code b :: K) s = den prog ann 39 (.code r0 :: .code r1 :: .code .ret :: K) s := den_flat hf (l := [r0, r1, .ret]) (by kernel_rfl) K s
theorem r0_eq : den prog ann 39 (.code r0 :: K) s = mreg prog ann 39 none [] none [] [qF 4 fun s => some (.bool false)] K s := (den_reg hf _ K s).trans (by kernel_rfl)
theorem r1_eq : den prog ann 39 (.code r1 :: K) s = mreg prog ann 39 none [] none [] [qC 5 0,qA 6 lenStr 5,qC 7 1,qA 8 lenStr 7,qB 9 (binA prog .lss 3) 6 8,qC 10 9,⟨some 11, some (10, false), .v fun s => some (s.get 0)⟩,⟨some 12, some (10, false), .v fun s => lenStr (s.get 11)⟩,⟨some 13, some (10, false), .v fun s => some (s.get 1)⟩,⟨some 14, some (10, false), .v fun s => lenStr (s.get 13)⟩,⟨some 15, some (10, false), .v fun s => binA prog .eql 3 (s.get 12) (s.get 14)⟩,⟨some 16, some (10, false), .v fun s => some (s.get 15)⟩,⟨some 17, some (16, true), .v fun s => some (s.get 0)⟩,⟨some 18, some (16, true), .v fun s => some (s.get 1)⟩,⟨some 19, some (16, true), .v fun s => binA prog .lss 9 (s.get 17) (s.get 18)⟩,⟨some 20, some (10, false), .v fun s => pickA (s.get 16) (s.get 19) (.bool false)⟩,qF 21 fun s => pickA (s.get 10) (.bool true) (s.get 20),qC 4 21] K s := (den_reg hf _ K s).trans (by kernel_rfl)
theorem ret_eq : den prog ann 39 (.code .ret :: K) s = finM true [fun s => some (s.get 4)] s := (den_ret hf K s).trans (by kernel_rfl)
theorem nil_eq (s : St) : den prog ann 39 [] s = finM true [fun s => some (s.get 4)] s := (den_nil hf s).trans (by kernel_rfl)
theorem inBlock_eq (id : Nat) (K : List Item) (s : St) : den prog ann 39 (.inBlock id :: K) s = den prog ann 39 K s := den_inBlock hf id K s
theorem exit_eq (id : Nat) (K : List Item) (s : St) : den prog ann 39 (.code (.exit id) :: K) s = exitV prog ann 39 (exitTo id K) s := den_exitV hf id K s
theorem call_eq (v0 v1 : AV) (m : Mem) (h : closedL [v0, v1] = true) : denC prog ann 39 [v0, v1] m = (den prog ann 39 [.code b] ⟨[(0, v0), (1, v1)], 22, Mem.empty⟩).bind fun r => some (r.1, m) := (denC_pure hf (b := b) (by kernel_rfl) (by kernel_rfl) (by kernel_rfl) h m).trans (by kernel_rfl)
theorem pure_eq : (ann 39).pure = true := by kernel_rfl
attribute [simp] b_eq r0_eq r1_eq ret_eq nil_eq inBlock_eq exit_eq pure_eq
end
end r07_Less
end Go.Proofs.Ythnpflkpjimkfaa

/-
  WORDS OUT OF NUMBERS; THE ORDER OF WORDS: what the laws' functions return. Conditions: none.
-/
namespace Go.Proofs.Ythnpflkpjimkfaa
open Go.AM
open Go.Proofs.Try (prog)
set_option linter.all false
set_option maxRecDepth 100000
set_option maxHeartbeats 8000000
def wdL (k : Nat) (l : List Nat) : List UInt8 := l.map fun b => UInt8.ofNat (97 + b % k)
theorem wdL_ok {k : Nat} (k1 : 1 ≤ k) (k3 : k ≤ 3) (l : List Nat) : okW k (wdL k l) := fun c hc => by
  obtain ⟨b, _, rfl⟩ := List.mem_map.1 hc
  have := Nat.mod_lt b (show 0 < k by omega)
  rw [ofNat6 (by omega)]
  omega
theorem abc_at {r : Nat} (h : r < 3) : sliceStr (.str [97, 98, 99]) (some (.int .i64 (r : Nat))) (some (.int .i64 ((r : Int) + 1))) = some (.str (ltr r)) := by
  rcases (by omega : r = 0 ∨ r = 1 ∨ r = 2) with rfl | rfl | rfl
  · simp [sliceStr, bnds, bnd, ltr]; done
  · simp [sliceStr, bnds, bnd, ltr]; done
  · simp [sliceStr, bnds, bnd, ltr]; done
theorem word_loop35 {lv nv gv : AV} {l : List Nat} (hb : IsBy lv l) (hlb : ∀ x ∈ l, x < 256) {most k : Nat} (k1 : 1 ≤ k) (k3 : k ≤ 3) (hm : most ≤ 1000) : ∀ (c i : Nat) (m : Mem), i + c = min l.length most →
    l07_word.L0 lv (.int .i64 most) (.str (wdL k (l.take i))) (.int .i64 k) (.int .i64 i) m [.code l07_word.r6, .code .ret] = some (.str (wdL k (l.take most)), Mem.empty) := by
  intro c
  induction c with
  | zero =>
    intro i m h1
    have e : i = min l.length most := by omega
    have e2 : l.take i = l.take most := by
      rw [e]
      by_cases q : l.length ≤ most
      · rw [Nat.min_eq_left q, List.take_of_length_le (Nat.le_refl _), List.take_of_length_le q]
      · rw [Nat.min_eq_right (by omega)]
    rw [e2, l07_word.L0_eq]
    by_cases q : i < l.length
    · have q2 : ¬ i < most := by omega
      simp [hb.len, q, q2]
      done
    · simp [hb.len, q]
      done
  | succ c ih =>
    intro i m h1
    have hi : i < l.length := by omega
    have hi2 : i < most := by omega
    have hwi : IntKind.wrap .i64 ((i : Int) + 1) = (i : Int) + 1 := wrap_id (by omega) (by omega)
    have hx := List.getElem_mem hi
    have hlt := hlb _ hx
    have hd : ((bytN l).drop i).head? = some (.int .u8 (l[i] : Nat)) := by rw [List.head?_drop]; simp [bytN, hi]
    have ht : wdL k (l.take i) ++ ltr (l[i] % k) = wdL k (l.take (i + 1)) := by rw [List.take_add_one, List.getElem?_eq_getElem hi, wdL, wdL, List.map_append]; rfl
    have hlen : (wdL k (l.take i)).length = i := by simp [wdL, List.length_take]; omega
    have hll : (ltr (l[i] % k)).length = 1 := rfl
    generalize l[i] = b at *
    have hw : IntKind.wrap .i64 ((b : Nat) : Int) = (b : Nat) := wrap_id (by omega) (by omega)
    have hmod : ((b : Nat) : Int).tmod ((k : Nat) : Int) = ((b % k : Nat) : Int) := by rw [Int.tmod_eq_emod_of_nonneg (by omega)]; simp
    have hr := Nat.mod_lt b (show 0 < k by omega)
    have hab := abc_at (r := b % k) (by omega)
    have hk0 : ¬ k = 0 := by omega
    have hwr : IntKind.wrap .i64 (((b % k : Nat) : Int) + 1) = ((b % k : Nat) : Int) + 1 := wrap_id (by omega) (by omega)
    have st := fun m => ih (i + 1) m (by omega)
    rw [← ht] at st
    simp only [Int.natCast_add, Int.cast_ofNat_Int] at st
    generalize b % k = r at *
    rw [l07_word.L0_eq]
    simp [hb.len, hi, hi2, hb.idx hi, hd, hw, hmod, hk0, hwr, hab, hlen, hll, show i + 1 ≤ 4611686018427387904 by omega, hwi, st, -List.head?_drop, -Int.natCast_emod]
    done
theorem word35_spec {lv nv gv : AV} {l : List Nat} (hb : IsBy lv l) (hlb : ∀ x ∈ l, x < 256) {ps : List AV} {rows : List (List Int)} {good : List Bool} {k : Nat} (hn : IsRows nv ps rows) (hg : IsB gv good) (v : VB rows good k) {most : Nat} (hm : most ≤ 1000) (m : Mem) :
    denC prog ann 35 [.agg [nv, gv], lv, .int .i64 (most : Nat)] m = some (.str (wdL k (l.take most)), m) := by
  have k1 := v.k1
  have k3 := v.k3
  have lp := fun m => word_loop35 hb hlb (nv := nv) (gv := gv) k1 k3 hm (min l.length most) 0 m (by omega)
  simp only [Int.ofNat_zero, Int.cast_ofNat_Int] at lp
  have e0 : wdL k (l.take 0) = [] := by simp [wdL]
  rw [e0] at lp
  have i0 := hn.idx (i := 0) v.n1 .i64
  have j0 := hn.head (i := 0) v.n1
  have iw0 := hn.row 0 v.n1
  have hk := v.k0
  simp only [Int.ofNat_zero, Int.cast_ofNat_Int, List.drop_zero] at i0 j0
  rw [l07_word.call_eq _ _ _ _ (by simp [hn.closed, hg.closed, hb.closed])]
  simp [hn.one, hg.one, hn.closed, hg.closed, i0, j0, iw0.len, hk, lp]
  done
def lessW (x y : List UInt8) : Bool := decide (x.length < y.length) || (decide (x.length = y.length) && Op.bytesLess x y)
theorem less_spec (x y : List UInt8) (hx : x.length ≤ 1000000) (hy : y.length ≤ 1000000) (m : Mem) : denC prog ann 39 [.str x, .str y] m = some (.bool (lessW x y), m) := by
  rw [r07_Less.call_eq _ _ _ (by simp)]
  unfold lessW
  by_cases q : x.length < y.length
  · simp [q]
    done
  · by_cases q2 : x.length = y.length
    · simp [q2]
      done
    · have q2' : ¬ ((x.length : Nat) : Int) = (y.length : Nat) := by omega
      simp [q, q2, q2']
      done
theorem lessW_rk {x y : List UInt8} (h : lessW x y = true) : rk x < rk y := by
  unfold lessW at h
  rw [Bool.or_eq_true, Bool.and_eq_true, decide_eq_true_eq, decide_eq_true_eq] at h
  rcases h with h | ⟨h1, h2⟩
  · exact rk_len _ x y rfl h
  · exact rk_less x y h1 h2
theorem rk_lenle {x y : List UInt8} (h : rk x ≤ rk y) : x.length ≤ y.length := by
  by_cases q : y.length < x.length
  · have := rk_len _ y x rfl q; omega
  · omega
end Go.Proofs.Ythnpflkpjimkfaa

/-
  THE LEAST WORD THAT ONLY ONE OF TWO BRANDS ACCEPTS: the specification's search. Conditions: none.
-/
namespace Go.Proofs.Ythnpflkpjimkfaa
open Go.AM
open Go.Proofs.Try (prog)
set_option linter.all false
set_option maxRecDepth 100000
set_option maxHeartbeats 8000000
structure Rd (m : Mem) (x6 x7 : AV) (i6 i7 i8 : Nat) (S : List PN × List (List UInt8)) : Prop where
  p : Gl m x6 i6 2 S.1.length (flP S.1)
  w : Gl m x7 i7 1 S.2.length (S.2.map .str)
  k : Mp m i8 (S.1.map encP) ((S.1.map fun _ => true).map .bool)
  d1 : i6 ≠ i7
  d2 : i6 ≠ i8
  d3 : i7 ≠ i8
end Go.Proofs.Ythnpflkpjimkfaa

/-
  BRANDS THAT ACCEPT THE SAME WORDS have the same smallest form: plain law. Conditions: none.
-/
namespace Go.Proofs.Ythnpflkpjimkfaa
open Go.AM
open Go.Proofs.Try (prog)
set_option linter.all false
set_option maxRecDepth 100000
set_option maxHeartbeats 8000000
def Xl (rows rows' : List (List Int)) (good good' : List Bool) (k s s' : Nat) : Prop := ∀ w : List Nat, (∀ a ∈ w, a < k) → bnth good (gow rows s w) = bnth good' (gow rows' s' w)
section
variable {rows rows' : List (List Int)} {good good' : List Bool} {k : Nat}
theorem Xl.step {s s' a : Nat} (h : Xl rows rows' good good' k s s') (ha : a < k) : Xl rows rows' good good' k (nx rows s a) (nx rows' s' a) := fun w hw => h (a :: w) (by
  intro b hb
  rcases List.mem_cons.1 hb with rfl | hb
  · exact ha
  · exact hw b hb)
theorem Xl.al {s s' t t' : Nat} (h : Xl rows rows' good good' k s s') (g : Xl rows rows' good good' k t t') : alB rows good k s t = alB rows' good' k s' t' := by
  rw [Bool.eq_iff_iff, alB_iff, alB_iff]
  constructor
  · intro q w hw; rw [← h w hw, ← g w hw]; exact q w hw
  · intro q w hw; rw [h w hw, g w hw]; exact q w hw
structure Al2 (X : Nat → Nat → Prop) (P P' : List Nat) : Prop where
  l : P.length = P'.length
  e : ∀ i (h : i < P.length) (h' : i < P'.length), X P[i] P'[i]
theorem Al2.app {X : Nat → Nat → Prop} {P P' : List Nat} (h : Al2 X P P') {s s' : Nat} (hs : X s s') : Al2 X (P ++ [s]) (P' ++ [s']) := by
  refine ⟨by simp [h.l], fun i h1 h2 => ?_⟩
  by_cases q : i < P.length
  · rw [List.getElem_append_left q, List.getElem_append_left (by rw [← h.l]; exact q)]
    exact h.e i q _
  · have e1 : i = P.length := by simp at h1; omega
    subst e1
    rw [List.getElem_append_right (by omega), List.getElem_append_right (by rw [← h.l]; omega)]
    simp [hs]
abbrev XX (rows rows' : List (List Int)) (good good' : List Bool) (k : Nat) := Al2 (Xl rows rows' good good' k)
theorem XX.any {P P' : List Nat} (h : XX rows rows' good good' k P P') {s s' : Nat} (hs : Xl rows rows' good good' k s s') : P.any (alB rows good k s) = P'.any (alB rows' good' k s') := by
  rw [Bool.eq_iff_iff, List.any_eq_true, List.any_eq_true]
  constructor
  · rintro ⟨x, hx, e⟩
    obtain ⟨i, hi, rfl⟩ := List.getElem_of_mem hx
    have hi' : i < P'.length := by rw [← h.l]; exact hi
    exact ⟨P'[i], List.getElem_mem hi', by rw [← hs.al (h.e i hi hi')]; exact e⟩
  · rintro ⟨x, hx, e⟩
    obtain ⟨i, hi, rfl⟩ := List.getElem_of_mem hx
    have hi' : i < P.length := by rw [h.l]; exact hi
    exact ⟨P[i], List.getElem_mem hi', by rw [hs.al (h.e i hi' hi)]; exact e⟩
theorem idx2 : ∀ (P P' : List Nat) (p p' : Nat → Bool), P.length = P'.length → (∀ i (h : i < P.length) (h' : i < P'.length), p P[i] = p' P'[i]) → P.findIdx p = P'.findIdx p'
  | [], [], _, _, _, _ => rfl
  | [], _ :: _, _, _, h, _ => by simp at h
  | _ :: _, [], _, _, h, _ => by simp at h
  | a :: P, b :: P', p, p', h, e => by
    have h0 := e 0 (by simp) (by simp)
    simp only [List.getElem_cons_zero] at h0
    rw [List.findIdx_cons, List.findIdx_cons, h0, idx2 P P' p p' (by simpa using h) (fun i h1 h2 => by
      have := e (i + 1) (by simpa using h1) (by simpa using h2)
      simpa using this)]
theorem XX.idx {P P' : List Nat} (h : XX rows rows' good good' k P P') {s s' : Nat} (hs : Xl rows rows' good good' k s s') : idxA (alB rows good k) P s = idxA (alB rows' good' k) P' s' :=
  idx2 P P' _ _ h.l fun i h1 h2 => hs.al (h.e i h1 h2)
theorem XX.num {P P' : List Nat} (h : XX rows rows' good good' k P P') {s s' : Nat} (hs : Xl rows rows' good good' k s s') : XX rows rows' good good' k (numS (alB rows good k) s P) (numS (alB rows' good' k) s' P') := by
  rw [numS, numS, h.any hs]
  split
  · exact h
  · exact h.app hs
theorem XX.adds {q q' : Nat} (hq : Xl rows rows' good good' k q q') : ∀ (c a : Nat) (P P' : List Nat), a + c ≤ k → XX rows rows' good good' k P P' → XX rows rows' good good' k (addsN (alB rows good k) (nx rows) q c a P) (addsN (alB rows' good' k) (nx rows') q' c a P')
  | 0, a, P, P', _, h => h
  | c + 1, a, P, P', ha, h => by
    rw [addsN, addsN, List.range'_succ, List.foldl_cons, List.foldl_cons]
    exact XX.adds hq c (a + 1) _ _ (by omega) (h.num (hq.step (by omega)))
theorem XX.bld : ∀ (f i : Nat) (P P' : List Nat), XX rows rows' good good' k P P' → XX rows rows' good good' k (bldN (alB rows good k) (nx rows) k f i P) (bldN (alB rows' good' k) (nx rows') k f i P')
  | 0, i, P, P', h => h
  | f + 1, i, P, P', h => by
    rw [bldN, bldN]
    by_cases q : i < P.length
    · have q' : i < P'.length := by rw [← h.l]; exact q
      rw [List.getElem?_eq_getElem q, List.getElem?_eq_getElem q']
      exact XX.bld f (i + 1) _ _ (XX.adds (h.e i q q') k 0 P P' (by omega) h)
    · have q' : ¬ i < P'.length := by rw [← h.l]; exact q
      rw [List.getElem?_eq_none (by omega), List.getElem?_eq_none (by omega)]
      exact h
theorem repL_fuel (v : VB rows good k) (f : Nat) (hf : rows.length < f) : bldN (alB rows good k) (nx rows) k f 0 [0] = repL rows good k := by
  have n1 := v.n1
  have := bfs_ded (ext := extL) (ln := List.length) (lik_alB v) (fun w a => by simp [extL, ltr]) (rows.length + 1) 0 ([0], [([] : List UInt8)]) ⟨by simp, by intro x hx; simp at hx; omega, rfl, by simp⟩ (by simp) (by omega) (by simp) f (by omega)
  exact this
theorem rep2 (v : VB rows good k) (v' : VB rows' good' k) (h : Xl rows rows' good good' k 0 0) : XX rows rows' good good' k (repL rows good k) (repL rows' good' k) := by
  have n6 := v.n6
  have n6' := v'.n6
  rw [← repL_fuel v 7 (by omega), ← repL_fuel v' 7 (by omega)]
  refine XX.bld 7 0 [0] [0] ⟨rfl, fun i h1 h2 => ?_⟩
  have : i = 0 := by simp at h1; omega
  subst this
  exact h
theorem canon (v : VB rows good k) (v' : VB rows' good' k) (h : Xl rows rows' good good' k 0 0) : rowsM rows good k = rowsM rows' good' k ∧ goodM rows good k = goodM rows' good' k := by
  have h2 := rep2 v v' h
  constructor
  · refine List.ext_getElem (by simp [rowsM, h2.l]) fun i h3 h4 => ?_
    simp only [rowsM, List.length_map] at h3 h4
    simp only [rowsM, List.getElem_map]
    refine List.map_congr_left fun a ha => ?_
    have ha : a < k := by simpa using ha
    rw [h2.idx ((h2.e i h3 h4).step ha)]
  · refine List.ext_getElem (by simp [goodM, h2.l]) fun i h3 h4 => ?_
    simp only [goodM, List.length_map] at h3 h4
    simp only [goodM, List.getElem_map]
    exact h2.e i h3 h4 [] (by simp)
theorem nx_M {i a : Nat} (hi : i < (repL rows good k).length) (ha : a < k) : nx (rowsM rows good k) i a = idxA (alB rows good k) (repL rows good k) (nx rows (repL rows good k)[i] a) := by
  have row : cth (rowsM rows good k) i = (List.range k).map fun a => ((idxA (alB rows good k) (repL rows good k) (nx rows (repL rows good k)[i] a) : Nat) : Int) := by simp [cth, rowsM, hi, List.getD_eq_getElem?_getD]
  rw [nx, row]
  simp [nth, ha, List.getD_eq_getElem?_getD]
theorem small_X (v : VB rows good k) {i : Nat} (hi : i < (repL rows good k).length) : Xl rows (rowsM rows good k) good (goodM rows good k) k (repL rows good k)[i] i := by
  intro w
  induction w generalizing i with
  | nil => intro _; simp [gow, bnth, goodM, hi, List.getD_eq_getElem?_getD]
  | cons a w ih =>
    intro hw
    have ha : a < k := hw a (by simp)
    obtain ⟨R1, R2⟩ := rch_ok v
    have hm : (repL rows good k)[i] ∈ (rchS rows k).1 := ded_mem (List.getElem_mem hi)
    have hany : (repL rows good k).any (alB rows good k (nx rows (repL rows good k)[i] a)) = true := ded_any (lik_alB v) (rchS rows k).1 R1.all _ (R2 _ hm a ha)
    have hj : idxA (alB rows good k) (repL rows good k) (nx rows (repL rows good k)[i] a) < (repL rows good k).length := idxA_lt hany
    have hal : alB rows good k (nx rows (repL rows good k)[i] a) ((repL rows good k)[idxA (alB rows good k) (repL rows good k) (nx rows (repL rows good k)[i] a)]'hj) = true := List.findIdx_getElem (w := hj)
    have hw' : ∀ b ∈ w, b < k := fun b hb => hw b (by simp [hb])
    have h1 := alB_iff.1 hal w hw'
    have h2 := ih hj hw'
    show bnth good (gow rows (nx rows (repL rows good k)[i] a) w) = bnth (goodM rows good k) (gow (rowsM rows good k) (nx (rowsM rows good k) i a) w)
    rw [nx_M hi ha, h1, h2]
theorem repL_0 (v : VB rows good k) : ∃ h : 0 < (repL rows good k).length, (repL rows good k)[0] = 0 := by
  have h := (repL_few v).2.1
  refine ⟨h, ?_⟩
  have n1 := v.n1
  have e := repL_fuel v (rows.length + 1) (by omega)
  have key : ∀ (f i : Nat) (P : List Nat), ∃ l, bldN (alB rows good k) (nx rows) k f i P = P ++ l := by
    intro f
    induction f with
    | zero => intro i P; exact ⟨[], by simp [bldN]⟩
    | succ f ih =>
      intro i P
      rw [bldN]
      split
      · rename_i q _
        obtain ⟨l, e1⟩ := addsN_pre (al := alB rows good k) (nxt := nx rows) q k 0 P
        obtain ⟨l2, e2⟩ := ih (i + 1) (addsN (alB rows good k) (nx rows) q k 0 P)
        exact ⟨l ++ l2, by rw [e2, e1, List.append_assoc]⟩
      · exact ⟨[], by simp⟩
  obtain ⟨l, e2⟩ := key (rows.length + 1) 0 [0]
  rw [e] at e2
  simp only [e2]
  rfl
theorem small_lang (v : VB rows good k) : Xl rows (rowsM rows good k) good (goodM rows good k) k 0 0 := by
  obtain ⟨h, e⟩ := repL_0 v
  have := small_X v h
  rw [e] at this
  exact this
theorem small_small (v : VB rows good k) : rowsM (rowsM rows good k) (goodM rows good k) k = rowsM rows good k ∧ goodM (rowsM rows good k) (goodM rows good k) k = goodM rows good k := by
  obtain ⟨h1, h2⟩ := canon v (VB_M v) (small_lang v)
  exact ⟨h1.symm, h2.symm⟩
theorem gow_goL (rows : List (List Int)) : ∀ (w : List UInt8) (s : Nat), gow rows s (w.map fun c => c.toNat - 97) = goL rows w s
  | [], s => rfl
  | c :: w, s => by rw [goL, ← gow_goL rows w]; rfl
theorem Xl.goL {s s' : Nat} (h : Xl rows rows' good good' k s s') {w : List UInt8} (hw : okW k w) : bnth good (goL rows w s) = bnth good' (Go.Proofs.Ythnpflkpjimkfaa.goL rows' w s') := by
  have := h (w.map fun c => c.toNat - 97) (fun a ha => by
    obtain ⟨c, hc, rfl⟩ := List.mem_map.1 ha
    exact (hw c hc).2)
  rw [gow_goL, gow_goL] at this
  exact this
end
end Go.Proofs.Ythnpflkpjimkfaa

/-
  BrandAccepts: the law answers true. Conditions: none.
-/
namespace Go.Proofs.Ythnpflkpjimkfaa
open Go.AM
open Go.Proofs.Try (prog)
set_option linter.all false
set_option maxRecDepth 100000
set_option maxHeartbeats 8000000
theorem IsRows.cells {v : AV} {ps : List AV} {rows : List (List Int)} (h : IsRows v ps rows) : v.cells = [v] := by rcases h.val with ⟨rfl, _⟩ | ⟨_, rfl⟩ <;> rfl
end Go.Proofs.Ythnpflkpjimkfaa

/-
  BrandMonoids: the law answers true. Conditions: none.
-/
namespace Go.Proofs.Ythnpflkpjimkfaa
open Go.AM
open Go.Proofs.Try (prog)
set_option linter.all false
set_option maxRecDepth 100000
set_option maxHeartbeats 8000000
end Go.Proofs.Ythnpflkpjimkfaa

/-
  BODIES OF FUNCTIONS OF THE PROGRAM AS SMALL OPERATIONS (written by gen.py; checked by the kernel against the program). Conditions: none.
-/
namespace Go.Proofs.Ythnpflkpjimkfaa
open Go.AM
open Go.Proofs.Try (prog)
set_option maxRecDepth 100000
set_option linter.all false
end Go.Proofs.Ythnpflkpjimkfaa

/-
  THE LEAST WORD THAT LEADS ALL STATES TO ONE: the program's search. Conditions: none.
-/
namespace Go.Proofs.Ythnpflkpjimkfaa
open Go.AM
open Go.Proofs.Try (prog)
set_option linter.all false
set_option maxRecDepth 100000
set_option maxHeartbeats 8000000
end Go.Proofs.Ythnpflkpjimkfaa

/-
  THE LEAST WORD THAT LEADS ALL STATES TO ONE: the specification's search. Conditions: none.
-/
namespace Go.Proofs.Ythnpflkpjimkfaa
open Go.AM
open Go.Proofs.Try (prog)
set_option linter.all false
set_option maxRecDepth 100000
set_option maxHeartbeats 8000000
structure Rs (m : Mem) (x6 x7 : AV) (i6 i7 i8 : Nat) (S : List Nat × List (List UInt8)) : Prop where
  p : Gl m x6 i6 1 S.1.length (S.1.map encS)
  w : Gl m x7 i7 1 S.2.length (S.2.map .str)
  k : Mp m i8 (S.1.map encS) ((S.1.map fun _ => true).map .bool)
  d1 : i6 ≠ i7
  d2 : i6 ≠ i8
  d3 : i7 ≠ i8
end Go.Proofs.Ythnpflkpjimkfaa

/-
  BrandSmallest: the law answers true. Conditions: none.
-/
namespace Go.Proofs.Ythnpflkpjimkfaa
open Go.AM
open Go.Proofs.Try (prog)
set_option linter.all false
set_option maxRecDepth 100000
set_option maxHeartbeats 8000000
theorem smallest26_spec {nv gv : AV} {ps : List AV} {rows : List (List Int)} {good : List Bool} (hn : IsRows nv ps rows) (hg : IsB gv good) (hl : rows.length ≤ 1000) (hgl : good.length ≤ 1000) (hr : ∀ i, i < rows.length → (cth rows i).length ≤ 1000) (m : Mem) :
    denC prog ann 26 [.agg [nv, gv]] m = some (if validB rows good = true then .tup [.agg [nvM rows good (cth rows 0).length, gvM rows good (cth rows 0).length], .int .i64 0] else .tup [.agg [.nils, .nils], .int .i64 1], m) := by
  have h1 := fun m => valid_spec hn hg hl hgl hr m
  rw [brand_Smallest.call_eq _ _ (by simp [hn.closed, hg.closed])]
  cases c0 : validB rows good with
  | false =>
    rw [c0] at h1
    simp [hn.one, hg.one, hn.closed, hg.closed, h1]
    done
  | true =>
    rw [c0] at h1
    have v := VB.of c0
    have h2 := fun m => smallest_spec hn hg v m
    rw [repL_eq v, resV_eq] at h2
    have o1 := (isRows_M rows good (cth rows 0).length).one
    have o2 := (isB_M rows good (cth rows 0).length).one
    have c1 := (isRows_M rows good (cth rows 0).length).closed
    have c2 := (isB_M rows good (cth rows 0).length).closed
    have d1 := fun hp => (isRows_M rows good (cth rows 0).length).deep hp 3
    have d2 := fun hp => (isB_M rows good (cth rows 0).length).deep hp 3
    simp [hn.one, hg.one, hn.closed, hg.closed, h1, h2, o1, o2, d1, d2]
    done
end Go.Proofs.Ythnpflkpjimkfaa

/-
  BrandProduct: the law answers true. Conditions: none.
-/
namespace Go.Proofs.Ythnpflkpjimkfaa
open Go.AM
open Go.Proofs.Try (prog)
set_option linter.all false
set_option maxRecDepth 100000
set_option maxHeartbeats 8000000
theorem wordE_ok {k : Nat} {s : List UInt8} (h : s.length ≤ 200) (g : okW k s) : wordE k s = 0 := by
  unfold wordE
  rw [if_neg (by omega), if_pos ((letF_iff k s).2 g)]
noncomputable def KP9 : List Item := [.code l07_BrandProduct.r22, .code .ret]
theorem pd_loop {S : SM} {w : List UInt8} {x26 x27 x28 x29 : AV} {r : Option Res} (hl : S.2.length ≤ 1000)
    (hk : ∀ m, l07_BrandProduct.L0 (wdsV S) (.str w) x26 x27 x28 x29 (.bool true) (.int .i64 S.2.length) m KP9 = r) : ∀ (c i : Nat) (a : Bool) (m : Mem), i + c = S.2.length → (a = true ∨ w ∈ S.2.drop i) →
    l07_BrandProduct.L0 (wdsV S) (.str w) x26 x27 x28 x29 (.bool a) (.int .i64 i) m KP9 = r := by
  intro c
  induction c with
  | zero =>
    intro i a m h1 h2
    have e : i = S.2.length := by omega
    subst e
    rw [List.drop_length] at h2
    have : a = true := by simpa using h2
    subst this
    exact hk m
  | succ c ih =>
    intro i a m h1 h2
    have hi : i < S.2.length := by omega
    have hwi : IntKind.wrap .i64 ((i : Int) + 1) = (i : Int) + 1 := wrap_id (by omega) (by omega)
    have hd := str_head (l := S.2) hi
    rw [List.drop_eq_getElem_cons hi] at h2
    generalize S.2[i] = y at *
    cases a with
    | true =>
      have st := fun m => ih (i + 1) true m (by omega) (.inl rfl)
      simp only [Int.natCast_add, Int.cast_ofNat_Int] at st
      rw [l07_BrandProduct.L0_eq]
      simp only [wdsV] at st ⊢
      simp [hi, hwi, st]
      done
    | false =>
      by_cases q : y = w
      · have st := fun m => ih (i + 1) true m (by omega) (.inl rfl)
        simp only [Int.natCast_add, Int.cast_ofNat_Int] at st
        rw [l07_BrandProduct.L0_eq]
        simp only [wdsV] at st ⊢
        simp [hi, hd, q, hwi, st, -List.head?_drop, -List.map_drop]
        done
      · have st := fun m => ih (i + 1) false m (by omega) (.inr (by
          rcases h2 with h2 | h2
          · cases h2
          · rcases List.mem_cons.1 h2 with h2 | h2
            · exact absurd h2.symm q
            · exact h2))
        simp only [Int.natCast_add, Int.cast_ofNat_Int] at st
        rw [l07_BrandProduct.L0_eq]
        simp only [wdsV] at st ⊢
        simp [hi, hd, q, hwi, st, -List.head?_drop, -List.map_drop]
        done
theorem prd_runs {d : Nat} (a0 a1 a2 : AV) (h0 : DatV prog (d + 4) 37 a0) (h1 : DatV prog (d + 4) 35 a1) (h2 : DatV prog (d + 4) 35 a2) : ∃ m', denC prog ann 8 [a0, a1, a2] Mem.empty = some (.bool true, m') := by
  obtain ⟨s0, s1, q, bv, l, rfl, b0, b1, b2, hb, hlb, _⟩ := datV37 h0
  obtain ⟨l1, hb1, hlb1, _⟩ := datV35 h1
  obtain ⟨l2, hb2, hlb2, _⟩ := datV35 h2
  obtain ⟨rows, good, k, nv, gv, ps, hn, hg, v, hp⟩ := plan_spec b0 b1 b2 hb hlb
  have n6 := v.n6
  have k1 := v.k1
  have k3 := v.k3
  have hgl := v.gl
  have hr : ∀ i, i < rows.length → (cth rows i).length ≤ 1000 := fun i hi => by rw [v.rl i hi]; omega
  have vt := v.to
  have vm := VB_M v
  have hm := isRows_M rows good k
  have hg2 := isB_M rows good k
  have vmt := vm.to
  have hu := fun m => word35_spec hb1 hlb1 hn hg v (most := 30) (by omega) m
  have hw := fun m => word35_spec hb2 hlb2 hn hg v (most := 30) (by omega) m
  have ou := wdL_ok k1 k3 (l1.take 30)
  have ow := wdL_ok k1 k3 (l2.take 30)
  have lu : (wdL k (l1.take 30)).length ≤ 30 := by simp [wdL]; omega
  have lw : (wdL k (l2.take 30)).length ≤ 30 := by simp [wdL]; omega
  generalize wdL k (l1.take 30) = u at *
  generalize wdL k (l2.take 30) = w at *
  have m1 := fun m => monoid_spec hn hg (by omega) (by omega) hr m
  have e1 := fun m => element_spec hn hg (by omega) (by omega) hr (s := u) (by omega) m
  have e2 := fun m => element_spec hn hg (by omega) (by omega) hr (s := w) (by omega) m
  have e3 := fun m => element_spec hn hg (by omega) (by omega) hr (s := u ++ w) (by simp; omega) m
  have sm := fun m => smallest26_spec hn hg (by omega) (by omega) hr m
  have a1' := fun m => accepts_spec hn hg (by omega) (by omega) hr (s := u) (by omega) m
  have wu := wordE_ok (s := u) (by omega) ou
  have ww := wordE_ok (s := w) (by omega) ow
  have wuw := wordE_ok (k := k) (s := u ++ w) (by simp; omega) (okW_app ou ow)
  have n6m := vm.n6
  have hglm := vm.gl
  have hrm : ∀ i, i < (rowsM rows good k).length → (cth (rowsM rows good k) i).length ≤ 1000 := fun i hi => by rw [vm.rl i hi]; omega
  have m2 := fun m => monoid_spec hm hg2 (by omega) (by omega) hrm m
  rw [vt, if_pos rfl, v.k0] at m1 e1 e2 e3 sm a1'
  rw [vmt, if_pos rfl, vm.k0] at m2
  rw [wu, if_pos rfl] at e1 a1'
  rw [ww, if_pos rfl] at e2
  rw [wuw, if_pos rfl] at e3
  have emb : madeB (rowsM rows good k) (goodM rows good k) k = madeB rows good k := by rw [madeB, (small_small v).1, madeB]
  rw [emb] at m2
  refine ⟨Mem.empty, ?_⟩
  rw [l07_BrandProduct.call_eq _ _ _ _ (by simp [hb.closed, hb1.closed, hb2.closed])]
  simp only [Int.cast_ofNat_Int] at hu hw
  have luw : u.length + w.length ≤ 4611686018427387904 := by omega
  cases e : madeB rows good k with
  | none =>
    rw [e] at m1 e1 e2 e3 m2
    simp [hb.one, hb.closed, hb1.one, hb1.closed, hb2.one, hb2.closed, hp, hn.one, hg.one, hn.closed, hg.closed, hn.cells, hg.cells, hu, hw, m1, e1, lives_spec]
    done
  | some S =>
    rw [e] at m1 e1 e2 e3 m2
    have W := MW_of v e
    have L := least_of vm e
    have wl := W.ok.le
    have wle := W.ok.len
    have nu := W.lt vm.n6 vm.k3 ou
    have nw := W.lt vm.n6 vm.k3 ow
    have nuw := W.lt vm.n6 vm.k3 (okW_app ou ow)
    have os := wrd_ok W nu
    have ot := wrd_ok W nw
    have ls : (wrd S (numM (rowsM rows good k) S u)).length ≤ 30 := by have := rk_lenle (L.le u ou); omega
    have lt : (wrd S (numM (rowsM rows good k) S w)).length ≤ 30 := by have := rk_lenle (L.le w ow); omega
    have hless : lessW u (wrd S (numM (rowsM rows good k) S u)) = false := by
      cases c : lessW u (wrd S (numM (rowsM rows good k) S u)) with
      | false => rfl
      | true => have := lessW_rk c; have := L.le u ou; omega
    have hls := fun m => less_spec u (wrd S (numM (rowsM rows good k) S u)) (by omega) (by omega) m
    rw [hless] at hls
    have hst : numM (rowsM rows good k) S (wrd S (numM (rowsM rows good k) S u) ++ wrd S (numM (rowsM rows good k) S w)) = numM (rowsM rows good k) S (u ++ w) := pr_nums vm W ou ow
    have e4 := fun m => element_spec hn hg (by omega) (by omega) hr (s := wrd S (numM (rowsM rows good k) S u) ++ wrd S (numM (rowsM rows good k) S w)) (by simp; omega) m
    have a2 := fun m => accepts_spec hn hg (by omega) (by omega) hr (s := wrd S (numM (rowsM rows good k) S u)) (by omega) m
    rw [vt, if_pos rfl, v.k0, wordE_ok (by simp; omega) (okW_app os ot), if_pos rfl, e] at e4
    rw [vt, if_pos rfl, v.k0, wordE_ok (by omega) os, if_pos rfl] at a2
    simp only [hst] at e4
    have hacc : bnth good (goL rows (wrd S (numM (rowsM rows good k) S u)) 0) = bnth good (goL rows u 0) := by
      rw [(small_lang v).goL os, (small_lang v).goL ou]
      have := mv6_at vm.n6 (wrd_num vm W ou) 0 vm.n1
      rw [this]
    rw [hacc] at a2
    have hmem : wrd S (numM (rowsM rows good k) S (u ++ w)) ∈ S.2 := by
      have := (W.wok nuw).1
      exact List.mem_of_getElem? this
    have i1 := wdsV_is S
    have s1 := fun m => same_refl i1 i1 (by omega) m
    simp only [] at m1 m2 e1 e2 e3 e4
    generalize bnth good (goL rows u 0) = acc at *
    generalize wrd S (numM (rowsM rows good k) S (u ++ w)) = bo at *
    generalize wrd S (numM (rowsM rows good k) S u) = ss at *
    generalize wrd S (numM (rowsM rows good k) S w) = tt at *
    have lst : ss.length + tt.length ≤ 4611686018427387904 := by omega
    have lp := fun m => pd_loop (S := S) (w := bo) (x26 := .bool acc) (x27 := .int .i64 0) (x28 := .bool acc) (x29 := .int .i64 0) (r := some (.bool true, Mem.empty)) (by omega) (fun m => by
      rw [l07_BrandProduct.L0_eq]
      simp only [wdsV]
      cases acc <;> simp [KP9]) S.2.length 0 false m (by omega) (.inr (by simpa using hmem))
    simp only [Int.ofNat_zero, Int.cast_ofNat_Int, KP9] at lp
    have o1 := i1.one
    have o2 := i1.closed
    generalize wdsV S = wv at *
    simp [hb.one, hb.closed, hb1.one, hb1.closed, hb2.one, hb2.closed, hp, hn.one, hg.one, hn.closed, hg.closed, hn.cells, hg.cells, hm.one, hg2.one, hm.closed, hg2.closed, hm.cells, hg2.cells, hu, hw, m1, m2, e1, e2, e3, e4, sm, a1', a2, luw, lst, s1, hls, o1, o2, lp, lives_spec]
    done
end Go.Proofs.Ythnpflkpjimkfaa
