/-
  BODIES OF FUNCTIONS OF THE PROGRAM AS SMALL OPERATIONS (written by gen.py; checked by the kernel against the program). Conditions: none.
-/
import Derived.Test.YthnpflkpjimkfaaKAmH
import Derived.Test.YthnpflkpjimkfaaK05
import Derived.Test.YthnpflkpjimkfaaK04
set_option linter.all false
namespace Go.Proofs.Ythnpflkpjimkfaa
open Go.AM
open Go.Proofs.Try (prog)
set_option maxRecDepth 100000
set_option linter.all false

namespace l07_BrandClasses
noncomputable section
variable (K : List Item) (s : St)
/-- pommel/pommellaw07.BrandClasses -/
def b : Code := (Try.f13.body).getD .skip
theorem hf : prog.funcs[13]? = some Try.f13 := by kernel_rfl
def r0 := findReg b 0
def r1 := findReg b 1
def r2 := findReg b 2
def i0 := findCond b 0
def i0t := thenOf i0
def i0e := elseOf i0
def r3 := findReg b 3
def r4 := findReg b 4
def i1 := findCond b 1
def i1t := thenOf i1
def i1e := elseOf i1
def r5 := findReg b 5
def r6 := findReg b 6
def r7 := findReg b 7
def r8 := findReg b 8
def r9 := findReg b 9
def r10 := findReg b 10
def i2 := findCond b 2
def i2t := thenOf i2
def i2e := elseOf i2
def r11 := findReg b 11
def r12 := findReg b 12
def r13 := findReg b 13
def i3 := findCond b 3
def i3t := thenOf i3
def i3e := elseOf i3
def r14 := findReg b 14
def r15 := findReg b 15
def i4 := findCond b 4
def i4t := thenOf i4
def i4e := elseOf i4
def r16 := findReg b 16
def r17 := findReg b 17
def r18 := findReg b 18
theorem b_eq : den prog ann 13 (.code b :: K) s = den prog ann 13 (.code r0 :: .code r1 :: .code r2 :: .code i0 :: .code r6 :: .code r7 :: .code r8 :: .code r9 :: .code r10 :: .code i2 :: .code r15 :: .code i4 :: .code r17 :: .code r18 :: .code .ret :: K) s := den_flat hf (l := [r0, r1, r2, i0, r6, r7, r8, r9, r10, i2, r15, i4, r17, r18, .ret]) (by kernel_rfl) K s
theorem r0_eq : den prog ann 13 (.code r0 :: K) s = mreg prog ann 13 none [] none [] [qA 1 frozenPtr 0,qF 2 fun s => some (.bool false)] K s := (den_reg hf _ K s).trans (by kernel_rfl)
theorem r1_eq : den prog ann 13 (.code r1 :: K) s = mreg prog ann 13 none [] none [3] [qA 17 (loadF true 2) 1,⟨some 18, none, .c 0 (fun s => (.fn 17 [] [])) fun s => [(s.get 17)]⟩,⟨some 3, none, .w false none fun s => newPtr s.m [.nils, .nils]⟩,⟨none, none, .w false none fun s => stA true 2 s.m (s.get 3) (s.get 18)⟩] K s := (den_reg hf _ K s).trans (by kernel_rfl)
theorem r2_eq : den prog ann 13 (.code r2 :: K) s = mreg prog ann 13 none [] none [] [qA 19 (loadF true 2) 3,⟨some 20, none, .c 0 (fun s => (.fn 19 [] [])) fun s => [(s.get 19)]⟩] K s := (den_reg hf _ K s).trans (by kernel_rfl)
theorem i0_eq : den prog ann 13 (.code i0 :: K) s = ifV prog ann 13 20 i0t i0e K s (s.get 20) := den_if hf (by kernel_rfl) K s
theorem i0t_eq : den prog ann 13 (.code i0t :: K) s = den prog ann 13 (.code r3 :: .code r4 :: .code i1 :: K) s := den_flat hf (l := [r3, r4, i1]) (by kernel_rfl) K s
theorem r3_eq : den prog ann 13 (.code r3 :: K) s = mreg prog ann 13 none [] none [4] [qA 22 (loadF true 2) 3,⟨some 23, none, .c 2 (fun s => (.fn 29 [] [])) fun s => [(s.get 22)]⟩,⟨some 24, none, .c 0 (fun s => (.fn 41 [] [])) fun s => [(s.get 23)]⟩,qC 21 24,qF 25 fun s => extA (s.get 21) 0,qF 26 fun s => extA (s.get 21) 1,⟨some 4, none, .w false none fun s => newPtr s.m [.nils, .nils]⟩,⟨none, none, .w false none fun s => stA true 2 s.m (s.get 4) (s.get 25)⟩,qC 5 26] K s := (den_reg hf _ K s).trans (by kernel_rfl)
theorem r4_eq : den prog ann 13 (.code r4 :: K) s = mreg prog ann 13 none [] none [] [qC 27 5,qC 28 27,⟨some 29, some (28, true), .v fun s => fieldA 1 (s.get 4)⟩,⟨some 30, some (28, true), .v fun s => loadF false 1 (s.get 29)⟩,⟨some 31, some (28, true), .v fun s => lenSl (s.get 30)⟩,⟨some 32, some (28, true), .v fun s => binA prog .gtr 3 (s.get 31) (.int .i64 60)⟩,qF 33 fun s => pickA (s.get 28) (s.get 32) (.bool false)] K s := (den_reg hf _ K s).trans (by kernel_rfl)
theorem i1_eq : den prog ann 13 (.code i1 :: K) s = ifV prog ann 13 33 i1t i1e K s (s.get 33) := den_if hf (by kernel_rfl) K s
theorem i1t_eq : den prog ann 13 (.code i1t :: K) s = den prog ann 13 (.code r5 :: .code .ret :: K) s := den_flat hf (l := [r5, .ret]) (by kernel_rfl) K s
theorem r5_eq : den prog ann 13 (.code r5 :: K) s = mreg prog ann 13 none [] none [] [⟨some 34, none, .c 0 (fun s => (.fn 21 [] [])) fun s => []⟩,qC 2 34] K s := (den_reg hf _ K s).trans (by kernel_rfl)
theorem i1e_eq : den prog ann 13 (.code i1e :: K) s = den prog ann 13 (K) s := den_flat hf (l := []) (by kernel_rfl) K s
theorem i0e_eq : den prog ann 13 (.code i0e :: K) s = den prog ann 13 (K) s := den_flat hf (l := []) (by kernel_rfl) K s
theorem r6_eq : den prog ann 13 (.code r6 :: K) s = mreg prog ann 13 (some [3]) [] none [] [qA 36 (loadF true 2) 3,⟨some 37, none, .c 2 (fun s => (.fn 47 [] [])) fun s => [(s.get 36)]⟩,qC 35 37,qF 38 fun s => extA (s.get 35) 0,qF 39 fun s => extA (s.get 35) 1,qC 6 38,qC 7 39] K s := (den_reg hf _ K s).trans (by kernel_rfl)
theorem r7_eq : den prog ann 13 (.code r7 :: K) s = mreg prog ann 13 none [] none [] [qA 41 (loadF true 2) 3,⟨some 42, none, .c 2 (fun s => (.fn 48 [] [])) fun s => [(s.get 41)]⟩,qC 40 42,qF 43 fun s => extA (s.get 40) 0,qF 44 fun s => extA (s.get 40) 1,qC 8 43,qC 9 44] K s := (den_reg hf _ K s).trans (by kernel_rfl)
theorem r8_eq : den prog ann 13 (.code r8 :: K) s = mreg prog ann 13 none [] none [] [qA 46 (loadF true 2) 3,⟨some 47, none, .c 2 (fun s => (.fn 45 [] [])) fun s => [(s.get 46)]⟩,qC 45 47,qF 48 fun s => extA (s.get 45) 0,qF 49 fun s => extA (s.get 45) 1,qC 10 48,qC 11 49] K s := (den_reg hf _ K s).trans (by kernel_rfl)
theorem r9_eq : den prog ann 13 (.code r9 :: K) s = mreg prog ann 13 none [] none [] [qF 12 fun s => some (.int .i64 0)] K s := (den_reg hf _ K s).trans (by kernel_rfl)
theorem r10_eq : den prog ann 13 (.code r10 :: K) s = mreg prog ann 13 none [] none [] [qA 50 (loadF true 2) 3,⟨some 51, none, .c 0 (fun s => (.fn 19 [] [])) fun s => [(s.get 50)]⟩,qA 52 (unA .not) 51] K s := (den_reg hf _ K s).trans (by kernel_rfl)
theorem i2_eq : den prog ann 13 (.code i2 :: K) s = ifV prog ann 13 52 i2t i2e K s (s.get 52) := den_if hf (by kernel_rfl) K s
theorem i2t_eq : den prog ann 13 (.code i2t :: K) s = den prog ann 13 (.code r11 :: K) s := den_flat hf (l := [r11]) (by kernel_rfl) K s
theorem r11_eq : den prog ann 13 (.code r11 :: K) s = mreg prog ann 13 none [] none [] [qF 12 fun s => some (.int .i64 1)] K s := (den_reg hf _ K s).trans (by kernel_rfl)
theorem i2e_eq : den prog ann 13 (.code i2e :: K) s = den prog ann 13 (.code r12 :: .code r13 :: .code i3 :: K) s := den_flat hf (l := [r12, r13, i3]) (by kernel_rfl) K s
theorem r12_eq : den prog ann 13 (.code r12 :: K) s = mreg prog ann 13 none [] none [13] [qA 54 (loadF true 2) 3,⟨some 55, none, .c 2 (fun s => (.fn 29 [] [])) fun s => [(s.get 54)]⟩,⟨some 56, none, .c 0 (fun s => (.fn 41 [] [])) fun s => [(s.get 55)]⟩,qC 53 56,qF 57 fun s => extA (s.get 53) 0,qF 58 fun s => extA (s.get 53) 1,⟨some 13, none, .w false none fun s => newPtr s.m [.nils, .nils]⟩,⟨none, none, .w false none fun s => stA true 2 s.m (s.get 13) (s.get 57)⟩,qC 14 58] K s := (den_reg hf _ K s).trans (by kernel_rfl)
theorem r13_eq : den prog ann 13 (.code r13 :: K) s = mreg prog ann 13 none [] none [] [qC 59 14,qA 60 (unA .not) 59] K s := (den_reg hf _ K s).trans (by kernel_rfl)
theorem i3_eq : den prog ann 13 (.code i3 :: K) s = ifV prog ann 13 60 i3t i3e K s (s.get 60) := den_if hf (by kernel_rfl) K s
theorem i3t_eq : den prog ann 13 (.code i3t :: K) s = den prog ann 13 (.code r14 :: K) s := den_flat hf (l := [r14]) (by kernel_rfl) K s
theorem r14_eq : den prog ann 13 (.code r14 :: K) s = mreg prog ann 13 none [] none [] [qF 12 fun s => some (.int .i64 7)] K s := (den_reg hf _ K s).trans (by kernel_rfl)
theorem i3e_eq : den prog ann 13 (.code i3e :: K) s = den prog ann 13 (K) s := den_flat hf (l := []) (by kernel_rfl) K s
theorem r15_eq : den prog ann 13 (.code r15 :: K) s = mreg prog ann 13 (some [3, 6, 7, 8, 9, 10, 11, 12]) [] none [] [qC 61 12,qF 62 fun s => binA prog .neq 27 (s.get 61) (.int .i64 0)] K s := (den_reg hf _ K s).trans (by kernel_rfl)
theorem i4_eq : den prog ann 13 (.code i4 :: K) s = ifV prog ann 13 62 i4t i4e K s (s.get 62) := den_if hf (by kernel_rfl) K s
theorem i4t_eq : den prog ann 13 (.code i4t :: K) s = den prog ann 13 (.code r16 :: .code .ret :: K) s := den_flat hf (l := [r16, .ret]) (by kernel_rfl) K s
theorem r16_eq : den prog ann 13 (.code r16 :: K) s = mreg prog ann 13 none [] none [] [qC 63 6,qA 64 lenSl 63,qC 65 8,qA 66 lenSl 65,qB 67 (binA prog .add 3) 64 66,qC 68 10,qA 69 lenSl 68,qB 70 (binA prog .add 3) 67 69,qF 71 fun s => binA prog .eql 3 (s.get 70) (.int .i64 0),qC 72 71,⟨some 73, some (72, true), .v fun s => some (s.get 7)⟩,⟨some 74, some (72, true), .v fun s => some (s.get 12)⟩,⟨some 75, some (72, true), .v fun s => binA prog .eql 27 (s.get 73) (s.get 74)⟩,qF 76 fun s => pickA (s.get 72) (s.get 75) (.bool false),qC 77 76,⟨some 78, some (77, true), .v fun s => some (s.get 9)⟩,⟨some 79, some (77, true), .v fun s => some (s.get 12)⟩,⟨some 80, some (77, true), .v fun s => binA prog .eql 27 (s.get 78) (s.get 79)⟩,qF 81 fun s => pickA (s.get 77) (s.get 80) (.bool false),qC 82 81,⟨some 83, some (82, true), .v fun s => some (s.get 11)⟩,⟨some 84, some (82, true), .v fun s => some (s.get 12)⟩,⟨some 85, some (82, true), .v fun s => binA prog .eql 27 (s.get 83) (s.get 84)⟩,qF 86 fun s => pickA (s.get 82) (s.get 85) (.bool false),qC 87 86,⟨some 88, some (87, true), .c 0 (fun s => (.fn 21 [] [])) fun s => []⟩,qF 89 fun s => pickA (s.get 87) (s.get 88) (.bool false),qC 2 89] K s := (den_reg hf _ K s).trans (by kernel_rfl)
theorem i4e_eq : den prog ann 13 (.code i4e :: K) s = den prog ann 13 (K) s := den_flat hf (l := []) (by kernel_rfl) K s
theorem r17_eq : den prog ann 13 (.code r17 :: K) s = mreg prog ann 13 none [] none [15] [qA 91 (loadF true 2) 3,⟨some 92, none, .c 2 (fun s => (.fn 29 [] [])) fun s => [(s.get 91)]⟩,⟨some 93, none, .c 0 (fun s => (.fn 41 [] [])) fun s => [(s.get 92)]⟩,qC 90 93,qF 94 fun s => extA (s.get 90) 0,qF 95 fun s => extA (s.get 90) 1,⟨some 15, none, .w false none fun s => newPtr s.m [.nils, .nils]⟩,⟨none, none, .w false none fun s => stA true 2 s.m (s.get 15) (s.get 94)⟩,qC 16 95] K s := (den_reg hf _ K s).trans (by kernel_rfl)
theorem r18_draw : drawOk (fun g => (ann g).pure) (modeOf (ann 13) (idOf r18)) (frzOf (ann 13) (idOf r18)) (opsOf r18) = true := drawOk_of (an := [0, 0, 0, 4, 14, 31, 63, 127, 255, 511, 1023, 2047, 2047, 2047, 10239, 30719, 65535, 131071, 262143, 524287, 1048575, 2097151, 4194303, 8388607, 8388607, 8388607, 41943039, 125829119, 268435455, 536870911, 1073741823, 2147483647, 4294967295, 8589934591, 17179869183, 34359738367, 68719476735, 137438953471]) (by kernel_rfl) (by kernel_rfl)
theorem r18_eq : den prog ann 13 (.code r18 :: K) s = mreg prog ann 13 none [] (some 38) [] [qC 96 6,qA 97 (loadF true 2) 15,qA 98 (loadF true 2) 15,⟨some 99, none, .c 0 (fun s => (.fn 50 [] [])) fun s => [(s.get 98), (.int .i64 0)]⟩,⟨some 100, none, .c 0 (fun s => (.fn 49 [] [])) fun s => [(s.get 97), (s.get 99)]⟩,⟨some 101, none, .c 0 (fun s => (.fn 46 [] [])) fun s => [(s.get 96), (s.get 100)]⟩,qC 102 101,⟨some 103, some (102, true), .v fun s => some (s.get 7)⟩,⟨some 104, some (102, true), .v fun s => binA prog .eql 27 (s.get 103) (.int .i64 0)⟩,qF 105 fun s => pickA (s.get 102) (s.get 104) (.bool false),qC 106 105,⟨some 107, some (106, true), .v fun s => some (s.get 8)⟩,⟨some 108, some (106, true), .v fun s => loadF true 2 (s.get 15)⟩,⟨some 109, some (106, true), .v fun s => loadF true 2 (s.get 15)⟩,⟨some 110, some (106, true), .c 0 (fun s => (.fn 50 [] [])) fun s => [(s.get 109), (.int .i64 1)]⟩,⟨some 111, some (106, true), .c 0 (fun s => (.fn 49 [] [])) fun s => [(s.get 108), (s.get 110)]⟩,⟨some 112, some (106, true), .c 0 (fun s => (.fn 46 [] [])) fun s => [(s.get 107), (s.get 111)]⟩,qF 113 fun s => pickA (s.get 106) (s.get 112) (.bool false),qC 114 113,⟨some 115, some (114, true), .v fun s => some (s.get 9)⟩,⟨some 116, some (114, true), .v fun s => binA prog .eql 27 (s.get 115) (.int .i64 0)⟩,qF 117 fun s => pickA (s.get 114) (s.get 116) (.bool false),qC 118 117,⟨some 119, some (118, true), .v fun s => some (s.get 10)⟩,⟨some 120, some (118, true), .v fun s => loadF true 2 (s.get 15)⟩,⟨some 121, some (118, true), .v fun s => loadF true 2 (s.get 15)⟩,⟨some 122, some (118, true), .c 0 (fun s => (.fn 50 [] [])) fun s => [(s.get 121), (.int .i64 2)]⟩,⟨some 123, some (118, true), .c 0 (fun s => (.fn 49 [] [])) fun s => [(s.get 120), (s.get 122)]⟩,⟨some 124, some (118, true), .c 0 (fun s => (.fn 46 [] [])) fun s => [(s.get 119), (s.get 123)]⟩,qF 125 fun s => pickA (s.get 118) (s.get 124) (.bool false),qC 126 125,⟨some 127, some (126, true), .v fun s => some (s.get 11)⟩,⟨some 128, some (126, true), .v fun s => binA prog .eql 27 (s.get 127) (.int .i64 0)⟩,qF 129 fun s => pickA (s.get 126) (s.get 128) (.bool false),qC 130 129,⟨some 131, some (130, true), .c 0 (fun s => (.fn 21 [] [])) fun s => []⟩,qF 132 fun s => pickA (s.get 130) (s.get 131) (.bool false),qC 2 132] K s := (den_regD hf r18_draw K s).trans (by kernel_rfl)
theorem ret_eq : den prog ann 13 (.code .ret :: K) s = finM true [fun s => some (s.get 2)] s := (den_ret hf K s).trans (by kernel_rfl)
theorem nil_eq (s : St) : den prog ann 13 [] s = finM true [fun s => some (s.get 2)] s := (den_nil hf s).trans (by kernel_rfl)
theorem inBlock_eq (id : Nat) (K : List Item) (s : St) : den prog ann 13 (.inBlock id :: K) s = den prog ann 13 K s := den_inBlock hf id K s
theorem exit_eq (id : Nat) (K : List Item) (s : St) : den prog ann 13 (.code (.exit id) :: K) s = exitV prog ann 13 (exitTo id K) s := den_exitV hf id K s
theorem call_eq (v0 : AV) (m : Mem) (h : closedL [v0] = true) : denC prog ann 13 [v0] m = (den prog ann 13 [.code b] ⟨[(0, v0)], 133, Mem.empty⟩).bind fun r => some (r.1, m) := (denC_pure hf (b := b) (by kernel_rfl) (by kernel_rfl) (by kernel_rfl) h m).trans (by kernel_rfl)
theorem pure_eq : (ann 13).pure = true := by kernel_rfl
attribute [simp] b_eq r0_eq r1_eq r2_eq i0_eq i0t_eq r3_eq r4_eq i1_eq i1t_eq r5_eq i1e_eq i0e_eq r6_eq r7_eq r8_eq r9_eq r10_eq i2_eq i2t_eq r11_eq i2e_eq r12_eq r13_eq i3_eq i3t_eq r14_eq i3e_eq r15_eq i4_eq i4t_eq r16_eq i4e_eq r17_eq r18_eq ret_eq nil_eq inBlock_eq exit_eq pure_eq
end
end l07_BrandClasses

namespace r07_Monoid_Classes
noncomputable section
variable (K : List Item) (s : St)
/-- (pommel/pommelref07.Monoid).Classes -/
def b : Code := (Try.f50.body).getD .skip
theorem hf : prog.funcs[50]? = some Try.f50 := by kernel_rfl
def r0 := findReg b 0
def r1 := findReg b 1
def r2 := findReg b 2
def k0 := findBlk b 0
def l0 := loopOf k0
def L0 (x5 x6 x7 x8 : AV) (m : Mem) (K : List Item) : Option Res := den prog ann 50 (.code l0 :: .inLoop l0 :: .inBlock 0 :: K) ⟨[(5, x5), (6, x6), (7, x7), (8, x8)], 65, m⟩
def r3 := findReg b 3
def i0 := findCond b 0
def i0t := thenOf i0
def i0e := elseOf i0
def k1 := findBlk b 1
def r5 := findReg b 5
def i1 := findCond b 1
def i1t := thenOf i1
def i1e := elseOf i1
def r6 := findReg b 6
def r7 := findReg b 7
def k2 := findBlk b 2
def l2 := loopOf k2
def L2 (x5 x6 x7 x8 x9 x10 : AV) (m : Mem) (K : List Item) : Option Res := den prog ann 50 (.code l2 :: .inLoop l2 :: .inBlock 2 :: K) ⟨[(5, x5), (6, x6), (7, x7), (8, x8), (9, x9), (10, x10)], 65, m⟩
def r8 := findReg b 8
def i2 := findCond b 2
def i2t := thenOf i2
def i2e := elseOf i2
def k3 := findBlk b 3
def r10 := findReg b 10
def i3 := findCond b 3
def i3t := thenOf i3
def i3e := elseOf i3
def r11 := findReg b 11
def r9 := findReg b 9
def r12 := findReg b 12
def r4 := findReg b 4
def r13 := findReg b 13
theorem b_eq : den prog ann 50 (.code b :: K) s = den prog ann 50 (.code r0 :: .code r1 :: .code r2 :: .code k0 :: .code r13 :: .code .ret :: K) s := den_flat hf (l := [r0, r1, r2, k0, r13, .ret]) (by kernel_rfl) K s
theorem r0_eq : den prog ann 50 (.code r0 :: K) s = mreg prog ann 50 none [] none [] [qA 2 frozenPtr 0,qF 4 fun s => some (.nils)] K s := (den_reg hf _ K s).trans (by kernel_rfl)
theorem r1_draw : drawOk (fun g => (ann g).pure) (modeOf (ann 50) (idOf r1)) (frzOf (ann 50) (idOf r1)) (opsOf r1) = true := drawOk_of (an := [0, 0, 3, 0, 8, 24, 56, 0, 7, 383, 1023]) (by kernel_rfl) (by kernel_rfl)
theorem r1_eq : den prog ann 50 (.code r1 :: K) s = mreg prog ann 50 none [] (some 11) [] [qA 11 (loadF true 2) 2,qC 12 1,⟨some 13, none, .c 0 (fun s => (.fn 77 [] [])) fun s => [(s.get 11), (s.get 12)]⟩,qA 14 (fieldA 0) 2,qA 15 (loadF false 1) 14,qA 16 lenSl 15,⟨some 17, none, .w false (some 6) fun s => makeA 1 1 (.bool false) s.m (s.get 16) (s.get 16)⟩,⟨some 18, none, .w false (some 7) fun s => bslM s.m 0 (bslA 1 0 [.nils] [])⟩,qC 5 13,qC 6 17,qC 7 18] K s := (den_regD hf r1_draw K s).trans (by kernel_rfl)
theorem r2_eq : den prog ann 50 (.code r2 :: K) s = mreg prog ann 50 none [] none [] [qF 8 fun s => some (.int .i64 0)] K s := (den_reg hf _ K s).trans (by kernel_rfl)
theorem k0_eq (K : List Item) (t : List (Nat × AV)) (m : Mem) : den prog ann 50 (.code k0 :: K) ⟨t, 65, m⟩ = L0 (get t 5) (get t 6) (get t 7) (get t 8) m K := den_loop_enter hf (b := l0) (id := 3) (l := [5, 6, 7, 8]) (by kernel_rfl) (by kernel_rfl) (by kernel_rfl) K _
theorem l0_eq (K : List Item) (t : List (Nat × AV)) (m : Mem) : den prog ann 50 (.inLoop l0 :: .inBlock 0 :: K) ⟨t, 65, m⟩ = L0 (get t 5) (get t 6) (get t 7) (get t 8) m K := den_loop_again hf (id := 3) (l := [5, 6, 7, 8]) (by kernel_rfl) (by kernel_rfl) (.inBlock 0 :: K) _
theorem L0_eq (x5 x6 x7 x8 : AV) (m : Mem) (K : List Item) : L0 x5 x6 x7 x8 m K = den prog ann 50 (.code r3 :: .code i0 :: .code k1 :: .code r4 :: .inLoop l0 :: .inBlock 0 :: K) ⟨[(5, x5), (6, x6), (7, x7), (8, x8)], 65, m⟩ := den_flat hf (l := [r3, i0, k1, r4]) (by kernel_rfl) _ _
theorem r3_eq : den prog ann 50 (.code r3 :: K) s = mreg prog ann 50 (some [5, 6, 7, 8]) [] none [] [qC 19 8,qC 20 5,qA 21 lenSl 20,qB 22 (binA prog .lss 3) 19 21] K s := (den_reg hf _ K s).trans (by kernel_rfl)
theorem i0_eq : den prog ann 50 (.code i0 :: K) s = ifV prog ann 50 22 i0t i0e K s (s.get 22) := den_if hf (by kernel_rfl) K s
theorem i0t_eq : den prog ann 50 (.code i0t :: K) s = den prog ann 50 (K) s := den_flat hf (l := []) (by kernel_rfl) K s
theorem i0e_eq : den prog ann 50 (.code i0e :: K) s = den prog ann 50 (.code (.exit 0) :: K) s := den_flat hf (l := [(.exit 0)]) (by kernel_rfl) K s
theorem k1_eq : den prog ann 50 (.code k1 :: K) s = den prog ann 50 (.code r5 :: .code i1 :: .code r6 :: .code r7 :: .code k2 :: .code r12 :: .inBlock 1 :: K) s := den_blk hf (b := blkOf k1) (l := [r5, i1, r6, r7, k2, r12]) (by kernel_rfl) (by kernel_rfl) K s
theorem r5_eq : den prog ann 50 (.code r5 :: K) s = mreg prog ann 50 none [] none [] [qC 25 6,qC 26 8,qB 27 (idxSl 1) 25 26,qF 28 fun s => loadA false 1 s.m (s.get 27)] K s := (den_reg hf _ K s).trans (by kernel_rfl)
theorem i1_eq : den prog ann 50 (.code i1 :: K) s = ifV prog ann 50 28 i1t i1e K s (s.get 28) := den_if hf (by kernel_rfl) K s
theorem i1t_eq : den prog ann 50 (.code i1t :: K) s = den prog ann 50 (.code (.exit 1) :: K) s := den_flat hf (l := [(.exit 1)]) (by kernel_rfl) K s
theorem i1e_eq : den prog ann 50 (.code i1e :: K) s = den prog ann 50 (K) s := den_flat hf (l := []) (by kernel_rfl) K s
theorem r6_eq : den prog ann 50 (.code r6 :: K) s = mreg prog ann 50 none [] none [] [⟨some 29, none, .w false none fun s => bslM s.m 0 (bslA 1 0 [.int .i64 0] [])⟩,qC 9 29] K s := (den_reg hf _ K s).trans (by kernel_rfl)
theorem r7_eq : den prog ann 50 (.code r7 :: K) s = mreg prog ann 50 none [] none [] [qC 30 8,qC 10 30] K s := (den_reg hf _ K s).trans (by kernel_rfl)
theorem k2_eq (K : List Item) (t : List (Nat × AV)) (m : Mem) : den prog ann 50 (.code k2 :: K) ⟨t, 65, m⟩ = L2 (get t 5) (get t 6) (get t 7) (get t 8) (get t 9) (get t 10) m K := den_loop_enter hf (b := l2) (id := 8) (l := [5, 6, 7, 8, 9, 10]) (by kernel_rfl) (by kernel_rfl) (by kernel_rfl) K _
theorem l2_eq (K : List Item) (t : List (Nat × AV)) (m : Mem) : den prog ann 50 (.inLoop l2 :: .inBlock 2 :: K) ⟨t, 65, m⟩ = L2 (get t 5) (get t 6) (get t 7) (get t 8) (get t 9) (get t 10) m K := den_loop_again hf (id := 8) (l := [5, 6, 7, 8, 9, 10]) (by kernel_rfl) (by kernel_rfl) (.inBlock 2 :: K) _
theorem L2_eq (x5 x6 x7 x8 x9 x10 : AV) (m : Mem) (K : List Item) : L2 x5 x6 x7 x8 x9 x10 m K = den prog ann 50 (.code r8 :: .code i2 :: .code k3 :: .code r9 :: .inLoop l2 :: .inBlock 2 :: K) ⟨[(5, x5), (6, x6), (7, x7), (8, x8), (9, x9), (10, x10)], 65, m⟩ := den_flat hf (l := [r8, i2, k3, r9]) (by kernel_rfl) _ _
theorem r8_eq : den prog ann 50 (.code r8 :: K) s = mreg prog ann 50 (some [5, 6, 7, 8, 9, 10]) [] none [] [qC 31 10,qC 32 5,qA 33 lenSl 32,qB 34 (binA prog .lss 3) 31 33] K s := (den_reg hf _ K s).trans (by kernel_rfl)
theorem i2_eq : den prog ann 50 (.code i2 :: K) s = ifV prog ann 50 34 i2t i2e K s (s.get 34) := den_if hf (by kernel_rfl) K s
theorem i2t_eq : den prog ann 50 (.code i2t :: K) s = den prog ann 50 (K) s := den_flat hf (l := []) (by kernel_rfl) K s
theorem i2e_eq : den prog ann 50 (.code i2e :: K) s = den prog ann 50 (.code (.exit 2) :: K) s := den_flat hf (l := [(.exit 2)]) (by kernel_rfl) K s
theorem k3_eq : den prog ann 50 (.code k3 :: K) s = den prog ann 50 (.code r10 :: .code i3 :: .inBlock 3 :: K) s := den_blk hf (b := blkOf k3) (l := [r10, i3]) (by kernel_rfl) (by kernel_rfl) K s
theorem r10_eq : den prog ann 50 (.code r10 :: K) s = mreg prog ann 50 none [] none [] [qC 37 5,qC 38 8,qB 39 (idxSl 1) 37 38,qA 40 (loadF false 1) 39,qC 41 10,qB 42 (idxSl 1) 40 41,qA 43 (loadF false 1) 42,qC 44 43,⟨some 45, some (44, true), .v fun s => some (s.get 5)⟩,⟨some 46, some (44, true), .v fun s => some (s.get 10)⟩,⟨some 47, some (44, true), .v fun s => idxSl 1 (s.get 45) (s.get 46)⟩,⟨some 48, some (44, true), .v fun s => loadF false 1 (s.get 47)⟩,⟨some 49, some (44, true), .v fun s => some (s.get 8)⟩,⟨some 50, some (44, true), .v fun s => idxSl 1 (s.get 48) (s.get 49)⟩,⟨some 51, some (44, true), .v fun s => loadF false 1 (s.get 50)⟩,qF 52 fun s => pickA (s.get 44) (s.get 51) (.bool false)] K s := (den_reg hf _ K s).trans (by kernel_rfl)
theorem i3_eq : den prog ann 50 (.code i3 :: K) s = ifV prog ann 50 52 i3t i3e K s (s.get 52) := den_if hf (by kernel_rfl) K s
theorem i3t_eq : den prog ann 50 (.code i3t :: K) s = den prog ann 50 (.code r11 :: K) s := den_flat hf (l := [r11]) (by kernel_rfl) K s
theorem r11_eq : den prog ann 50 (.code r11 :: K) s = mreg prog ann 50 none [] none [] [qC 53 6,qC 54 10,qC 55 9,qC 56 10,qF 57 fun s => bslF 1 (bslA 1 1 [.int .i64 0] [(0, (s.get 56))]),⟨some 58, none, .w false none fun s => appendA 1 8 s.m (s.get 55) (s.get 57)⟩,qC 9 58,qB 59 (idxSl 1) 53 54,⟨none, none, .w false none fun s => stA false 1 s.m (s.get 59) (.bool true)⟩] K s := (den_reg hf _ K s).trans (by kernel_rfl)
theorem i3e_eq : den prog ann 50 (.code i3e :: K) s = den prog ann 50 (K) s := den_flat hf (l := []) (by kernel_rfl) K s
theorem r9_eq : den prog ann 50 (.code r9 :: K) s = mreg prog ann 50 (some [5, 6, 7, 8, 9, 10]) [] none [] [qC 35 10,qF 36 fun s => binA prog .add 3 (s.get 35) (.int .i64 1),qC 10 36] K s := (den_reg hf _ K s).trans (by kernel_rfl)
theorem r12_eq : den prog ann 50 (.code r12 :: K) s = mreg prog ann 50 (some [5, 6, 7, 8, 9]) [9] none [] [qC 60 7,qC 61 9,qF 62 fun s => bslF 1 (bslA 1 1 [.nils] [(0, (s.get 61))]),⟨some 63, none, .w false none fun s => appendA 1 24 s.m (s.get 60) (s.get 62)⟩,qC 7 63] K s := (den_reg hf _ K s).trans (by kernel_rfl)
theorem r4_eq : den prog ann 50 (.code r4 :: K) s = mreg prog ann 50 (some [5, 6, 7, 8]) [] none [] [qC 23 8,qF 24 fun s => binA prog .add 3 (s.get 23) (.int .i64 1),qC 8 24] K s := (den_reg hf _ K s).trans (by kernel_rfl)
theorem r13_eq : den prog ann 50 (.code r13 :: K) s = mreg prog ann 50 (some [7]) [] none [] [qC 64 7,qC 4 64] K s := (den_reg hf _ K s).trans (by kernel_rfl)
theorem ret_eq : den prog ann 50 (.code .ret :: K) s = finM true [fun s => some (s.get 4)] s := (den_ret hf K s).trans (by kernel_rfl)
theorem nil_eq (s : St) : den prog ann 50 [] s = finM true [fun s => some (s.get 4)] s := (den_nil hf s).trans (by kernel_rfl)
theorem inBlock_eq (id : Nat) (K : List Item) (s : St) : den prog ann 50 (.inBlock id :: K) s = den prog ann 50 K s := den_inBlock hf id K s
theorem exit_eq (id : Nat) (K : List Item) (s : St) : den prog ann 50 (.code (.exit id) :: K) s = exitV prog ann 50 (exitTo id K) s := den_exitV hf id K s
theorem call_eq (v0 v1 : AV) (m : Mem) (h : closedL [v0, v1] = true) : denC prog ann 50 [v0, v1] m = (den prog ann 50 [.code b] ⟨[(0, v0), (1, v1)], 65, Mem.empty⟩).bind fun r => some (r.1, m) := (denC_pure hf (b := b) (by kernel_rfl) (by kernel_rfl) (by kernel_rfl) h m).trans (by kernel_rfl)
theorem pure_eq : (ann 50).pure = true := by kernel_rfl
attribute [simp] b_eq r0_eq r1_eq r2_eq k0_eq l0_eq r3_eq i0_eq i0t_eq i0e_eq k1_eq r5_eq i1_eq i1t_eq i1e_eq r6_eq r7_eq k2_eq l2_eq r8_eq i2_eq i2t_eq i2e_eq k3_eq r10_eq i3_eq i3t_eq r11_eq i3e_eq r9_eq r12_eq r4_eq r13_eq ret_eq nil_eq inBlock_eq exit_eq pure_eq
end
end r07_Monoid_Classes

namespace r07_Monoid_below
noncomputable section
variable (K : List Item) (s : St)
/-- (pommel/pommelref07.Monoid).below -/
def b : Code := (Try.f77.body).getD .skip
theorem hf : prog.funcs[77]? = some Try.f77 := by kernel_rfl
def r0 := findReg b 0
def r1 := findReg b 1
def r2 := findReg b 2
def k0 := findBlk b 0
def l0 := loopOf k0
def L0 (x1 x5 x6 x7 : AV) (m : Mem) (K : List Item) : Option Res := den prog ann 77 (.code l0 :: .inLoop l0 :: .inBlock 0 :: K) ⟨[(1, x1), (5, x5), (6, x6), (7, x7)], 93, m⟩
def r3 := findReg b 3
def i0 := findCond b 0
def i0t := thenOf i0
def i0e := elseOf i0
def k1 := findBlk b 1
def r5 := findReg b 5
def r6 := findReg b 6
def k2 := findBlk b 2
def l2 := loopOf k2
def L2 (x1 x5 x6 x7 x8 x9 : AV) (m : Mem) (K : List Item) : Option Res := den prog ann 77 (.code l2 :: .inLoop l2 :: .inBlock 2 :: K) ⟨[(1, x1), (5, x5), (6, x6), (7, x7), (8, x8), (9, x9)], 93, m⟩
def r7 := findReg b 7
def i1 := findCond b 1
def i1t := thenOf i1
def i1e := elseOf i1
def k3 := findBlk b 3
def r9 := findReg b 9
def k4 := findBlk b 4
def r15 := findReg b 15
def i2 := findCond b 2
def i2t := thenOf i2
def i2e := elseOf i2
def r16 := findReg b 16
def r17 := findReg b 17
def i3 := findCond b 3
def i3t := thenOf i3
def i3e := elseOf i3
def r18 := findReg b 18
def r10 := findReg b 10
def i4 := findCond b 4
def i4t := thenOf i4
def i4e := elseOf i4
def r11 := findReg b 11
def k5 := findBlk b 5
def l5 := loopOf k5
def L5 (x1 x5 x6 x7 x8 x9 x10 : AV) (m : Mem) (K : List Item) : Option Res := den prog ann 77 (.code l5 :: .inLoop l5 :: .inBlock 5 :: K) ⟨[(1, x1), (5, x5), (6, x6), (7, x7), (8, x8), (9, x9), (10, x10)], 93, m⟩
def r12 := findReg b 12
def i5 := findCond b 5
def i5t := thenOf i5
def i5e := elseOf i5
def k6 := findBlk b 6
def r14 := findReg b 14
def r13 := findReg b 13
def r8 := findReg b 8
def r19 := findReg b 19
def r4 := findReg b 4
def r20 := findReg b 20
theorem b_eq : den prog ann 77 (.code b :: K) s = den prog ann 77 (.code r0 :: .code r1 :: .code r2 :: .code k0 :: .code r20 :: .code .ret :: K) s := den_flat hf (l := [r0, r1, r2, k0, r20, .ret]) (by kernel_rfl) K s
theorem r0_eq : den prog ann 77 (.code r0 :: K) s = mreg prog ann 77 none [] none [] [qA 2 frozenPtr 0,qF 4 fun s => some (.nils)] K s := (den_reg hf _ K s).trans (by kernel_rfl)
theorem r1_eq : den prog ann 77 (.code r1 :: K) s = mreg prog ann 77 none [] none [] [qA 11 (loadF true 2) 2,⟨some 12, none, .c 0 (fun s => (.fn 90 [] [])) fun s => [(s.get 11)]⟩,⟨some 13, none, .w false none fun s => bslM s.m 0 (bslA 1 0 [.nils] [])⟩,qC 5 12,qC 6 13] K s := (den_reg hf _ K s).trans (by kernel_rfl)
theorem r2_eq : den prog ann 77 (.code r2 :: K) s = mreg prog ann 77 none [] none [] [qF 7 fun s => some (.int .i64 0)] K s := (den_reg hf _ K s).trans (by kernel_rfl)
theorem k0_eq (K : List Item) (t : List (Nat × AV)) (m : Mem) : den prog ann 77 (.code k0 :: K) ⟨t, 93, m⟩ = L0 (get t 1) (get t 5) (get t 6) (get t 7) m K := den_loop_enter hf (b := l0) (id := 3) (l := [1, 5, 6, 7]) (by kernel_rfl) (by kernel_rfl) (by kernel_rfl) K _
theorem l0_eq (K : List Item) (t : List (Nat × AV)) (m : Mem) : den prog ann 77 (.inLoop l0 :: .inBlock 0 :: K) ⟨t, 93, m⟩ = L0 (get t 1) (get t 5) (get t 6) (get t 7) m K := den_loop_again hf (id := 3) (l := [1, 5, 6, 7]) (by kernel_rfl) (by kernel_rfl) (.inBlock 0 :: K) _
theorem L0_eq (x1 x5 x6 x7 : AV) (m : Mem) (K : List Item) : L0 x1 x5 x6 x7 m K = den prog ann 77 (.code r3 :: .code i0 :: .code k1 :: .code r4 :: .inLoop l0 :: .inBlock 0 :: K) ⟨[(1, x1), (5, x5), (6, x6), (7, x7)], 93, m⟩ := den_flat hf (l := [r3, i0, k1, r4]) (by kernel_rfl) _ _
theorem r3_eq : den prog ann 77 (.code r3 :: K) s = mreg prog ann 77 (some [1, 5, 6, 7]) [] none [] [qC 14 7,qC 15 5,qA 16 lenSl 15,qB 17 (binA prog .lss 3) 14 16] K s := (den_reg hf _ K s).trans (by kernel_rfl)
theorem i0_eq : den prog ann 77 (.code i0 :: K) s = ifV prog ann 77 17 i0t i0e K s (s.get 17) := den_if hf (by kernel_rfl) K s
theorem i0t_eq : den prog ann 77 (.code i0t :: K) s = den prog ann 77 (K) s := den_flat hf (l := []) (by kernel_rfl) K s
theorem i0e_eq : den prog ann 77 (.code i0e :: K) s = den prog ann 77 (.code (.exit 0) :: K) s := den_flat hf (l := [(.exit 0)]) (by kernel_rfl) K s
theorem k1_eq : den prog ann 77 (.code k1 :: K) s = den prog ann 77 (.code r5 :: .code r6 :: .code k2 :: .code r19 :: .inBlock 1 :: K) s := den_blk hf (b := blkOf k1) (l := [r5, r6, k2, r19]) (by kernel_rfl) (by kernel_rfl) K s
theorem r5_eq : den prog ann 77 (.code r5 :: K) s = mreg prog ann 77 none [] none [] [qC 20 5,qA 21 lenSl 20,⟨some 22, none, .w false none fun s => makeA 1 1 (.bool false) s.m (s.get 21) (s.get 21)⟩,qC 8 22] K s := (den_reg hf _ K s).trans (by kernel_rfl)
theorem r6_eq : den prog ann 77 (.code r6 :: K) s = mreg prog ann 77 none [] none [] [qF 9 fun s => some (.int .i64 0)] K s := (den_reg hf _ K s).trans (by kernel_rfl)
theorem k2_eq (K : List Item) (t : List (Nat × AV)) (m : Mem) : den prog ann 77 (.code k2 :: K) ⟨t, 93, m⟩ = L2 (get t 1) (get t 5) (get t 6) (get t 7) (get t 8) (get t 9) m K := den_loop_enter hf (b := l2) (id := 7) (l := [1, 5, 6, 7, 8, 9]) (by kernel_rfl) (by kernel_rfl) (by kernel_rfl) K _
theorem l2_eq (K : List Item) (t : List (Nat × AV)) (m : Mem) : den prog ann 77 (.inLoop l2 :: .inBlock 2 :: K) ⟨t, 93, m⟩ = L2 (get t 1) (get t 5) (get t 6) (get t 7) (get t 8) (get t 9) m K := den_loop_again hf (id := 7) (l := [1, 5, 6, 7, 8, 9]) (by kernel_rfl) (by kernel_rfl) (.inBlock 2 :: K) _
theorem L2_eq (x1 x5 x6 x7 x8 x9 : AV) (m : Mem) (K : List Item) : L2 x1 x5 x6 x7 x8 x9 m K = den prog ann 77 (.code r7 :: .code i1 :: .code k3 :: .code r8 :: .inLoop l2 :: .inBlock 2 :: K) ⟨[(1, x1), (5, x5), (6, x6), (7, x7), (8, x8), (9, x9)], 93, m⟩ := den_flat hf (l := [r7, i1, k3, r8]) (by kernel_rfl) _ _
theorem r7_eq : den prog ann 77 (.code r7 :: K) s = mreg prog ann 77 (some [1, 5, 6, 7, 8, 9]) [] none [] [qC 23 9,qC 24 5,qA 25 lenSl 24,qB 26 (binA prog .lss 3) 23 25] K s := (den_reg hf _ K s).trans (by kernel_rfl)
theorem i1_eq : den prog ann 77 (.code i1 :: K) s = ifV prog ann 77 26 i1t i1e K s (s.get 26) := den_if hf (by kernel_rfl) K s
theorem i1t_eq : den prog ann 77 (.code i1t :: K) s = den prog ann 77 (K) s := den_flat hf (l := []) (by kernel_rfl) K s
theorem i1e_eq : den prog ann 77 (.code i1e :: K) s = den prog ann 77 (.code (.exit 2) :: K) s := den_flat hf (l := [(.exit 2)]) (by kernel_rfl) K s
theorem k3_eq : den prog ann 77 (.code k3 :: K) s = den prog ann 77 (.code r9 :: .code k4 :: .inBlock 3 :: K) s := den_blk hf (b := blkOf k3) (l := [r9, k4]) (by kernel_rfl) (by kernel_rfl) K s
theorem r9_eq : den prog ann 77 (.code r9 :: K) s = mreg prog ann 77 none [] none [] [qC 29 1] K s := (den_reg hf _ K s).trans (by kernel_rfl)
theorem k4_eq : den prog ann 77 (.code k4 :: K) s = den prog ann 77 (.code r15 :: .code i2 :: .inBlock 4 :: K) s := den_blk hf (b := blkOf k4) (l := [r15, i2]) (by kernel_rfl) (by kernel_rfl) K s
theorem r15_eq : den prog ann 77 (.code r15 :: K) s = mreg prog ann 77 none [] none [] [qF 67 fun s => binA prog .eql 3 (s.get 29) (.int .i64 0),qC 66 67] K s := (den_reg hf _ K s).trans (by kernel_rfl)
theorem i2_eq : den prog ann 77 (.code i2 :: K) s = ifV prog ann 77 66 i2t i2e K s (s.get 66) := den_if hf (by kernel_rfl) K s
theorem i2t_eq : den prog ann 77 (.code i2t :: K) s = den prog ann 77 (.code r16 :: K) s := den_flat hf (l := [r16]) (by kernel_rfl) K s
theorem r16_eq : den prog ann 77 (.code r16 :: K) s = mreg prog ann 77 none [] none [] [qC 68 8,qC 69 5,qC 70 9,qB 71 (idxSl 1) 69 70,qA 72 (loadF false 1) 71,qC 73 7,qB 74 (idxSl 1) 72 73,qA 75 (loadF false 1) 74,qB 76 (idxSl 1) 68 75,⟨none, none, .w false none fun s => stA false 1 s.m (s.get 76) (.bool true)⟩] K s := (den_reg hf _ K s).trans (by kernel_rfl)
theorem i2e_eq : den prog ann 77 (.code i2e :: K) s = den prog ann 77 (.code r17 :: .code i3 :: K) s := den_flat hf (l := [r17, i3]) (by kernel_rfl) K s
theorem r17_eq : den prog ann 77 (.code r17 :: K) s = mreg prog ann 77 none [] none [] [qF 78 fun s => binA prog .eql 3 (s.get 29) (.int .i64 1),qC 77 78] K s := (den_reg hf _ K s).trans (by kernel_rfl)
theorem i3_eq : den prog ann 77 (.code i3 :: K) s = ifV prog ann 77 77 i3t i3e K s (s.get 77) := den_if hf (by kernel_rfl) K s
theorem i3t_eq : den prog ann 77 (.code i3t :: K) s = den prog ann 77 (.code r18 :: K) s := den_flat hf (l := [r18]) (by kernel_rfl) K s
theorem r18_eq : den prog ann 77 (.code r18 :: K) s = mreg prog ann 77 none [] none [] [qC 79 8,qC 80 5,qC 81 7,qB 82 (idxSl 1) 80 81,qA 83 (loadF false 1) 82,qC 84 9,qB 85 (idxSl 1) 83 84,qA 86 (loadF false 1) 85,qB 87 (idxSl 1) 79 86,⟨none, none, .w false none fun s => stA false 1 s.m (s.get 87) (.bool true)⟩] K s := (den_reg hf _ K s).trans (by kernel_rfl)
theorem i3e_eq : den prog ann 77 (.code i3e :: K) s = den prog ann 77 (.code r10 :: .code i4 :: K) s := den_flat hf (l := [r10, i4]) (by kernel_rfl) K s
theorem r10_eq : den prog ann 77 (.code r10 :: K) s = mreg prog ann 77 none [] none [] [qC 30 8,qC 31 5,qC 32 9,qB 33 (idxSl 1) 31 32,qA 34 (loadF false 1) 33,qC 35 7,qB 36 (idxSl 1) 34 35,qA 37 (loadF false 1) 36,qB 38 (idxSl 1) 30 37,qF 39 fun s => loadA false 1 s.m (s.get 38),qA 40 (unA .not) 39,qC 41 40,⟨some 42, some (41, false), .v fun s => some (s.get 9)⟩,⟨some 43, some (41, false), .v fun s => binA prog .eql 3 (s.get 42) (.int .i64 0)⟩,qF 44 fun s => pickA (s.get 41) (.bool true) (s.get 43)] K s := (den_reg hf _ K s).trans (by kernel_rfl)
theorem i4_eq : den prog ann 77 (.code i4 :: K) s = ifV prog ann 77 44 i4t i4e K s (s.get 44) := den_if hf (by kernel_rfl) K s
theorem i4t_eq : den prog ann 77 (.code i4t :: K) s = den prog ann 77 (.code r11 :: .code k5 :: K) s := den_flat hf (l := [r11, k5]) (by kernel_rfl) K s
theorem r11_eq : den prog ann 77 (.code r11 :: K) s = mreg prog ann 77 none [] none [] [qF 10 fun s => some (.int .i64 0)] K s := (den_reg hf _ K s).trans (by kernel_rfl)
theorem k5_eq (K : List Item) (t : List (Nat × AV)) (m : Mem) : den prog ann 77 (.code k5 :: K) ⟨t, 93, m⟩ = L5 (get t 1) (get t 5) (get t 6) (get t 7) (get t 8) (get t 9) (get t 10) m K := den_loop_enter hf (b := l5) (id := 12) (l := [1, 5, 6, 7, 8, 9, 10]) (by kernel_rfl) (by kernel_rfl) (by kernel_rfl) K _
theorem l5_eq (K : List Item) (t : List (Nat × AV)) (m : Mem) : den prog ann 77 (.inLoop l5 :: .inBlock 5 :: K) ⟨t, 93, m⟩ = L5 (get t 1) (get t 5) (get t 6) (get t 7) (get t 8) (get t 9) (get t 10) m K := den_loop_again hf (id := 12) (l := [1, 5, 6, 7, 8, 9, 10]) (by kernel_rfl) (by kernel_rfl) (.inBlock 5 :: K) _
theorem L5_eq (x1 x5 x6 x7 x8 x9 x10 : AV) (m : Mem) (K : List Item) : L5 x1 x5 x6 x7 x8 x9 x10 m K = den prog ann 77 (.code r12 :: .code i5 :: .code k6 :: .code r13 :: .inLoop l5 :: .inBlock 5 :: K) ⟨[(1, x1), (5, x5), (6, x6), (7, x7), (8, x8), (9, x9), (10, x10)], 93, m⟩ := den_flat hf (l := [r12, i5, k6, r13]) (by kernel_rfl) _ _
theorem r12_eq : den prog ann 77 (.code r12 :: K) s = mreg prog ann 77 (some [1, 5, 6, 7, 8, 9, 10]) [] none [] [qC 45 10,qC 46 5,qA 47 lenSl 46,qB 48 (binA prog .lss 3) 45 47] K s := (den_reg hf _ K s).trans (by kernel_rfl)
theorem i5_eq : den prog ann 77 (.code i5 :: K) s = ifV prog ann 77 48 i5t i5e K s (s.get 48) := den_if hf (by kernel_rfl) K s
theorem i5t_eq : den prog ann 77 (.code i5t :: K) s = den prog ann 77 (K) s := den_flat hf (l := []) (by kernel_rfl) K s
theorem i5e_eq : den prog ann 77 (.code i5e :: K) s = den prog ann 77 (.code (.exit 5) :: K) s := den_flat hf (l := [(.exit 5)]) (by kernel_rfl) K s
theorem k6_eq : den prog ann 77 (.code k6 :: K) s = den prog ann 77 (.code r14 :: .inBlock 6 :: K) s := den_blk hf (b := blkOf k6) (l := [r14]) (by kernel_rfl) (by kernel_rfl) K s
theorem r14_eq : den prog ann 77 (.code r14 :: K) s = mreg prog ann 77 none [] none [] [qC 51 8,qC 52 5,qC 53 5,qC 54 9,qB 55 (idxSl 1) 53 54,qA 56 (loadF false 1) 55,qC 57 7,qB 58 (idxSl 1) 56 57,qA 59 (loadF false 1) 58,qB 60 (idxSl 1) 52 59,qA 61 (loadF false 1) 60,qC 62 10,qB 63 (idxSl 1) 61 62,qA 64 (loadF false 1) 63,qB 65 (idxSl 1) 51 64,⟨none, none, .w false none fun s => stA false 1 s.m (s.get 65) (.bool true)⟩] K s := (den_reg hf _ K s).trans (by kernel_rfl)
theorem r13_eq : den prog ann 77 (.code r13 :: K) s = mreg prog ann 77 (some [1, 5, 6, 7, 8, 9, 10]) [] none [] [qC 49 10,qF 50 fun s => binA prog .add 3 (s.get 49) (.int .i64 1),qC 10 50] K s := (den_reg hf _ K s).trans (by kernel_rfl)
theorem i4e_eq : den prog ann 77 (.code i4e :: K) s = den prog ann 77 (K) s := den_flat hf (l := []) (by kernel_rfl) K s
theorem r8_eq : den prog ann 77 (.code r8 :: K) s = mreg prog ann 77 (some [1, 5, 6, 7, 8, 9]) [] none [] [qC 27 9,qF 28 fun s => binA prog .add 3 (s.get 27) (.int .i64 1),qC 9 28] K s := (den_reg hf _ K s).trans (by kernel_rfl)
theorem r19_eq : den prog ann 77 (.code r19 :: K) s = mreg prog ann 77 (some [1, 5, 6, 7, 8]) [8] none [] [qC 88 6,qC 89 8,qF 90 fun s => bslF 1 (bslA 1 1 [.nils] [(0, (s.get 89))]),⟨some 91, none, .w false none fun s => appendA 1 24 s.m (s.get 88) (s.get 90)⟩,qC 6 91] K s := (den_reg hf _ K s).trans (by kernel_rfl)
theorem r4_eq : den prog ann 77 (.code r4 :: K) s = mreg prog ann 77 (some [1, 5, 6, 7]) [] none [] [qC 18 7,qF 19 fun s => binA prog .add 3 (s.get 18) (.int .i64 1),qC 7 19] K s := (den_reg hf _ K s).trans (by kernel_rfl)
theorem r20_eq : den prog ann 77 (.code r20 :: K) s = mreg prog ann 77 (some [6]) [] none [] [qC 92 6,qC 4 92] K s := (den_reg hf _ K s).trans (by kernel_rfl)
theorem ret_eq : den prog ann 77 (.code .ret :: K) s = finM true [fun s => some (s.get 4)] s := (den_ret hf K s).trans (by kernel_rfl)
theorem nil_eq (s : St) : den prog ann 77 [] s = finM true [fun s => some (s.get 4)] s := (den_nil hf s).trans (by kernel_rfl)
theorem inBlock_eq (id : Nat) (K : List Item) (s : St) : den prog ann 77 (.inBlock id :: K) s = den prog ann 77 K s := den_inBlock hf id K s
theorem exit_eq (id : Nat) (K : List Item) (s : St) : den prog ann 77 (.code (.exit id) :: K) s = exitV prog ann 77 (exitTo id K) s := den_exitV hf id K s
theorem call_eq (v0 v1 : AV) (m : Mem) (h : closedL [v0, v1] = true) : denC prog ann 77 [v0, v1] m = (den prog ann 77 [.code b] ⟨[(0, v0), (1, v1)], 93, Mem.empty⟩).bind fun r => some (r.1, m) := (denC_pure hf (b := b) (by kernel_rfl) (by kernel_rfl) (by kernel_rfl) h m).trans (by kernel_rfl)
theorem pure_eq : (ann 77).pure = true := by kernel_rfl
attribute [simp] b_eq r0_eq r1_eq r2_eq k0_eq l0_eq r3_eq i0_eq i0t_eq i0e_eq k1_eq r5_eq r6_eq k2_eq l2_eq r7_eq i1_eq i1t_eq i1e_eq k3_eq r9_eq k4_eq r15_eq i2_eq i2t_eq r16_eq i2e_eq r17_eq i3_eq i3t_eq r18_eq i3e_eq r10_eq i4_eq i4t_eq r11_eq k5_eq l5_eq r12_eq i5_eq i5t_eq i5e_eq k6_eq r14_eq r13_eq i4e_eq r8_eq r19_eq r4_eq r20_eq ret_eq nil_eq inBlock_eq exit_eq pure_eq
end
end r07_Monoid_below

namespace r07_Monoid_Table
noncomputable section
variable (K : List Item) (s : St)
/-- (pommel/pommelref07.Monoid).Table -/
def b : Code := (Try.f90.body).getD .skip
theorem hf : prog.funcs[90]? = some Try.f90 := by kernel_rfl
def r0 := findReg b 0
def r1 := findReg b 1
def r2 := findReg b 2
def k0 := findBlk b 0
def l0 := loopOf k0
def L0 (x1 x3 x4 : AV) (m : Mem) (K : List Item) : Option Res := den prog ann 90 (.code l0 :: .inLoop l0 :: .inBlock 0 :: K) ⟨[(1, x1), (3, x3), (4, x4)], 35, m⟩
def r3 := findReg b 3
def i0 := findCond b 0
def i0t := thenOf i0
def i0e := elseOf i0
def k1 := findBlk b 1
def r5 := findReg b 5
def r6 := findReg b 6
def k2 := findBlk b 2
def l2 := loopOf k2
def L2 (x1 x3 x4 x5 x6 : AV) (m : Mem) (K : List Item) : Option Res := den prog ann 90 (.code l2 :: .inLoop l2 :: .inBlock 2 :: K) ⟨[(1, x1), (3, x3), (4, x4), (5, x5), (6, x6)], 35, m⟩
def r7 := findReg b 7
def i1 := findCond b 1
def i1t := thenOf i1
def i1e := elseOf i1
def k3 := findBlk b 3
def r9 := findReg b 9
def r8 := findReg b 8
def r10 := findReg b 10
def r4 := findReg b 4
def r11 := findReg b 11
theorem b_eq : den prog ann 90 (.code b :: K) s = den prog ann 90 (.code r0 :: .code r1 :: .code r2 :: .code k0 :: .code r11 :: .code .ret :: K) s := den_flat hf (l := [r0, r1, r2, k0, r11, .ret]) (by kernel_rfl) K s
theorem r0_eq : den prog ann 90 (.code r0 :: K) s = mreg prog ann 90 none [] none [] [qA 1 frozenPtr 0,qF 2 fun s => some (.nils)] K s := (den_reg hf _ K s).trans (by kernel_rfl)
theorem r1_eq : den prog ann 90 (.code r1 :: K) s = mreg prog ann 90 none [] none [] [⟨some 7, none, .w false none fun s => bslM s.m 0 (bslA 1 0 [.nils] [])⟩,qC 3 7] K s := (den_reg hf _ K s).trans (by kernel_rfl)
theorem r2_eq : den prog ann 90 (.code r2 :: K) s = mreg prog ann 90 none [] none [] [qF 4 fun s => some (.int .i64 0)] K s := (den_reg hf _ K s).trans (by kernel_rfl)
theorem k0_eq (K : List Item) (t : List (Nat × AV)) (m : Mem) : den prog ann 90 (.code k0 :: K) ⟨t, 35, m⟩ = L0 (get t 1) (get t 3) (get t 4) m K := den_loop_enter hf (b := l0) (id := 3) (l := [1, 3, 4]) (by kernel_rfl) (by kernel_rfl) (by kernel_rfl) K _
theorem l0_eq (K : List Item) (t : List (Nat × AV)) (m : Mem) : den prog ann 90 (.inLoop l0 :: .inBlock 0 :: K) ⟨t, 35, m⟩ = L0 (get t 1) (get t 3) (get t 4) m K := den_loop_again hf (id := 3) (l := [1, 3, 4]) (by kernel_rfl) (by kernel_rfl) (.inBlock 0 :: K) _
theorem L0_eq (x1 x3 x4 : AV) (m : Mem) (K : List Item) : L0 x1 x3 x4 m K = den prog ann 90 (.code r3 :: .code i0 :: .code k1 :: .code r4 :: .inLoop l0 :: .inBlock 0 :: K) ⟨[(1, x1), (3, x3), (4, x4)], 35, m⟩ := den_flat hf (l := [r3, i0, k1, r4]) (by kernel_rfl) _ _
theorem r3_eq : den prog ann 90 (.code r3 :: K) s = mreg prog ann 90 (some [1, 3, 4]) [] none [] [qC 8 4,qA 9 (fieldA 0) 1,qA 10 (loadF false 1) 9,qA 11 lenSl 10,qB 12 (binA prog .lss 3) 8 11] K s := (den_reg hf _ K s).trans (by kernel_rfl)
theorem i0_eq : den prog ann 90 (.code i0 :: K) s = ifV prog ann 90 12 i0t i0e K s (s.get 12) := den_if hf (by kernel_rfl) K s
theorem i0t_eq : den prog ann 90 (.code i0t :: K) s = den prog ann 90 (K) s := den_flat hf (l := []) (by kernel_rfl) K s
theorem i0e_eq : den prog ann 90 (.code i0e :: K) s = den prog ann 90 (.code (.exit 0) :: K) s := den_flat hf (l := [(.exit 0)]) (by kernel_rfl) K s
theorem k1_eq : den prog ann 90 (.code k1 :: K) s = den prog ann 90 (.code r5 :: .code r6 :: .code k2 :: .code r10 :: .inBlock 1 :: K) s := den_blk hf (b := blkOf k1) (l := [r5, r6, k2, r10]) (by kernel_rfl) (by kernel_rfl) K s
theorem r5_eq : den prog ann 90 (.code r5 :: K) s = mreg prog ann 90 none [] none [] [⟨some 15, none, .w false none fun s => bslM s.m 0 (bslA 1 0 [.int .i64 0] [])⟩,qC 5 15] K s := (den_reg hf _ K s).trans (by kernel_rfl)
theorem r6_eq : den prog ann 90 (.code r6 :: K) s = mreg prog ann 90 none [] none [] [qF 6 fun s => some (.int .i64 0)] K s := (den_reg hf _ K s).trans (by kernel_rfl)
theorem k2_eq (K : List Item) (t : List (Nat × AV)) (m : Mem) : den prog ann 90 (.code k2 :: K) ⟨t, 35, m⟩ = L2 (get t 1) (get t 3) (get t 4) (get t 5) (get t 6) m K := den_loop_enter hf (b := l2) (id := 7) (l := [1, 3, 4, 5, 6]) (by kernel_rfl) (by kernel_rfl) (by kernel_rfl) K _
theorem l2_eq (K : List Item) (t : List (Nat × AV)) (m : Mem) : den prog ann 90 (.inLoop l2 :: .inBlock 2 :: K) ⟨t, 35, m⟩ = L2 (get t 1) (get t 3) (get t 4) (get t 5) (get t 6) m K := den_loop_again hf (id := 7) (l := [1, 3, 4, 5, 6]) (by kernel_rfl) (by kernel_rfl) (.inBlock 2 :: K) _
theorem L2_eq (x1 x3 x4 x5 x6 : AV) (m : Mem) (K : List Item) : L2 x1 x3 x4 x5 x6 m K = den prog ann 90 (.code r7 :: .code i1 :: .code k3 :: .code r8 :: .inLoop l2 :: .inBlock 2 :: K) ⟨[(1, x1), (3, x3), (4, x4), (5, x5), (6, x6)], 35, m⟩ := den_flat hf (l := [r7, i1, k3, r8]) (by kernel_rfl) _ _
theorem r7_eq : den prog ann 90 (.code r7 :: K) s = mreg prog ann 90 (some [1, 3, 4, 5, 6]) [] none [] [qC 16 6,qA 17 (fieldA 0) 1,qA 18 (loadF false 1) 17,qA 19 lenSl 18,qB 20 (binA prog .lss 3) 16 19] K s := (den_reg hf _ K s).trans (by kernel_rfl)
theorem i1_eq : den prog ann 90 (.code i1 :: K) s = ifV prog ann 90 20 i1t i1e K s (s.get 20) := den_if hf (by kernel_rfl) K s
theorem i1t_eq : den prog ann 90 (.code i1t :: K) s = den prog ann 90 (K) s := den_flat hf (l := []) (by kernel_rfl) K s
theorem i1e_eq : den prog ann 90 (.code i1e :: K) s = den prog ann 90 (.code (.exit 2) :: K) s := den_flat hf (l := [(.exit 2)]) (by kernel_rfl) K s
theorem k3_eq : den prog ann 90 (.code k3 :: K) s = den prog ann 90 (.code r9 :: .inBlock 3 :: K) s := den_blk hf (b := blkOf k3) (l := [r9]) (by kernel_rfl) (by kernel_rfl) K s
theorem r9_eq : den prog ann 90 (.code r9 :: K) s = mreg prog ann 90 none [] none [] [qC 23 5,qA 24 (loadF true 2) 1,qC 25 4,qC 26 6,⟨some 27, none, .c 0 (fun s => (.fn 74 [] [])) fun s => [(s.get 24), (s.get 25), (s.get 26)]⟩,qF 28 fun s => bslF 1 (bslA 1 1 [.int .i64 0] [(0, (s.get 27))]),⟨some 29, none, .w false none fun s => appendA 1 8 s.m (s.get 23) (s.get 28)⟩,qC 5 29] K s := (den_reg hf _ K s).trans (by kernel_rfl)
theorem r8_eq : den prog ann 90 (.code r8 :: K) s = mreg prog ann 90 (some [1, 3, 4, 5, 6]) [] none [] [qC 21 6,qF 22 fun s => binA prog .add 3 (s.get 21) (.int .i64 1),qC 6 22] K s := (den_reg hf _ K s).trans (by kernel_rfl)
theorem r10_eq : den prog ann 90 (.code r10 :: K) s = mreg prog ann 90 (some [1, 3, 4, 5]) [5] none [] [qC 30 3,qC 31 5,qF 32 fun s => bslF 1 (bslA 1 1 [.nils] [(0, (s.get 31))]),⟨some 33, none, .w false none fun s => appendA 1 24 s.m (s.get 30) (s.get 32)⟩,qC 3 33] K s := (den_reg hf _ K s).trans (by kernel_rfl)
theorem r4_eq : den prog ann 90 (.code r4 :: K) s = mreg prog ann 90 (some [1, 3, 4]) [] none [] [qC 13 4,qF 14 fun s => binA prog .add 3 (s.get 13) (.int .i64 1),qC 4 14] K s := (den_reg hf _ K s).trans (by kernel_rfl)
theorem r11_eq : den prog ann 90 (.code r11 :: K) s = mreg prog ann 90 (some [3]) [] none [] [qC 34 3,qC 2 34] K s := (den_reg hf _ K s).trans (by kernel_rfl)
theorem ret_eq : den prog ann 90 (.code .ret :: K) s = finM true [fun s => some (s.get 2)] s := (den_ret hf K s).trans (by kernel_rfl)
theorem nil_eq (s : St) : den prog ann 90 [] s = finM true [fun s => some (s.get 2)] s := (den_nil hf s).trans (by kernel_rfl)
theorem inBlock_eq (id : Nat) (K : List Item) (s : St) : den prog ann 90 (.inBlock id :: K) s = den prog ann 90 K s := den_inBlock hf id K s
theorem exit_eq (id : Nat) (K : List Item) (s : St) : den prog ann 90 (.code (.exit id) :: K) s = exitV prog ann 90 (exitTo id K) s := den_exitV hf id K s
theorem call_eq (v0 : AV) (m : Mem) (h : closedL [v0] = true) : denC prog ann 90 [v0] m = (den prog ann 90 [.code b] ⟨[(0, v0)], 35, Mem.empty⟩).bind fun r => some (r.1, m) := (denC_pure hf (b := b) (by kernel_rfl) (by kernel_rfl) (by kernel_rfl) h m).trans (by kernel_rfl)
theorem pure_eq : (ann 90).pure = true := by kernel_rfl
attribute [simp] b_eq r0_eq r1_eq r2_eq k0_eq l0_eq r3_eq i0_eq i0t_eq i0e_eq k1_eq r5_eq r6_eq k2_eq l2_eq r7_eq i1_eq i1t_eq i1e_eq k3_eq r9_eq r8_eq r10_eq r4_eq r11_eq ret_eq nil_eq inBlock_eq exit_eq pure_eq
end
end r07_Monoid_Table

namespace r07_Monoid_Named
noncomputable section
variable (K : List Item) (s : St)
/-- (pommel/pommelref07.Monoid).Named -/
def b : Code := (Try.f49.body).getD .skip
theorem hf : prog.funcs[49]? = some Try.f49 := by kernel_rfl
def r0 := findReg b 0
def r1 := findReg b 1
def r2 := findReg b 2
def k0 := findBlk b 0
def l0 := loopOf k0
def L0 (x1 x2 x5 x6 : AV) (m : Mem) (K : List Item) : Option Res := den prog ann 49 (.code l0 :: .inLoop l0 :: .inBlock 0 :: K) ⟨[(1, x1), (2, x2), (5, x5), (6, x6)], 45, m⟩
def r3 := findReg b 3
def i0 := findCond b 0
def i0t := thenOf i0
def i0e := elseOf i0
def k1 := findBlk b 1
def r5 := findReg b 5
def r6 := findReg b 6
def k2 := findBlk b 2
def l2 := loopOf k2
def L2 (x1 x2 x5 x6 x7 x8 : AV) (m : Mem) (K : List Item) : Option Res := den prog ann 49 (.code l2 :: .inLoop l2 :: .inBlock 2 :: K) ⟨[(1, x1), (2, x2), (5, x5), (6, x6), (7, x7), (8, x8)], 45, m⟩
def r7 := findReg b 7
def i1 := findCond b 1
def i1t := thenOf i1
def i1e := elseOf i1
def k3 := findBlk b 3
def r9 := findReg b 9
def r8 := findReg b 8
def r10 := findReg b 10
def r4 := findReg b 4
def r11 := findReg b 11
theorem b_eq : den prog ann 49 (.code b :: K) s = den prog ann 49 (.code r0 :: .code r1 :: .code r2 :: .code k0 :: .code r11 :: .code .ret :: K) s := den_flat hf (l := [r0, r1, r2, k0, r11, .ret]) (by kernel_rfl) K s
theorem r0_eq : den prog ann 49 (.code r0 :: K) s = mreg prog ann 49 none [] none [] [qA 2 frozenPtr 0,qF 4 fun s => some (.nils)] K s := (den_reg hf _ K s).trans (by kernel_rfl)
theorem r1_eq : den prog ann 49 (.code r1 :: K) s = mreg prog ann 49 none [] none [] [⟨some 9, none, .w false none fun s => bslM s.m 0 (bslA 1 0 [.nils] [])⟩,qC 5 9] K s := (den_reg hf _ K s).trans (by kernel_rfl)
theorem r2_eq : den prog ann 49 (.code r2 :: K) s = mreg prog ann 49 none [] none [] [qF 6 fun s => some (.int .i64 0)] K s := (den_reg hf _ K s).trans (by kernel_rfl)
theorem k0_eq (K : List Item) (t : List (Nat × AV)) (m : Mem) : den prog ann 49 (.code k0 :: K) ⟨t, 45, m⟩ = L0 (get t 1) (get t 2) (get t 5) (get t 6) m K := den_loop_enter hf (b := l0) (id := 3) (l := [1, 2, 5, 6]) (by kernel_rfl) (by kernel_rfl) (by kernel_rfl) K _
theorem l0_eq (K : List Item) (t : List (Nat × AV)) (m : Mem) : den prog ann 49 (.inLoop l0 :: .inBlock 0 :: K) ⟨t, 45, m⟩ = L0 (get t 1) (get t 2) (get t 5) (get t 6) m K := den_loop_again hf (id := 3) (l := [1, 2, 5, 6]) (by kernel_rfl) (by kernel_rfl) (.inBlock 0 :: K) _
theorem L0_eq (x1 x2 x5 x6 : AV) (m : Mem) (K : List Item) : L0 x1 x2 x5 x6 m K = den prog ann 49 (.code r3 :: .code i0 :: .code k1 :: .code r4 :: .inLoop l0 :: .inBlock 0 :: K) ⟨[(1, x1), (2, x2), (5, x5), (6, x6)], 45, m⟩ := den_flat hf (l := [r3, i0, k1, r4]) (by kernel_rfl) _ _
theorem r3_eq : den prog ann 49 (.code r3 :: K) s = mreg prog ann 49 (some [1, 2, 5, 6]) [] none [] [qC 10 6,qC 11 1,qA 12 lenSl 11,qB 13 (binA prog .lss 3) 10 12] K s := (den_reg hf _ K s).trans (by kernel_rfl)
theorem i0_eq : den prog ann 49 (.code i0 :: K) s = ifV prog ann 49 13 i0t i0e K s (s.get 13) := den_if hf (by kernel_rfl) K s
theorem i0t_eq : den prog ann 49 (.code i0t :: K) s = den prog ann 49 (K) s := den_flat hf (l := []) (by kernel_rfl) K s
theorem i0e_eq : den prog ann 49 (.code i0e :: K) s = den prog ann 49 (.code (.exit 0) :: K) s := den_flat hf (l := [(.exit 0)]) (by kernel_rfl) K s
theorem k1_eq : den prog ann 49 (.code k1 :: K) s = den prog ann 49 (.code r5 :: .code r6 :: .code k2 :: .code r10 :: .inBlock 1 :: K) s := den_blk hf (b := blkOf k1) (l := [r5, r6, k2, r10]) (by kernel_rfl) (by kernel_rfl) K s
theorem r5_eq : den prog ann 49 (.code r5 :: K) s = mreg prog ann 49 none [] none [] [⟨some 16, none, .w false none fun s => bslM s.m 0 (bslA 1 0 [.str []] [])⟩,qC 7 16] K s := (den_reg hf _ K s).trans (by kernel_rfl)
theorem r6_eq : den prog ann 49 (.code r6 :: K) s = mreg prog ann 49 none [] none [] [qF 8 fun s => some (.int .i64 0)] K s := (den_reg hf _ K s).trans (by kernel_rfl)
theorem k2_eq (K : List Item) (t : List (Nat × AV)) (m : Mem) : den prog ann 49 (.code k2 :: K) ⟨t, 45, m⟩ = L2 (get t 1) (get t 2) (get t 5) (get t 6) (get t 7) (get t 8) m K := den_loop_enter hf (b := l2) (id := 7) (l := [1, 2, 5, 6, 7, 8]) (by kernel_rfl) (by kernel_rfl) (by kernel_rfl) K _
theorem l2_eq (K : List Item) (t : List (Nat × AV)) (m : Mem) : den prog ann 49 (.inLoop l2 :: .inBlock 2 :: K) ⟨t, 45, m⟩ = L2 (get t 1) (get t 2) (get t 5) (get t 6) (get t 7) (get t 8) m K := den_loop_again hf (id := 7) (l := [1, 2, 5, 6, 7, 8]) (by kernel_rfl) (by kernel_rfl) (.inBlock 2 :: K) _
theorem L2_eq (x1 x2 x5 x6 x7 x8 : AV) (m : Mem) (K : List Item) : L2 x1 x2 x5 x6 x7 x8 m K = den prog ann 49 (.code r7 :: .code i1 :: .code k3 :: .code r8 :: .inLoop l2 :: .inBlock 2 :: K) ⟨[(1, x1), (2, x2), (5, x5), (6, x6), (7, x7), (8, x8)], 45, m⟩ := den_flat hf (l := [r7, i1, k3, r8]) (by kernel_rfl) _ _
theorem r7_eq : den prog ann 49 (.code r7 :: K) s = mreg prog ann 49 (some [1, 2, 5, 6, 7, 8]) [] none [] [qC 17 8,qC 18 1,qC 19 6,qB 20 (idxSl 1) 18 19,qA 21 (loadF false 1) 20,qA 22 lenSl 21,qB 23 (binA prog .lss 3) 17 22] K s := (den_reg hf _ K s).trans (by kernel_rfl)
theorem i1_eq : den prog ann 49 (.code i1 :: K) s = ifV prog ann 49 23 i1t i1e K s (s.get 23) := den_if hf (by kernel_rfl) K s
theorem i1t_eq : den prog ann 49 (.code i1t :: K) s = den prog ann 49 (K) s := den_flat hf (l := []) (by kernel_rfl) K s
theorem i1e_eq : den prog ann 49 (.code i1e :: K) s = den prog ann 49 (.code (.exit 2) :: K) s := den_flat hf (l := [(.exit 2)]) (by kernel_rfl) K s
theorem k3_eq : den prog ann 49 (.code k3 :: K) s = den prog ann 49 (.code r9 :: .inBlock 3 :: K) s := den_blk hf (b := blkOf k3) (l := [r9]) (by kernel_rfl) (by kernel_rfl) K s
theorem r9_draw : drawOk (fun g => (ann g).pure) (modeOf (ann 49) (idOf r9)) (frzOf (ann 49) (idOf r9)) (opsOf r9) = true := drawOk_of (an := [0, 0, 2, 0, 0, 24, 56, 0, 248, 504, 1022, 2046, 4094, 8191, 16383]) (by kernel_rfl) (by kernel_rfl)
theorem r9_eq : den prog ann 49 (.code r9 :: K) s = mreg prog ann 49 none [] (some 15) [] [qC 26 7,qA 27 (fieldA 1) 2,qA 28 (loadF false 1) 27,qC 29 1,qC 30 6,qB 31 (idxSl 1) 29 30,qA 32 (loadF false 1) 31,qC 33 8,qB 34 (idxSl 1) 32 33,qA 35 (loadF false 1) 34,qB 36 (idxSl 1) 28 35,qA 37 (loadF false 1) 36,qF 38 fun s => bslF 1 (bslA 1 1 [.str []] [(0, (s.get 37))]),⟨some 39, none, .w false (some 13) fun s => appendA 1 16 s.m (s.get 26) (s.get 38)⟩,qC 7 39] K s := (den_regD hf r9_draw K s).trans (by kernel_rfl)
theorem r8_eq : den prog ann 49 (.code r8 :: K) s = mreg prog ann 49 (some [1, 2, 5, 6, 7, 8]) [] none [] [qC 24 8,qF 25 fun s => binA prog .add 3 (s.get 24) (.int .i64 1),qC 8 25] K s := (den_reg hf _ K s).trans (by kernel_rfl)
theorem r10_eq : den prog ann 49 (.code r10 :: K) s = mreg prog ann 49 (some [1, 2, 5, 6, 7]) [7] none [] [qC 40 5,qC 41 7,qF 42 fun s => bslF 1 (bslA 1 1 [.nils] [(0, (s.get 41))]),⟨some 43, none, .w false none fun s => appendA 1 24 s.m (s.get 40) (s.get 42)⟩,qC 5 43] K s := (den_reg hf _ K s).trans (by kernel_rfl)
theorem r4_eq : den prog ann 49 (.code r4 :: K) s = mreg prog ann 49 (some [1, 2, 5, 6]) [] none [] [qC 14 6,qF 15 fun s => binA prog .add 3 (s.get 14) (.int .i64 1),qC 6 15] K s := (den_reg hf _ K s).trans (by kernel_rfl)
theorem r11_eq : den prog ann 49 (.code r11 :: K) s = mreg prog ann 49 (some [5]) [] none [] [qC 44 5,qC 4 44] K s := (den_reg hf _ K s).trans (by kernel_rfl)
theorem ret_eq : den prog ann 49 (.code .ret :: K) s = finM true [fun s => some (s.get 4)] s := (den_ret hf K s).trans (by kernel_rfl)
theorem nil_eq (s : St) : den prog ann 49 [] s = finM true [fun s => some (s.get 4)] s := (den_nil hf s).trans (by kernel_rfl)
theorem inBlock_eq (id : Nat) (K : List Item) (s : St) : den prog ann 49 (.inBlock id :: K) s = den prog ann 49 K s := den_inBlock hf id K s
theorem exit_eq (id : Nat) (K : List Item) (s : St) : den prog ann 49 (.code (.exit id) :: K) s = exitV prog ann 49 (exitTo id K) s := den_exitV hf id K s
theorem call_eq (v0 v1 : AV) (m : Mem) (h : closedL [v0, v1] = true) : denC prog ann 49 [v0, v1] m = (den prog ann 49 [.code b] ⟨[(0, v0), (1, v1)], 45, Mem.empty⟩).bind fun r => some (r.1, m) := (denC_pure hf (b := b) (by kernel_rfl) (by kernel_rfl) (by kernel_rfl) h m).trans (by kernel_rfl)
theorem pure_eq : (ann 49).pure = true := by kernel_rfl
attribute [simp] b_eq r0_eq r1_eq r2_eq k0_eq l0_eq r3_eq i0_eq i0t_eq i0e_eq k1_eq r5_eq r6_eq k2_eq l2_eq r7_eq i1_eq i1t_eq i1e_eq k3_eq r9_eq r8_eq r10_eq r4_eq r11_eq ret_eq nil_eq inBlock_eq exit_eq pure_eq
end
end r07_Monoid_Named
end Go.Proofs.Ythnpflkpjimkfaa

/-
  ALL PRODUCTS: the specification's table. Conditions: none.
-/
namespace Go.Proofs.Ythnpflkpjimkfaa
open Go.AM
open Go.Proofs.Try (prog)
set_option linter.all false
set_option maxRecDepth 100000
set_option maxHeartbeats 8000000

def pr (rows : List (List Int)) (S : SM) (i j : Nat) : Nat := numM rows S (wrd S i ++ wrd S j)
def ptR (rows : List (List Int)) (S : SM) (i c : Nat) : List AV := (List.range c).map fun j => natV (pr rows S i j)
def ptF (rows : List (List Int)) (S : SM) (i : Nat) : AV := .fsl false S.1.length (ptR rows S i S.1.length)
def ptT (rows : List (List Int)) (S : SM) (c : Nat) : List AV := (List.range c).map (ptF rows S)
def ptV (rows : List (List Int)) (S : SM) : AV := .fsl false S.1.length (ptT rows S S.1.length)
theorem natV_closed (l : List Nat) (f : Nat → Nat) : closedL (l.map fun j => natV (f j)) = true := by
  induction l with
  | nil => rfl
  | cons a l ih => simp only [List.map_cons, closedL, ih]; rfl
noncomputable def KX0 : List Item := [.code r07_Monoid_Table.r11, .code .ret]
noncomputable def KX2 : List Item := .code r07_Monoid_Table.r10 :: .inBlock 1 :: .code r07_Monoid_Table.r4 :: .inLoop r07_Monoid_Table.l0 :: .inBlock 0 :: KX0
theorem tb_in {rows : List (List Int)} {good : List Bool} {k : Nat} (v : VB rows good k) {S : SM} (W : MW rows k S) {i : Nat} (hi : i < S.1.length) {o : AV} {R : Nat} {r : Option Res} :
    ∀ (c j : Nat) (h : Nat → Option AObj) (nx0 : Nat), j + c = S.1.length → h R = some (.cells (ptR rows S i j)) →
    (∀ h', h' R = some (.cells (ptR rows S i S.1.length)) → (∀ y, y ≠ R → h' y = h y) → r07_Monoid_Table.L2 (.fptr [ofD rows.length S, wdsV S]) o (.int .i64 i) (.sl R 1 0 S.1.length S.1.length) (.int .i64 S.1.length) ⟨h', nx0⟩ KX2 = r) →
    r07_Monoid_Table.L2 (.fptr [ofD rows.length S, wdsV S]) o (.int .i64 i) (.sl R 1 0 j j) (.int .i64 j) ⟨h, nx0⟩ KX2 = r := by
  intro c
  have hle := W.ok.le
  induction c with
  | zero =>
    intro j h nx0 h1 h0 hk
    have e : j = S.1.length := by omega
    subst e
    exact hk h h0 (fun _ _ => rfl)
  | succ c ih =>
    intro j h nx0 h1 h0 hk
    have hj : j < S.1.length := by omega
    have hwj : IntKind.wrap .i64 ((j : Int) + 1) = (j : Int) + 1 := wrap_id (by omega) (by omega)
    have ht := fun m => times_spec v W hi hj m
    have hl : (ptR rows S i j).length = j := by simp [ptR]
    have he : ptR rows S i j ++ [.int .i64 (numM rows S (wrd S i ++ wrd S j) : Nat)] = ptR rows S i (j + 1) := by simp [ptR, List.range_succ, natV, pr]
    have hl1 : (ptR rows S i (j + 1)).length = j + 1 := by simp [ptR]
    have st := ih (j + 1) (upd h R (some (.cells (ptR rows S i (j + 1))))) nx0 (by omega) (by simp) (fun h' f1 f2 => hk h' f1 (fun y hy => by rw [f2 y hy, updNe hy]))
    simp only [Int.natCast_add, Int.cast_ofNat_Int] at st
    simp only [ofV, List.map_map] at ht
    rw [r07_Monoid_Table.L2_eq]
    simp only [ofD, wdsV] at st ⊢
    simp at st
    simp [hj, ht, h0, hl, he, hl1, hwj, show j ≤ 4611686018427387903 by omega, show (j + 1) * 8 ≤ 70368744177664 by omega, st]
    done
theorem tb_out {rows : List (List Int)} {good : List Bool} {k : Nat} (v : VB rows good k) {S : SM} (W : MW rows k S) :
    ∀ (c i : Nat) (h : Nat → Option AObj) (nx0 : Nat), i + c = S.1.length → 0 < nx0 → h 0 = some (.cells (ptT rows S i)) →
    r07_Monoid_Table.L0 (.fptr [ofD rows.length S, wdsV S]) (.sl 0 1 0 i i) (.int .i64 i) ⟨h, nx0⟩ KX0 = some (ptV rows S, Mem.empty) := by
  intro c
  have hle := W.ok.le
  induction c with
  | zero =>
    intro i h nx0 h1 hn h0
    have e : i = S.1.length := by omega
    subst e
    have hl : (ptT rows S S.1.length).length = S.1.length := by simp [ptT]
    have tk : (ptT rows S S.1.length).take S.1.length = ptT rows S S.1.length := List.take_of_length_le (by omega)
    have hm : mapO (AM.deep h 5) (ptT rows S S.1.length) = some (ptT rows S S.1.length) := mapO_same _ (fun x hx => by
      simp only [ptT, List.mem_map] at hx
      obtain ⟨q, _, rfl⟩ := hx
      rfl)
    rw [r07_Monoid_Table.L0_eq]
    simp only [ofD, wdsV]
    simp [KX0, h0, hl, tk, hm, ptV]
    done
  | succ c ih =>
    intro i h nx0 h1 hn h0
    have hi : i < S.1.length := by omega
    have hwi : IntKind.wrap .i64 ((i : Int) + 1) = (i : Int) + 1 := wrap_id (by omega) (by omega)
    have st := tb_in v W hi (o := .sl 0 1 0 i i) (R := nx0) (r := some (ptV rows S, Mem.empty)) S.1.length 0 (upd h nx0 (some (.cells []))) (nx0 + 1) (by omega) (by simp [ptR]) (fun h' f1 f2 => by
      have hl : (ptR rows S i S.1.length).length = S.1.length := by simp [ptR]
      have tk : (ptR rows S i S.1.length).take S.1.length = ptR rows S i S.1.length := List.take_of_length_le (by omega)
      have hcl : closedL (ptR rows S i S.1.length) = true := natV_closed _ _
      have h0' : h' 0 = some (.cells (ptT rows S i)) := by rw [f2 0 (by omega), updNe (by omega), h0]
      have hz : (0 == nx0) = false := beq_eq_false_iff_ne.2 (by omega)
      have hlt : (ptT rows S i).length = i := by simp [ptT]
      have he : ptT rows S i ++ [.fsl false S.1.length (ptR rows S i S.1.length)] = ptT rows S (i + 1) := by simp [ptT, List.range_succ, ptF]
      have hlt1 : (ptT rows S (i + 1)).length = i + 1 := by simp [ptT]
      have st2 := ih (i + 1) (upd (upd h' nx0 none) 0 (some (.cells (ptT rows S (i + 1))))) (nx0 + 1) (by omega) (by omega) (by simp)
      simp only [Int.natCast_add, Int.cast_ofNat_Int] at st2
      rw [r07_Monoid_Table.L2_eq]
      simp only [ofD, wdsV] at st2 ⊢
      simp at st2
      simp [KX2, f1, hl, tk, hcl, hz, h0', hlt, he, hlt1, hwi, show i ≤ 4611686018427387903 by omega, show (i + 1) * 24 ≤ 70368744177664 by omega, st2]
      done)
    simp only [Int.ofNat_zero, Int.cast_ofNat_Int] at st
    rw [r07_Monoid_Table.L0_eq]
    simp only [ofD, wdsV] at st ⊢
    simp at st
    simp [hi]
    exact st
theorem table90_spec {rows : List (List Int)} {good : List Bool} {k : Nat} (v : VB rows good k) {S : SM} (W : MW rows k S) (m : Mem) :
    denC prog ann 90 [ofV rows.length S] m = some (ptV rows S, m) := by
  have lp := tb_out v W S.1.length 0 (upd Mem.empty.h 0 (some (.cells []))) 1 (by omega) (by omega) (by simp [ptT])
  simp only [Int.ofNat_zero, Int.cast_ofNat_Int, ofD, wdsV, KX0] at lp
  rw [ofV, r07_Monoid_Table.call_eq _ _ (by simp)]
  simp at lp
  simp [lp]
  done
end Go.Proofs.Ythnpflkpjimkfaa

/-
  BELOW: the elements that are reached by writing letters before or after. The law. Conditions: none.
-/
namespace Go.Proofs.Ythnpflkpjimkfaa
open Go.AM
open Go.Proofs.Try (prog)
set_option linter.all false
set_option maxRecDepth 100000
set_option maxHeartbeats 4000000

inductive Rch (stp : Nat → List Nat) (i : Nat) : Nat → Prop
  | refl : Rch stp i i
  | step {j k : Nat} : Rch stp i j → k ∈ stp j → Rch stp i k
abbrev VP := List Bool × List Nat
def vis1 (P : VP) (j : Nat) : VP := if bnth P.1 j = true then P else (P.1.set j true, P.2 ++ [j])
def visF (l : List Nat) (P : VP) : VP := l.foldl vis1 P
def vis (stp : Nat → List Nat) : Nat → VP → List Bool
  | 0, P => P.1
  | f + 1, P => match P.2 with
    | [] => P.1
    | x :: _ => vis stp f ((visF (stp x) P).1, (visF (stp x) P).2.drop 1)
def cf (row : List Bool) : Nat := row.countP fun b => !b
theorem cf_set : ∀ {row : List Bool} {j : Nat}, j < row.length → bnth row j = false → cf (row.set j true) + 1 = cf row
  | [], j, h, _ => by simp at h
  | b :: row, 0, _, h => by
    simp [bnth] at h
    subst h
    simp [cf]
  | b :: row, j + 1, h, h2 => by
    have := cf_set (row := row) (j := j) (by simpa using h) (by simpa [bnth] using h2)
    simp only [cf, List.set_cons_succ, List.countP_cons] at this ⊢
    omega
structure VI (n : Nat) (stp : Nat → List Nat) (i : Nat) (P : VP) : Prop where
  l : P.1.length = n
  m : bnth P.1 i = true
  r : ∀ j, j < n → bnth P.1 j = true → Rch stp i j
  t : ∀ j ∈ P.2, j < n ∧ bnth P.1 j = true
  c : ∀ j, j < n → bnth P.1 j = true → j ∈ P.2 ∨ ∀ k ∈ stp j, bnth P.1 k = true
section
variable {n : Nat} {stp : Nat → List Nat} {i : Nat}
theorem visF_inv (hs : ∀ j, ∀ k ∈ stp j, k < n) {x : Nat} (hx : Rch stp i x) : ∀ (l : List Nat) (P : VP), (∀ k ∈ l, k ∈ stp x) → VI n stp i P → P.2.head? = some x → VI n stp i (visF l P) ∧ (visF l P).2.head? = some x ∧ (∀ k, bnth P.1 k = true → bnth (visF l P).1 k = true) ∧ (∀ k ∈ l, bnth (visF l P).1 k = true) ∧ cf (visF l P).1 + (visF l P).2.length = cf P.1 + P.2.length
  | [], P, _, h, hh => ⟨h, hh, fun _ e => e, by simp, rfl⟩
  | k :: l, P, hl, h, hh => by
    have hk := hl k (by simp)
    have hkn := hs x k hk
    have key : VI n stp i (vis1 P k) ∧ (vis1 P k).2.head? = some x ∧ (∀ k', bnth P.1 k' = true → bnth (vis1 P k).1 k' = true) ∧ bnth (vis1 P k).1 k = true ∧ cf (vis1 P k).1 + (vis1 P k).2.length = cf P.1 + P.2.length := by
      unfold vis1
      by_cases q : bnth P.1 k = true
      · rw [if_pos q]
        exact ⟨h, hh, fun _ e => e, q, rfl⟩
      · rw [if_neg q]
        have q' : bnth P.1 k = false := by simpa using q
        have hkl : k < P.1.length := by rw [h.l]; exact hkn
        have st : ∀ k', bnth (P.1.set k true) k' = if k = k' then true else bnth P.1 k' := fun k' => bnth_set hkl
        have mono : ∀ k', bnth P.1 k' = true → bnth (P.1.set k true) k' = true := fun k' e => by rw [st]; split; rfl; exact e
        refine ⟨⟨by simp [h.l], mono i h.m, fun j hj e => ?_, fun j hj => ?_, fun j hj e => ?_⟩, ?_, mono, by rw [st]; simp, ?_⟩
        · rw [st] at e
          by_cases w : k = j
          · subst w; exact hx.step hk
          · rw [if_neg w] at e; exact h.r j hj e
        · rcases List.mem_append.1 hj with hj | hj
          · exact ⟨(h.t j hj).1, mono j (h.t j hj).2⟩
          · simp at hj; subst hj; exact ⟨hkn, by rw [st]; simp⟩
        · rw [st] at e
          by_cases w : k = j
          · subst w; left; simp
          · rw [if_neg w] at e
            rcases h.c j hj e with h1 | h1
            · left; exact List.mem_append_left _ h1
            · right; exact fun k' hk' => mono k' (h1 k' hk')
        · show (P.2 ++ [k]).head? = some x
          cases e : P.2 with
          | nil => rw [e] at hh; cases hh
          | cons y t => rw [e] at hh; simpa using hh
        · have := cf_set hkl q'
          simp only [List.length_append, List.length_singleton]
          omega
    obtain ⟨k1, k2, k3, k4, k5⟩ := key
    obtain ⟨g1, g2, g3, g4, g5⟩ := visF_inv hs hx l (vis1 P k) (fun k' hk' => hl k' (by simp [hk'])) k1 k2
    refine ⟨g1, g2, fun k' e => g3 k' (k3 k' e), fun k' hk' => ?_, by simp only [visF, List.foldl_cons] at g5 ⊢; omega⟩
    rcases List.mem_cons.1 hk' with rfl | hk'
    · exact g3 _ k4
    · exact g4 k' hk'
theorem vis_law (hs : ∀ j, ∀ k ∈ stp j, k < n) (hi : i < n) : ∀ (f : Nat) (P : VP), VI n stp i P → cf P.1 + P.2.length < f → (vis stp f P).length = n ∧ ∀ j, j < n → (bnth (vis stp f P) j = true ↔ Rch stp i j)
  | 0, P, _, h => by omega
  | f + 1, P, h, hf => by
    rw [vis]
    cases e : P.2 with
    | nil =>
      refine ⟨h.l, fun j hj => ⟨h.r j hj, fun r => ?_⟩⟩
      have : ∀ j, Rch stp i j → j < n ∧ bnth P.1 j = true := by
        intro j r
        induction r with
        | refl => exact ⟨hi, h.m⟩
        | step r1 hk ih =>
          rename_i j' k'
          refine ⟨hs _ _ hk, ?_⟩
          rcases h.c j' ih.1 ih.2 with h1 | h1
          · rw [e] at h1; simp at h1
          · exact h1 _ hk
      exact (this j r).2
    | cons x t =>
      have hh : P.2.head? = some x := by rw [e]; rfl
      have hx := h.t x (by rw [e]; simp)
      obtain ⟨g1, g2, g3, g4, g5⟩ := visF_inv hs (h.r x hx.1 hx.2) (stp x) P (fun k hk => hk) h hh
      simp only []
      generalize visF (stp x) P = Q at *
      obtain ⟨Q1, Q2⟩ := Q
      cases Q2 with
      | nil => simp at g2
      | cons y Q2 =>
        simp at g2
        subst g2
        refine vis_law hs hi f (Q1, (y :: Q2).drop 1) ⟨g1.l, g1.m, g1.r, fun j hj => g1.t j (by simp at hj; simp [hj]), fun j hj ej => ?_⟩ (by simp only [List.length_cons, List.drop_succ_cons, List.drop_zero] at g5 ⊢; omega)
        by_cases w : j = y
        · subst w; right; exact g4
        · rcases g1.c j hj ej with h1 | h1
          · left
            simp at h1 ⊢
            rcases h1 with h1 | h1
            · exact absurd h1 w
            · exact h1
          · right; exact h1
end

/-! ### In a monoid -/
section
variable {rows : List (List Int)} {k : Nat} {S : SM}
def stpM (rows : List (List Int)) (S : SM) (k : Nat) (lf rt : Bool) (i : Nat) : List Nat := (List.range k).flatMap fun a => (if lf = true then [numM rows S (ltr a ++ wrd S i)] else []) ++ (if rt = true then [numM rows S (wrd S i ++ ltr a)] else [])
/-- Below. -/
def Blw (rows : List (List Int)) (S : SM) (k : Nat) (lf rt : Bool) (i j : Nat) : Prop := ∃ u v, okW k u ∧ okW k v ∧ (lf = false → u = []) ∧ (rt = false → v = []) ∧ numM rows S (u ++ wrd S i ++ v) = j
theorem mv6_congr {u u' w w' : List UInt8} (h1 : ∀ s, s < rows.length → goL rows u s = goL rows u' s) (hlt : ∀ s, s < rows.length → goL rows u' s < rows.length) (h2 : ∀ s, s < rows.length → goL rows w s = goL rows w' s) : ∀ s, s < rows.length → goL rows (u ++ w) s = goL rows (u' ++ w') s := fun s hs => by
  have ga : ∀ (u w : List UInt8) (s : Nat), goL rows (u ++ w) s = goL rows w (goL rows u s) := by
    intro u
    induction u with
    | nil => intro w s; rfl
    | cons c u ih => intro w s; rw [List.cons_append, goL, goL, ih]
  rw [ga, ga, h1 s hs, h2 _ (hlt s hs)]
theorem mv6_ext {u u' : List UInt8} (h : ∀ s, s < rows.length → goL rows u s = goL rows u' s) : mv6 rows u = mv6 rows u' := by
  rw [mv6, mv6, mvF, mvF]
  refine List.map_congr_left fun s hs => ?_
  by_cases q : s < rows.length
  · rw [if_pos q, if_pos q, h s q]
  · rw [if_neg q, if_neg q]
theorem mv6_at {u u' : List UInt8} (n6 : rows.length ≤ 6) (h : mv6 rows u = mv6 rows u') : ∀ s, s < rows.length → goL rows u s = goL rows u' s := fun s hs => by
  have e1 : (mv6 rows u).getD s 0 = goL rows u s := mvF_at (by omega) hs
  have e2 : (mv6 rows u').getD s 0 = goL rows u' s := mvF_at (by omega) hs
  rw [← e1, ← e2, h]
variable {good : List Bool}
theorem goL_lt7 (v : VB rows good k) {w : List UInt8} (hw : okW k w) {s : Nat} (hs : s < rows.length) : goL rows w s < rows.length := by
  have := goL_lt v w w.length 0 s (by omega) hs ((letF_iff k w).2 hw)
  rw [goF_goL rows w w.length 0 s (by omega)] at this
  simpa using this
theorem num_congr (v : VB rows good k) {u w w' x : List UInt8} (hu : okW k u) (hw : okW k w) (hw' : okW k w') (h : mv6 rows w = mv6 rows w') : numM rows S (u ++ w ++ x) = numM rows S (u ++ w' ++ x) := by
  have h1 := mv6_at v.n6 h
  have : mv6 rows (u ++ w ++ x) = mv6 rows (u ++ w' ++ x) := mv6_ext (mv6_congr (mv6_congr (fun _ _ => rfl) (fun s hs => goL_lt7 v hu hs) h1) (fun s hs => goL_lt7 v (okW_app hu hw') hs) (fun _ _ => rfl))
  rw [numM, numM, this]
/-- The word of a word's number does the same. -/
theorem wrd_num (v : VB rows good k) (W : MW rows k S) {w : List UInt8} (hw : okW k w) : mv6 rows (wrd S (numM rows S w)) = mv6 rows w := by
  have h1 := W.at v.n6 v.k3 hw
  obtain ⟨_, _, _, h2⟩ := W.wok (W.lt v.n6 v.k3 hw)
  rw [h1] at h2
  exact (Option.some.inj h2).symm
theorem okW_ltr {a : Nat} (ha : a < k) (k3 : k ≤ 3) : okW k (ltr a) := by
  have := okW_ext (okW_nil k) ha k3
  simpa [extL] using this
theorem stpM_lt (v : VB rows good k) (W : MW rows k S) {lf rt : Bool} {i : Nat} (hi : i < S.1.length) : ∀ j ∈ stpM rows S k lf rt i, j < S.1.length := by
  intro j hj
  obtain ⟨_, w2, _, _⟩ := W.wok hi
  simp only [stpM, List.mem_flatMap, List.mem_range] at hj
  obtain ⟨a, ha, hj⟩ := hj
  have ho := okW_ltr ha v.k3
  rcases List.mem_append.1 hj with hj | hj
  · split at hj
    · simp at hj; subst hj; exact W.lt v.n6 v.k3 (okW_app ho w2)
    · simp at hj
  · split at hj
    · simp at hj; subst hj; exact W.lt v.n6 v.k3 (okW_app w2 ho)
    · simp at hj
theorem blw_of_rch (v : VB rows good k) (W : MW rows k S) {lf rt : Bool} {i j : Nat} (hi : i < S.1.length) (r : Rch (stpM rows S k lf rt) i j) : Blw rows S k lf rt i j := by
  obtain ⟨_, wi, _, _⟩ := W.wok hi
  induction r with
  | refl => exact ⟨[], [], okW_nil k, okW_nil k, fun _ => rfl, fun _ => rfl, by simpa using W.self hi⟩
  | step r1 hk ih =>
    rename_i j k'
    obtain ⟨u, x, hu, hx, h1, h2, e⟩ := ih
    have hok := okW_app (okW_app hu wi) hx
    have hj : mv6 rows (wrd S j) = mv6 rows (u ++ wrd S i ++ x) := by rw [← e]; exact wrd_num v W hok
    have hjl : j < S.1.length := by rw [← e]; exact W.lt v.n6 v.k3 hok
    obtain ⟨_, wj, _, _⟩ := W.wok hjl
    simp only [stpM, List.mem_flatMap, List.mem_range] at hk
    obtain ⟨a, ha, hk⟩ := hk
    have ho := okW_ltr ha v.k3
    rcases List.mem_append.1 hk with hk | hk
    · split at hk
      · rename_i hl
        simp at hk
        refine ⟨ltr a ++ u, x, okW_app ho hu, hx, fun q => (by rw [hl] at q; cases q), h2, ?_⟩
        have := num_congr (S := S) (x := []) v ho wj hok hj
        simp only [List.append_nil] at this
        rw [hk, this]; simp only [List.append_assoc]
      · simp at hk
    · split at hk
      · rename_i hl
        simp at hk
        refine ⟨u, x ++ ltr a, hu, okW_app hx ho, h1, fun q => (by rw [hl] at q; cases q), ?_⟩
        have := num_congr (S := S) (u := []) (x := ltr a) v (okW_nil k) wj hok hj
        simp only [List.nil_append] at this
        rw [hk, this]; simp only [List.append_assoc]
      · simp at hk
theorem rch_of_blw (v : VB rows good k) (W : MW rows k S) {lf rt : Bool} {i j : Nat} (hi : i < S.1.length) (b : Blw rows S k lf rt i j) : Rch (stpM rows S k lf rt) i j := by
  obtain ⟨_, wi, _, _⟩ := W.wok hi
  have left : ∀ (u : List UInt8), okW k u → (lf = false → u = []) → Rch (stpM rows S k lf rt) i (numM rows S (u ++ wrd S i)) := by
    intro u
    induction u with
    | nil => intro _ _; rw [List.nil_append, W.self hi]; exact .refl
    | cons c u ih =>
      intro hu hl
      have hlt : lf = true := by cases lf with
        | true => rfl
        | false => exact absurd (hl rfl) (by simp)
      have hu' : okW k u := fun b hb => hu b (by simp [hb])
      have hc := hu c (by simp)
      have r := ih hu' (fun q => by rw [hlt] at q; cases q)
      refine r.step ?_
      have hok := okW_app hu' wi
      have hjl := W.lt v.n6 v.k3 hok
      obtain ⟨_, wj, _, _⟩ := W.wok hjl
      simp only [stpM, List.mem_flatMap, List.mem_range]
      refine ⟨c.toNat - 97, hc.2, List.mem_append_left _ ?_⟩
      rw [if_pos hlt, ← chr_ltr hc.1]
      have := num_congr (S := S) (u := [c]) (x := []) v (fun b hb => hu b (by simp at hb; simp [hb])) wj hok (wrd_num v W hok)
      simp only [List.append_nil] at this
      rw [this]; simp
  obtain ⟨u, x, hu, hx, h1, h2, e⟩ := b
  have right : ∀ (x y : List UInt8), okW k x → okW k y → (rt = false → x = []) → Rch (stpM rows S k lf rt) i (numM rows S (u ++ wrd S i ++ y)) → Rch (stpM rows S k lf rt) i (numM rows S (u ++ wrd S i ++ y ++ x)) := by
    intro x
    induction x with
    | nil => intro y _ _ _ r; rw [List.append_nil]; exact r
    | cons c x ih =>
      intro y hx hy hl r
      have hrt : rt = true := by cases rt with
        | true => rfl
        | false => exact absurd (hl rfl) (by simp)
      have hc := hx c (by simp)
      have hx' : okW k x := fun b hb => hx b (by simp [hb])
      have hc1 : okW k [c] := fun b hb => hx b (by simp at hb; simp [hb])
      have e1 : u ++ wrd S i ++ y ++ c :: x = u ++ wrd S i ++ (y ++ [c]) ++ x := by simp
      rw [e1]
      refine ih (y ++ [c]) hx' (okW_app hy hc1) (fun q => by rw [hrt] at q; cases q) (r.step ?_)
      have hok := okW_app (okW_app hu wi) hy
      have hjl := W.lt v.n6 v.k3 hok
      obtain ⟨_, wj, _, _⟩ := W.wok hjl
      simp only [stpM, List.mem_flatMap, List.mem_range]
      refine ⟨c.toNat - 97, hc.2, List.mem_append_right _ ?_⟩
      rw [if_pos hrt, ← chr_ltr hc.1]
      have := num_congr (S := S) (u := []) (x := [c]) v (okW_nil k) wj hok (wrd_num v W hok)
      simp only [List.nil_append] at this
      rw [this]; simp
  have := right x [] hx (okW_nil k) h2 (by rw [List.append_nil]; exact left u hu h1)
  rw [List.append_nil, e] at this
  exact this
end
end Go.Proofs.Ythnpflkpjimkfaa
