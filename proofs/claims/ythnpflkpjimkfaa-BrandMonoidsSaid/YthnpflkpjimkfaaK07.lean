/-
  BODIES OF FUNCTIONS OF THE PROGRAM AS SMALL OPERATIONS (written by gen.py; checked by the kernel against the program). Conditions: none.
-/
import Derived.Test.YthnpflkpjimkfaaKAmH
import Derived.Test.YthnpflkpjimkfaaK06
import Derived.Test.YthnpflkpjimkfaaK04
set_option linter.all false
namespace Go.Proofs.Ythnpflkpjimkfaa
open Go.AM
open Go.Proofs.Try (prog)
set_option maxRecDepth 100000
set_option linter.all false

namespace l07_BrandMonoids
/-- pommel/pommellaw07.BrandMonoids -/
noncomputable def b : Code := (Try.f9.body).getD .skip
theorem hf : prog.funcs[9]? = some Try.f9 := by kernel_rfl
noncomputable def r0 : Code := findReg b 0
noncomputable def r1 : Code := findReg b 1
noncomputable def r2 : Code := findReg b 2
noncomputable def r3 : Code := findReg b 3
noncomputable def r4 : Code := findReg b 4
noncomputable def r5 : Code := findReg b 5
noncomputable def i0 : Code := findCond b 0
noncomputable def i0t : Code := thenOf i0
noncomputable def i0e : Code := elseOf i0
noncomputable def r6 : Code := findReg b 6
noncomputable def r7 : Code := findReg b 7
noncomputable def r8 : Code := findReg b 8
noncomputable def r9 : Code := findReg b 9
noncomputable def r10 : Code := findReg b 10
noncomputable def i1 : Code := findCond b 1
noncomputable def i1t : Code := thenOf i1
noncomputable def i1e : Code := elseOf i1
noncomputable def r11 : Code := findReg b 11
noncomputable def i2 : Code := findCond b 2
noncomputable def i2t : Code := thenOf i2
noncomputable def i2e : Code := elseOf i2
noncomputable def r12 : Code := findReg b 12
noncomputable def r13 : Code := findReg b 13
noncomputable def r14 : Code := findReg b 14
noncomputable def i3 : Code := findCond b 3
noncomputable def i3t : Code := thenOf i3
noncomputable def i3e : Code := elseOf i3
noncomputable def r15 : Code := findReg b 15
noncomputable def r16 : Code := findReg b 16
noncomputable def i4 : Code := findCond b 4
noncomputable def i4t : Code := thenOf i4
noncomputable def i4e : Code := elseOf i4
noncomputable def r17 : Code := findReg b 17
noncomputable def r18 : Code := findReg b 18
theorem b_eq (K : List Item) (s : St) : den prog ann 9 (.code b :: K) s = den prog ann 9 (.code r0 :: .code r1 :: .code r2 :: .code r3 :: .code r4 :: .code r5 :: .code i0 :: .code r7 :: .code r8 :: .code r9 :: .code r10 :: .code i1 :: .code r14 :: .code i3 :: .code r16 :: .code i4 :: .code r18 :: .code .ret :: K) s := den_flat hf (l := [r0, r1, r2, r3, r4, r5, i0, r7, r8, r9, r10, i1, r14, i3, r16, i4, r18, .ret]) (by kernel_rfl) K s
theorem r0_eq (K : List Item) (s : St) : den prog ann 9 (.code r0 :: K) s = mreg prog ann 9 none [] none [] [
    ⟨some 2, none, .v fun s => frozenPtr (s.get 0)⟩,
    ⟨some 4, none, .v fun s => some (.bool false)⟩] K s := (den_reg hf _ K s).trans (by kernel_rfl)
theorem r1_eq (K : List Item) (s : St) : den prog ann 9 (.code r1 :: K) s = mreg prog ann 9 none [] none [5] [
    ⟨some 17, none, .v fun s => loadF true 2 (s.get 2)⟩,
    ⟨some 18, none, .c 0 (fun s => (.fn 17 [] [])) fun s => [(s.get 17)]⟩,
    ⟨some 19, none, .v fun s => some (s.get 1)⟩,
    ⟨some 20, none, .c 0 (fun s => (.fn 30 [] [])) fun s => [(s.get 19)]⟩,
    ⟨some 5, none, .w false none fun s => newPtr s.m [.nils, .nils]⟩,
    ⟨none, none, .w false none fun s => stA true 2 s.m (s.get 5) (s.get 18)⟩,
    ⟨some 6, none, .v fun s => some (s.get 20)⟩] K s := (den_reg hf _ K s).trans (by kernel_rfl)
theorem r2_eq (K : List Item) (s : St) : den prog ann 9 (.code r2 :: K) s = mreg prog ann 9 none [] none [] [
    ⟨some 22, none, .v fun s => loadF true 2 (s.get 5)⟩,
    ⟨some 23, none, .c 2 (fun s => (.fn 36 [] [])) fun s => [(s.get 22)]⟩,
    ⟨some 21, none, .v fun s => some (s.get 23)⟩,
    ⟨some 24, none, .v fun s => extA (s.get 21) 0⟩,
    ⟨some 25, none, .v fun s => extA (s.get 21) 1⟩,
    ⟨some 7, none, .v fun s => some (s.get 24)⟩,
    ⟨some 8, none, .v fun s => some (s.get 25)⟩] K s := (den_reg hf _ K s).trans (by kernel_rfl)
theorem r3_eq (K : List Item) (s : St) : den prog ann 9 (.code r3 :: K) s = mreg prog ann 9 none [] none [] [
    ⟨some 27, none, .v fun s => loadF true 2 (s.get 5)⟩,
    ⟨some 28, none, .c 2 (fun s => (.fn 40 [] [])) fun s => [(s.get 27)]⟩,
    ⟨some 26, none, .v fun s => some (s.get 28)⟩,
    ⟨some 29, none, .v fun s => extA (s.get 26) 0⟩,
    ⟨some 30, none, .v fun s => extA (s.get 26) 1⟩,
    ⟨some 9, none, .v fun s => some (s.get 29)⟩,
    ⟨some 10, none, .v fun s => some (s.get 30)⟩] K s := (den_reg hf _ K s).trans (by kernel_rfl)
theorem r4_eq (K : List Item) (s : St) : den prog ann 9 (.code r4 :: K) s = mreg prog ann 9 none [] none [] [
    ⟨some 32, none, .v fun s => loadF true 2 (s.get 5)⟩,
    ⟨some 33, none, .v fun s => some (s.get 6)⟩,
    ⟨some 34, none, .c 0 (fun s => (.fn 37 [] [])) fun s => [(s.get 32), (s.get 33)]⟩,
    ⟨some 31, none, .v fun s => some (s.get 34)⟩,
    ⟨some 35, none, .v fun s => extA (s.get 31) 0⟩,
    ⟨some 36, none, .v fun s => extA (s.get 31) 1⟩,
    ⟨some 11, none, .v fun s => some (s.get 35)⟩,
    ⟨some 12, none, .v fun s => some (s.get 36)⟩] K s := (den_reg hf _ K s).trans (by kernel_rfl)
theorem r5_eq (K : List Item) (s : St) : den prog ann 9 (.code r5 :: K) s = mreg prog ann 9 none [] none [] [
    ⟨some 37, none, .v fun s => loadF true 2 (s.get 5)⟩,
    ⟨some 38, none, .c 0 (fun s => (.fn 19 [] [])) fun s => [(s.get 37)]⟩,
    ⟨some 39, none, .v fun s => unA .not (s.get 38)⟩] K s := (den_reg hf _ K s).trans (by kernel_rfl)
theorem i0_eq (K : List Item) (s : St) : den prog ann 9 (.code i0 :: K) s = ifV prog ann 9 39 i0t i0e K s (s.get 39) := den_if hf (by kernel_rfl) K s
theorem i0t_eq (K : List Item) (s : St) : den prog ann 9 (.code i0t :: K) s = den prog ann 9 (.code r6 :: .code .ret :: K) s := den_flat hf (l := [r6, .ret]) (by kernel_rfl) K s
theorem r6_eq (K : List Item) (s : St) : den prog ann 9 (.code r6 :: K) s = mreg prog ann 9 none [] none [] [
    ⟨some 40, none, .v fun s => some (s.get 7)⟩,
    ⟨some 41, none, .v fun s => lenSl (s.get 40)⟩,
    ⟨some 42, none, .v fun s => some (s.get 9)⟩,
    ⟨some 43, none, .v fun s => lenSl (s.get 42)⟩,
    ⟨some 44, none, .v fun s => binA prog .add 3 (s.get 41) (s.get 43)⟩,
    ⟨some 45, none, .v fun s => binA prog .eql 3 (s.get 44) (.int .i64 0)⟩,
    ⟨some 46, none, .v fun s => some (s.get 45)⟩,
    ⟨some 47, some (46, true), .v fun s => some (s.get 8)⟩,
    ⟨some 48, some (46, true), .v fun s => binA prog .eql 27 (s.get 47) (.int .i64 1)⟩,
    ⟨some 49, none, .v fun s => pickA (s.get 46) (s.get 48) (.bool false)⟩,
    ⟨some 50, none, .v fun s => some (s.get 49)⟩,
    ⟨some 51, some (50, true), .v fun s => some (s.get 10)⟩,
    ⟨some 52, some (50, true), .v fun s => binA prog .eql 27 (s.get 51) (.int .i64 1)⟩,
    ⟨some 53, none, .v fun s => pickA (s.get 50) (s.get 52) (.bool false)⟩,
    ⟨some 54, none, .v fun s => some (s.get 53)⟩,
    ⟨some 55, some (54, true), .v fun s => some (s.get 11)⟩,
    ⟨some 56, some (54, true), .v fun s => binA prog .eql 9 (s.get 55) (.str [])⟩,
    ⟨some 57, none, .v fun s => pickA (s.get 54) (s.get 56) (.bool false)⟩,
    ⟨some 58, none, .v fun s => some (s.get 57)⟩,
    ⟨some 59, some (58, true), .v fun s => some (s.get 12)⟩,
    ⟨some 60, some (58, true), .v fun s => binA prog .eql 27 (s.get 59) (.int .i64 1)⟩,
    ⟨some 61, none, .v fun s => pickA (s.get 58) (s.get 60) (.bool false)⟩,
    ⟨some 62, none, .v fun s => some (s.get 61)⟩,
    ⟨some 63, some (62, true), .c 0 (fun s => (.fn 21 [] [])) fun s => []⟩,
    ⟨some 64, none, .v fun s => pickA (s.get 62) (s.get 63) (.bool false)⟩,
    ⟨some 4, none, .v fun s => some (s.get 64)⟩] K s := (den_reg hf _ K s).trans (by kernel_rfl)
theorem i0e_eq (K : List Item) (s : St) : den prog ann 9 (.code i0e :: K) s = den prog ann 9 (K) s := den_flat hf (l := []) (by kernel_rfl) K s
theorem r7_eq (K : List Item) (s : St) : den prog ann 9 (.code r7 :: K) s = mreg prog ann 9 none [] none [13] [
    ⟨some 65, none, .v fun s => loadF true 2 (s.get 5)⟩,
    ⟨some 66, none, .c 2 (fun s => (.fn 29 [] [])) fun s => [(s.get 65)]⟩,
    ⟨some 13, none, .w false none fun s => newPtr s.m [.nils, .nils]⟩,
    ⟨none, none, .w false none fun s => stA true 2 s.m (s.get 13) (s.get 66)⟩] K s := (den_reg hf _ K s).trans (by kernel_rfl)
theorem r8_eq (K : List Item) (s : St) : den prog ann 9 (.code r8 :: K) s = mreg prog ann 9 none [] none [14] [
    ⟨some 68, none, .v fun s => loadF true 2 (s.get 13)⟩,
    ⟨some 69, none, .c 2 (fun s => (.fn 41 [] [])) fun s => [(s.get 68)]⟩,
    ⟨some 67, none, .v fun s => some (s.get 69)⟩,
    ⟨some 70, none, .v fun s => extA (s.get 67) 0⟩,
    ⟨some 71, none, .v fun s => extA (s.get 67) 1⟩,
    ⟨some 14, none, .w false none fun s => newPtr s.m [.nils, .nils]⟩,
    ⟨none, none, .w false none fun s => stA true 2 s.m (s.get 14) (s.get 70)⟩,
    ⟨some 15, none, .v fun s => some (s.get 71)⟩] K s := (den_reg hf _ K s).trans (by kernel_rfl)
theorem r9_eq (K : List Item) (s : St) : den prog ann 9 (.code r9 :: K) s = mreg prog ann 9 none [] none [] [
    ⟨some 72, none, .v fun s => loadF true 2 (s.get 5)⟩,
    ⟨some 73, none, .v fun s => some (s.get 6)⟩,
    ⟨some 74, none, .c 0 (fun s => (.fn 24 [] [])) fun s => [(s.get 72), (s.get 73)]⟩,
    ⟨some 16, none, .v fun s => some (s.get 74)⟩] K s := (den_reg hf _ K s).trans (by kernel_rfl)
theorem r10_eq (K : List Item) (s : St) : den prog ann 9 (.code r10 :: K) s = mreg prog ann 9 none [] none [] [
    ⟨some 75, none, .v fun s => some (s.get 15)⟩,
    ⟨some 76, none, .v fun s => unA .not (s.get 75)⟩] K s := (den_reg hf _ K s).trans (by kernel_rfl)
theorem i1_eq (K : List Item) (s : St) : den prog ann 9 (.code i1 :: K) s = ifV prog ann 9 76 i1t i1e K s (s.get 76) := den_if hf (by kernel_rfl) K s
theorem i1t_eq (K : List Item) (s : St) : den prog ann 9 (.code i1t :: K) s = den prog ann 9 (.code r11 :: .code i2 :: .code r13 :: .code .ret :: K) s := den_flat hf (l := [r11, i2, r13, .ret]) (by kernel_rfl) K s
theorem r11_eq (K : List Item) (s : St) : den prog ann 9 (.code r11 :: K) s = mreg prog ann 9 none [] none [] [
    ⟨some 77, none, .v fun s => some (s.get 16)⟩,
    ⟨some 78, none, .v fun s => binA prog .eql 27 (s.get 77) (.int .i64 0)⟩] K s := (den_reg hf _ K s).trans (by kernel_rfl)
theorem i2_eq (K : List Item) (s : St) : den prog ann 9 (.code i2 :: K) s = ifV prog ann 9 78 i2t i2e K s (s.get 78) := den_if hf (by kernel_rfl) K s
theorem i2t_eq (K : List Item) (s : St) : den prog ann 9 (.code i2t :: K) s = den prog ann 9 (.code r12 :: K) s := den_flat hf (l := [r12]) (by kernel_rfl) K s
theorem r12_eq (K : List Item) (s : St) : den prog ann 9 (.code r12 :: K) s = mreg prog ann 9 none [] none [] [
    ⟨some 16, none, .v fun s => some (.int .i64 7)⟩] K s := (den_reg hf _ K s).trans (by kernel_rfl)
theorem i2e_eq (K : List Item) (s : St) : den prog ann 9 (.code i2e :: K) s = den prog ann 9 (K) s := den_flat hf (l := []) (by kernel_rfl) K s
theorem r13_eq (K : List Item) (s : St) : den prog ann 9 (.code r13 :: K) s = mreg prog ann 9 (some [7, 8, 9, 10, 11, 12, 16]) [] none [] [
    ⟨some 79, none, .v fun s => some (s.get 7)⟩,
    ⟨some 80, none, .v fun s => lenSl (s.get 79)⟩,
    ⟨some 81, none, .v fun s => some (s.get 9)⟩,
    ⟨some 82, none, .v fun s => lenSl (s.get 81)⟩,
    ⟨some 83, none, .v fun s => binA prog .add 3 (s.get 80) (s.get 82)⟩,
    ⟨some 84, none, .v fun s => binA prog .eql 3 (s.get 83) (.int .i64 0)⟩,
    ⟨some 85, none, .v fun s => some (s.get 84)⟩,
    ⟨some 86, some (85, true), .v fun s => some (s.get 8)⟩,
    ⟨some 87, some (85, true), .v fun s => binA prog .eql 27 (s.get 86) (.int .i64 7)⟩,
    ⟨some 88, none, .v fun s => pickA (s.get 85) (s.get 87) (.bool false)⟩,
    ⟨some 89, none, .v fun s => some (s.get 88)⟩,
    ⟨some 90, some (89, true), .v fun s => some (s.get 10)⟩,
    ⟨some 91, some (89, true), .v fun s => binA prog .eql 27 (s.get 90) (.int .i64 7)⟩,
    ⟨some 92, none, .v fun s => pickA (s.get 89) (s.get 91) (.bool false)⟩,
    ⟨some 93, none, .v fun s => some (s.get 92)⟩,
    ⟨some 94, some (93, true), .v fun s => some (s.get 11)⟩,
    ⟨some 95, some (93, true), .v fun s => binA prog .eql 9 (s.get 94) (.str [])⟩,
    ⟨some 96, none, .v fun s => pickA (s.get 93) (s.get 95) (.bool false)⟩,
    ⟨some 97, none, .v fun s => some (s.get 96)⟩,
    ⟨some 98, some (97, true), .v fun s => some (s.get 12)⟩,
    ⟨some 99, some (97, true), .v fun s => some (s.get 16)⟩,
    ⟨some 100, some (97, true), .v fun s => binA prog .eql 27 (s.get 98) (s.get 99)⟩,
    ⟨some 101, none, .v fun s => pickA (s.get 97) (s.get 100) (.bool false)⟩,
    ⟨some 102, none, .v fun s => some (s.get 101)⟩,
    ⟨some 103, some (102, true), .c 0 (fun s => (.fn 21 [] [])) fun s => []⟩,
    ⟨some 104, none, .v fun s => pickA (s.get 102) (s.get 103) (.bool false)⟩,
    ⟨some 4, none, .v fun s => some (s.get 104)⟩] K s := (den_reg hf _ K s).trans (by kernel_rfl)
theorem i1e_eq (K : List Item) (s : St) : den prog ann 9 (.code i1e :: K) s = den prog ann 9 (K) s := den_flat hf (l := []) (by kernel_rfl) K s
theorem r14_eq (K : List Item) (s : St) : den prog ann 9 (.code r14 :: K) s = mreg prog ann 9 none [] none [] [
    ⟨some 105, none, .v fun s => some (s.get 7)⟩,
    ⟨some 106, none, .v fun s => fieldA 1 (s.get 14)⟩,
    ⟨some 107, none, .v fun s => loadF false 1 (s.get 106)⟩,
    ⟨some 108, none, .c 0 (fun s => (.fn 38 [] [])) fun s => [(s.get 105), (s.get 107)]⟩,
    ⟨some 109, none, .v fun s => unA .not (s.get 108)⟩,
    ⟨some 110, none, .v fun s => some (s.get 109)⟩,
    ⟨some 111, some (110, false), .v fun s => some (s.get 8)⟩,
    ⟨some 112, some (110, false), .v fun s => binA prog .neq 27 (s.get 111) (.int .i64 0)⟩,
    ⟨some 113, none, .v fun s => pickA (s.get 110) (.bool true) (s.get 112)⟩,
    ⟨some 114, none, .v fun s => some (s.get 113)⟩,
    ⟨some 115, some (114, false), .v fun s => some (s.get 9)⟩,
    ⟨some 116, some (114, false), .v fun s => loadF true 2 (s.get 14)⟩,
    ⟨some 117, some (114, false), .c 2 (fun s => (.fn 42 [] [])) fun s => [(s.get 116)]⟩,
    ⟨some 118, some (114, false), .c 0 (fun s => (.fn 38 [] [])) fun s => [(s.get 115), (s.get 117)]⟩,
    ⟨some 119, some (114, false), .v fun s => unA .not (s.get 118)⟩,
    ⟨some 120, none, .v fun s => pickA (s.get 114) (.bool true) (s.get 119)⟩,
    ⟨some 121, none, .v fun s => some (s.get 120)⟩,
    ⟨some 122, some (121, false), .v fun s => some (s.get 10)⟩,
    ⟨some 123, some (121, false), .v fun s => binA prog .neq 27 (s.get 122) (.int .i64 0)⟩,
    ⟨some 124, none, .v fun s => pickA (s.get 121) (.bool true) (s.get 123)⟩,
    ⟨some 125, none, .v fun s => some (s.get 124)⟩,
    ⟨some 126, some (125, false), .c 0 (fun s => (.fn 21 [] [])) fun s => []⟩,
    ⟨some 127, some (125, false), .v fun s => unA .not (s.get 126)⟩,
    ⟨some 128, none, .v fun s => pickA (s.get 125) (.bool true) (s.get 127)⟩] K s := (den_reg hf _ K s).trans (by kernel_rfl)
theorem i3_eq (K : List Item) (s : St) : den prog ann 9 (.code i3 :: K) s = ifV prog ann 9 128 i3t i3e K s (s.get 128) := den_if hf (by kernel_rfl) K s
theorem i3t_eq (K : List Item) (s : St) : den prog ann 9 (.code i3t :: K) s = den prog ann 9 (.code r15 :: .code .ret :: K) s := den_flat hf (l := [r15, .ret]) (by kernel_rfl) K s
theorem r15_eq (K : List Item) (s : St) : den prog ann 9 (.code r15 :: K) s = mreg prog ann 9 none [] none [] [
    ⟨some 4, none, .v fun s => some (.bool false)⟩] K s := (den_reg hf _ K s).trans (by kernel_rfl)
theorem i3e_eq (K : List Item) (s : St) : den prog ann 9 (.code i3e :: K) s = den prog ann 9 (K) s := den_flat hf (l := []) (by kernel_rfl) K s
theorem r16_eq (K : List Item) (s : St) : den prog ann 9 (.code r16 :: K) s = mreg prog ann 9 none [] none [] [
    ⟨some 129, none, .v fun s => some (s.get 16)⟩,
    ⟨some 130, none, .v fun s => binA prog .neq 27 (s.get 129) (.int .i64 0)⟩] K s := (den_reg hf _ K s).trans (by kernel_rfl)
theorem i4_eq (K : List Item) (s : St) : den prog ann 9 (.code i4 :: K) s = ifV prog ann 9 130 i4t i4e K s (s.get 130) := den_if hf (by kernel_rfl) K s
theorem i4t_eq (K : List Item) (s : St) : den prog ann 9 (.code i4t :: K) s = den prog ann 9 (.code r17 :: .code .ret :: K) s := den_flat hf (l := [r17, .ret]) (by kernel_rfl) K s
theorem r17_eq (K : List Item) (s : St) : den prog ann 9 (.code r17 :: K) s = mreg prog ann 9 none [] none [] [
    ⟨some 131, none, .v fun s => some (s.get 11)⟩,
    ⟨some 132, none, .v fun s => binA prog .eql 9 (s.get 131) (.str [])⟩,
    ⟨some 133, none, .v fun s => some (s.get 132)⟩,
    ⟨some 134, some (133, true), .v fun s => some (s.get 12)⟩,
    ⟨some 135, some (133, true), .v fun s => some (s.get 16)⟩,
    ⟨some 136, some (133, true), .v fun s => binA prog .eql 27 (s.get 134) (s.get 135)⟩,
    ⟨some 137, none, .v fun s => pickA (s.get 133) (s.get 136) (.bool false)⟩,
    ⟨some 4, none, .v fun s => some (s.get 137)⟩] K s := (den_reg hf _ K s).trans (by kernel_rfl)
theorem i4e_eq (K : List Item) (s : St) : den prog ann 9 (.code i4e :: K) s = den prog ann 9 (K) s := den_flat hf (l := []) (by kernel_rfl) K s
theorem r18_draw : drawOk (fun g => (ann g).pure) (modeOf (ann 9) (idOf r18)) (frzOf (ann 9) (idOf r18)) (opsOf r18) = true := drawOk_of (an := [0, 0, 2, 0, 0, 0, 56, 126, 254, 511, 1023, 2047, 4095, 8191, 16383]) (by kernel_rfl) (by kernel_rfl)
theorem r18_eq (K : List Item) (s : St) : den prog ann 9 (.code r18 :: K) s = mreg prog ann 9 none [] (some 15) [] [
    ⟨some 138, none, .v fun s => some (s.get 11)⟩,
    ⟨some 139, none, .v fun s => fieldA 1 (s.get 14)⟩,
    ⟨some 140, none, .v fun s => loadF false 1 (s.get 139)⟩,
    ⟨some 141, none, .v fun s => loadF true 2 (s.get 14)⟩,
    ⟨some 142, none, .v fun s => loadF true 2 (s.get 13)⟩,
    ⟨some 143, none, .v fun s => some (s.get 6)⟩,
    ⟨some 144, none, .c 0 (fun s => (.fn 43 [] [])) fun s => [(s.get 141), (s.get 142), (s.get 143)]⟩,
    ⟨some 145, none, .v fun s => idxSl 1 (s.get 140) (s.get 144)⟩,
    ⟨some 146, none, .v fun s => loadA false 1 s.m (s.get 145)⟩,
    ⟨some 147, none, .v fun s => binA prog .eql 9 (s.get 138) (s.get 146)⟩,
    ⟨some 148, none, .v fun s => some (s.get 147)⟩,
    ⟨some 149, some (148, true), .v fun s => some (s.get 12)⟩,
    ⟨some 150, some (148, true), .v fun s => binA prog .eql 27 (s.get 149) (.int .i64 0)⟩,
    ⟨some 151, none, .v fun s => pickA (s.get 148) (s.get 150) (.bool false)⟩,
    ⟨some 4, none, .v fun s => some (s.get 151)⟩] K s := (den_regD hf r18_draw K s).trans (by kernel_rfl)
theorem ret_eq (K : List Item) (s : St) : den prog ann 9 (.code .ret :: K) s = finM true [fun s => some (s.get 4)] s := (den_ret hf K s).trans (by kernel_rfl)
theorem nil_eq (s : St) : den prog ann 9 [] s = finM true [fun s => some (s.get 4)] s := (den_nil hf s).trans (by kernel_rfl)
theorem inBlock_eq (id : Nat) (K : List Item) (s : St) : den prog ann 9 (.inBlock id :: K) s = den prog ann 9 K s := den_inBlock hf id K s
theorem exit_eq (id : Nat) (K : List Item) (s : St) : den prog ann 9 (.code (.exit id) :: K) s = exitV prog ann 9 (exitTo id K) s := den_exitV hf id K s
theorem call_eq (v0 v1 : AV) (m : Mem) (h : closedL [v0, v1] = true) : denC prog ann 9 [v0, v1] m = (den prog ann 9 [.code b] ⟨[(0, v0), (1, v1)], 152, Mem.empty⟩).bind fun r => some (r.1, m) := (denC_pure hf (b := b) (by kernel_rfl) (by kernel_rfl) (by kernel_rfl) h m).trans (by kernel_rfl)
theorem pure_eq : (ann 9).pure = true := by kernel_rfl
attribute [simp] b_eq r0_eq r1_eq r2_eq r3_eq r4_eq r5_eq i0_eq i0t_eq r6_eq i0e_eq r7_eq r8_eq r9_eq r10_eq i1_eq i1t_eq r11_eq i2_eq i2t_eq r12_eq i2e_eq r13_eq i1e_eq r14_eq i3_eq i3t_eq r15_eq i3e_eq r16_eq i4_eq i4t_eq r17_eq i4e_eq r18_eq ret_eq nil_eq inBlock_eq exit_eq pure_eq
end l07_BrandMonoids

namespace r07_Same
/-- pommel/pommelref07.Same -/
noncomputable def b : Code := (Try.f38.body).getD .skip
theorem hf : prog.funcs[38]? = some Try.f38 := by kernel_rfl
noncomputable def r0 : Code := findReg b 0
noncomputable def r1 : Code := findReg b 1
noncomputable def i0 : Code := findCond b 0
noncomputable def i0t : Code := thenOf i0
noncomputable def i0e : Code := elseOf i0
noncomputable def r2 : Code := findReg b 2
noncomputable def r3 : Code := findReg b 3
noncomputable def k0 : Code := findBlk b 0
noncomputable def l0 : Code := loopOf k0
noncomputable def L0 (x0 x1 x5 : AV) (m : Mem) (K : List Item) : Option Res := den prog ann 38 (.code l0 :: .inLoop l0 :: .inBlock 0 :: K) ⟨[(0, x0), (1, x1), (5, x5)], 26, m⟩
noncomputable def r4 : Code := findReg b 4
noncomputable def i1 : Code := findCond b 1
noncomputable def i1t : Code := thenOf i1
noncomputable def i1e : Code := elseOf i1
noncomputable def k1 : Code := findBlk b 1
noncomputable def r6 : Code := findReg b 6
noncomputable def i2 : Code := findCond b 2
noncomputable def i2t : Code := thenOf i2
noncomputable def i2e : Code := elseOf i2
noncomputable def r7 : Code := findReg b 7
noncomputable def r5 : Code := findReg b 5
noncomputable def r8 : Code := findReg b 8
theorem b_eq (K : List Item) (s : St) : den prog ann 38 (.code b :: K) s = den prog ann 38 (.code r0 :: .code r1 :: .code i0 :: .code r3 :: .code k0 :: .code r8 :: .code .ret :: K) s := den_flat hf (l := [r0, r1, i0, r3, k0, r8, .ret]) (by kernel_rfl) K s
theorem r0_eq (K : List Item) (s : St) : den prog ann 38 (.code r0 :: K) s = mreg prog ann 38 none [] none [] [
    ⟨some 4, none, .v fun s => some (.bool false)⟩] K s := (den_reg hf _ K s).trans (by kernel_rfl)
theorem r1_eq (K : List Item) (s : St) : den prog ann 38 (.code r1 :: K) s = mreg prog ann 38 none [] none [] [
    ⟨some 6, none, .v fun s => some (s.get 0)⟩,
    ⟨some 7, none, .v fun s => lenSl (s.get 6)⟩,
    ⟨some 8, none, .v fun s => some (s.get 1)⟩,
    ⟨some 9, none, .v fun s => lenSl (s.get 8)⟩,
    ⟨some 10, none, .v fun s => binA prog .neq 3 (s.get 7) (s.get 9)⟩] K s := (den_reg hf _ K s).trans (by kernel_rfl)
theorem i0_eq (K : List Item) (s : St) : den prog ann 38 (.code i0 :: K) s = ifV prog ann 38 10 i0t i0e K s (s.get 10) := den_if hf (by kernel_rfl) K s
theorem i0t_eq (K : List Item) (s : St) : den prog ann 38 (.code i0t :: K) s = den prog ann 38 (.code r2 :: .code .ret :: K) s := den_flat hf (l := [r2, .ret]) (by kernel_rfl) K s
theorem r2_eq (K : List Item) (s : St) : den prog ann 38 (.code r2 :: K) s = mreg prog ann 38 none [] none [] [
    ⟨some 4, none, .v fun s => some (.bool false)⟩] K s := (den_reg hf _ K s).trans (by kernel_rfl)
theorem i0e_eq (K : List Item) (s : St) : den prog ann 38 (.code i0e :: K) s = den prog ann 38 (K) s := den_flat hf (l := []) (by kernel_rfl) K s
theorem r3_eq (K : List Item) (s : St) : den prog ann 38 (.code r3 :: K) s = mreg prog ann 38 none [] none [] [
    ⟨some 5, none, .v fun s => some (.int .i64 0)⟩] K s := (den_reg hf _ K s).trans (by kernel_rfl)
theorem k0_eq (K : List Item) (t : List (Nat × AV)) (m : Mem) : den prog ann 38 (.code k0 :: K) ⟨t, 26, m⟩ = L0 (get t 0) (get t 1) (get t 5) m K := den_loop_enter hf (b := l0) (id := 4) (l := [0, 1, 5]) (by kernel_rfl) (by kernel_rfl) (by kernel_rfl) K _
theorem l0_eq (K : List Item) (t : List (Nat × AV)) (m : Mem) : den prog ann 38 (.inLoop l0 :: .inBlock 0 :: K) ⟨t, 26, m⟩ = L0 (get t 0) (get t 1) (get t 5) m K := den_loop_again hf (id := 4) (l := [0, 1, 5]) (by kernel_rfl) (by kernel_rfl) (.inBlock 0 :: K) _
theorem L0_eq (x0 x1 x5 : AV) (m : Mem) (K : List Item) : L0 x0 x1 x5 m K = den prog ann 38 (.code r4 :: .code i1 :: .code k1 :: .code r5 :: .inLoop l0 :: .inBlock 0 :: K) ⟨[(0, x0), (1, x1), (5, x5)], 26, m⟩ := den_flat hf (l := [r4, i1, k1, r5]) (by kernel_rfl) _ _
theorem r4_eq (K : List Item) (s : St) : den prog ann 38 (.code r4 :: K) s = mreg prog ann 38 (some [0, 1, 5]) [] none [] [
    ⟨some 11, none, .v fun s => some (s.get 5)⟩,
    ⟨some 12, none, .v fun s => some (s.get 0)⟩,
    ⟨some 13, none, .v fun s => lenSl (s.get 12)⟩,
    ⟨some 14, none, .v fun s => binA prog .lss 3 (s.get 11) (s.get 13)⟩] K s := (den_reg hf _ K s).trans (by kernel_rfl)
theorem i1_eq (K : List Item) (s : St) : den prog ann 38 (.code i1 :: K) s = ifV prog ann 38 14 i1t i1e K s (s.get 14) := den_if hf (by kernel_rfl) K s
theorem i1t_eq (K : List Item) (s : St) : den prog ann 38 (.code i1t :: K) s = den prog ann 38 (K) s := den_flat hf (l := []) (by kernel_rfl) K s
theorem i1e_eq (K : List Item) (s : St) : den prog ann 38 (.code i1e :: K) s = den prog ann 38 (.code (.exit 0) :: K) s := den_flat hf (l := [(.exit 0)]) (by kernel_rfl) K s
theorem k1_eq (K : List Item) (s : St) : den prog ann 38 (.code k1 :: K) s = den prog ann 38 (.code r6 :: .code i2 :: .inBlock 1 :: K) s := den_blk hf (b := blkOf k1) (l := [r6, i2]) (by kernel_rfl) (by kernel_rfl) K s
theorem r6_draw : drawOk (fun g => (ann g).pure) (modeOf (ann 38) (idOf r6)) (frzOf (ann 38) (idOf r6)) (opsOf r6) = true := drawOk_of (an := [0, 0, 3, 7, 0, 0, 48, 112, 255]) (by kernel_rfl) (by kernel_rfl)
theorem r6_eq (K : List Item) (s : St) : den prog ann 38 (.code r6 :: K) s = mreg prog ann 38 none [] (some 9) [] [
    ⟨some 17, none, .v fun s => some (s.get 0)⟩,
    ⟨some 18, none, .v fun s => some (s.get 5)⟩,
    ⟨some 19, none, .v fun s => idxSl 1 (s.get 17) (s.get 18)⟩,
    ⟨some 20, none, .v fun s => loadF false 1 (s.get 19)⟩,
    ⟨some 21, none, .v fun s => some (s.get 1)⟩,
    ⟨some 22, none, .v fun s => some (s.get 5)⟩,
    ⟨some 23, none, .v fun s => idxSl 1 (s.get 21) (s.get 22)⟩,
    ⟨some 24, none, .v fun s => loadF false 1 (s.get 23)⟩,
    ⟨some 25, none, .v fun s => binA prog .neq 9 (s.get 20) (s.get 24)⟩] K s := (den_regD hf r6_draw K s).trans (by kernel_rfl)
theorem i2_eq (K : List Item) (s : St) : den prog ann 38 (.code i2 :: K) s = ifV prog ann 38 25 i2t i2e K s (s.get 25) := den_if hf (by kernel_rfl) K s
theorem i2t_eq (K : List Item) (s : St) : den prog ann 38 (.code i2t :: K) s = den prog ann 38 (.code r7 :: .code .ret :: K) s := den_flat hf (l := [r7, .ret]) (by kernel_rfl) K s
theorem r7_eq (K : List Item) (s : St) : den prog ann 38 (.code r7 :: K) s = mreg prog ann 38 none [] none [] [
    ⟨some 4, none, .v fun s => some (.bool false)⟩] K s := (den_reg hf _ K s).trans (by kernel_rfl)
theorem i2e_eq (K : List Item) (s : St) : den prog ann 38 (.code i2e :: K) s = den prog ann 38 (K) s := den_flat hf (l := []) (by kernel_rfl) K s
theorem r5_eq (K : List Item) (s : St) : den prog ann 38 (.code r5 :: K) s = mreg prog ann 38 (some [0, 1, 5]) [] none [] [
    ⟨some 15, none, .v fun s => some (s.get 5)⟩,
    ⟨some 16, none, .v fun s => binA prog .add 3 (s.get 15) (.int .i64 1)⟩,
    ⟨some 5, none, .v fun s => some (s.get 16)⟩] K s := (den_reg hf _ K s).trans (by kernel_rfl)
theorem r8_eq (K : List Item) (s : St) : den prog ann 38 (.code r8 :: K) s = mreg prog ann 38 (some []) [] none [] [
    ⟨some 4, none, .v fun s => some (.bool true)⟩] K s := (den_reg hf _ K s).trans (by kernel_rfl)
theorem ret_eq (K : List Item) (s : St) : den prog ann 38 (.code .ret :: K) s = finM true [fun s => some (s.get 4)] s := (den_ret hf K s).trans (by kernel_rfl)
theorem nil_eq (s : St) : den prog ann 38 [] s = finM true [fun s => some (s.get 4)] s := (den_nil hf s).trans (by kernel_rfl)
theorem inBlock_eq (id : Nat) (K : List Item) (s : St) : den prog ann 38 (.inBlock id :: K) s = den prog ann 38 K s := den_inBlock hf id K s
theorem exit_eq (id : Nat) (K : List Item) (s : St) : den prog ann 38 (.code (.exit id) :: K) s = exitV prog ann 38 (exitTo id K) s := den_exitV hf id K s
theorem call_eq (v0 v1 : AV) (m : Mem) (h : closedL [v0, v1] = true) : denC prog ann 38 [v0, v1] m = (den prog ann 38 [.code b] ⟨[(0, v0), (1, v1)], 26, Mem.empty⟩).bind fun r => some (r.1, m) := (denC_pure hf (b := b) (by kernel_rfl) (by kernel_rfl) (by kernel_rfl) h m).trans (by kernel_rfl)
theorem pure_eq : (ann 38).pure = true := by kernel_rfl
attribute [simp] b_eq r0_eq r1_eq i0_eq i0t_eq r2_eq i0e_eq r3_eq k0_eq l0_eq r4_eq i1_eq i1t_eq i1e_eq k1_eq r6_eq i2_eq i2t_eq r7_eq i2e_eq r5_eq r8_eq ret_eq nil_eq inBlock_eq exit_eq pure_eq
end r07_Same

namespace r07_Of
/-- pommel/pommelref07.Of -/
noncomputable def b : Code := (Try.f41.body).getD .skip
theorem hf : prog.funcs[41]? = some Try.f41 := by kernel_rfl
noncomputable def r0 : Code := findReg b 0
noncomputable def r1 : Code := findReg b 1
noncomputable def r2 : Code := findReg b 2
noncomputable def k0 : Code := findBlk b 0
noncomputable def l0 : Code := loopOf k0
noncomputable def L0 (x1 x2 x4 x5 : AV) (m : Mem) (K : List Item) : Option Res := den prog ann 41 (.code l0 :: .inLoop l0 :: .inBlock 0 :: K) ⟨[(1, x1), (2, x2), (4, x4), (5, x5)], 89, m⟩
noncomputable def r3 : Code := findReg b 3
noncomputable def i0 : Code := findCond b 0
noncomputable def i0t : Code := thenOf i0
noncomputable def i0e : Code := elseOf i0
noncomputable def k1 : Code := findBlk b 1
noncomputable def r5 : Code := findReg b 5
noncomputable def k2 : Code := findBlk b 2
noncomputable def l2 : Code := loopOf k2
noncomputable def L2 (x1 x2 x4 x5 x6 : AV) (m : Mem) (K : List Item) : Option Res := den prog ann 41 (.code l2 :: .inLoop l2 :: .inBlock 2 :: K) ⟨[(1, x1), (2, x2), (4, x4), (5, x5), (6, x6)], 89, m⟩
noncomputable def r6 : Code := findReg b 6
noncomputable def i1 : Code := findCond b 1
noncomputable def i1t : Code := thenOf i1
noncomputable def i1e : Code := elseOf i1
noncomputable def k3 : Code := findBlk b 3
noncomputable def r8 : Code := findReg b 8
noncomputable def r9 : Code := findReg b 9
noncomputable def k4 : Code := findBlk b 4
noncomputable def l4 : Code := loopOf k4
noncomputable def L4 (x1 x2 x4 x5 x6 x7 x8 : AV) (m : Mem) (K : List Item) : Option Res := den prog ann 41 (.code l4 :: .inLoop l4 :: .inBlock 4 :: K) ⟨[(1, x1), (2, x2), (4, x4), (5, x5), (6, x6), (7, x7), (8, x8)], 89, m⟩
noncomputable def r10 : Code := findReg b 10
noncomputable def i2 : Code := findCond b 2
noncomputable def i2t : Code := thenOf i2
noncomputable def i2e : Code := elseOf i2
noncomputable def k5 : Code := findBlk b 5
noncomputable def r12 : Code := findReg b 12
noncomputable def r11 : Code := findReg b 11
noncomputable def r13 : Code := findReg b 13
noncomputable def i3 : Code := findCond b 3
noncomputable def i3t : Code := thenOf i3
noncomputable def i3e : Code := elseOf i3
noncomputable def r14 : Code := findReg b 14
noncomputable def r15 : Code := findReg b 15
noncomputable def i4 : Code := findCond b 4
noncomputable def i4t : Code := thenOf i4
noncomputable def i4e : Code := elseOf i4
noncomputable def r16 : Code := findReg b 16
noncomputable def r7 : Code := findReg b 7
noncomputable def r4 : Code := findReg b 4
noncomputable def r17 : Code := findReg b 17
theorem b_eq (K : List Item) (s : St) : den prog ann 41 (.code b :: K) s = den prog ann 41 (.code r0 :: .code r1 :: .code r2 :: .code k0 :: .code r17 :: .code .ret :: K) s := den_flat hf (l := [r0, r1, r2, k0, r17, .ret]) (by kernel_rfl) K s
theorem r0_eq (K : List Item) (s : St) : den prog ann 41 (.code r0 :: K) s = mreg prog ann 41 none [] none [] [
    ⟨some 1, none, .v fun s => frozenPtr (s.get 0)⟩,
    ⟨some 2, none, .w false none fun s => newPtr s.m [.nils, .nils]⟩,
    ⟨some 3, none, .v fun s => some (.bool false)⟩] K s := (den_reg hf _ K s).trans (by kernel_rfl)
theorem r1_eq (K : List Item) (s : St) : den prog ann 41 (.code r1 :: K) s = mreg prog ann 41 none [] none [] [
    ⟨some 9, none, .v fun s => fieldA 0 (s.get 1)⟩,
    ⟨some 10, none, .v fun s => loadF false 1 (s.get 9)⟩,
    ⟨some 11, none, .v fun s => lenSl (s.get 10)⟩,
    ⟨some 12, none, .c 0 (fun s => (.fn 72 [] [])) fun s => [(s.get 11)]⟩,
    ⟨some 13, none, .v fun s => bslF 1 (bslA 1 1 [.str []] [(0, (s.get 12))])⟩,
    ⟨some 14, none, .v fun s => bslF 1 (bslA 1 1 [.str []] [(0, (.str []))])⟩,
    ⟨some 15, none, .v fun s => bldA (plc [(0, 1), (1, 1)]) [.nils, .nils] [(0, (s.get 13)), (1, (s.get 14))]⟩,
    ⟨some 4, none, .w false none fun s => newPtr s.m [.nils, .nils]⟩,
    ⟨none, none, .w false none fun s => stA true 2 s.m (s.get 4) (s.get 15)⟩] K s := (den_reg hf _ K s).trans (by kernel_rfl)
theorem r2_eq (K : List Item) (s : St) : den prog ann 41 (.code r2 :: K) s = mreg prog ann 41 none [] none [] [
    ⟨some 5, none, .v fun s => some (.int .i64 0)⟩] K s := (den_reg hf _ K s).trans (by kernel_rfl)
theorem k0_eq (K : List Item) (t : List (Nat × AV)) (m : Mem) : den prog ann 41 (.code k0 :: K) ⟨t, 89, m⟩ = L0 (get t 1) (get t 2) (get t 4) (get t 5) m K := den_loop_enter hf (b := l0) (id := 3) (l := [1, 2, 4, 5]) (by kernel_rfl) (by kernel_rfl) (by kernel_rfl) K _
theorem l0_eq (K : List Item) (t : List (Nat × AV)) (m : Mem) : den prog ann 41 (.inLoop l0 :: .inBlock 0 :: K) ⟨t, 89, m⟩ = L0 (get t 1) (get t 2) (get t 4) (get t 5) m K := den_loop_again hf (id := 3) (l := [1, 2, 4, 5]) (by kernel_rfl) (by kernel_rfl) (.inBlock 0 :: K) _
theorem L0_eq (x1 x2 x4 x5 : AV) (m : Mem) (K : List Item) : L0 x1 x2 x4 x5 m K = den prog ann 41 (.code r3 :: .code i0 :: .code k1 :: .code r4 :: .inLoop l0 :: .inBlock 0 :: K) ⟨[(1, x1), (2, x2), (4, x4), (5, x5)], 89, m⟩ := den_flat hf (l := [r3, i0, k1, r4]) (by kernel_rfl) _ _
theorem r3_eq (K : List Item) (s : St) : den prog ann 41 (.code r3 :: K) s = mreg prog ann 41 (some [1, 2, 4, 5]) [] none [] [
    ⟨some 16, none, .v fun s => some (s.get 5)⟩,
    ⟨some 17, none, .v fun s => fieldA 0 (s.get 4)⟩,
    ⟨some 18, none, .v fun s => loadA false 1 s.m (s.get 17)⟩,
    ⟨some 19, none, .v fun s => lenSl (s.get 18)⟩,
    ⟨some 20, none, .v fun s => binA prog .lss 3 (s.get 16) (s.get 19)⟩] K s := (den_reg hf _ K s).trans (by kernel_rfl)
theorem i0_eq (K : List Item) (s : St) : den prog ann 41 (.code i0 :: K) s = ifV prog ann 41 20 i0t i0e K s (s.get 20) := den_if hf (by kernel_rfl) K s
theorem i0t_eq (K : List Item) (s : St) : den prog ann 41 (.code i0t :: K) s = den prog ann 41 (K) s := den_flat hf (l := []) (by kernel_rfl) K s
theorem i0e_eq (K : List Item) (s : St) : den prog ann 41 (.code i0e :: K) s = den prog ann 41 (.code (.exit 0) :: K) s := den_flat hf (l := [(.exit 0)]) (by kernel_rfl) K s
theorem k1_eq (K : List Item) (s : St) : den prog ann 41 (.code k1 :: K) s = den prog ann 41 (.code r5 :: .code k2 :: .inBlock 1 :: K) s := den_blk hf (b := blkOf k1) (l := [r5, k2]) (by kernel_rfl) (by kernel_rfl) K s
theorem r5_eq (K : List Item) (s : St) : den prog ann 41 (.code r5 :: K) s = mreg prog ann 41 none [] none [] [
    ⟨some 6, none, .v fun s => some (.int .i64 0)⟩] K s := (den_reg hf _ K s).trans (by kernel_rfl)
theorem k2_eq (K : List Item) (t : List (Nat × AV)) (m : Mem) : den prog ann 41 (.code k2 :: K) ⟨t, 89, m⟩ = L2 (get t 1) (get t 2) (get t 4) (get t 5) (get t 6) m K := den_loop_enter hf (b := l2) (id := 6) (l := [1, 2, 4, 5, 6]) (by kernel_rfl) (by kernel_rfl) (by kernel_rfl) K _
theorem l2_eq (K : List Item) (t : List (Nat × AV)) (m : Mem) : den prog ann 41 (.inLoop l2 :: .inBlock 2 :: K) ⟨t, 89, m⟩ = L2 (get t 1) (get t 2) (get t 4) (get t 5) (get t 6) m K := den_loop_again hf (id := 6) (l := [1, 2, 4, 5, 6]) (by kernel_rfl) (by kernel_rfl) (.inBlock 2 :: K) _
theorem L2_eq (x1 x2 x4 x5 x6 : AV) (m : Mem) (K : List Item) : L2 x1 x2 x4 x5 x6 m K = den prog ann 41 (.code r6 :: .code i1 :: .code k3 :: .code r7 :: .inLoop l2 :: .inBlock 2 :: K) ⟨[(1, x1), (2, x2), (4, x4), (5, x5), (6, x6)], 89, m⟩ := den_flat hf (l := [r6, i1, k3, r7]) (by kernel_rfl) _ _
theorem r6_eq (K : List Item) (s : St) : den prog ann 41 (.code r6 :: K) s = mreg prog ann 41 (some [1, 2, 4, 5, 6]) [] none [] [
    ⟨some 23, none, .v fun s => some (s.get 6)⟩,
    ⟨some 24, none, .v fun s => fieldA 0 (s.get 1)⟩,
    ⟨some 25, none, .v fun s => loadF false 1 (s.get 24)⟩,
    ⟨some 26, none, .v fun s => idxSl 1 (s.get 25) (.int .i64 0)⟩,
    ⟨some 27, none, .v fun s => loadF false 1 (s.get 26)⟩,
    ⟨some 28, none, .v fun s => lenSl (s.get 27)⟩,
    ⟨some 29, none, .v fun s => binA prog .lss 3 (s.get 23) (s.get 28)⟩] K s := (den_reg hf _ K s).trans (by kernel_rfl)
theorem i1_eq (K : List Item) (s : St) : den prog ann 41 (.code i1 :: K) s = ifV prog ann 41 29 i1t i1e K s (s.get 29) := den_if hf (by kernel_rfl) K s
theorem i1t_eq (K : List Item) (s : St) : den prog ann 41 (.code i1t :: K) s = den prog ann 41 (K) s := den_flat hf (l := []) (by kernel_rfl) K s
theorem i1e_eq (K : List Item) (s : St) : den prog ann 41 (.code i1e :: K) s = den prog ann 41 (.code (.exit 2) :: K) s := den_flat hf (l := [(.exit 2)]) (by kernel_rfl) K s
theorem k3_eq (K : List Item) (s : St) : den prog ann 41 (.code k3 :: K) s = den prog ann 41 (.code r8 :: .code r9 :: .code k4 :: .code r13 :: .code i3 :: .inBlock 3 :: K) s := den_blk hf (b := blkOf k3) (l := [r8, r9, k4, r13, i3]) (by kernel_rfl) (by kernel_rfl) K s
theorem r8_eq (K : List Item) (s : St) : den prog ann 41 (.code r8 :: K) s = mreg prog ann 41 none [] none [] [
    ⟨some 32, none, .w false none fun s => bslM s.m 0 (bslA 1 0 [.int .u8 0] [])⟩,
    ⟨some 7, none, .v fun s => some (s.get 32)⟩] K s := (den_reg hf _ K s).trans (by kernel_rfl)
theorem r9_eq (K : List Item) (s : St) : den prog ann 41 (.code r9 :: K) s = mreg prog ann 41 none [] none [] [
    ⟨some 8, none, .v fun s => some (.int .i64 0)⟩] K s := (den_reg hf _ K s).trans (by kernel_rfl)
theorem k4_eq (K : List Item) (t : List (Nat × AV)) (m : Mem) : den prog ann 41 (.code k4 :: K) ⟨t, 89, m⟩ = L4 (get t 1) (get t 2) (get t 4) (get t 5) (get t 6) (get t 7) (get t 8) m K := den_loop_enter hf (b := l4) (id := 10) (l := [1, 2, 4, 5, 6, 7, 8]) (by kernel_rfl) (by kernel_rfl) (by kernel_rfl) K _
theorem l4_eq (K : List Item) (t : List (Nat × AV)) (m : Mem) : den prog ann 41 (.inLoop l4 :: .inBlock 4 :: K) ⟨t, 89, m⟩ = L4 (get t 1) (get t 2) (get t 4) (get t 5) (get t 6) (get t 7) (get t 8) m K := den_loop_again hf (id := 10) (l := [1, 2, 4, 5, 6, 7, 8]) (by kernel_rfl) (by kernel_rfl) (.inBlock 4 :: K) _
theorem L4_eq (x1 x2 x4 x5 x6 x7 x8 : AV) (m : Mem) (K : List Item) : L4 x1 x2 x4 x5 x6 x7 x8 m K = den prog ann 41 (.code r10 :: .code i2 :: .code k5 :: .code r11 :: .inLoop l4 :: .inBlock 4 :: K) ⟨[(1, x1), (2, x2), (4, x4), (5, x5), (6, x6), (7, x7), (8, x8)], 89, m⟩ := den_flat hf (l := [r10, i2, k5, r11]) (by kernel_rfl) _ _
theorem r10_eq (K : List Item) (s : St) : den prog ann 41 (.code r10 :: K) s = mreg prog ann 41 (some [1, 2, 4, 5, 6, 7, 8]) [] none [] [
    ⟨some 33, none, .v fun s => some (s.get 8)⟩,
    ⟨some 34, none, .v fun s => fieldA 0 (s.get 1)⟩,
    ⟨some 35, none, .v fun s => loadF false 1 (s.get 34)⟩,
    ⟨some 36, none, .v fun s => lenSl (s.get 35)⟩,
    ⟨some 37, none, .v fun s => binA prog .lss 3 (s.get 33) (s.get 36)⟩] K s := (den_reg hf _ K s).trans (by kernel_rfl)
theorem i2_eq (K : List Item) (s : St) : den prog ann 41 (.code i2 :: K) s = ifV prog ann 41 37 i2t i2e K s (s.get 37) := den_if hf (by kernel_rfl) K s
theorem i2t_eq (K : List Item) (s : St) : den prog ann 41 (.code i2t :: K) s = den prog ann 41 (K) s := den_flat hf (l := []) (by kernel_rfl) K s
theorem i2e_eq (K : List Item) (s : St) : den prog ann 41 (.code i2e :: K) s = den prog ann 41 (.code (.exit 4) :: K) s := den_flat hf (l := [(.exit 4)]) (by kernel_rfl) K s
theorem k5_eq (K : List Item) (s : St) : den prog ann 41 (.code k5 :: K) s = den prog ann 41 (.code r12 :: .inBlock 5 :: K) s := den_blk hf (b := blkOf k5) (l := [r12]) (by kernel_rfl) (by kernel_rfl) K s
theorem r12_draw : drawOk (fun g => (ann g).pure) (modeOf (ann 41) (idOf r12)) (frzOf (ann 41) (idOf r12)) (opsOf r12) = true := drawOk_of (an := [0, 0, 2, 0, 8, 0, 56, 120, 0, 504, 1022, 2046, 0, 8190, 16382, 32766, 65534, 131071, 262143]) (by kernel_rfl) (by kernel_rfl)
theorem r12_eq (K : List Item) (s : St) : den prog ann 41 (.code r12 :: K) s = mreg prog ann 41 none [] (some 19) [] [
    ⟨some 40, none, .v fun s => some (s.get 7)⟩,
    ⟨some 41, none, .v fun s => fieldA 0 (s.get 1)⟩,
    ⟨some 42, none, .v fun s => loadF false 1 (s.get 41)⟩,
    ⟨some 43, none, .v fun s => fieldA 0 (s.get 4)⟩,
    ⟨some 44, none, .v fun s => loadA false 1 s.m (s.get 43)⟩,
    ⟨some 45, none, .v fun s => some (s.get 5)⟩,
    ⟨some 46, none, .v fun s => idxSl 1 (s.get 44) (s.get 45)⟩,
    ⟨some 47, none, .v fun s => loadA false 1 s.m (s.get 46)⟩,
    ⟨some 48, none, .v fun s => some (s.get 8)⟩,
    ⟨some 49, none, .v fun s => idxStr (s.get 47) (s.get 48)⟩,
    ⟨some 50, none, .v fun s => idxSl 1 (s.get 42) (s.get 49)⟩,
    ⟨some 51, none, .v fun s => loadF false 1 (s.get 50)⟩,
    ⟨some 52, none, .v fun s => some (s.get 6)⟩,
    ⟨some 53, none, .v fun s => idxSl 1 (s.get 51) (s.get 52)⟩,
    ⟨some 54, none, .v fun s => loadF false 1 (s.get 53)⟩,
    ⟨some 55, none, .v fun s => convInt .u8 (s.get 54)⟩,
    ⟨some 56, none, .v fun s => bslF 1 (bslA 1 1 [.int .u8 0] [(0, (s.get 55))])⟩,
    ⟨some 57, none, .w false (some 17) fun s => appendA 1 1 s.m (s.get 40) (s.get 56)⟩,
    ⟨some 7, none, .v fun s => some (s.get 57)⟩] K s := (den_regD hf r12_draw K s).trans (by kernel_rfl)
theorem r11_eq (K : List Item) (s : St) : den prog ann 41 (.code r11 :: K) s = mreg prog ann 41 (some [1, 2, 4, 5, 6, 7, 8]) [] none [] [
    ⟨some 38, none, .v fun s => some (s.get 8)⟩,
    ⟨some 39, none, .v fun s => binA prog .add 3 (s.get 38) (.int .i64 1)⟩,
    ⟨some 8, none, .v fun s => some (s.get 39)⟩] K s := (den_reg hf _ K s).trans (by kernel_rfl)
theorem r13_eq (K : List Item) (s : St) : den prog ann 41 (.code r13 :: K) s = mreg prog ann 41 (some [1, 2, 4, 5, 6, 7]) [] none [] [
    ⟨some 58, none, .v fun s => loadA true 2 s.m (s.get 4)⟩,
    ⟨some 59, none, .v fun s => some (s.get 7)⟩,
    ⟨some 60, none, .v fun s => convStr s.m (s.get 59)⟩,
    ⟨some 61, none, .c 0 (fun s => (.fn 73 [] [])) fun s => [(s.get 58), (s.get 60)]⟩,
    ⟨some 62, none, .v fun s => binA prog .lss 3 (s.get 61) (.int .i64 0)⟩] K s := (den_reg hf _ K s).trans (by kernel_rfl)
theorem i3_eq (K : List Item) (s : St) : den prog ann 41 (.code i3 :: K) s = ifV prog ann 41 62 i3t i3e K s (s.get 62) := den_if hf (by kernel_rfl) K s
theorem i3t_eq (K : List Item) (s : St) : den prog ann 41 (.code i3t :: K) s = den prog ann 41 (.code r14 :: .code r15 :: .code i4 :: K) s := den_flat hf (l := [r14, r15, i4]) (by kernel_rfl) K s
theorem r14_draw : drawOk (fun g => (ann g).pure) (modeOf (ann 41) (idOf r14)) (frzOf (ann 41) (idOf r14)) (opsOf r14) = true := drawOk_of (an := [0, 1, 0, 4, 12, 31, 0, 64, 0, 256, 0, 1792, 3840, 0, 8255, 32575, 65343, 131071, 1023, 524287, 1048575, 2097151]) (by kernel_rfl) (by kernel_rfl)
theorem r14_eq (K : List Item) (s : St) : den prog ann 41 (.code r14 :: K) s = mreg prog ann 41 none [] (some 22) [3064069, 2000067, 3064071, 3064074] [
    ⟨some 63, none, .v fun s => fieldA 0 (s.get 4)⟩,
    ⟨some 64, none, .v fun s => loadA false 1 s.m (s.get 63)⟩,
    ⟨some 65, none, .v fun s => some (s.get 7)⟩,
    ⟨some 66, none, .v fun s => convStr s.m (s.get 65)⟩,
    ⟨some 67, none, .v fun s => bslF 1 (bslA 1 1 [.str []] [(0, (s.get 66))])⟩,
    ⟨some 68, none, .w false (some 5) fun s => appendA 1 16 s.m (s.get 64) (s.get 67)⟩,
    ⟨some 69, none, .v fun s => fieldA 1 (s.get 4)⟩,
    ⟨some 70, none, .v fun s => loadA false 1 s.m (s.get 69)⟩,
    ⟨some 71, none, .v fun s => fieldA 1 (s.get 4)⟩,
    ⟨some 72, none, .v fun s => loadA false 1 s.m (s.get 71)⟩,
    ⟨some 73, none, .v fun s => some (s.get 5)⟩,
    ⟨some 74, none, .v fun s => idxSl 1 (s.get 72) (s.get 73)⟩,
    ⟨some 75, none, .v fun s => loadA false 1 s.m (s.get 74)⟩,
    ⟨some 76, none, .v fun s => some (s.get 6)⟩,
    ⟨some 77, none, .c 0 (fun s => (.fn 64 [] [])) fun s => [(s.get 76)]⟩,
    ⟨some 78, none, .v fun s => binA prog .add 9 (s.get 75) (s.get 77)⟩,
    ⟨some 79, none, .v fun s => bslF 1 (bslA 1 1 [.str []] [(0, (s.get 78))])⟩,
    ⟨some 80, none, .w false (some 17) fun s => appendA 1 16 s.m (s.get 70) (s.get 79)⟩,
    ⟨some 81, none, .v fun s => fieldA 0 (s.get 4)⟩,
    ⟨none, none, .w false (some 19) fun s => stA false 1 s.m (s.get 81) (s.get 68)⟩,
    ⟨some 82, none, .v fun s => fieldA 1 (s.get 4)⟩,
    ⟨none, none, .w false (some 21) fun s => stA false 1 s.m (s.get 82) (s.get 80)⟩] K s := (den_regD hf r14_draw K s).trans (by kernel_rfl)
theorem r15_eq (K : List Item) (s : St) : den prog ann 41 (.code r15 :: K) s = mreg prog ann 41 none [] none [] [
    ⟨some 83, none, .v fun s => fieldA 0 (s.get 4)⟩,
    ⟨some 84, none, .v fun s => loadA false 1 s.m (s.get 83)⟩,
    ⟨some 85, none, .v fun s => lenSl (s.get 84)⟩,
    ⟨some 86, none, .v fun s => binA prog .gtr 3 (s.get 85) (.int .i64 400)⟩] K s := (den_reg hf _ K s).trans (by kernel_rfl)
theorem i4_eq (K : List Item) (s : St) : den prog ann 41 (.code i4 :: K) s = ifV prog ann 41 86 i4t i4e K s (s.get 86) := den_if hf (by kernel_rfl) K s
theorem i4t_eq (K : List Item) (s : St) : den prog ann 41 (.code i4t :: K) s = den prog ann 41 (.code r16 :: .code .ret :: K) s := den_flat hf (l := [r16, .ret]) (by kernel_rfl) K s
theorem r16_eq (K : List Item) (s : St) : den prog ann 41 (.code r16 :: K) s = mreg prog ann 41 none [] none [] [
    ⟨some 87, none, .v fun s => loadA true 2 s.m (s.get 4)⟩,
    ⟨none, none, .w false none fun s => stA true 2 s.m (s.get 2) (s.get 87)⟩,
    ⟨some 3, none, .v fun s => some (.bool false)⟩] K s := (den_reg hf _ K s).trans (by kernel_rfl)
theorem i4e_eq (K : List Item) (s : St) : den prog ann 41 (.code i4e :: K) s = den prog ann 41 (K) s := den_flat hf (l := []) (by kernel_rfl) K s
theorem i3e_eq (K : List Item) (s : St) : den prog ann 41 (.code i3e :: K) s = den prog ann 41 (K) s := den_flat hf (l := []) (by kernel_rfl) K s
theorem r7_eq (K : List Item) (s : St) : den prog ann 41 (.code r7 :: K) s = mreg prog ann 41 (some [1, 2, 4, 5, 6]) [] none [] [
    ⟨some 30, none, .v fun s => some (s.get 6)⟩,
    ⟨some 31, none, .v fun s => binA prog .add 3 (s.get 30) (.int .i64 1)⟩,
    ⟨some 6, none, .v fun s => some (s.get 31)⟩] K s := (den_reg hf _ K s).trans (by kernel_rfl)
theorem r4_eq (K : List Item) (s : St) : den prog ann 41 (.code r4 :: K) s = mreg prog ann 41 (some [1, 2, 4, 5]) [] none [] [
    ⟨some 21, none, .v fun s => some (s.get 5)⟩,
    ⟨some 22, none, .v fun s => binA prog .add 3 (s.get 21) (.int .i64 1)⟩,
    ⟨some 5, none, .v fun s => some (s.get 22)⟩] K s := (den_reg hf _ K s).trans (by kernel_rfl)
theorem r17_eq (K : List Item) (s : St) : den prog ann 41 (.code r17 :: K) s = mreg prog ann 41 (some [2, 4]) [] none [] [
    ⟨some 88, none, .v fun s => loadA true 2 s.m (s.get 4)⟩,
    ⟨none, none, .w false none fun s => stA true 2 s.m (s.get 2) (s.get 88)⟩,
    ⟨some 3, none, .v fun s => some (.bool true)⟩] K s := (den_reg hf _ K s).trans (by kernel_rfl)
theorem ret_eq (K : List Item) (s : St) : den prog ann 41 (.code .ret :: K) s = finM true [fun s => loadA true 2 s.m (s.get 2), fun s => some (s.get 3)] s := (den_ret hf K s).trans (by kernel_rfl)
theorem nil_eq (s : St) : den prog ann 41 [] s = finM true [fun s => loadA true 2 s.m (s.get 2), fun s => some (s.get 3)] s := (den_nil hf s).trans (by kernel_rfl)
theorem inBlock_eq (id : Nat) (K : List Item) (s : St) : den prog ann 41 (.inBlock id :: K) s = den prog ann 41 K s := den_inBlock hf id K s
theorem exit_eq (id : Nat) (K : List Item) (s : St) : den prog ann 41 (.code (.exit id) :: K) s = exitV prog ann 41 (exitTo id K) s := den_exitV hf id K s
theorem call_eq (v0 : AV) (m : Mem) (h : closedL [v0] = true) : denC prog ann 41 [v0] m = (den prog ann 41 [.code b] ⟨[(0, v0)], 89, Mem.empty⟩).bind fun r => some (r.1, m) := (denC_pure hf (b := b) (by kernel_rfl) (by kernel_rfl) (by kernel_rfl) h m).trans (by kernel_rfl)
theorem pure_eq : (ann 41).pure = true := by kernel_rfl
attribute [simp] b_eq r0_eq r1_eq r2_eq k0_eq l0_eq r3_eq i0_eq i0t_eq i0e_eq k1_eq r5_eq k2_eq l2_eq r6_eq i1_eq i1t_eq i1e_eq k3_eq r8_eq r9_eq k4_eq l4_eq r10_eq i2_eq i2t_eq i2e_eq k5_eq r12_eq r11_eq r13_eq i3_eq i3t_eq r14_eq r15_eq i4_eq i4t_eq r16_eq i4e_eq i3e_eq r7_eq r4_eq r17_eq ret_eq nil_eq inBlock_eq exit_eq pure_eq
end r07_Of

namespace r07_nothing
/-- pommel/pommelref07.nothing -/
noncomputable def b : Code := (Try.f72.body).getD .skip
theorem hf : prog.funcs[72]? = some Try.f72 := by kernel_rfl
noncomputable def r0 : Code := findReg b 0
noncomputable def r1 : Code := findReg b 1
noncomputable def r2 : Code := findReg b 2
noncomputable def k0 : Code := findBlk b 0
noncomputable def l0 : Code := loopOf k0
noncomputable def L0 (x0 x3 x4 : AV) (m : Mem) (K : List Item) : Option Res := den prog ann 72 (.code l0 :: .inLoop l0 :: .inBlock 0 :: K) ⟨[(0, x0), (3, x3), (4, x4)], 18, m⟩
noncomputable def r3 : Code := findReg b 3
noncomputable def i0 : Code := findCond b 0
noncomputable def i0t : Code := thenOf i0
noncomputable def i0e : Code := elseOf i0
noncomputable def k1 : Code := findBlk b 1
noncomputable def r5 : Code := findReg b 5
noncomputable def r4 : Code := findReg b 4
noncomputable def r6 : Code := findReg b 6
theorem b_eq (K : List Item) (s : St) : den prog ann 72 (.code b :: K) s = den prog ann 72 (.code r0 :: .code r1 :: .code r2 :: .code k0 :: .code r6 :: .code .ret :: K) s := den_flat hf (l := [r0, r1, r2, k0, r6, .ret]) (by kernel_rfl) K s
theorem r0_eq (K : List Item) (s : St) : den prog ann 72 (.code r0 :: K) s = mreg prog ann 72 none [] none [] [
    ⟨some 2, none, .v fun s => some (.str [])⟩] K s := (den_reg hf _ K s).trans (by kernel_rfl)
theorem r1_eq (K : List Item) (s : St) : den prog ann 72 (.code r1 :: K) s = mreg prog ann 72 none [] none [] [
    ⟨some 5, none, .w false none fun s => bslM s.m 0 (bslA 1 0 [.int .u8 0] [])⟩,
    ⟨some 3, none, .v fun s => some (s.get 5)⟩] K s := (den_reg hf _ K s).trans (by kernel_rfl)
theorem r2_eq (K : List Item) (s : St) : den prog ann 72 (.code r2 :: K) s = mreg prog ann 72 none [] none [] [
    ⟨some 4, none, .v fun s => some (.int .i64 0)⟩] K s := (den_reg hf _ K s).trans (by kernel_rfl)
theorem k0_eq (K : List Item) (t : List (Nat × AV)) (m : Mem) : den prog ann 72 (.code k0 :: K) ⟨t, 18, m⟩ = L0 (get t 0) (get t 3) (get t 4) m K := den_loop_enter hf (b := l0) (id := 3) (l := [0, 3, 4]) (by kernel_rfl) (by kernel_rfl) (by kernel_rfl) K _
theorem l0_eq (K : List Item) (t : List (Nat × AV)) (m : Mem) : den prog ann 72 (.inLoop l0 :: .inBlock 0 :: K) ⟨t, 18, m⟩ = L0 (get t 0) (get t 3) (get t 4) m K := den_loop_again hf (id := 3) (l := [0, 3, 4]) (by kernel_rfl) (by kernel_rfl) (.inBlock 0 :: K) _
theorem L0_eq (x0 x3 x4 : AV) (m : Mem) (K : List Item) : L0 x0 x3 x4 m K = den prog ann 72 (.code r3 :: .code i0 :: .code k1 :: .code r4 :: .inLoop l0 :: .inBlock 0 :: K) ⟨[(0, x0), (3, x3), (4, x4)], 18, m⟩ := den_flat hf (l := [r3, i0, k1, r4]) (by kernel_rfl) _ _
theorem r3_eq (K : List Item) (s : St) : den prog ann 72 (.code r3 :: K) s = mreg prog ann 72 (some [0, 3, 4]) [] none [] [
    ⟨some 6, none, .v fun s => some (s.get 4)⟩,
    ⟨some 7, none, .v fun s => some (s.get 0)⟩,
    ⟨some 8, none, .v fun s => binA prog .lss 3 (s.get 6) (s.get 7)⟩] K s := (den_reg hf _ K s).trans (by kernel_rfl)
theorem i0_eq (K : List Item) (s : St) : den prog ann 72 (.code i0 :: K) s = ifV prog ann 72 8 i0t i0e K s (s.get 8) := den_if hf (by kernel_rfl) K s
theorem i0t_eq (K : List Item) (s : St) : den prog ann 72 (.code i0t :: K) s = den prog ann 72 (K) s := den_flat hf (l := []) (by kernel_rfl) K s
theorem i0e_eq (K : List Item) (s : St) : den prog ann 72 (.code i0e :: K) s = den prog ann 72 (.code (.exit 0) :: K) s := den_flat hf (l := [(.exit 0)]) (by kernel_rfl) K s
theorem k1_eq (K : List Item) (s : St) : den prog ann 72 (.code k1 :: K) s = den prog ann 72 (.code r5 :: .inBlock 1 :: K) s := den_blk hf (b := blkOf k1) (l := [r5]) (by kernel_rfl) (by kernel_rfl) K s
theorem r5_eq (K : List Item) (s : St) : den prog ann 72 (.code r5 :: K) s = mreg prog ann 72 none [] none [] [
    ⟨some 11, none, .v fun s => some (s.get 3)⟩,
    ⟨some 12, none, .v fun s => some (s.get 4)⟩,
    ⟨some 13, none, .v fun s => convInt .u8 (s.get 12)⟩,
    ⟨some 14, none, .v fun s => bslF 1 (bslA 1 1 [.int .u8 0] [(0, (s.get 13))])⟩,
    ⟨some 15, none, .w false none fun s => appendA 1 1 s.m (s.get 11) (s.get 14)⟩,
    ⟨some 3, none, .v fun s => some (s.get 15)⟩] K s := (den_reg hf _ K s).trans (by kernel_rfl)
theorem r4_eq (K : List Item) (s : St) : den prog ann 72 (.code r4 :: K) s = mreg prog ann 72 (some [0, 3, 4]) [] none [] [
    ⟨some 9, none, .v fun s => some (s.get 4)⟩,
    ⟨some 10, none, .v fun s => binA prog .add 3 (s.get 9) (.int .i64 1)⟩,
    ⟨some 4, none, .v fun s => some (s.get 10)⟩] K s := (den_reg hf _ K s).trans (by kernel_rfl)
theorem r6_eq (K : List Item) (s : St) : den prog ann 72 (.code r6 :: K) s = mreg prog ann 72 (some [3]) [] none [] [
    ⟨some 16, none, .v fun s => some (s.get 3)⟩,
    ⟨some 17, none, .v fun s => convStr s.m (s.get 16)⟩,
    ⟨some 2, none, .v fun s => some (s.get 17)⟩] K s := (den_reg hf _ K s).trans (by kernel_rfl)
theorem ret_eq (K : List Item) (s : St) : den prog ann 72 (.code .ret :: K) s = finM true [fun s => some (s.get 2)] s := (den_ret hf K s).trans (by kernel_rfl)
theorem nil_eq (s : St) : den prog ann 72 [] s = finM true [fun s => some (s.get 2)] s := (den_nil hf s).trans (by kernel_rfl)
theorem inBlock_eq (id : Nat) (K : List Item) (s : St) : den prog ann 72 (.inBlock id :: K) s = den prog ann 72 K s := den_inBlock hf id K s
theorem exit_eq (id : Nat) (K : List Item) (s : St) : den prog ann 72 (.code (.exit id) :: K) s = exitV prog ann 72 (exitTo id K) s := den_exitV hf id K s
theorem call_eq (v0 : AV) (m : Mem) (h : closedL [v0] = true) : denC prog ann 72 [v0] m = (den prog ann 72 [.code b] ⟨[(0, v0)], 18, Mem.empty⟩).bind fun r => some (r.1, m) := (denC_pure hf (b := b) (by kernel_rfl) (by kernel_rfl) (by kernel_rfl) h m).trans (by kernel_rfl)
theorem pure_eq : (ann 72).pure = true := by kernel_rfl
attribute [simp] b_eq r0_eq r1_eq r2_eq k0_eq l0_eq r3_eq i0_eq i0t_eq i0e_eq k1_eq r5_eq r4_eq r6_eq ret_eq nil_eq inBlock_eq exit_eq pure_eq
end r07_nothing

namespace r07_Monoid_Find
/-- (pommel/pommelref07.Monoid).Find -/
noncomputable def b : Code := (Try.f73.body).getD .skip
theorem hf : prog.funcs[73]? = some Try.f73 := by kernel_rfl
noncomputable def r0 : Code := findReg b 0
noncomputable def r1 : Code := findReg b 1
noncomputable def k0 : Code := findBlk b 0
noncomputable def l0 : Code := loopOf k0
noncomputable def L0 (x1 x2 x5 : AV) (m : Mem) (K : List Item) : Option Res := den prog ann 73 (.code l0 :: .inLoop l0 :: .inBlock 0 :: K) ⟨[(1, x1), (2, x2), (5, x5)], 21, m⟩
noncomputable def r2 : Code := findReg b 2
noncomputable def i0 : Code := findCond b 0
noncomputable def i0t : Code := thenOf i0
noncomputable def i0e : Code := elseOf i0
noncomputable def k1 : Code := findBlk b 1
noncomputable def r4 : Code := findReg b 4
noncomputable def i1 : Code := findCond b 1
noncomputable def i1t : Code := thenOf i1
noncomputable def i1e : Code := elseOf i1
noncomputable def r5 : Code := findReg b 5
noncomputable def r3 : Code := findReg b 3
noncomputable def r6 : Code := findReg b 6
theorem b_eq (K : List Item) (s : St) : den prog ann 73 (.code b :: K) s = den prog ann 73 (.code r0 :: .code r1 :: .code k0 :: .code r6 :: .code .ret :: K) s := den_flat hf (l := [r0, r1, k0, r6, .ret]) (by kernel_rfl) K s
theorem r0_eq (K : List Item) (s : St) : den prog ann 73 (.code r0 :: K) s = mreg prog ann 73 none [] none [] [
    ⟨some 2, none, .v fun s => frozenPtr (s.get 0)⟩,
    ⟨some 4, none, .v fun s => some (.int .i64 0)⟩] K s := (den_reg hf _ K s).trans (by kernel_rfl)
theorem r1_eq (K : List Item) (s : St) : den prog ann 73 (.code r1 :: K) s = mreg prog ann 73 none [] none [] [
    ⟨some 5, none, .v fun s => some (.int .i64 0)⟩] K s := (den_reg hf _ K s).trans (by kernel_rfl)
theorem k0_eq (K : List Item) (t : List (Nat × AV)) (m : Mem) : den prog ann 73 (.code k0 :: K) ⟨t, 21, m⟩ = L0 (get t 1) (get t 2) (get t 5) m K := den_loop_enter hf (b := l0) (id := 2) (l := [1, 2, 5]) (by kernel_rfl) (by kernel_rfl) (by kernel_rfl) K _
theorem l0_eq (K : List Item) (t : List (Nat × AV)) (m : Mem) : den prog ann 73 (.inLoop l0 :: .inBlock 0 :: K) ⟨t, 21, m⟩ = L0 (get t 1) (get t 2) (get t 5) m K := den_loop_again hf (id := 2) (l := [1, 2, 5]) (by kernel_rfl) (by kernel_rfl) (.inBlock 0 :: K) _
theorem L0_eq (x1 x2 x5 : AV) (m : Mem) (K : List Item) : L0 x1 x2 x5 m K = den prog ann 73 (.code r2 :: .code i0 :: .code k1 :: .code r3 :: .inLoop l0 :: .inBlock 0 :: K) ⟨[(1, x1), (2, x2), (5, x5)], 21, m⟩ := den_flat hf (l := [r2, i0, k1, r3]) (by kernel_rfl) _ _
theorem r2_eq (K : List Item) (s : St) : den prog ann 73 (.code r2 :: K) s = mreg prog ann 73 (some [1, 2, 5]) [] none [] [
    ⟨some 6, none, .v fun s => some (s.get 5)⟩,
    ⟨some 7, none, .v fun s => fieldA 0 (s.get 2)⟩,
    ⟨some 8, none, .v fun s => loadF false 1 (s.get 7)⟩,
    ⟨some 9, none, .v fun s => lenSl (s.get 8)⟩,
    ⟨some 10, none, .v fun s => binA prog .lss 3 (s.get 6) (s.get 9)⟩] K s := (den_reg hf _ K s).trans (by kernel_rfl)
theorem i0_eq (K : List Item) (s : St) : den prog ann 73 (.code i0 :: K) s = ifV prog ann 73 10 i0t i0e K s (s.get 10) := den_if hf (by kernel_rfl) K s
theorem i0t_eq (K : List Item) (s : St) : den prog ann 73 (.code i0t :: K) s = den prog ann 73 (K) s := den_flat hf (l := []) (by kernel_rfl) K s
theorem i0e_eq (K : List Item) (s : St) : den prog ann 73 (.code i0e :: K) s = den prog ann 73 (.code (.exit 0) :: K) s := den_flat hf (l := [(.exit 0)]) (by kernel_rfl) K s
theorem k1_eq (K : List Item) (s : St) : den prog ann 73 (.code k1 :: K) s = den prog ann 73 (.code r4 :: .code i1 :: .inBlock 1 :: K) s := den_blk hf (b := blkOf k1) (l := [r4, i1]) (by kernel_rfl) (by kernel_rfl) K s
theorem r4_eq (K : List Item) (s : St) : den prog ann 73 (.code r4 :: K) s = mreg prog ann 73 none [] none [] [
    ⟨some 13, none, .v fun s => fieldA 0 (s.get 2)⟩,
    ⟨some 14, none, .v fun s => loadF false 1 (s.get 13)⟩,
    ⟨some 15, none, .v fun s => some (s.get 5)⟩,
    ⟨some 16, none, .v fun s => idxSl 1 (s.get 14) (s.get 15)⟩,
    ⟨some 17, none, .v fun s => loadF false 1 (s.get 16)⟩,
    ⟨some 18, none, .v fun s => some (s.get 1)⟩,
    ⟨some 19, none, .v fun s => binA prog .eql 9 (s.get 17) (s.get 18)⟩] K s := (den_reg hf _ K s).trans (by kernel_rfl)
theorem i1_eq (K : List Item) (s : St) : den prog ann 73 (.code i1 :: K) s = ifV prog ann 73 19 i1t i1e K s (s.get 19) := den_if hf (by kernel_rfl) K s
theorem i1t_eq (K : List Item) (s : St) : den prog ann 73 (.code i1t :: K) s = den prog ann 73 (.code r5 :: .code .ret :: K) s := den_flat hf (l := [r5, .ret]) (by kernel_rfl) K s
theorem r5_eq (K : List Item) (s : St) : den prog ann 73 (.code r5 :: K) s = mreg prog ann 73 none [] none [] [
    ⟨some 20, none, .v fun s => some (s.get 5)⟩,
    ⟨some 4, none, .v fun s => some (s.get 20)⟩] K s := (den_reg hf _ K s).trans (by kernel_rfl)
theorem i1e_eq (K : List Item) (s : St) : den prog ann 73 (.code i1e :: K) s = den prog ann 73 (K) s := den_flat hf (l := []) (by kernel_rfl) K s
theorem r3_eq (K : List Item) (s : St) : den prog ann 73 (.code r3 :: K) s = mreg prog ann 73 (some [1, 2, 5]) [] none [] [
    ⟨some 11, none, .v fun s => some (s.get 5)⟩,
    ⟨some 12, none, .v fun s => binA prog .add 3 (s.get 11) (.int .i64 1)⟩,
    ⟨some 5, none, .v fun s => some (s.get 12)⟩] K s := (den_reg hf _ K s).trans (by kernel_rfl)
theorem r6_eq (K : List Item) (s : St) : den prog ann 73 (.code r6 :: K) s = mreg prog ann 73 (some []) [] none [] [
    ⟨some 4, none, .v fun s => some (.int .i64 (-1))⟩] K s := (den_reg hf _ K s).trans (by kernel_rfl)
theorem ret_eq (K : List Item) (s : St) : den prog ann 73 (.code .ret :: K) s = finM true [fun s => some (s.get 4)] s := (den_ret hf K s).trans (by kernel_rfl)
theorem nil_eq (s : St) : den prog ann 73 [] s = finM true [fun s => some (s.get 4)] s := (den_nil hf s).trans (by kernel_rfl)
theorem inBlock_eq (id : Nat) (K : List Item) (s : St) : den prog ann 73 (.inBlock id :: K) s = den prog ann 73 K s := den_inBlock hf id K s
theorem exit_eq (id : Nat) (K : List Item) (s : St) : den prog ann 73 (.code (.exit id) :: K) s = exitV prog ann 73 (exitTo id K) s := den_exitV hf id K s
theorem call_eq (v0 v1 : AV) (m : Mem) (h : closedL [v0, v1] = true) : denC prog ann 73 [v0, v1] m = (den prog ann 73 [.code b] ⟨[(0, v0), (1, v1)], 21, Mem.empty⟩).bind fun r => some (r.1, m) := (denC_pure hf (b := b) (by kernel_rfl) (by kernel_rfl) (by kernel_rfl) h m).trans (by kernel_rfl)
theorem pure_eq : (ann 73).pure = true := by kernel_rfl
attribute [simp] b_eq r0_eq r1_eq k0_eq l0_eq r2_eq i0_eq i0t_eq i0e_eq k1_eq r4_eq i1_eq i1t_eq r5_eq i1e_eq r3_eq r6_eq ret_eq nil_eq inBlock_eq exit_eq pure_eq
end r07_Monoid_Find

namespace r07_Monoid_Times
/-- (pommel/pommelref07.Monoid).Times -/
noncomputable def b : Code := (Try.f74.body).getD .skip
theorem hf : prog.funcs[74]? = some Try.f74 := by kernel_rfl
noncomputable def r0 : Code := findReg b 0
noncomputable def r1 : Code := findReg b 1
noncomputable def r2 : Code := findReg b 2
noncomputable def k0 : Code := findBlk b 0
noncomputable def l0 : Code := loopOf k0
noncomputable def L0 (x1 x2 x3 x7 x8 : AV) (m : Mem) (K : List Item) : Option Res := den prog ann 74 (.code l0 :: .inLoop l0 :: .inBlock 0 :: K) ⟨[(1, x1), (2, x2), (3, x3), (7, x7), (8, x8)], 40, m⟩
noncomputable def r3 : Code := findReg b 3
noncomputable def i0 : Code := findCond b 0
noncomputable def i0t : Code := thenOf i0
noncomputable def i0e : Code := elseOf i0
noncomputable def k1 : Code := findBlk b 1
noncomputable def r5 : Code := findReg b 5
noncomputable def r4 : Code := findReg b 4
noncomputable def r6 : Code := findReg b 6
theorem b_eq (K : List Item) (s : St) : den prog ann 74 (.code b :: K) s = den prog ann 74 (.code r0 :: .code r1 :: .code r2 :: .code k0 :: .code r6 :: .code .ret :: K) s := den_flat hf (l := [r0, r1, r2, k0, r6, .ret]) (by kernel_rfl) K s
theorem r0_eq (K : List Item) (s : St) : den prog ann 74 (.code r0 :: K) s = mreg prog ann 74 none [] none [] [
    ⟨some 3, none, .v fun s => frozenPtr (s.get 0)⟩,
    ⟨some 6, none, .v fun s => some (.int .i64 0)⟩] K s := (den_reg hf _ K s).trans (by kernel_rfl)
theorem r1_eq (K : List Item) (s : St) : den prog ann 74 (.code r1 :: K) s = mreg prog ann 74 none [] none [] [
    ⟨some 9, none, .w false none fun s => bslM s.m 0 (bslA 1 0 [.int .u8 0] [])⟩,
    ⟨some 7, none, .v fun s => some (s.get 9)⟩] K s := (den_reg hf _ K s).trans (by kernel_rfl)
theorem r2_eq (K : List Item) (s : St) : den prog ann 74 (.code r2 :: K) s = mreg prog ann 74 none [] none [] [
    ⟨some 8, none, .v fun s => some (.int .i64 0)⟩] K s := (den_reg hf _ K s).trans (by kernel_rfl)
theorem k0_eq (K : List Item) (t : List (Nat × AV)) (m : Mem) : den prog ann 74 (.code k0 :: K) ⟨t, 40, m⟩ = L0 (get t 1) (get t 2) (get t 3) (get t 7) (get t 8) m K := den_loop_enter hf (b := l0) (id := 3) (l := [1, 2, 3, 7, 8]) (by kernel_rfl) (by kernel_rfl) (by kernel_rfl) K _
theorem l0_eq (K : List Item) (t : List (Nat × AV)) (m : Mem) : den prog ann 74 (.inLoop l0 :: .inBlock 0 :: K) ⟨t, 40, m⟩ = L0 (get t 1) (get t 2) (get t 3) (get t 7) (get t 8) m K := den_loop_again hf (id := 3) (l := [1, 2, 3, 7, 8]) (by kernel_rfl) (by kernel_rfl) (.inBlock 0 :: K) _
theorem L0_eq (x1 x2 x3 x7 x8 : AV) (m : Mem) (K : List Item) : L0 x1 x2 x3 x7 x8 m K = den prog ann 74 (.code r3 :: .code i0 :: .code k1 :: .code r4 :: .inLoop l0 :: .inBlock 0 :: K) ⟨[(1, x1), (2, x2), (3, x3), (7, x7), (8, x8)], 40, m⟩ := den_flat hf (l := [r3, i0, k1, r4]) (by kernel_rfl) _ _
theorem r3_eq (K : List Item) (s : St) : den prog ann 74 (.code r3 :: K) s = mreg prog ann 74 (some [1, 2, 3, 7, 8]) [] none [] [
    ⟨some 10, none, .v fun s => some (s.get 8)⟩,
    ⟨some 11, none, .v fun s => fieldA 0 (s.get 3)⟩,
    ⟨some 12, none, .v fun s => loadF false 1 (s.get 11)⟩,
    ⟨some 13, none, .v fun s => some (s.get 1)⟩,
    ⟨some 14, none, .v fun s => idxSl 1 (s.get 12) (s.get 13)⟩,
    ⟨some 15, none, .v fun s => loadF false 1 (s.get 14)⟩,
    ⟨some 16, none, .v fun s => lenStr (s.get 15)⟩,
    ⟨some 17, none, .v fun s => binA prog .lss 3 (s.get 10) (s.get 16)⟩] K s := (den_reg hf _ K s).trans (by kernel_rfl)
theorem i0_eq (K : List Item) (s : St) : den prog ann 74 (.code i0 :: K) s = ifV prog ann 74 17 i0t i0e K s (s.get 17) := den_if hf (by kernel_rfl) K s
theorem i0t_eq (K : List Item) (s : St) : den prog ann 74 (.code i0t :: K) s = den prog ann 74 (K) s := den_flat hf (l := []) (by kernel_rfl) K s
theorem i0e_eq (K : List Item) (s : St) : den prog ann 74 (.code i0e :: K) s = den prog ann 74 (.code (.exit 0) :: K) s := den_flat hf (l := [(.exit 0)]) (by kernel_rfl) K s
theorem k1_eq (K : List Item) (s : St) : den prog ann 74 (.code k1 :: K) s = den prog ann 74 (.code r5 :: .inBlock 1 :: K) s := den_blk hf (b := blkOf k1) (l := [r5]) (by kernel_rfl) (by kernel_rfl) K s
theorem r5_draw : drawOk (fun g => (ann g).pure) (modeOf (ann 74) (idOf r5)) (frzOf (ann 74) (idOf r5)) (opsOf r5) = true := drawOk_of (an := [0, 0, 2, 0, 14, 30, 0, 64, 0, 448, 960, 0, 4032, 8190, 16382, 32767, 65535]) (by kernel_rfl) (by kernel_rfl)
theorem r5_eq (K : List Item) (s : St) : den prog ann 74 (.code r5 :: K) s = mreg prog ann 74 none [] (some 17) [] [
    ⟨some 20, none, .v fun s => some (s.get 7)⟩,
    ⟨some 21, none, .v fun s => fieldA 0 (s.get 3)⟩,
    ⟨some 22, none, .v fun s => loadF false 1 (s.get 21)⟩,
    ⟨some 23, none, .v fun s => some (s.get 2)⟩,
    ⟨some 24, none, .v fun s => idxSl 1 (s.get 22) (s.get 23)⟩,
    ⟨some 25, none, .v fun s => loadF false 1 (s.get 24)⟩,
    ⟨some 26, none, .v fun s => fieldA 0 (s.get 3)⟩,
    ⟨some 27, none, .v fun s => loadF false 1 (s.get 26)⟩,
    ⟨some 28, none, .v fun s => some (s.get 1)⟩,
    ⟨some 29, none, .v fun s => idxSl 1 (s.get 27) (s.get 28)⟩,
    ⟨some 30, none, .v fun s => loadF false 1 (s.get 29)⟩,
    ⟨some 31, none, .v fun s => some (s.get 8)⟩,
    ⟨some 32, none, .v fun s => idxStr (s.get 30) (s.get 31)⟩,
    ⟨some 33, none, .v fun s => idxStr (s.get 25) (s.get 32)⟩,
    ⟨some 34, none, .v fun s => bslF 1 (bslA 1 1 [.int .u8 0] [(0, (s.get 33))])⟩,
    ⟨some 35, none, .w false (some 15) fun s => appendA 1 1 s.m (s.get 20) (s.get 34)⟩,
    ⟨some 7, none, .v fun s => some (s.get 35)⟩] K s := (den_regD hf r5_draw K s).trans (by kernel_rfl)
theorem r4_eq (K : List Item) (s : St) : den prog ann 74 (.code r4 :: K) s = mreg prog ann 74 (some [1, 2, 3, 7, 8]) [] none [] [
    ⟨some 18, none, .v fun s => some (s.get 8)⟩,
    ⟨some 19, none, .v fun s => binA prog .add 3 (s.get 18) (.int .i64 1)⟩,
    ⟨some 8, none, .v fun s => some (s.get 19)⟩] K s := (den_reg hf _ K s).trans (by kernel_rfl)
theorem r6_eq (K : List Item) (s : St) : den prog ann 74 (.code r6 :: K) s = mreg prog ann 74 (some [3, 7]) [] none [] [
    ⟨some 36, none, .v fun s => loadF true 2 (s.get 3)⟩,
    ⟨some 37, none, .v fun s => some (s.get 7)⟩,
    ⟨some 38, none, .v fun s => convStr s.m (s.get 37)⟩,
    ⟨some 39, none, .c 0 (fun s => (.fn 73 [] [])) fun s => [(s.get 36), (s.get 38)]⟩,
    ⟨some 6, none, .v fun s => some (s.get 39)⟩] K s := (den_reg hf _ K s).trans (by kernel_rfl)
theorem ret_eq (K : List Item) (s : St) : den prog ann 74 (.code .ret :: K) s = finM true [fun s => some (s.get 6)] s := (den_ret hf K s).trans (by kernel_rfl)
theorem nil_eq (s : St) : den prog ann 74 [] s = finM true [fun s => some (s.get 6)] s := (den_nil hf s).trans (by kernel_rfl)
theorem inBlock_eq (id : Nat) (K : List Item) (s : St) : den prog ann 74 (.inBlock id :: K) s = den prog ann 74 K s := den_inBlock hf id K s
theorem exit_eq (id : Nat) (K : List Item) (s : St) : den prog ann 74 (.code (.exit id) :: K) s = exitV prog ann 74 (exitTo id K) s := den_exitV hf id K s
theorem call_eq (v0 v1 v2 : AV) (m : Mem) (h : closedL [v0, v1, v2] = true) : denC prog ann 74 [v0, v1, v2] m = (den prog ann 74 [.code b] ⟨[(0, v0), (1, v1), (2, v2)], 40, Mem.empty⟩).bind fun r => some (r.1, m) := (denC_pure hf (b := b) (by kernel_rfl) (by kernel_rfl) (by kernel_rfl) h m).trans (by kernel_rfl)
theorem pure_eq : (ann 74).pure = true := by kernel_rfl
attribute [simp] b_eq r0_eq r1_eq r2_eq k0_eq l0_eq r3_eq i0_eq i0t_eq i0e_eq k1_eq r5_eq r4_eq r6_eq ret_eq nil_eq inBlock_eq exit_eq pure_eq
end r07_Monoid_Times

namespace r07_Monoid_Idempotents
/-- (pommel/pommelref07.Monoid).Idempotents -/
noncomputable def b : Code := (Try.f42.body).getD .skip
theorem hf : prog.funcs[42]? = some Try.f42 := by kernel_rfl
noncomputable def r0 : Code := findReg b 0
noncomputable def r1 : Code := findReg b 1
noncomputable def r2 : Code := findReg b 2
noncomputable def k0 : Code := findBlk b 0
noncomputable def l0 : Code := loopOf k0
noncomputable def L0 (x1 x3 x4 : AV) (m : Mem) (K : List Item) : Option Res := den prog ann 42 (.code l0 :: .inLoop l0 :: .inBlock 0 :: K) ⟨[(1, x1), (3, x3), (4, x4)], 28, m⟩
noncomputable def r3 : Code := findReg b 3
noncomputable def i0 : Code := findCond b 0
noncomputable def i0t : Code := thenOf i0
noncomputable def i0e : Code := elseOf i0
noncomputable def k1 : Code := findBlk b 1
noncomputable def r5 : Code := findReg b 5
noncomputable def i1 : Code := findCond b 1
noncomputable def i1t : Code := thenOf i1
noncomputable def i1e : Code := elseOf i1
noncomputable def r6 : Code := findReg b 6
noncomputable def r4 : Code := findReg b 4
noncomputable def r7 : Code := findReg b 7
theorem b_eq (K : List Item) (s : St) : den prog ann 42 (.code b :: K) s = den prog ann 42 (.code r0 :: .code r1 :: .code r2 :: .code k0 :: .code r7 :: .code .ret :: K) s := den_flat hf (l := [r0, r1, r2, k0, r7, .ret]) (by kernel_rfl) K s
theorem r0_eq (K : List Item) (s : St) : den prog ann 42 (.code r0 :: K) s = mreg prog ann 42 none [] none [] [
    ⟨some 1, none, .v fun s => frozenPtr (s.get 0)⟩,
    ⟨some 2, none, .v fun s => some (.nils)⟩] K s := (den_reg hf _ K s).trans (by kernel_rfl)
theorem r1_eq (K : List Item) (s : St) : den prog ann 42 (.code r1 :: K) s = mreg prog ann 42 none [] none [] [
    ⟨some 5, none, .w false none fun s => bslM s.m 0 (bslA 1 0 [.str []] [])⟩,
    ⟨some 3, none, .v fun s => some (s.get 5)⟩] K s := (den_reg hf _ K s).trans (by kernel_rfl)
theorem r2_eq (K : List Item) (s : St) : den prog ann 42 (.code r2 :: K) s = mreg prog ann 42 none [] none [] [
    ⟨some 4, none, .v fun s => some (.int .i64 0)⟩] K s := (den_reg hf _ K s).trans (by kernel_rfl)
theorem k0_eq (K : List Item) (t : List (Nat × AV)) (m : Mem) : den prog ann 42 (.code k0 :: K) ⟨t, 28, m⟩ = L0 (get t 1) (get t 3) (get t 4) m K := den_loop_enter hf (b := l0) (id := 3) (l := [1, 3, 4]) (by kernel_rfl) (by kernel_rfl) (by kernel_rfl) K _
theorem l0_eq (K : List Item) (t : List (Nat × AV)) (m : Mem) : den prog ann 42 (.inLoop l0 :: .inBlock 0 :: K) ⟨t, 28, m⟩ = L0 (get t 1) (get t 3) (get t 4) m K := den_loop_again hf (id := 3) (l := [1, 3, 4]) (by kernel_rfl) (by kernel_rfl) (.inBlock 0 :: K) _
theorem L0_eq (x1 x3 x4 : AV) (m : Mem) (K : List Item) : L0 x1 x3 x4 m K = den prog ann 42 (.code r3 :: .code i0 :: .code k1 :: .code r4 :: .inLoop l0 :: .inBlock 0 :: K) ⟨[(1, x1), (3, x3), (4, x4)], 28, m⟩ := den_flat hf (l := [r3, i0, k1, r4]) (by kernel_rfl) _ _
theorem r3_eq (K : List Item) (s : St) : den prog ann 42 (.code r3 :: K) s = mreg prog ann 42 (some [1, 3, 4]) [] none [] [
    ⟨some 6, none, .v fun s => some (s.get 4)⟩,
    ⟨some 7, none, .v fun s => fieldA 0 (s.get 1)⟩,
    ⟨some 8, none, .v fun s => loadF false 1 (s.get 7)⟩,
    ⟨some 9, none, .v fun s => lenSl (s.get 8)⟩,
    ⟨some 10, none, .v fun s => binA prog .lss 3 (s.get 6) (s.get 9)⟩] K s := (den_reg hf _ K s).trans (by kernel_rfl)
theorem i0_eq (K : List Item) (s : St) : den prog ann 42 (.code i0 :: K) s = ifV prog ann 42 10 i0t i0e K s (s.get 10) := den_if hf (by kernel_rfl) K s
theorem i0t_eq (K : List Item) (s : St) : den prog ann 42 (.code i0t :: K) s = den prog ann 42 (K) s := den_flat hf (l := []) (by kernel_rfl) K s
theorem i0e_eq (K : List Item) (s : St) : den prog ann 42 (.code i0e :: K) s = den prog ann 42 (.code (.exit 0) :: K) s := den_flat hf (l := [(.exit 0)]) (by kernel_rfl) K s
theorem k1_eq (K : List Item) (s : St) : den prog ann 42 (.code k1 :: K) s = den prog ann 42 (.code r5 :: .code i1 :: .inBlock 1 :: K) s := den_blk hf (b := blkOf k1) (l := [r5, i1]) (by kernel_rfl) (by kernel_rfl) K s
theorem r5_eq (K : List Item) (s : St) : den prog ann 42 (.code r5 :: K) s = mreg prog ann 42 none [] none [] [
    ⟨some 13, none, .v fun s => loadF true 2 (s.get 1)⟩,
    ⟨some 14, none, .v fun s => some (s.get 4)⟩,
    ⟨some 15, none, .v fun s => some (s.get 4)⟩,
    ⟨some 16, none, .c 0 (fun s => (.fn 74 [] [])) fun s => [(s.get 13), (s.get 14), (s.get 15)]⟩,
    ⟨some 17, none, .v fun s => some (s.get 4)⟩,
    ⟨some 18, none, .v fun s => binA prog .eql 3 (s.get 16) (s.get 17)⟩] K s := (den_reg hf _ K s).trans (by kernel_rfl)
theorem i1_eq (K : List Item) (s : St) : den prog ann 42 (.code i1 :: K) s = ifV prog ann 42 18 i1t i1e K s (s.get 18) := den_if hf (by kernel_rfl) K s
theorem i1t_eq (K : List Item) (s : St) : den prog ann 42 (.code i1t :: K) s = den prog ann 42 (.code r6 :: K) s := den_flat hf (l := [r6]) (by kernel_rfl) K s
theorem r6_eq (K : List Item) (s : St) : den prog ann 42 (.code r6 :: K) s = mreg prog ann 42 none [] none [] [
    ⟨some 19, none, .v fun s => some (s.get 3)⟩,
    ⟨some 20, none, .v fun s => fieldA 1 (s.get 1)⟩,
    ⟨some 21, none, .v fun s => loadF false 1 (s.get 20)⟩,
    ⟨some 22, none, .v fun s => some (s.get 4)⟩,
    ⟨some 23, none, .v fun s => idxSl 1 (s.get 21) (s.get 22)⟩,
    ⟨some 24, none, .v fun s => loadF false 1 (s.get 23)⟩,
    ⟨some 25, none, .v fun s => bslF 1 (bslA 1 1 [.str []] [(0, (s.get 24))])⟩,
    ⟨some 26, none, .w false none fun s => appendA 1 16 s.m (s.get 19) (s.get 25)⟩,
    ⟨some 3, none, .v fun s => some (s.get 26)⟩] K s := (den_reg hf _ K s).trans (by kernel_rfl)
theorem i1e_eq (K : List Item) (s : St) : den prog ann 42 (.code i1e :: K) s = den prog ann 42 (K) s := den_flat hf (l := []) (by kernel_rfl) K s
theorem r4_eq (K : List Item) (s : St) : den prog ann 42 (.code r4 :: K) s = mreg prog ann 42 (some [1, 3, 4]) [] none [] [
    ⟨some 11, none, .v fun s => some (s.get 4)⟩,
    ⟨some 12, none, .v fun s => binA prog .add 3 (s.get 11) (.int .i64 1)⟩,
    ⟨some 4, none, .v fun s => some (s.get 12)⟩] K s := (den_reg hf _ K s).trans (by kernel_rfl)
theorem r7_eq (K : List Item) (s : St) : den prog ann 42 (.code r7 :: K) s = mreg prog ann 42 (some [3]) [] none [] [
    ⟨some 27, none, .v fun s => some (s.get 3)⟩,
    ⟨some 2, none, .v fun s => some (s.get 27)⟩] K s := (den_reg hf _ K s).trans (by kernel_rfl)
theorem ret_eq (K : List Item) (s : St) : den prog ann 42 (.code .ret :: K) s = finM true [fun s => some (s.get 2)] s := (den_ret hf K s).trans (by kernel_rfl)
theorem nil_eq (s : St) : den prog ann 42 [] s = finM true [fun s => some (s.get 2)] s := (den_nil hf s).trans (by kernel_rfl)
theorem inBlock_eq (id : Nat) (K : List Item) (s : St) : den prog ann 42 (.inBlock id :: K) s = den prog ann 42 K s := den_inBlock hf id K s
theorem exit_eq (id : Nat) (K : List Item) (s : St) : den prog ann 42 (.code (.exit id) :: K) s = exitV prog ann 42 (exitTo id K) s := den_exitV hf id K s
theorem call_eq (v0 : AV) (m : Mem) (h : closedL [v0] = true) : denC prog ann 42 [v0] m = (den prog ann 42 [.code b] ⟨[(0, v0)], 28, Mem.empty⟩).bind fun r => some (r.1, m) := (denC_pure hf (b := b) (by kernel_rfl) (by kernel_rfl) (by kernel_rfl) h m).trans (by kernel_rfl)
theorem pure_eq : (ann 42).pure = true := by kernel_rfl
attribute [simp] b_eq r0_eq r1_eq r2_eq k0_eq l0_eq r3_eq i0_eq i0t_eq i0e_eq k1_eq r5_eq i1_eq i1t_eq r6_eq i1e_eq r4_eq r7_eq ret_eq nil_eq inBlock_eq exit_eq pure_eq
end r07_Monoid_Idempotents

namespace r07_Monoid_Element
/-- (pommel/pommelref07.Monoid).Element -/
noncomputable def b : Code := (Try.f43.body).getD .skip
theorem hf : prog.funcs[43]? = some Try.f43 := by kernel_rfl
noncomputable def r0 : Code := findReg b 0
noncomputable def r1 : Code := findReg b 1
noncomputable def r2 : Code := findReg b 2
noncomputable def k0 : Code := findBlk b 0
noncomputable def l0 : Code := loopOf k0
noncomputable def L0 (x2 x3 x4 x7 x8 : AV) (m : Mem) (K : List Item) : Option Res := den prog ann 43 (.code l0 :: .inLoop l0 :: .inBlock 0 :: K) ⟨[(2, x2), (3, x3), (4, x4), (7, x7), (8, x8)], 29, m⟩
noncomputable def r3 : Code := findReg b 3
noncomputable def i0 : Code := findCond b 0
noncomputable def i0t : Code := thenOf i0
noncomputable def i0e : Code := elseOf i0
noncomputable def k1 : Code := findBlk b 1
noncomputable def r5 : Code := findReg b 5
noncomputable def r4 : Code := findReg b 4
noncomputable def r6 : Code := findReg b 6
theorem b_eq (K : List Item) (s : St) : den prog ann 43 (.code b :: K) s = den prog ann 43 (.code r0 :: .code r1 :: .code r2 :: .code k0 :: .code r6 :: .code .ret :: K) s := den_flat hf (l := [r0, r1, r2, k0, r6, .ret]) (by kernel_rfl) K s
theorem r0_eq (K : List Item) (s : St) : den prog ann 43 (.code r0 :: K) s = mreg prog ann 43 none [] none [] [
    ⟨some 3, none, .v fun s => frozenPtr (s.get 0)⟩,
    ⟨some 4, none, .v fun s => frozenPtr (s.get 1)⟩,
    ⟨some 6, none, .v fun s => some (.int .i64 0)⟩] K s := (den_reg hf _ K s).trans (by kernel_rfl)
theorem r1_eq (K : List Item) (s : St) : den prog ann 43 (.code r1 :: K) s = mreg prog ann 43 none [] none [] [
    ⟨some 9, none, .w false none fun s => bslM s.m 0 (bslA 1 0 [.int .u8 0] [])⟩,
    ⟨some 7, none, .v fun s => some (s.get 9)⟩] K s := (den_reg hf _ K s).trans (by kernel_rfl)
theorem r2_eq (K : List Item) (s : St) : den prog ann 43 (.code r2 :: K) s = mreg prog ann 43 none [] none [] [
    ⟨some 8, none, .v fun s => some (.int .i64 0)⟩] K s := (den_reg hf _ K s).trans (by kernel_rfl)
theorem k0_eq (K : List Item) (t : List (Nat × AV)) (m : Mem) : den prog ann 43 (.code k0 :: K) ⟨t, 29, m⟩ = L0 (get t 2) (get t 3) (get t 4) (get t 7) (get t 8) m K := den_loop_enter hf (b := l0) (id := 3) (l := [2, 3, 4, 7, 8]) (by kernel_rfl) (by kernel_rfl) (by kernel_rfl) K _
theorem l0_eq (K : List Item) (t : List (Nat × AV)) (m : Mem) : den prog ann 43 (.inLoop l0 :: .inBlock 0 :: K) ⟨t, 29, m⟩ = L0 (get t 2) (get t 3) (get t 4) (get t 7) (get t 8) m K := den_loop_again hf (id := 3) (l := [2, 3, 4, 7, 8]) (by kernel_rfl) (by kernel_rfl) (.inBlock 0 :: K) _
theorem L0_eq (x2 x3 x4 x7 x8 : AV) (m : Mem) (K : List Item) : L0 x2 x3 x4 x7 x8 m K = den prog ann 43 (.code r3 :: .code i0 :: .code k1 :: .code r4 :: .inLoop l0 :: .inBlock 0 :: K) ⟨[(2, x2), (3, x3), (4, x4), (7, x7), (8, x8)], 29, m⟩ := den_flat hf (l := [r3, i0, k1, r4]) (by kernel_rfl) _ _
theorem r3_eq (K : List Item) (s : St) : den prog ann 43 (.code r3 :: K) s = mreg prog ann 43 (some [2, 3, 4, 7, 8]) [] none [] [
    ⟨some 10, none, .v fun s => some (s.get 8)⟩,
    ⟨some 11, none, .v fun s => fieldA 0 (s.get 4)⟩,
    ⟨some 12, none, .v fun s => loadF false 1 (s.get 11)⟩,
    ⟨some 13, none, .v fun s => lenSl (s.get 12)⟩,
    ⟨some 14, none, .v fun s => binA prog .lss 3 (s.get 10) (s.get 13)⟩] K s := (den_reg hf _ K s).trans (by kernel_rfl)
theorem i0_eq (K : List Item) (s : St) : den prog ann 43 (.code i0 :: K) s = ifV prog ann 43 14 i0t i0e K s (s.get 14) := den_if hf (by kernel_rfl) K s
theorem i0t_eq (K : List Item) (s : St) : den prog ann 43 (.code i0t :: K) s = den prog ann 43 (K) s := den_flat hf (l := []) (by kernel_rfl) K s
theorem i0e_eq (K : List Item) (s : St) : den prog ann 43 (.code i0e :: K) s = den prog ann 43 (.code (.exit 0) :: K) s := den_flat hf (l := [(.exit 0)]) (by kernel_rfl) K s
theorem k1_eq (K : List Item) (s : St) : den prog ann 43 (.code k1 :: K) s = den prog ann 43 (.code r5 :: .inBlock 1 :: K) s := den_blk hf (b := blkOf k1) (l := [r5]) (by kernel_rfl) (by kernel_rfl) K s
theorem r5_eq (K : List Item) (s : St) : den prog ann 43 (.code r5 :: K) s = mreg prog ann 43 none [] none [] [
    ⟨some 17, none, .v fun s => some (s.get 7)⟩,
    ⟨some 18, none, .v fun s => loadF true 2 (s.get 4)⟩,
    ⟨some 19, none, .v fun s => some (s.get 8)⟩,
    ⟨some 20, none, .v fun s => some (s.get 2)⟩,
    ⟨some 21, none, .c 0 (fun s => (.fn 25 [] [])) fun s => [(s.get 18), (s.get 19), (s.get 20)]⟩,
    ⟨some 22, none, .v fun s => convInt .u8 (s.get 21)⟩,
    ⟨some 23, none, .v fun s => bslF 1 (bslA 1 1 [.int .u8 0] [(0, (s.get 22))])⟩,
    ⟨some 24, none, .w false none fun s => appendA 1 1 s.m (s.get 17) (s.get 23)⟩,
    ⟨some 7, none, .v fun s => some (s.get 24)⟩] K s := (den_reg hf _ K s).trans (by kernel_rfl)
theorem r4_eq (K : List Item) (s : St) : den prog ann 43 (.code r4 :: K) s = mreg prog ann 43 (some [2, 3, 4, 7, 8]) [] none [] [
    ⟨some 15, none, .v fun s => some (s.get 8)⟩,
    ⟨some 16, none, .v fun s => binA prog .add 3 (s.get 15) (.int .i64 1)⟩,
    ⟨some 8, none, .v fun s => some (s.get 16)⟩] K s := (den_reg hf _ K s).trans (by kernel_rfl)
theorem r6_eq (K : List Item) (s : St) : den prog ann 43 (.code r6 :: K) s = mreg prog ann 43 (some [3, 7]) [] none [] [
    ⟨some 25, none, .v fun s => loadF true 2 (s.get 3)⟩,
    ⟨some 26, none, .v fun s => some (s.get 7)⟩,
    ⟨some 27, none, .v fun s => convStr s.m (s.get 26)⟩,
    ⟨some 28, none, .c 0 (fun s => (.fn 73 [] [])) fun s => [(s.get 25), (s.get 27)]⟩,
    ⟨some 6, none, .v fun s => some (s.get 28)⟩] K s := (den_reg hf _ K s).trans (by kernel_rfl)
theorem ret_eq (K : List Item) (s : St) : den prog ann 43 (.code .ret :: K) s = finM true [fun s => some (s.get 6)] s := (den_ret hf K s).trans (by kernel_rfl)
theorem nil_eq (s : St) : den prog ann 43 [] s = finM true [fun s => some (s.get 6)] s := (den_nil hf s).trans (by kernel_rfl)
theorem inBlock_eq (id : Nat) (K : List Item) (s : St) : den prog ann 43 (.inBlock id :: K) s = den prog ann 43 K s := den_inBlock hf id K s
theorem exit_eq (id : Nat) (K : List Item) (s : St) : den prog ann 43 (.code (.exit id) :: K) s = exitV prog ann 43 (exitTo id K) s := den_exitV hf id K s
theorem call_eq (v0 v1 v2 : AV) (m : Mem) (h : closedL [v0, v1, v2] = true) : denC prog ann 43 [v0, v1, v2] m = (den prog ann 43 [.code b] ⟨[(0, v0), (1, v1), (2, v2)], 29, Mem.empty⟩).bind fun r => some (r.1, m) := (denC_pure hf (b := b) (by kernel_rfl) (by kernel_rfl) (by kernel_rfl) h m).trans (by kernel_rfl)
theorem pure_eq : (ann 43).pure = true := by kernel_rfl
attribute [simp] b_eq r0_eq r1_eq r2_eq k0_eq l0_eq r3_eq i0_eq i0t_eq i0e_eq k1_eq r5_eq r4_eq r6_eq ret_eq nil_eq inBlock_eq exit_eq pure_eq
end r07_Monoid_Element
end Go.Proofs.Ythnpflkpjimkfaa

/-
  WHAT WORDS DO, AS STRINGS OF STATES: the specification's. Conditions: none.
-/
namespace Go.Proofs.Ythnpflkpjimkfaa
open Go.AM
open Go.Proofs.Try (prog)
set_option linter.all false
set_option maxRecDepth 100000
set_option maxHeartbeats 8000000

def bysV (l : List UInt8) : List AV := l.map fun b => .int .u8 (b.toNat : Nat)
theorem bytesOf_bys : ∀ l : List UInt8, bytesOf (bysV l) = some l
  | [] => rfl
  | a :: l => by
    have ih := bytesOf_bys l
    simp only [bysV] at ih
    simp [bysV, bytesOf, ih]
@[simp] theorem bysV_len (l : List UInt8) : (bysV l).length = l.length := by simp [bysV]
theorem bysV_app (l : List UInt8) (x : UInt8) : bysV l ++ [.int .u8 (x.toNat : Nat)] = bysV (l ++ [x]) := by simp [bysV]
def doF (f : Nat → Nat) (c : Nat) : List UInt8 := (List.range c).map fun s => UInt8.ofNat (f s)
def doS (rows : List (List Int)) (w : List UInt8) : List UInt8 := doF (fun s => goL rows w s) rows.length
def encD (n : Nat) (t : List Nat) : List UInt8 := doF (fun s => t.getD s 0) n
@[simp] theorem doF_len (f : Nat → Nat) (c : Nat) : (doF f c).length = c := by simp [doF]
theorem doF_succ (f : Nat → Nat) (c : Nat) : doF f (c + 1) = doF f c ++ [UInt8.ofNat (f c)] := by simp [doF, List.range_succ]
theorem ofNat6 {x : Nat} (h : x < 256) : (UInt8.ofNat x).toNat = x := by simp; omega
theorem doF_cell {f : Nat → Nat} {c : Nat} (h : f c < 256) : bysV (doF f c) ++ [.int .u8 ((f c : Nat) : Int)] = bysV (doF f (c + 1)) := by
  rw [doF_succ, ← bysV_app, ofNat6 h]
theorem wrap8n {x : Nat} (h : x < 256) : IntKind.wrap .u8 (x : Int) = x := wrap8 (by omega)
theorem encD_mv6 {rows : List (List Int)} (n6 : rows.length ≤ 6) (w : List UInt8) : encD rows.length (mv6 rows w) = doS rows w := by
  rw [encD, doS, doF, doF]
  refine List.map_congr_left fun s hs => ?_
  have : s < rows.length := by simpa using hs
  rw [mv6, mvF_at (by omega) this]
theorem goL_lt6 {rows : List (List Int)} {good : List Bool} {k : Nat} (v : VB rows good k) {w : List UInt8} (hw : okW k w) {s : Nat} (hs : s < rows.length) : goL rows w s < rows.length := by
  have := goL_lt v w w.length 0 s (by omega) hs ((letF_iff k w).2 hw)
  rw [goF_goL rows w w.length 0 s (by omega)] at this
  simpa using this
theorem doF_at {f : Nat → Nat} {c s : Nat} (h : s < c) : (doF f c)[s]? = some (UInt8.ofNat (f s)) := by simp [doF, h]
/-- Different moves have different strings. -/
theorem doS_inj {rows : List (List Int)} {good : List Bool} {k : Nat} (v : VB rows good k) {u w : List UInt8} (hu : okW k u) (hw : okW k w) (h : doS rows u = doS rows w) : mv6 rows u = mv6 rows w := by
  have n6 := v.n6
  rw [mv6, mv6, mvF, mvF]
  refine List.map_congr_left fun s hs => ?_
  by_cases q : s < rows.length
  · rw [if_pos q, if_pos q]
    have e1 : (doS rows u)[s]? = some (UInt8.ofNat (goL rows u s)) := doF_at q
    have e2 : (doS rows w)[s]? = some (UInt8.ofNat (goL rows w s)) := doF_at q
    rw [h, e2] at e1
    have e := congrArg UInt8.toNat (Option.some.inj e1)
    have a1 := goL_lt6 v hu q
    have a2 := goL_lt6 v hw q
    rw [ofNat6 (by omega), ofNat6 (by omega)] at e
    exact e.symm
  · rw [if_neg q, if_neg q]
theorem nothing_loop {n : Nat} (n6 : n ≤ 6) : ∀ (c s nx0 : Nat) (h : Nat → Option AObj), s + c = n → h 0 = some (.cells (bysV (doF (fun s => s) s))) →
    r07_nothing.L0 (.int .i64 n) (.sl 0 1 0 s s) (.int .i64 s) ⟨h, nx0⟩ [.code r07_nothing.r6, .code .ret] = some (.str (doF (fun s => s) n), Mem.empty) := by
  intro c
  induction c with
  | zero =>
    intro s nx0 h h1 h0
    have e : s = n := by omega
    subst e
    have tk : (bysV (doF (fun s => s) s)).take s = bysV (doF (fun s => s) s) := List.take_of_length_le (by simp)
    rw [r07_nothing.L0_eq]
    simp [convStr, srcA, h0, tk, bytesOf_bys]
    done
  | succ c ih =>
    intro s nx0 h h1 h0
    have hs : s < n := by omega
    have hws : IntKind.wrap .i64 ((s : Int) + 1) = (s : Int) + 1 := wrap_id (by omega) (by omega)
    have hw8 := wrap8n (x := s) (by omega)
    have hc := doF_cell (f := fun s => s) (c := s) (by omega)
    have st := ih (s + 1) nx0 (upd h 0 (some (.cells (bysV (doF (fun s => s) (s + 1)))))) (by omega) (by simp)
    simp only [Int.natCast_add, Int.cast_ofNat_Int] at st
    rw [r07_nothing.L0_eq]
    simp [hs, hw8, h0, hc, hws, show s ≤ 4611686018427387903 by omega, show s + 1 ≤ 70368744177664 by omega, st]
    done
theorem nothing_spec {n : Nat} (n6 : n ≤ 6) (m : Mem) : denC prog ann 72 [.int .i64 (n : Int)] m = some (.str (doF (fun s => s) n), m) := by
  rw [r07_nothing.call_eq _ _ (by simp)]
  have lp := nothing_loop n6 n 0 1 (upd Mem.empty.h 0 (some (.cells []))) (by omega) (by simp [doF, bysV])
  simp only [Int.ofNat_zero, Int.cast_ofNat_Int] at lp
  simp [lp]
  done
/-- Where a string stands. -/
def fndI (L : List (List UInt8)) (s : List UInt8) : Int := if s ∈ L then ((L.idxOf s : Nat) : Int) else -1
theorem find_loop {ex : Bool} {wv : AV} {L : List (List UInt8)} {s : List UInt8} (hl : L.length ≤ 1000) : ∀ (c j : Nat) (m : Mem), j + c = L.length → (∀ i, i < j → L[i]? ≠ some s) →
    r07_Monoid_Find.L0 (.str s) (.fptr [.fsl ex L.length (L.map .str), wv]) (.int .i64 j) m [.code r07_Monoid_Find.r6, .code .ret] = some (.int .i64 (fndI L s), Mem.empty) := by
  intro c
  induction c with
  | zero =>
    intro j m h1 h0
    have e : j = L.length := by omega
    subst e
    have : s ∉ L := by
      intro hs
      obtain ⟨i, hi⟩ := List.getElem?_of_mem hs
      exact h0 i (List.getElem?_eq_some_iff.1 hi).1 hi
    rw [fndI, if_neg this, r07_Monoid_Find.L0_eq]
    simp
    done
  | succ c ih =>
    intro j m h1 h0
    have hj : j < L.length := by omega
    have hwj : IntKind.wrap .i64 ((j : Int) + 1) = (j : Int) + 1 := wrap_id (by omega) (by omega)
    have hx := List.getElem?_eq_getElem hj
    generalize L[j] = x at hx
    have hd : ((L.map AV.str).drop j).head? = some (.str x) := by rw [List.head?_drop, List.getElem?_map, hx]; rfl
    by_cases q : x = s
    · subst q
      have hm := List.mem_of_getElem? hx
      have hi : L.idxOf x = j := by
        have h2 : L.idxOf x < L.length := List.idxOf_lt_length_iff.2 hm
        have h3 : L[L.idxOf x]? = some x := by rw [List.getElem?_eq_getElem h2]; simp
        rcases Nat.lt_trichotomy (L.idxOf x) j with c | c | c
        · exact absurd h3 (h0 _ c)
        · exact c
        · exfalso
          have e := (List.getElem?_eq_some_iff.1 hx).2
          have := List.not_of_lt_findIdx (xs := L) (p := (· == x)) (i := j) (by simpa [List.idxOf] using c)
          simp [e] at this
      rw [fndI, if_pos hm, hi, r07_Monoid_Find.L0_eq]
      simp [hj, hd, -List.head?_drop, -List.map_drop]
      done
    · have st := fun m => ih (j + 1) m (by omega) (fun i hi => by
        by_cases e : i = j
        · subst e; rw [hx]; intro e; exact q (Option.some.inj e)
        · exact h0 i (by omega))
      simp only [Int.natCast_add, Int.cast_ofNat_Int] at st
      rw [r07_Monoid_Find.L0_eq]
      simp [hj, hd, q, hwj, st, -List.head?_drop, -List.map_drop]
      done
theorem find_spec' {ex : Bool} {wv : AV} (hw1 : wv.one = true) (hwc : wv.closed = true) {L : List (List UInt8)} {s : List UInt8} (hl : L.length ≤ 1000) (m : Mem) :
    denC prog ann 73 [.agg [.fsl ex L.length (L.map .str), wv], .str s] m = some (.int .i64 (fndI L s), m) := by
  have lp := fun m => find_loop (ex := ex) (wv := wv) (s := s) hl L.length 0 m (by omega) (by omega)
  simp only [Int.ofNat_zero, Int.cast_ofNat_Int] at lp
  rw [r07_Monoid_Find.call_eq _ _ _ (by simp [hwc])]
  simp [hwc, hw1, lp]
  done
end Go.Proofs.Ythnpflkpjimkfaa
