/-
  BODIES OF FUNCTIONS OF THE PROGRAM AS SMALL OPERATIONS (written by gen.py; checked by the kernel against the program). Conditions: none.
-/
import Derived.Test.YtdkmepjedjclkaaKAmH
import Derived.Test.YtdkmepjedjclkaaK06
import Derived.Test.YtdkmepjedjclkaaK05
set_option linter.all false
namespace Go.Proofs.Ytdkmepjedjclkaa
open Go.AM
open Go.Proofs.Try (prog)
set_option maxRecDepth 100000
set_option linter.all false

namespace l09_course
/-- pommel/pommellaw09.course -/
noncomputable def b : Code := (Try.f48.body).getD .skip
theorem hf : prog.funcs[48]? = some Try.f48 := by kernel_rfl
noncomputable def r0 : Code := findReg b 0
noncomputable def r1 : Code := findReg b 1
noncomputable def k0 : Code := findBlk b 0
noncomputable def l0 : Code := loopOf k0
noncomputable def L0 (x1 x2 x5 : AV) (m : Mem) (K : List Item) : Option Res := den prog ann 48 (.code l0 :: .inLoop l0 :: .inBlock 0 :: K) ⟨[(1, x1), (2, x2), (5, x5)], 115, m⟩
noncomputable def r2 : Code := findReg b 2
noncomputable def i0 : Code := findCond b 0
noncomputable def i0t : Code := thenOf i0
noncomputable def i0e : Code := elseOf i0
noncomputable def k1 : Code := findBlk b 1
noncomputable def r4 : Code := findReg b 4
noncomputable def i1 : Code := findCond b 1
noncomputable def i1t : Code := thenOf i1
noncomputable def i1e : Code := elseOf i1
noncomputable def r5 : Code := findReg b 5
noncomputable def r6 : Code := findReg b 6
noncomputable def r7 : Code := findReg b 7
noncomputable def k2 : Code := findBlk b 2
noncomputable def l2 : Code := loopOf k2
noncomputable def L2 (x1 x2 x5 x6 x7 : AV) (m : Mem) (K : List Item) : Option Res := den prog ann 48 (.code l2 :: .inLoop l2 :: .inBlock 2 :: K) ⟨[(1, x1), (2, x2), (5, x5), (6, x6), (7, x7)], 115, m⟩
noncomputable def r8 : Code := findReg b 8
noncomputable def i2 : Code := findCond b 2
noncomputable def i2t : Code := thenOf i2
noncomputable def i2e : Code := elseOf i2
noncomputable def k3 : Code := findBlk b 3
noncomputable def k4 : Code := findBlk b 4
noncomputable def r11 : Code := findReg b 11
noncomputable def i3 : Code := findCond b 3
noncomputable def i3t : Code := thenOf i3
noncomputable def i3e : Code := elseOf i3
noncomputable def r12 : Code := findReg b 12
noncomputable def r13 : Code := findReg b 13
noncomputable def i4 : Code := findCond b 4
noncomputable def i4t : Code := thenOf i4
noncomputable def i4e : Code := elseOf i4
noncomputable def r14 : Code := findReg b 14
noncomputable def r10 : Code := findReg b 10
noncomputable def r9 : Code := findReg b 9
noncomputable def r15 : Code := findReg b 15
noncomputable def i5 : Code := findCond b 5
noncomputable def i5t : Code := thenOf i5
noncomputable def i5e : Code := elseOf i5
noncomputable def r16 : Code := findReg b 16
noncomputable def r3 : Code := findReg b 3
noncomputable def r17 : Code := findReg b 17
theorem b_eq (K : List Item) (s : St) : den prog ann 48 (.code b :: K) s = den prog ann 48 (.code r0 :: .code r1 :: .code k0 :: .code r17 :: .code .ret :: K) s := den_flat hf (l := [r0, r1, k0, r17, .ret]) (by kernel_rfl) K s
theorem r0_eq (K : List Item) (s : St) : den prog ann 48 (.code r0 :: K) s = mreg prog ann 48 none [] none [] [
    ⟨some 2, none, .v fun s => frozenPtr (s.get 0)⟩,
    ⟨some 4, none, .v fun s => some (.bool false)⟩] K s := (den_reg hf _ K s).trans (by kernel_rfl)
theorem r1_eq (K : List Item) (s : St) : den prog ann 48 (.code r1 :: K) s = mreg prog ann 48 none [] none [] [
    ⟨some 5, none, .v fun s => some (.int .i64 0)⟩] K s := (den_reg hf _ K s).trans (by kernel_rfl)
theorem k0_eq (K : List Item) (t : List (Nat × AV)) (m : Mem) : den prog ann 48 (.code k0 :: K) ⟨t, 115, m⟩ = L0 (get t 1) (get t 2) (get t 5) m K := den_loop_enter hf (b := l0) (id := 2) (l := [1, 2, 5]) (by kernel_rfl) (by kernel_rfl) (by kernel_rfl) K _
theorem l0_eq (K : List Item) (t : List (Nat × AV)) (m : Mem) : den prog ann 48 (.inLoop l0 :: .inBlock 0 :: K) ⟨t, 115, m⟩ = L0 (get t 1) (get t 2) (get t 5) m K := den_loop_again hf (id := 2) (l := [1, 2, 5]) (by kernel_rfl) (by kernel_rfl) (.inBlock 0 :: K) _
theorem L0_eq (x1 x2 x5 : AV) (m : Mem) (K : List Item) : L0 x1 x2 x5 m K = den prog ann 48 (.code r2 :: .code i0 :: .code k1 :: .code r3 :: .inLoop l0 :: .inBlock 0 :: K) ⟨[(1, x1), (2, x2), (5, x5)], 115, m⟩ := den_flat hf (l := [r2, i0, k1, r3]) (by kernel_rfl) _ _
theorem r2_eq (K : List Item) (s : St) : den prog ann 48 (.code r2 :: K) s = mreg prog ann 48 (some [1, 2, 5]) [] none [] [
    ⟨some 8, none, .v fun s => some (s.get 5)⟩,
    ⟨some 9, none, .v fun s => some (s.get 1)⟩,
    ⟨some 10, none, .v fun s => lenSl (s.get 9)⟩,
    ⟨some 11, none, .v fun s => binA prog .lss 3 (s.get 8) (s.get 10)⟩] K s := (den_reg hf _ K s).trans (by kernel_rfl)
theorem i0_eq (K : List Item) (s : St) : den prog ann 48 (.code i0 :: K) s = ifV prog ann 48 11 i0t i0e K s (s.get 11) := den_if hf (by kernel_rfl) K s
theorem i0t_eq (K : List Item) (s : St) : den prog ann 48 (.code i0t :: K) s = den prog ann 48 (K) s := den_flat hf (l := []) (by kernel_rfl) K s
theorem i0e_eq (K : List Item) (s : St) : den prog ann 48 (.code i0e :: K) s = den prog ann 48 (.code (.exit 0) :: K) s := den_flat hf (l := [(.exit 0)]) (by kernel_rfl) K s
theorem k1_eq (K : List Item) (s : St) : den prog ann 48 (.code k1 :: K) s = den prog ann 48 (.code r4 :: .code i1 :: .code r6 :: .code r7 :: .code k2 :: .code r15 :: .code i5 :: .inBlock 1 :: K) s := den_blk hf (b := blkOf k1) (l := [r4, i1, r6, r7, k2, r15, i5]) (by kernel_rfl) (by kernel_rfl) K s
theorem r4_draw : drawOk (fun g => (ann g).pure) (modeOf (ann 48) (idOf r4)) (frzOf (ann 48) (idOf r4)) (opsOf r4) = true := drawOk_of (an := [0, 0, 0, 6, 14, 31, 63, 127, 255, 255, 255, 1791, 3839, 8191, 16383, 32767]) (by kernel_rfl) (by kernel_rfl)
theorem r4_eq (K : List Item) (s : St) : den prog ann 48 (.code r4 :: K) s = mreg prog ann 48 none [] (some 16) [] [
    ⟨some 14, none, .v fun s => loadF true 2 (s.get 2)⟩,
    ⟨some 15, none, .v fun s => some (s.get 1)⟩,
    ⟨some 16, none, .v fun s => some (s.get 5)⟩,
    ⟨some 17, none, .v fun s => idxSl 1 (s.get 15) (s.get 16)⟩,
    ⟨some 18, none, .v fun s => loadF false 1 (s.get 17)⟩,
    ⟨some 19, none, .c 0 (fun s => (.fn 27 [] [])) fun s => [(s.get 14), (s.get 18)]⟩,
    ⟨some 20, none, .v fun s => unA .not (s.get 19)⟩,
    ⟨some 21, none, .v fun s => some (s.get 20)⟩,
    ⟨some 22, some (21, false), .v fun s => loadF true 2 (s.get 2)⟩,
    ⟨some 23, some (21, false), .v fun s => some (s.get 1)⟩,
    ⟨some 24, some (21, false), .v fun s => some (s.get 5)⟩,
    ⟨some 25, some (21, false), .v fun s => idxSl 1 (s.get 23) (s.get 24)⟩,
    ⟨some 26, some (21, false), .v fun s => loadF false 1 (s.get 25)⟩,
    ⟨some 27, some (21, false), .c 0 (fun s => (.fn 66 [] [])) fun s => [(s.get 22), (s.get 26)]⟩,
    ⟨some 28, some (21, false), .v fun s => unA .not (s.get 27)⟩,
    ⟨some 29, none, .v fun s => pickA (s.get 21) (.bool true) (s.get 28)⟩] K s := (den_regD hf r4_draw K s).trans (by kernel_rfl)
theorem i1_eq (K : List Item) (s : St) : den prog ann 48 (.code i1 :: K) s = ifV prog ann 48 29 i1t i1e K s (s.get 29) := den_if hf (by kernel_rfl) K s
theorem i1t_eq (K : List Item) (s : St) : den prog ann 48 (.code i1t :: K) s = den prog ann 48 (.code r5 :: .code .ret :: K) s := den_flat hf (l := [r5, .ret]) (by kernel_rfl) K s
theorem r5_eq (K : List Item) (s : St) : den prog ann 48 (.code r5 :: K) s = mreg prog ann 48 none [] none [] [
    ⟨some 4, none, .v fun s => some (.bool false)⟩] K s := (den_reg hf _ K s).trans (by kernel_rfl)
theorem i1e_eq (K : List Item) (s : St) : den prog ann 48 (.code i1e :: K) s = den prog ann 48 (K) s := den_flat hf (l := []) (by kernel_rfl) K s
theorem r6_eq (K : List Item) (s : St) : den prog ann 48 (.code r6 :: K) s = mreg prog ann 48 none [] none [] [
    ⟨some 6, none, .v fun s => some (.int .i64 0)⟩] K s := (den_reg hf _ K s).trans (by kernel_rfl)
theorem r7_eq (K : List Item) (s : St) : den prog ann 48 (.code r7 :: K) s = mreg prog ann 48 none [] none [] [
    ⟨some 7, none, .v fun s => some (.int .i64 0)⟩] K s := (den_reg hf _ K s).trans (by kernel_rfl)
theorem k2_eq (K : List Item) (t : List (Nat × AV)) (m : Mem) : den prog ann 48 (.code k2 :: K) ⟨t, 115, m⟩ = L2 (get t 1) (get t 2) (get t 5) (get t 6) (get t 7) m K := den_loop_enter hf (b := l2) (id := 8) (l := [1, 2, 5, 6, 7]) (by kernel_rfl) (by kernel_rfl) (by kernel_rfl) K _
theorem l2_eq (K : List Item) (t : List (Nat × AV)) (m : Mem) : den prog ann 48 (.inLoop l2 :: .inBlock 2 :: K) ⟨t, 115, m⟩ = L2 (get t 1) (get t 2) (get t 5) (get t 6) (get t 7) m K := den_loop_again hf (id := 8) (l := [1, 2, 5, 6, 7]) (by kernel_rfl) (by kernel_rfl) (.inBlock 2 :: K) _
theorem L2_eq (x1 x2 x5 x6 x7 : AV) (m : Mem) (K : List Item) : L2 x1 x2 x5 x6 x7 m K = den prog ann 48 (.code r8 :: .code i2 :: .code k3 :: .code r9 :: .inLoop l2 :: .inBlock 2 :: K) ⟨[(1, x1), (2, x2), (5, x5), (6, x6), (7, x7)], 115, m⟩ := den_flat hf (l := [r8, i2, k3, r9]) (by kernel_rfl) _ _
theorem r8_eq (K : List Item) (s : St) : den prog ann 48 (.code r8 :: K) s = mreg prog ann 48 (some [1, 2, 5, 6, 7]) [] none [] [
    ⟨some 30, none, .v fun s => some (s.get 7)⟩,
    ⟨some 31, none, .v fun s => some (s.get 1)⟩,
    ⟨some 32, none, .v fun s => some (s.get 5)⟩,
    ⟨some 33, none, .v fun s => idxSl 1 (s.get 31) (s.get 32)⟩,
    ⟨some 34, none, .v fun s => loadF false 1 (s.get 33)⟩,
    ⟨some 35, none, .v fun s => lenSl (s.get 34)⟩,
    ⟨some 36, none, .v fun s => binA prog .lss 3 (s.get 30) (s.get 35)⟩] K s := (den_reg hf _ K s).trans (by kernel_rfl)
theorem i2_eq (K : List Item) (s : St) : den prog ann 48 (.code i2 :: K) s = ifV prog ann 48 36 i2t i2e K s (s.get 36) := den_if hf (by kernel_rfl) K s
theorem i2t_eq (K : List Item) (s : St) : den prog ann 48 (.code i2t :: K) s = den prog ann 48 (K) s := den_flat hf (l := []) (by kernel_rfl) K s
theorem i2e_eq (K : List Item) (s : St) : den prog ann 48 (.code i2e :: K) s = den prog ann 48 (.code (.exit 2) :: K) s := den_flat hf (l := [(.exit 2)]) (by kernel_rfl) K s
theorem k3_eq (K : List Item) (s : St) : den prog ann 48 (.code k3 :: K) s = den prog ann 48 (.code k4 :: .inBlock 3 :: K) s := den_blk hf (b := blkOf k3) (l := [k4]) (by kernel_rfl) (by kernel_rfl) K s
theorem k4_eq (K : List Item) (s : St) : den prog ann 48 (.code k4 :: K) s = den prog ann 48 (.code r11 :: .code i3 :: .inBlock 4 :: K) s := den_blk hf (b := blkOf k4) (l := [r11, i3]) (by kernel_rfl) (by kernel_rfl) K s
theorem r11_eq (K : List Item) (s : St) : den prog ann 48 (.code r11 :: K) s = mreg prog ann 48 none [] none [] [
    ⟨some 58, none, .v fun s => some (s.get 5)⟩,
    ⟨some 59, none, .v fun s => binA prog .eql 3 (s.get 58) (.int .i64 0)⟩,
    ⟨some 57, none, .v fun s => some (s.get 59)⟩] K s := (den_reg hf _ K s).trans (by kernel_rfl)
theorem i3_eq (K : List Item) (s : St) : den prog ann 48 (.code i3 :: K) s = ifV prog ann 48 57 i3t i3e K s (s.get 57) := den_if hf (by kernel_rfl) K s
theorem i3t_eq (K : List Item) (s : St) : den prog ann 48 (.code i3t :: K) s = den prog ann 48 (.code r12 :: K) s := den_flat hf (l := [r12]) (by kernel_rfl) K s
theorem r12_eq (K : List Item) (s : St) : den prog ann 48 (.code r12 :: K) s = mreg prog ann 48 none [] none [] [
    ⟨some 60, none, .v fun s => some (s.get 6)⟩,
    ⟨some 61, none, .v fun s => some (s.get 1)⟩,
    ⟨some 62, none, .v fun s => some (s.get 5)⟩,
    ⟨some 63, none, .v fun s => idxSl 1 (s.get 61) (s.get 62)⟩,
    ⟨some 64, none, .v fun s => loadF false 1 (s.get 63)⟩,
    ⟨some 65, none, .v fun s => some (s.get 7)⟩,
    ⟨some 66, none, .v fun s => idxSl 1 (s.get 64) (s.get 65)⟩,
    ⟨some 67, none, .v fun s => loadF false 1 (s.get 66)⟩,
    ⟨some 68, none, .v fun s => binA prog .mul 3 (.int .i64 2) (s.get 67)⟩,
    ⟨some 69, none, .v fun s => binA prog .add 3 (s.get 60) (s.get 68)⟩,
    ⟨some 6, none, .v fun s => some (s.get 69)⟩] K s := (den_reg hf _ K s).trans (by kernel_rfl)
theorem i3e_eq (K : List Item) (s : St) : den prog ann 48 (.code i3e :: K) s = den prog ann 48 (.code r13 :: .code i4 :: K) s := den_flat hf (l := [r13, i4]) (by kernel_rfl) K s
theorem r13_draw : drawOk (fun g => (ann g).pure) (modeOf (ann 48) (idOf r13)) (frzOf (ann 48) (idOf r13)) (opsOf r13) = true := drawOk_of (an := [0, 0, 3, 7, 0, 31, 63, 0, 0, 256, 896, 1920, 0, 8064, 16256, 32767, 65535]) (by kernel_rfl) (by kernel_rfl)
theorem r13_eq (K : List Item) (s : St) : den prog ann 48 (.code r13 :: K) s = mreg prog ann 48 none [] (some 17) [] [
    ⟨some 71, none, .v fun s => some (s.get 1)⟩,
    ⟨some 72, none, .v fun s => some (s.get 5)⟩,
    ⟨some 73, none, .v fun s => idxSl 1 (s.get 71) (s.get 72)⟩,
    ⟨some 74, none, .v fun s => loadF false 1 (s.get 73)⟩,
    ⟨some 75, none, .v fun s => some (s.get 7)⟩,
    ⟨some 76, none, .v fun s => idxSl 1 (s.get 74) (s.get 75)⟩,
    ⟨some 77, none, .v fun s => loadF false 1 (s.get 76)⟩,
    ⟨some 78, none, .v fun s => some (s.get 1)⟩,
    ⟨some 79, none, .v fun s => some (s.get 5)⟩,
    ⟨some 80, none, .v fun s => binA prog .sub 3 (s.get 79) (.int .i64 1)⟩,
    ⟨some 81, none, .v fun s => idxSl 1 (s.get 78) (s.get 80)⟩,
    ⟨some 82, none, .v fun s => loadF false 1 (s.get 81)⟩,
    ⟨some 83, none, .v fun s => some (s.get 7)⟩,
    ⟨some 84, none, .v fun s => idxSl 1 (s.get 82) (s.get 83)⟩,
    ⟨some 85, none, .v fun s => loadF false 1 (s.get 84)⟩,
    ⟨some 86, none, .v fun s => binA prog .lss 3 (s.get 77) (s.get 85)⟩,
    ⟨some 70, none, .v fun s => some (s.get 86)⟩] K s := (den_regD hf r13_draw K s).trans (by kernel_rfl)
theorem i4_eq (K : List Item) (s : St) : den prog ann 48 (.code i4 :: K) s = ifV prog ann 48 70 i4t i4e K s (s.get 70) := den_if hf (by kernel_rfl) K s
theorem i4t_eq (K : List Item) (s : St) : den prog ann 48 (.code i4t :: K) s = den prog ann 48 (.code r14 :: .code .ret :: K) s := den_flat hf (l := [r14, .ret]) (by kernel_rfl) K s
theorem r14_eq (K : List Item) (s : St) : den prog ann 48 (.code r14 :: K) s = mreg prog ann 48 none [] none [] [
    ⟨some 4, none, .v fun s => some (.bool false)⟩] K s := (den_reg hf _ K s).trans (by kernel_rfl)
theorem i4e_eq (K : List Item) (s : St) : den prog ann 48 (.code i4e :: K) s = den prog ann 48 (.code r10 :: K) s := den_flat hf (l := [r10]) (by kernel_rfl) K s
theorem r10_draw : drawOk (fun g => (ann g).pure) (modeOf (ann 48) (idOf r10)) (frzOf (ann 48) (idOf r10)) (opsOf r10) = true := drawOk_of (an := [0, 0, 0, 6, 14, 0, 62, 126, 0, 0, 512, 1792, 3840, 0, 16128, 32512, 65534, 131071, 262143]) (by kernel_rfl) (by kernel_rfl)
theorem r10_eq (K : List Item) (s : St) : den prog ann 48 (.code r10 :: K) s = mreg prog ann 48 none [] (some 19) [] [
    ⟨some 39, none, .v fun s => some (s.get 6)⟩,
    ⟨some 40, none, .v fun s => some (s.get 1)⟩,
    ⟨some 41, none, .v fun s => some (s.get 5)⟩,
    ⟨some 42, none, .v fun s => idxSl 1 (s.get 40) (s.get 41)⟩,
    ⟨some 43, none, .v fun s => loadF false 1 (s.get 42)⟩,
    ⟨some 44, none, .v fun s => some (s.get 7)⟩,
    ⟨some 45, none, .v fun s => idxSl 1 (s.get 43) (s.get 44)⟩,
    ⟨some 46, none, .v fun s => loadF false 1 (s.get 45)⟩,
    ⟨some 47, none, .v fun s => some (s.get 1)⟩,
    ⟨some 48, none, .v fun s => some (s.get 5)⟩,
    ⟨some 49, none, .v fun s => binA prog .sub 3 (s.get 48) (.int .i64 1)⟩,
    ⟨some 50, none, .v fun s => idxSl 1 (s.get 47) (s.get 49)⟩,
    ⟨some 51, none, .v fun s => loadF false 1 (s.get 50)⟩,
    ⟨some 52, none, .v fun s => some (s.get 7)⟩,
    ⟨some 53, none, .v fun s => idxSl 1 (s.get 51) (s.get 52)⟩,
    ⟨some 54, none, .v fun s => loadF false 1 (s.get 53)⟩,
    ⟨some 55, none, .v fun s => binA prog .sub 3 (s.get 46) (s.get 54)⟩,
    ⟨some 56, none, .v fun s => binA prog .add 3 (s.get 39) (s.get 55)⟩,
    ⟨some 6, none, .v fun s => some (s.get 56)⟩] K s := (den_regD hf r10_draw K s).trans (by kernel_rfl)
theorem r9_eq (K : List Item) (s : St) : den prog ann 48 (.code r9 :: K) s = mreg prog ann 48 (some [1, 2, 5, 6, 7]) [] none [] [
    ⟨some 37, none, .v fun s => some (s.get 7)⟩,
    ⟨some 38, none, .v fun s => binA prog .add 3 (s.get 37) (.int .i64 1)⟩,
    ⟨some 7, none, .v fun s => some (s.get 38)⟩] K s := (den_reg hf _ K s).trans (by kernel_rfl)
theorem r15_eq (K : List Item) (s : St) : den prog ann 48 (.code r15 :: K) s = mreg prog ann 48 (some [1, 2, 5, 6]) [] none [] [
    ⟨some 87, none, .v fun s => some (s.get 5)⟩,
    ⟨some 88, none, .v fun s => binA prog .eql 3 (s.get 87) (.int .i64 0)⟩,
    ⟨some 89, none, .v fun s => some (s.get 88)⟩,
    ⟨some 90, some (89, true), .v fun s => some (s.get 6)⟩,
    ⟨some 91, some (89, true), .v fun s => binA prog .gtr 3 (s.get 90) (.int .i64 0)⟩,
    ⟨some 92, none, .v fun s => pickA (s.get 89) (s.get 91) (.bool false)⟩,
    ⟨some 93, none, .v fun s => some (s.get 92)⟩,
    ⟨some 94, some (93, false), .v fun s => some (s.get 5)⟩,
    ⟨some 95, some (93, false), .v fun s => binA prog .gtr 3 (s.get 94) (.int .i64 0)⟩,
    ⟨some 96, some (93, false), .v fun s => some (s.get 95)⟩,
    ⟨some 97, some (96, true), .v fun s => some (s.get 6)⟩,
    ⟨some 98, some (96, true), .v fun s => binA prog .neq 3 (s.get 97) (.int .i64 1)⟩,
    ⟨some 99, some (93, false), .v fun s => pickA (s.get 96) (s.get 98) (.bool false)⟩,
    ⟨some 100, none, .v fun s => pickA (s.get 93) (.bool true) (s.get 99)⟩] K s := (den_reg hf _ K s).trans (by kernel_rfl)
theorem i5_eq (K : List Item) (s : St) : den prog ann 48 (.code i5 :: K) s = ifV prog ann 48 100 i5t i5e K s (s.get 100) := den_if hf (by kernel_rfl) K s
theorem i5t_eq (K : List Item) (s : St) : den prog ann 48 (.code i5t :: K) s = den prog ann 48 (.code r16 :: .code .ret :: K) s := den_flat hf (l := [r16, .ret]) (by kernel_rfl) K s
theorem r16_eq (K : List Item) (s : St) : den prog ann 48 (.code r16 :: K) s = mreg prog ann 48 none [] none [] [
    ⟨some 4, none, .v fun s => some (.bool false)⟩] K s := (den_reg hf _ K s).trans (by kernel_rfl)
theorem i5e_eq (K : List Item) (s : St) : den prog ann 48 (.code i5e :: K) s = den prog ann 48 (K) s := den_flat hf (l := []) (by kernel_rfl) K s
theorem r3_eq (K : List Item) (s : St) : den prog ann 48 (.code r3 :: K) s = mreg prog ann 48 (some [1, 2, 5]) [] none [] [
    ⟨some 12, none, .v fun s => some (s.get 5)⟩,
    ⟨some 13, none, .v fun s => binA prog .add 3 (s.get 12) (.int .i64 1)⟩,
    ⟨some 5, none, .v fun s => some (s.get 13)⟩] K s := (den_reg hf _ K s).trans (by kernel_rfl)
theorem r17_draw : drawOk (fun g => (ann g).pure) (modeOf (ann 48) (idOf r17)) (frzOf (ann 48) (idOf r17)) (opsOf r17) = true := drawOk_of (an := [0, 1, 3, 7, 15, 15, 47, 111, 255, 511, 15, 1039, 4095, 8191, 16383]) (by kernel_rfl) (by kernel_rfl)
theorem r17_eq (K : List Item) (s : St) : den prog ann 48 (.code r17 :: K) s = mreg prog ann 48 (some [1, 2]) [] (some 15) [] [
    ⟨some 101, none, .v fun s => some (s.get 1)⟩,
    ⟨some 102, none, .v fun s => lenSl (s.get 101)⟩,
    ⟨some 103, none, .v fun s => binA prog .gtr 3 (s.get 102) (.int .i64 0)⟩,
    ⟨some 104, none, .v fun s => some (s.get 103)⟩,
    ⟨some 105, some (104, true), .v fun s => some (s.get 1)⟩,
    ⟨some 106, some (104, true), .v fun s => some (s.get 1)⟩,
    ⟨some 107, some (104, true), .v fun s => lenSl (s.get 106)⟩,
    ⟨some 108, some (104, true), .v fun s => binA prog .sub 3 (s.get 107) (.int .i64 1)⟩,
    ⟨some 109, some (104, true), .v fun s => idxSl 1 (s.get 105) (s.get 108)⟩,
    ⟨some 110, some (104, true), .v fun s => loadF false 1 (s.get 109)⟩,
    ⟨some 111, some (104, true), .v fun s => fieldA 0 (s.get 2)⟩,
    ⟨some 112, some (104, true), .v fun s => loadF false 1 (s.get 111)⟩,
    ⟨some 113, some (104, true), .c 0 (fun s => (.fn 21 [] [])) fun s => [(s.get 110), (s.get 112)]⟩,
    ⟨some 114, none, .v fun s => pickA (s.get 104) (s.get 113) (.bool false)⟩,
    ⟨some 4, none, .v fun s => some (s.get 114)⟩] K s := (den_regD hf r17_draw K s).trans (by kernel_rfl)
theorem ret_eq (K : List Item) (s : St) : den prog ann 48 (.code .ret :: K) s = finM true [fun s => some (s.get 4)] s := (den_ret hf K s).trans (by kernel_rfl)
theorem nil_eq (s : St) : den prog ann 48 [] s = finM true [fun s => some (s.get 4)] s := (den_nil hf s).trans (by kernel_rfl)
theorem inBlock_eq (id : Nat) (K : List Item) (s : St) : den prog ann 48 (.inBlock id :: K) s = den prog ann 48 K s := den_inBlock hf id K s
theorem exit_eq (id : Nat) (K : List Item) (s : St) : den prog ann 48 (.code (.exit id) :: K) s = exitV prog ann 48 (exitTo id K) s := den_exitV hf id K s
theorem call_eq (v0 v1 : AV) (m : Mem) (h : closedL [v0, v1] = true) : denC prog ann 48 [v0, v1] m = (den prog ann 48 [.code b] ⟨[(0, v0), (1, v1)], 115, Mem.empty⟩).bind fun r => some (r.1, m) := (denC_pure hf (b := b) (by kernel_rfl) (by kernel_rfl) (by kernel_rfl) h m).trans (by kernel_rfl)
theorem pure_eq : (ann 48).pure = true := by kernel_rfl
attribute [simp] b_eq r0_eq r1_eq k0_eq l0_eq r2_eq i0_eq i0t_eq i0e_eq k1_eq r4_eq i1_eq i1t_eq r5_eq i1e_eq r6_eq r7_eq k2_eq l2_eq r8_eq i2_eq i2t_eq i2e_eq k3_eq k4_eq r11_eq i3_eq i3t_eq r12_eq i3e_eq r13_eq i4_eq i4t_eq r14_eq i4e_eq r10_eq r9_eq r15_eq i5_eq i5t_eq r16_eq i5e_eq r3_eq r17_eq ret_eq nil_eq inBlock_eq exit_eq pure_eq
end l09_course

namespace l09_WatchModal
/-- pommel/pommellaw09.WatchModal -/
noncomputable def b : Code := (Try.f11.body).getD .skip
theorem hf : prog.funcs[11]? = some Try.f11 := by kernel_rfl
noncomputable def r0 : Code := findReg b 0
noncomputable def r1 : Code := findReg b 1
noncomputable def r2 : Code := findReg b 2
noncomputable def r3 : Code := findReg b 3
noncomputable def k0 : Code := findBlk b 0
noncomputable def l0 : Code := loopOf k0
noncomputable def L0 (x1 x5 x6 x7 : AV) (m : Mem) (K : List Item) : Option Res := den prog ann 11 (.code l0 :: .inLoop l0 :: .inBlock 0 :: K) ⟨[(1, x1), (5, x5), (6, x6), (7, x7)], 158, m⟩
noncomputable def r4 : Code := findReg b 4
noncomputable def i0 : Code := findCond b 0
noncomputable def i0t : Code := thenOf i0
noncomputable def i0e : Code := elseOf i0
noncomputable def k1 : Code := findBlk b 1
noncomputable def r6 : Code := findReg b 6
noncomputable def r5 : Code := findReg b 5
noncomputable def r7 : Code := findReg b 7
noncomputable def r8 : Code := findReg b 8
noncomputable def r9 : Code := findReg b 9
noncomputable def r10 : Code := findReg b 10
noncomputable def i1 : Code := findCond b 1
noncomputable def i1t : Code := thenOf i1
noncomputable def i1e : Code := elseOf i1
noncomputable def r11 : Code := findReg b 11
noncomputable def r12 : Code := findReg b 12
noncomputable def r13 : Code := findReg b 13
noncomputable def k2 : Code := findBlk b 2
noncomputable def l2 : Code := loopOf k2
noncomputable def L2 (x5 x6 x10 x11 x12 x14 x15 : AV) (m : Mem) (K : List Item) : Option Res := den prog ann 11 (.code l2 :: .inLoop l2 :: .inBlock 2 :: K) ⟨[(5, x5), (6, x6), (10, x10), (11, x11), (12, x12), (14, x14), (15, x15)], 158, m⟩
noncomputable def r14 : Code := findReg b 14
noncomputable def i2 : Code := findCond b 2
noncomputable def i2t : Code := thenOf i2
noncomputable def i2e : Code := elseOf i2
noncomputable def k3 : Code := findBlk b 3
noncomputable def r16 : Code := findReg b 16
noncomputable def r17 : Code := findReg b 17
noncomputable def i3 : Code := findCond b 3
noncomputable def i3t : Code := thenOf i3
noncomputable def i3e : Code := elseOf i3
noncomputable def r18 : Code := findReg b 18
noncomputable def r19 : Code := findReg b 19
noncomputable def r15 : Code := findReg b 15
noncomputable def r20 : Code := findReg b 20
noncomputable def r21 : Code := findReg b 21
noncomputable def r22 : Code := findReg b 22
noncomputable def i4 : Code := findCond b 4
noncomputable def i4t : Code := thenOf i4
noncomputable def i4e : Code := elseOf i4
noncomputable def r23 : Code := findReg b 23
noncomputable def r24 : Code := findReg b 24
noncomputable def i5 : Code := findCond b 5
noncomputable def i5t : Code := thenOf i5
noncomputable def i5e : Code := elseOf i5
noncomputable def r25 : Code := findReg b 25
noncomputable def r26 : Code := findReg b 26
noncomputable def k4 : Code := findBlk b 4
noncomputable def l4 : Code := loopOf k4
noncomputable def L4 (x5 x6 x10 x22 : AV) (m : Mem) (K : List Item) : Option Res := den prog ann 11 (.code l4 :: .inLoop l4 :: .inBlock 4 :: K) ⟨[(5, x5), (6, x6), (10, x10), (22, x22)], 158, m⟩
noncomputable def r27 : Code := findReg b 27
noncomputable def i6 : Code := findCond b 6
noncomputable def i6t : Code := thenOf i6
noncomputable def i6e : Code := elseOf i6
noncomputable def k5 : Code := findBlk b 5
noncomputable def r29 : Code := findReg b 29
noncomputable def k6 : Code := findBlk b 6
noncomputable def l6 : Code := loopOf k6
noncomputable def L6 (x5 x6 x10 x22 x23 : AV) (m : Mem) (K : List Item) : Option Res := den prog ann 11 (.code l6 :: .inLoop l6 :: .inBlock 6 :: K) ⟨[(5, x5), (6, x6), (10, x10), (22, x22), (23, x23)], 158, m⟩
noncomputable def r30 : Code := findReg b 30
noncomputable def i7 : Code := findCond b 7
noncomputable def i7t : Code := thenOf i7
noncomputable def i7e : Code := elseOf i7
noncomputable def k7 : Code := findBlk b 7
noncomputable def r32 : Code := findReg b 32
noncomputable def i8 : Code := findCond b 8
noncomputable def i8t : Code := thenOf i8
noncomputable def i8e : Code := elseOf i8
noncomputable def r33 : Code := findReg b 33
noncomputable def r31 : Code := findReg b 31
noncomputable def r28 : Code := findReg b 28
noncomputable def r34 : Code := findReg b 34
theorem b_eq (K : List Item) (s : St) : den prog ann 11 (.code b :: K) s = den prog ann 11 (.code r0 :: .code r1 :: .code r2 :: .code r3 :: .code k0 :: .code r7 :: .code r8 :: .code r9 :: .code r10 :: .code i1 :: .code r12 :: .code r13 :: .code k2 :: .code r20 :: .code r21 :: .code r22 :: .code i4 :: .code r24 :: .code i5 :: .code r26 :: .code k4 :: .code r34 :: .code .ret :: K) s := den_flat hf (l := [r0, r1, r2, r3, k0, r7, r8, r9, r10, i1, r12, r13, k2, r20, r21, r22, i4, r24, i5, r26, k4, r34, .ret]) (by kernel_rfl) K s
theorem r0_eq (K : List Item) (s : St) : den prog ann 11 (.code r0 :: K) s = mreg prog ann 11 none [] none [] [
    ⟨some 2, none, .v fun s => frozenPtr (s.get 0)⟩,
    ⟨some 4, none, .v fun s => some (.bool false)⟩] K s := (den_reg hf _ K s).trans (by kernel_rfl)
theorem r1_eq (K : List Item) (s : St) : den prog ann 11 (.code r1 :: K) s = mreg prog ann 11 none [] none [5] [
    ⟨some 24, none, .v fun s => loadF true 6 (s.get 2)⟩,
    ⟨some 25, none, .c 0 (fun s => (.fn 23 [] [])) fun s => [(s.get 24)]⟩,
    ⟨some 5, none, .w false none fun s => newPtr s.m [.nils, .nils]⟩,
    ⟨none, none, .w false none fun s => stA true 2 s.m (s.get 5) (s.get 25)⟩] K s := (den_reg hf _ K s).trans (by kernel_rfl)
theorem r2_eq (K : List Item) (s : St) : den prog ann 11 (.code r2 :: K) s = mreg prog ann 11 none [] none [] [
    ⟨some 26, none, .w false none fun s => bslM s.m 0 (bslA 1 0 [.nils] [])⟩,
    ⟨some 6, none, .v fun s => some (s.get 26)⟩] K s := (den_reg hf _ K s).trans (by kernel_rfl)
theorem r3_eq (K : List Item) (s : St) : den prog ann 11 (.code r3 :: K) s = mreg prog ann 11 none [] none [] [
    ⟨some 7, none, .v fun s => some (.int .i64 0)⟩] K s := (den_reg hf _ K s).trans (by kernel_rfl)
theorem k0_eq (K : List Item) (t : List (Nat × AV)) (m : Mem) : den prog ann 11 (.code k0 :: K) ⟨t, 158, m⟩ = L0 (get t 1) (get t 5) (get t 6) (get t 7) m K := den_loop_enter hf (b := l0) (id := 4) (l := [1, 5, 6, 7]) (by kernel_rfl) (by kernel_rfl) (by kernel_rfl) K _
theorem l0_eq (K : List Item) (t : List (Nat × AV)) (m : Mem) : den prog ann 11 (.inLoop l0 :: .inBlock 0 :: K) ⟨t, 158, m⟩ = L0 (get t 1) (get t 5) (get t 6) (get t 7) m K := den_loop_again hf (id := 4) (l := [1, 5, 6, 7]) (by kernel_rfl) (by kernel_rfl) (.inBlock 0 :: K) _
theorem L0_eq (x1 x5 x6 x7 : AV) (m : Mem) (K : List Item) : L0 x1 x5 x6 x7 m K = den prog ann 11 (.code r4 :: .code i0 :: .code k1 :: .code r5 :: .inLoop l0 :: .inBlock 0 :: K) ⟨[(1, x1), (5, x5), (6, x6), (7, x7)], 158, m⟩ := den_flat hf (l := [r4, i0, k1, r5]) (by kernel_rfl) _ _
theorem r4_eq (K : List Item) (s : St) : den prog ann 11 (.code r4 :: K) s = mreg prog ann 11 (some [1, 5, 6, 7]) [] none [] [
    ⟨some 27, none, .v fun s => some (s.get 7)⟩,
    ⟨some 28, none, .v fun s => some (s.get 1)⟩,
    ⟨some 29, none, .v fun s => lenSl (s.get 28)⟩,
    ⟨some 30, none, .v fun s => binA prog .lss 3 (s.get 27) (s.get 29)⟩,
    ⟨some 31, none, .v fun s => some (s.get 30)⟩,
    ⟨some 32, some (31, true), .v fun s => some (s.get 7)⟩,
    ⟨some 33, some (31, true), .v fun s => binA prog .lss 3 (s.get 32) (.int .i64 200)⟩,
    ⟨some 34, none, .v fun s => pickA (s.get 31) (s.get 33) (.bool false)⟩] K s := (den_reg hf _ K s).trans (by kernel_rfl)
theorem i0_eq (K : List Item) (s : St) : den prog ann 11 (.code i0 :: K) s = ifV prog ann 11 34 i0t i0e K s (s.get 34) := den_if hf (by kernel_rfl) K s
theorem i0t_eq (K : List Item) (s : St) : den prog ann 11 (.code i0t :: K) s = den prog ann 11 (K) s := den_flat hf (l := []) (by kernel_rfl) K s
theorem i0e_eq (K : List Item) (s : St) : den prog ann 11 (.code i0e :: K) s = den prog ann 11 (.code (.exit 0) :: K) s := den_flat hf (l := [(.exit 0)]) (by kernel_rfl) K s
theorem k1_eq (K : List Item) (s : St) : den prog ann 11 (.code k1 :: K) s = den prog ann 11 (.code r6 :: .inBlock 1 :: K) s := den_blk hf (b := blkOf k1) (l := [r6]) (by kernel_rfl) (by kernel_rfl) K s
theorem r6_draw : drawOk (fun g => (ann g).pure) (modeOf (ann 11) (idOf r6)) (frzOf (ann 11) (idOf r6)) (opsOf r6) = true := drawOk_of (an := [0, 0, 0, 0, 12, 28, 62, 126, 255, 511]) (by kernel_rfl) (by kernel_rfl)
theorem r6_eq (K : List Item) (s : St) : den prog ann 11 (.code r6 :: K) s = mreg prog ann 11 none [] (some 10) [] [
    ⟨some 37, none, .v fun s => some (s.get 6)⟩,
    ⟨some 38, none, .v fun s => loadF true 2 (s.get 5)⟩,
    ⟨some 39, none, .v fun s => some (s.get 1)⟩,
    ⟨some 40, none, .v fun s => some (s.get 7)⟩,
    ⟨some 41, none, .v fun s => idxSl 4 (s.get 39) (s.get 40)⟩,
    ⟨some 42, none, .v fun s => loadF true 4 (s.get 41)⟩,
    ⟨some 43, none, .c 0 (fun s => (.fn 25 [] [])) fun s => [(s.get 38), (s.get 42)]⟩,
    ⟨some 44, none, .v fun s => bslF 1 (bslA 1 1 [.nils] [(0, (s.get 43))])⟩,
    ⟨some 45, none, .w false (some 8) fun s => appendA 1 24 s.m (s.get 37) (s.get 44)⟩,
    ⟨some 6, none, .v fun s => some (s.get 45)⟩] K s := (den_regD hf r6_draw K s).trans (by kernel_rfl)
theorem r5_eq (K : List Item) (s : St) : den prog ann 11 (.code r5 :: K) s = mreg prog ann 11 (some [1, 5, 6, 7]) [] none [] [
    ⟨some 35, none, .v fun s => some (s.get 7)⟩,
    ⟨some 36, none, .v fun s => binA prog .add 3 (s.get 35) (.int .i64 1)⟩,
    ⟨some 7, none, .v fun s => some (s.get 36)⟩] K s := (den_reg hf _ K s).trans (by kernel_rfl)
theorem r7_eq (K : List Item) (s : St) : den prog ann 11 (.code r7 :: K) s = mreg prog ann 11 (some [5, 6]) [6] none [] [
    ⟨some 47, none, .v fun s => loadF true 2 (s.get 5)⟩,
    ⟨some 48, none, .v fun s => some (s.get 6)⟩,
    ⟨some 49, none, .c 2 (fun s => (.fn 38 [] [])) fun s => [(s.get 47), (s.get 48)]⟩,
    ⟨some 46, none, .v fun s => some (s.get 49)⟩,
    ⟨some 50, none, .v fun s => extA (s.get 46) 0⟩,
    ⟨some 51, none, .v fun s => extA (s.get 46) 1⟩,
    ⟨some 8, none, .v fun s => some (s.get 50)⟩,
    ⟨some 9, none, .v fun s => some (s.get 51)⟩] K s := (den_reg hf _ K s).trans (by kernel_rfl)
theorem r8_eq (K : List Item) (s : St) : den prog ann 11 (.code r8 :: K) s = mreg prog ann 11 none [] none [] [
    ⟨some 53, none, .v fun s => loadF true 2 (s.get 5)⟩,
    ⟨some 54, none, .v fun s => some (s.get 6)⟩,
    ⟨some 55, none, .c 2 (fun s => (.fn 39 [] [])) fun s => [(s.get 53), (s.get 54)]⟩,
    ⟨some 52, none, .v fun s => some (s.get 55)⟩,
    ⟨some 56, none, .v fun s => extA (s.get 52) 0⟩,
    ⟨some 57, none, .v fun s => extA (s.get 52) 1⟩,
    ⟨some 10, none, .v fun s => some (s.get 56)⟩,
    ⟨some 11, none, .v fun s => some (s.get 57)⟩] K s := (den_reg hf _ K s).trans (by kernel_rfl)
theorem r9_eq (K : List Item) (s : St) : den prog ann 11 (.code r9 :: K) s = mreg prog ann 11 none [] none [] [
    ⟨some 59, none, .v fun s => loadF true 2 (s.get 5)⟩,
    ⟨some 60, none, .c 0 (fun s => (.fn 35 [] [])) fun s => [(s.get 59)]⟩,
    ⟨some 58, none, .v fun s => some (s.get 60)⟩,
    ⟨some 61, none, .v fun s => extA (s.get 58) 0⟩,
    ⟨some 62, none, .v fun s => extA (s.get 58) 1⟩,
    ⟨some 12, none, .v fun s => some (s.get 61)⟩,
    ⟨some 13, none, .v fun s => some (s.get 62)⟩] K s := (den_reg hf _ K s).trans (by kernel_rfl)
theorem r10_eq (K : List Item) (s : St) : den prog ann 11 (.code r10 :: K) s = mreg prog ann 11 none [] none [] [
    ⟨some 63, none, .v fun s => some (s.get 11)⟩,
    ⟨some 64, none, .v fun s => binA prog .eql 27 (s.get 63) (.int .i64 5)⟩,
    ⟨some 65, none, .v fun s => some (s.get 64)⟩,
    ⟨some 66, some (65, true), .v fun s => some (s.get 9)⟩,
    ⟨some 67, some (65, true), .v fun s => binA prog .neq 27 (s.get 66) (.int .i64 0)⟩,
    ⟨some 68, none, .v fun s => pickA (s.get 65) (s.get 67) (.bool false)⟩,
    ⟨some 69, none, .v fun s => some (s.get 68)⟩,
    ⟨some 70, some (69, false), .v fun s => some (s.get 13)⟩,
    ⟨some 71, some (69, false), .v fun s => binA prog .neq 27 (s.get 70) (.int .i64 0)⟩,
    ⟨some 72, none, .v fun s => pickA (s.get 69) (.bool true) (s.get 71)⟩,
    ⟨some 73, none, .v fun s => some (s.get 72)⟩,
    ⟨some 74, some (73, false), .v fun s => some (s.get 9)⟩,
    ⟨some 75, some (73, false), .v fun s => binA prog .neq 27 (s.get 74) (.int .i64 0)⟩,
    ⟨some 76, some (73, false), .v fun s => some (s.get 75)⟩,
    ⟨some 77, some (76, true), .v fun s => some (s.get 9)⟩,
    ⟨some 78, some (76, true), .v fun s => binA prog .neq 27 (s.get 77) (.int .i64 5)⟩,
    ⟨some 79, some (73, false), .v fun s => pickA (s.get 76) (s.get 78) (.bool false)⟩,
    ⟨some 80, none, .v fun s => pickA (s.get 73) (.bool true) (s.get 79)⟩,
    ⟨some 81, none, .v fun s => some (s.get 80)⟩,
    ⟨some 82, some (81, false), .c 0 (fun s => (.fn 22 [] [])) fun s => []⟩,
    ⟨some 83, some (81, false), .v fun s => unA .not (s.get 82)⟩,
    ⟨some 84, none, .v fun s => pickA (s.get 81) (.bool true) (s.get 83)⟩] K s := (den_reg hf _ K s).trans (by kernel_rfl)
theorem i1_eq (K : List Item) (s : St) : den prog ann 11 (.code i1 :: K) s = ifV prog ann 11 84 i1t i1e K s (s.get 84) := den_if hf (by kernel_rfl) K s
theorem i1t_eq (K : List Item) (s : St) : den prog ann 11 (.code i1t :: K) s = den prog ann 11 (.code r11 :: .code .ret :: K) s := den_flat hf (l := [r11, .ret]) (by kernel_rfl) K s
theorem r11_eq (K : List Item) (s : St) : den prog ann 11 (.code r11 :: K) s = mreg prog ann 11 none [] none [] [
    ⟨some 4, none, .v fun s => some (.bool false)⟩] K s := (den_reg hf _ K s).trans (by kernel_rfl)
theorem i1e_eq (K : List Item) (s : St) : den prog ann 11 (.code i1e :: K) s = den prog ann 11 (K) s := den_flat hf (l := []) (by kernel_rfl) K s
theorem r12_eq (K : List Item) (s : St) : den prog ann 11 (.code r12 :: K) s = mreg prog ann 11 none [] none [] [
    ⟨some 85, none, .w false none fun s => bslM s.m 0 (bslA 1 0 [.nils] [])⟩,
    ⟨some 14, none, .v fun s => some (s.get 85)⟩] K s := (den_reg hf _ K s).trans (by kernel_rfl)
theorem r13_eq (K : List Item) (s : St) : den prog ann 11 (.code r13 :: K) s = mreg prog ann 11 none [] none [] [
    ⟨some 15, none, .v fun s => some (.int .i64 0)⟩] K s := (den_reg hf _ K s).trans (by kernel_rfl)
theorem k2_eq (K : List Item) (t : List (Nat × AV)) (m : Mem) : den prog ann 11 (.code k2 :: K) ⟨t, 158, m⟩ = L2 (get t 5) (get t 6) (get t 10) (get t 11) (get t 12) (get t 14) (get t 15) m K := den_loop_enter hf (b := l2) (id := 14) (l := [5, 6, 10, 11, 12, 14, 15]) (by kernel_rfl) (by kernel_rfl) (by kernel_rfl) K _
theorem l2_eq (K : List Item) (t : List (Nat × AV)) (m : Mem) : den prog ann 11 (.inLoop l2 :: .inBlock 2 :: K) ⟨t, 158, m⟩ = L2 (get t 5) (get t 6) (get t 10) (get t 11) (get t 12) (get t 14) (get t 15) m K := den_loop_again hf (id := 14) (l := [5, 6, 10, 11, 12, 14, 15]) (by kernel_rfl) (by kernel_rfl) (.inBlock 2 :: K) _
theorem L2_eq (x5 x6 x10 x11 x12 x14 x15 : AV) (m : Mem) (K : List Item) : L2 x5 x6 x10 x11 x12 x14 x15 m K = den prog ann 11 (.code r14 :: .code i2 :: .code k3 :: .code r15 :: .inLoop l2 :: .inBlock 2 :: K) ⟨[(5, x5), (6, x6), (10, x10), (11, x11), (12, x12), (14, x14), (15, x15)], 158, m⟩ := den_flat hf (l := [r14, i2, k3, r15]) (by kernel_rfl) _ _
theorem r14_eq (K : List Item) (s : St) : den prog ann 11 (.code r14 :: K) s = mreg prog ann 11 (some [5, 6, 10, 11, 12, 14, 15]) [] none [] [
    ⟨some 86, none, .v fun s => some (s.get 15)⟩,
    ⟨some 87, none, .v fun s => some (s.get 12)⟩,
    ⟨some 88, none, .v fun s => binA prog .lss 3 (s.get 86) (s.get 87)⟩,
    ⟨some 89, none, .v fun s => some (s.get 88)⟩,
    ⟨some 90, some (89, true), .v fun s => some (s.get 12)⟩,
    ⟨some 91, some (89, true), .v fun s => binA prog .leq 3 (s.get 90) (.int .i64 2500)⟩,
    ⟨some 92, none, .v fun s => pickA (s.get 89) (s.get 91) (.bool false)⟩] K s := (den_reg hf _ K s).trans (by kernel_rfl)
theorem i2_eq (K : List Item) (s : St) : den prog ann 11 (.code i2 :: K) s = ifV prog ann 11 92 i2t i2e K s (s.get 92) := den_if hf (by kernel_rfl) K s
theorem i2t_eq (K : List Item) (s : St) : den prog ann 11 (.code i2t :: K) s = den prog ann 11 (K) s := den_flat hf (l := []) (by kernel_rfl) K s
theorem i2e_eq (K : List Item) (s : St) : den prog ann 11 (.code i2e :: K) s = den prog ann 11 (.code (.exit 2) :: K) s := den_flat hf (l := [(.exit 2)]) (by kernel_rfl) K s
theorem k3_eq (K : List Item) (s : St) : den prog ann 11 (.code k3 :: K) s = den prog ann 11 (.code r16 :: .code r17 :: .code i3 :: .code r19 :: .inBlock 3 :: K) s := den_blk hf (b := blkOf k3) (l := [r16, r17, i3, r19]) (by kernel_rfl) (by kernel_rfl) K s
theorem r16_eq (K : List Item) (s : St) : den prog ann 11 (.code r16 :: K) s = mreg prog ann 11 none [] none [] [
    ⟨some 96, none, .v fun s => loadF true 2 (s.get 5)⟩,
    ⟨some 97, none, .v fun s => some (s.get 15)⟩,
    ⟨some 98, none, .c 2 (fun s => (.fn 18 [] [])) fun s => [(s.get 96), (s.get 97)]⟩,
    ⟨some 95, none, .v fun s => some (s.get 98)⟩,
    ⟨some 99, none, .v fun s => extA (s.get 95) 0⟩,
    ⟨some 100, none, .v fun s => extA (s.get 95) 1⟩,
    ⟨some 16, none, .v fun s => some (s.get 99)⟩,
    ⟨some 17, none, .v fun s => some (s.get 100)⟩] K s := (den_reg hf _ K s).trans (by kernel_rfl)
theorem r17_eq (K : List Item) (s : St) : den prog ann 11 (.code r17 :: K) s = mreg prog ann 11 none [] none [] [
    ⟨some 101, none, .v fun s => some (s.get 17)⟩,
    ⟨some 102, none, .v fun s => binA prog .neq 27 (s.get 101) (.int .i64 0)⟩] K s := (den_reg hf _ K s).trans (by kernel_rfl)
theorem i3_eq (K : List Item) (s : St) : den prog ann 11 (.code i3 :: K) s = ifV prog ann 11 102 i3t i3e K s (s.get 102) := den_if hf (by kernel_rfl) K s
theorem i3t_eq (K : List Item) (s : St) : den prog ann 11 (.code i3t :: K) s = den prog ann 11 (.code r18 :: .code .ret :: K) s := den_flat hf (l := [r18, .ret]) (by kernel_rfl) K s
theorem r18_eq (K : List Item) (s : St) : den prog ann 11 (.code r18 :: K) s = mreg prog ann 11 none [] none [] [
    ⟨some 4, none, .v fun s => some (.bool false)⟩] K s := (den_reg hf _ K s).trans (by kernel_rfl)
theorem i3e_eq (K : List Item) (s : St) : den prog ann 11 (.code i3e :: K) s = den prog ann 11 (K) s := den_flat hf (l := []) (by kernel_rfl) K s
theorem r19_eq (K : List Item) (s : St) : den prog ann 11 (.code r19 :: K) s = mreg prog ann 11 none [] none [] [
    ⟨some 103, none, .v fun s => some (s.get 14)⟩,
    ⟨some 104, none, .v fun s => some (s.get 16)⟩,
    ⟨some 105, none, .v fun s => bslF 1 (bslA 1 1 [.nils] [(0, (s.get 104))])⟩,
    ⟨some 106, none, .w false none fun s => appendA 1 24 s.m (s.get 103) (s.get 105)⟩,
    ⟨some 14, none, .v fun s => some (s.get 106)⟩] K s := (den_reg hf _ K s).trans (by kernel_rfl)
theorem r15_eq (K : List Item) (s : St) : den prog ann 11 (.code r15 :: K) s = mreg prog ann 11 (some [5, 6, 10, 11, 12, 14, 15]) [] none [] [
    ⟨some 93, none, .v fun s => some (s.get 15)⟩,
    ⟨some 94, none, .v fun s => binA prog .add 3 (s.get 93) (.int .i64 1)⟩,
    ⟨some 15, none, .v fun s => some (s.get 94)⟩] K s := (den_reg hf _ K s).trans (by kernel_rfl)
theorem r20_eq (K : List Item) (s : St) : den prog ann 11 (.code r20 :: K) s = mreg prog ann 11 (some [5, 6, 10, 11, 14]) [] none [] [
    ⟨some 108, none, .v fun s => loadF true 2 (s.get 5)⟩,
    ⟨some 109, none, .v fun s => some (s.get 14)⟩,
    ⟨some 110, none, .c 2 (fun s => (.fn 39 [] [])) fun s => [(s.get 108), (s.get 109)]⟩,
    ⟨some 107, none, .v fun s => some (s.get 110)⟩,
    ⟨some 111, none, .v fun s => extA (s.get 107) 0⟩,
    ⟨some 112, none, .v fun s => extA (s.get 107) 1⟩,
    ⟨some 18, none, .v fun s => some (s.get 111)⟩,
    ⟨some 19, none, .v fun s => some (s.get 112)⟩] K s := (den_reg hf _ K s).trans (by kernel_rfl)
theorem r21_eq (K : List Item) (s : St) : den prog ann 11 (.code r21 :: K) s = mreg prog ann 11 none [] none [] [
    ⟨some 114, none, .v fun s => loadF true 2 (s.get 5)⟩,
    ⟨some 115, none, .c 2 (fun s => (.fn 39 [] [])) fun s => [(s.get 114), (.nils)]⟩,
    ⟨some 113, none, .v fun s => some (s.get 115)⟩,
    ⟨some 116, none, .v fun s => extA (s.get 113) 0⟩,
    ⟨some 117, none, .v fun s => extA (s.get 113) 1⟩,
    ⟨some 20, none, .v fun s => some (s.get 116)⟩,
    ⟨some 21, none, .v fun s => some (s.get 117)⟩] K s := (den_reg hf _ K s).trans (by kernel_rfl)
theorem r22_eq (K : List Item) (s : St) : den prog ann 11 (.code r22 :: K) s = mreg prog ann 11 none [] none [] [
    ⟨some 118, none, .v fun s => some (s.get 19)⟩,
    ⟨some 119, none, .v fun s => binA prog .neq 27 (s.get 118) (.int .i64 5)⟩,
    ⟨some 120, none, .v fun s => some (s.get 119)⟩,
    ⟨some 121, some (120, false), .v fun s => some (s.get 21)⟩,
    ⟨some 122, some (120, false), .v fun s => binA prog .neq 27 (s.get 121) (.int .i64 0)⟩,
    ⟨some 123, none, .v fun s => pickA (s.get 120) (.bool true) (s.get 122)⟩,
    ⟨some 124, none, .v fun s => some (s.get 123)⟩,
    ⟨some 125, some (124, false), .v fun s => loadF true 2 (s.get 5)⟩,
    ⟨some 126, some (124, false), .v fun s => some (s.get 20)⟩,
    ⟨some 127, some (124, false), .c 0 (fun s => (.fn 48 [] [])) fun s => [(s.get 125), (s.get 126)]⟩,
    ⟨some 128, some (124, false), .v fun s => unA .not (s.get 127)⟩,
    ⟨some 129, none, .v fun s => pickA (s.get 124) (.bool true) (s.get 128)⟩] K s := (den_reg hf _ K s).trans (by kernel_rfl)
theorem i4_eq (K : List Item) (s : St) : den prog ann 11 (.code i4 :: K) s = ifV prog ann 11 129 i4t i4e K s (s.get 129) := den_if hf (by kernel_rfl) K s
theorem i4t_eq (K : List Item) (s : St) : den prog ann 11 (.code i4t :: K) s = den prog ann 11 (.code r23 :: .code .ret :: K) s := den_flat hf (l := [r23, .ret]) (by kernel_rfl) K s
theorem r23_eq (K : List Item) (s : St) : den prog ann 11 (.code r23 :: K) s = mreg prog ann 11 none [] none [] [
    ⟨some 4, none, .v fun s => some (.bool false)⟩] K s := (den_reg hf _ K s).trans (by kernel_rfl)
theorem i4e_eq (K : List Item) (s : St) : den prog ann 11 (.code i4e :: K) s = den prog ann 11 (K) s := den_flat hf (l := []) (by kernel_rfl) K s
theorem r24_eq (K : List Item) (s : St) : den prog ann 11 (.code r24 :: K) s = mreg prog ann 11 none [] none [] [
    ⟨some 130, none, .v fun s => some (s.get 11)⟩,
    ⟨some 131, none, .v fun s => binA prog .neq 27 (s.get 130) (.int .i64 0)⟩] K s := (den_reg hf _ K s).trans (by kernel_rfl)
theorem i5_eq (K : List Item) (s : St) : den prog ann 11 (.code i5 :: K) s = ifV prog ann 11 131 i5t i5e K s (s.get 131) := den_if hf (by kernel_rfl) K s
theorem i5t_eq (K : List Item) (s : St) : den prog ann 11 (.code i5t :: K) s = den prog ann 11 (.code r25 :: .code .ret :: K) s := den_flat hf (l := [r25, .ret]) (by kernel_rfl) K s
theorem r25_eq (K : List Item) (s : St) : den prog ann 11 (.code r25 :: K) s = mreg prog ann 11 none [] none [] [
    ⟨some 132, none, .v fun s => some (s.get 11)⟩,
    ⟨some 133, none, .v fun s => binA prog .eql 27 (s.get 132) (.int .i64 5)⟩,
    ⟨some 4, none, .v fun s => some (s.get 133)⟩] K s := (den_reg hf _ K s).trans (by kernel_rfl)
theorem i5e_eq (K : List Item) (s : St) : den prog ann 11 (.code i5e :: K) s = den prog ann 11 (K) s := den_flat hf (l := []) (by kernel_rfl) K s
theorem r26_eq (K : List Item) (s : St) : den prog ann 11 (.code r26 :: K) s = mreg prog ann 11 none [] none [] [
    ⟨some 22, none, .v fun s => some (.int .i64 0)⟩] K s := (den_reg hf _ K s).trans (by kernel_rfl)
theorem k4_eq (K : List Item) (t : List (Nat × AV)) (m : Mem) : den prog ann 11 (.code k4 :: K) ⟨t, 158, m⟩ = L4 (get t 5) (get t 6) (get t 10) (get t 22) m K := den_loop_enter hf (b := l4) (id := 27) (l := [5, 6, 10, 22]) (by kernel_rfl) (by kernel_rfl) (by kernel_rfl) K _
theorem l4_eq (K : List Item) (t : List (Nat × AV)) (m : Mem) : den prog ann 11 (.inLoop l4 :: .inBlock 4 :: K) ⟨t, 158, m⟩ = L4 (get t 5) (get t 6) (get t 10) (get t 22) m K := den_loop_again hf (id := 27) (l := [5, 6, 10, 22]) (by kernel_rfl) (by kernel_rfl) (.inBlock 4 :: K) _
theorem L4_eq (x5 x6 x10 x22 : AV) (m : Mem) (K : List Item) : L4 x5 x6 x10 x22 m K = den prog ann 11 (.code r27 :: .code i6 :: .code k5 :: .code r28 :: .inLoop l4 :: .inBlock 4 :: K) ⟨[(5, x5), (6, x6), (10, x10), (22, x22)], 158, m⟩ := den_flat hf (l := [r27, i6, k5, r28]) (by kernel_rfl) _ _
theorem r27_eq (K : List Item) (s : St) : den prog ann 11 (.code r27 :: K) s = mreg prog ann 11 (some [5, 6, 10, 22]) [] none [] [
    ⟨some 134, none, .v fun s => some (s.get 22)⟩,
    ⟨some 135, none, .v fun s => some (s.get 10)⟩,
    ⟨some 136, none, .v fun s => lenSl (s.get 135)⟩,
    ⟨some 137, none, .v fun s => binA prog .lss 3 (s.get 134) (s.get 136)⟩] K s := (den_reg hf _ K s).trans (by kernel_rfl)
theorem i6_eq (K : List Item) (s : St) : den prog ann 11 (.code i6 :: K) s = ifV prog ann 11 137 i6t i6e K s (s.get 137) := den_if hf (by kernel_rfl) K s
theorem i6t_eq (K : List Item) (s : St) : den prog ann 11 (.code i6t :: K) s = den prog ann 11 (K) s := den_flat hf (l := []) (by kernel_rfl) K s
theorem i6e_eq (K : List Item) (s : St) : den prog ann 11 (.code i6e :: K) s = den prog ann 11 (.code (.exit 4) :: K) s := den_flat hf (l := [(.exit 4)]) (by kernel_rfl) K s
theorem k5_eq (K : List Item) (s : St) : den prog ann 11 (.code k5 :: K) s = den prog ann 11 (.code r29 :: .code k6 :: .inBlock 5 :: K) s := den_blk hf (b := blkOf k5) (l := [r29, k6]) (by kernel_rfl) (by kernel_rfl) K s
theorem r29_eq (K : List Item) (s : St) : den prog ann 11 (.code r29 :: K) s = mreg prog ann 11 none [] none [] [
    ⟨some 23, none, .v fun s => some (.int .i64 0)⟩] K s := (den_reg hf _ K s).trans (by kernel_rfl)
theorem k6_eq (K : List Item) (t : List (Nat × AV)) (m : Mem) : den prog ann 11 (.code k6 :: K) ⟨t, 158, m⟩ = L6 (get t 5) (get t 6) (get t 10) (get t 22) (get t 23) m K := den_loop_enter hf (b := l6) (id := 30) (l := [5, 6, 10, 22, 23]) (by kernel_rfl) (by kernel_rfl) (by kernel_rfl) K _
theorem l6_eq (K : List Item) (t : List (Nat × AV)) (m : Mem) : den prog ann 11 (.inLoop l6 :: .inBlock 6 :: K) ⟨t, 158, m⟩ = L6 (get t 5) (get t 6) (get t 10) (get t 22) (get t 23) m K := den_loop_again hf (id := 30) (l := [5, 6, 10, 22, 23]) (by kernel_rfl) (by kernel_rfl) (.inBlock 6 :: K) _
theorem L6_eq (x5 x6 x10 x22 x23 : AV) (m : Mem) (K : List Item) : L6 x5 x6 x10 x22 x23 m K = den prog ann 11 (.code r30 :: .code i7 :: .code k7 :: .code r31 :: .inLoop l6 :: .inBlock 6 :: K) ⟨[(5, x5), (6, x6), (10, x10), (22, x22), (23, x23)], 158, m⟩ := den_flat hf (l := [r30, i7, k7, r31]) (by kernel_rfl) _ _
theorem r30_eq (K : List Item) (s : St) : den prog ann 11 (.code r30 :: K) s = mreg prog ann 11 (some [5, 6, 10, 22, 23]) [] none [] [
    ⟨some 140, none, .v fun s => some (s.get 23)⟩,
    ⟨some 141, none, .v fun s => some (s.get 6)⟩,
    ⟨some 142, none, .v fun s => lenSl (s.get 141)⟩,
    ⟨some 143, none, .v fun s => binA prog .lss 3 (s.get 140) (s.get 142)⟩] K s := (den_reg hf _ K s).trans (by kernel_rfl)
theorem i7_eq (K : List Item) (s : St) : den prog ann 11 (.code i7 :: K) s = ifV prog ann 11 143 i7t i7e K s (s.get 143) := den_if hf (by kernel_rfl) K s
theorem i7t_eq (K : List Item) (s : St) : den prog ann 11 (.code i7t :: K) s = den prog ann 11 (K) s := den_flat hf (l := []) (by kernel_rfl) K s
theorem i7e_eq (K : List Item) (s : St) : den prog ann 11 (.code i7e :: K) s = den prog ann 11 (.code (.exit 6) :: K) s := den_flat hf (l := [(.exit 6)]) (by kernel_rfl) K s
theorem k7_eq (K : List Item) (s : St) : den prog ann 11 (.code k7 :: K) s = den prog ann 11 (.code r32 :: .code i8 :: .inBlock 7 :: K) s := den_blk hf (b := blkOf k7) (l := [r32, i8]) (by kernel_rfl) (by kernel_rfl) K s
theorem r32_draw : drawOk (fun g => (ann g).pure) (modeOf (ann 11) (idOf r32)) (frzOf (ann 11) (idOf r32)) (opsOf r32) = true := drawOk_of (an := [0, 0, 3, 7, 0, 0, 48, 112, 255]) (by kernel_rfl) (by kernel_rfl)
theorem r32_eq (K : List Item) (s : St) : den prog ann 11 (.code r32 :: K) s = mreg prog ann 11 none [] (some 9) [] [
    ⟨some 146, none, .v fun s => some (s.get 10)⟩,
    ⟨some 147, none, .v fun s => some (s.get 22)⟩,
    ⟨some 148, none, .v fun s => idxSl 1 (s.get 146) (s.get 147)⟩,
    ⟨some 149, none, .v fun s => loadF false 1 (s.get 148)⟩,
    ⟨some 150, none, .v fun s => some (s.get 6)⟩,
    ⟨some 151, none, .v fun s => some (s.get 23)⟩,
    ⟨some 152, none, .v fun s => idxSl 1 (s.get 150) (s.get 151)⟩,
    ⟨some 153, none, .v fun s => loadA false 1 s.m (s.get 152)⟩,
    ⟨some 154, none, .c 0 (fun s => (.fn 21 [] [])) fun s => [(s.get 149), (s.get 153)]⟩] K s := (den_regD hf r32_draw K s).trans (by kernel_rfl)
theorem i8_eq (K : List Item) (s : St) : den prog ann 11 (.code i8 :: K) s = ifV prog ann 11 154 i8t i8e K s (s.get 154) := den_if hf (by kernel_rfl) K s
theorem i8t_eq (K : List Item) (s : St) : den prog ann 11 (.code i8t :: K) s = den prog ann 11 (.code r33 :: .code .ret :: K) s := den_flat hf (l := [r33, .ret]) (by kernel_rfl) K s
theorem r33_eq (K : List Item) (s : St) : den prog ann 11 (.code r33 :: K) s = mreg prog ann 11 none [] none [] [
    ⟨some 4, none, .v fun s => some (.bool false)⟩] K s := (den_reg hf _ K s).trans (by kernel_rfl)
theorem i8e_eq (K : List Item) (s : St) : den prog ann 11 (.code i8e :: K) s = den prog ann 11 (K) s := den_flat hf (l := []) (by kernel_rfl) K s
theorem r31_eq (K : List Item) (s : St) : den prog ann 11 (.code r31 :: K) s = mreg prog ann 11 (some [5, 6, 10, 22, 23]) [] none [] [
    ⟨some 144, none, .v fun s => some (s.get 23)⟩,
    ⟨some 145, none, .v fun s => binA prog .add 3 (s.get 144) (.int .i64 1)⟩,
    ⟨some 23, none, .v fun s => some (s.get 145)⟩] K s := (den_reg hf _ K s).trans (by kernel_rfl)
theorem r28_eq (K : List Item) (s : St) : den prog ann 11 (.code r28 :: K) s = mreg prog ann 11 (some [5, 6, 10, 22]) [] none [] [
    ⟨some 138, none, .v fun s => some (s.get 22)⟩,
    ⟨some 139, none, .v fun s => binA prog .add 3 (s.get 138) (.int .i64 1)⟩,
    ⟨some 22, none, .v fun s => some (s.get 139)⟩] K s := (den_reg hf _ K s).trans (by kernel_rfl)
theorem r34_eq (K : List Item) (s : St) : den prog ann 11 (.code r34 :: K) s = mreg prog ann 11 (some [5, 10]) [] none [] [
    ⟨some 155, none, .v fun s => loadF true 2 (s.get 5)⟩,
    ⟨some 156, none, .v fun s => some (s.get 10)⟩,
    ⟨some 157, none, .c 0 (fun s => (.fn 48 [] [])) fun s => [(s.get 155), (s.get 156)]⟩,
    ⟨some 4, none, .v fun s => some (s.get 157)⟩] K s := (den_reg hf _ K s).trans (by kernel_rfl)
theorem ret_eq (K : List Item) (s : St) : den prog ann 11 (.code .ret :: K) s = finM true [fun s => some (s.get 4)] s := (den_ret hf K s).trans (by kernel_rfl)
theorem nil_eq (s : St) : den prog ann 11 [] s = finM true [fun s => some (s.get 4)] s := (den_nil hf s).trans (by kernel_rfl)
theorem inBlock_eq (id : Nat) (K : List Item) (s : St) : den prog ann 11 (.inBlock id :: K) s = den prog ann 11 K s := den_inBlock hf id K s
theorem exit_eq (id : Nat) (K : List Item) (s : St) : den prog ann 11 (.code (.exit id) :: K) s = exitV prog ann 11 (exitTo id K) s := den_exitV hf id K s
theorem call_eq (v0 v1 : AV) (m : Mem) (h : closedL [v0, v1] = true) : denC prog ann 11 [v0, v1] m = (den prog ann 11 [.code b] ⟨[(0, v0), (1, v1)], 158, Mem.empty⟩).bind fun r => some (r.1, m) := (denC_pure hf (b := b) (by kernel_rfl) (by kernel_rfl) (by kernel_rfl) h m).trans (by kernel_rfl)
theorem pure_eq : (ann 11).pure = true := by kernel_rfl
attribute [simp] b_eq r0_eq r1_eq r2_eq r3_eq k0_eq l0_eq r4_eq i0_eq i0t_eq i0e_eq k1_eq r6_eq r5_eq r7_eq r8_eq r9_eq r10_eq i1_eq i1t_eq r11_eq i1e_eq r12_eq r13_eq k2_eq l2_eq r14_eq i2_eq i2t_eq i2e_eq k3_eq r16_eq r17_eq i3_eq i3t_eq r18_eq i3e_eq r19_eq r15_eq r20_eq r21_eq r22_eq i4_eq i4t_eq r23_eq i4e_eq r24_eq i5_eq i5t_eq r25_eq i5e_eq r26_eq k4_eq l4_eq r27_eq i6_eq i6t_eq i6e_eq k5_eq r29_eq k6_eq l6_eq r30_eq i7_eq i7t_eq i7e_eq k7_eq r32_eq i8_eq i8t_eq r33_eq i8e_eq r31_eq r28_eq r34_eq ret_eq nil_eq inBlock_eq exit_eq pure_eq
end l09_WatchModal
end Go.Proofs.Ytdkmepjedjclkaa

/-
  COURSES: THE LAW's TEST OF ONE; that there is one. Conditions: none.
-/
namespace Go.Proofs.Ytdkmepjedjclkaa
open Go.AM
open Go.Proofs.Try (prog)
set_option linter.all false
set_option maxRecDepth 100000
set_option maxHeartbeats 4000000

section
variable {D : List Int} {N : List Note} {S : List (List Int)}
/-- The cuts of a way. -/
structure Way (D : List Int) (N : List Note) (S : List (List Int)) (c : List Int) (l : List (List Int)) : Prop where
  first : gth l 0 = c
  pos : 0 < l.length
  all : ∀ i, i < l.length → Can D N S (gth l i)
  step : ∀ i, i + 1 < l.length → ∃ h, h < D.length ∧ gth l (i + 1) = bump (gth l i) h
  last : gth l (l.length - 1) = D
theorem gth_cons (x : List Int) (l : List (List Int)) (i : Nat) : gth (x :: l) (i + 1) = gth l i := rfl
theorem Path.way {c : List Int} {l : List (List Int)} (p : Path D N S c l) : Can D N S c → Way D N S c l := by
  induction p with
  | last =>
    intro hc
    exact ⟨rfl, by simp, fun i hi => by
      have : i = 0 := by simpa using hi
      subst this; exact hc, fun i hi => by simp at hi, rfl⟩
  | @step c h l hc hh r ng p ih =>
    intro hcan
    have w := ih r
    have wp := w.pos
    refine ⟨rfl, by simp, fun i hi => ?_, fun i hi => ?_, ?_⟩
    · cases i with
      | zero => exact hcan
      | succ i => exact w.all i (by simpa using hi)
    · cases i with
      | zero => exact ⟨h, hh, w.first⟩
      | succ i => exact w.step i (by simpa using hi)
    · have e : (c :: l).length - 1 = (l.length - 1) + 1 := by simp; omega
      rw [e, gth_cons]; exact w.last

theorem reach_cut (P : Pre D N) {x : List Int} (r : Reach D N x) : x ∈ cutsL D N := by
  induction r with
  | zero => exact zeros_cut P.L P
  | @step done h r s ih =>
    obtain ⟨c, q⟩ := (mem_cuts P.L).1 ih
    obtain ⟨s1, s2, s3⟩ := s
    have cl := c.len
    have e : done.set h (nth done h + 1) = bump done h := rfl
    rw [e]
    refine (mem_cuts P.L).2 ⟨⟨by rw [bump_len, cl], fun g => ?_, fun g => ?_⟩, ?_⟩
    · rw [nth_bump (by omega)]; have := c.lo g; have := c.lo h; split <;> omega
    · rw [nth_bump (by omega)]; split
      · rename_i e; rw [e]; omega
      · exact c.hi g
    · rw [conR_iff] at q ⊢
      intro y hy hr
      obtain ⟨f0, f1, t0, t1, ne, s0, s1', r0, r1⟩ := P.notes y hy
      have key : y.s ≤ nth done y.f.toNat := by
        by_cases q1 : y.r ≤ nth done y.t.toNat
        · exact q y hy q1
        · rw [nth_bump (by omega)] at hr
          split at hr
          · rename_i e1
            simp only [readyL, List.all_eq_true] at s3
            have h3 := s3 y hy
            have e2 : y.t = (h : Int) := by omega
            have e3 : y.r = nth done h + 1 := by rw [e1] at q1; omega
            simp [readyOk, e2, e3] at h3
            exact h3
          · omega
      rw [nth_bump (by omega)]
      split
      · rename_i e1; rw [← e1]; omega
      · exact key
theorem can_free (P : Pre D N) (r : Reach D N D) (hS : ∀ c ∈ cutsL D N, c ∉ S) : Can D N S (List.replicate D.length 0) := by
  have key : ∀ x, Reach D N x → Can D N S x → Can D N S (List.replicate D.length 0) := by
    intro x r
    induction r with
    | zero => exact id
    | @step done h r s ih =>
      intro hc
      have hm := reach_cut P r
      exact ih (.step hm (hS _ hm) s.1 hc)
  exact key D r (.last (deeds_cut P) (hS _ (deeds_cut P)))

/-! ### The law's test -/
variable {vD vN v : AV} {cs : List AV} {l : List (List Int)}
theorem csum_loop (hl : IsVec IsInts v cs l) {i : Nat} (hi : i + 1 < l.length) (hll : l.length < 100000) {h0 n : Nat} (hh0 : h0 < n) (hn : n ≤ 4) (h1 : (gth l i).length = n) (hb : gth l (i + 1) = bump (gth l i) h0) (hr : ∀ g, 0 ≤ nth (gth l i) g ∧ nth (gth l i) g ≤ 6) (Kc : List Item) : ∀ (k h : Nat) (m : Mem), h + k = n →
    ∃ m', l09_course.L2 v (.fptr [vD, vN]) (.int .i64 ((i : Int) + 1)) (.int .i64 (if h0 < h then 1 else 0)) (.int .i64 h) m Kc = l09_course.L2 v (.fptr [vD, vN]) (.int .i64 ((i : Int) + 1)) (.int .i64 1) (.int .i64 n) m' Kc := by
  have i1 := hl.idx hi .i64
  have i2 := hl.load hi
  have j1 := hl.idx (show i < l.length by omega) .i64
  have j2 := hl.load (show i < l.length by omega)
  have x := hl.at hi
  have y := hl.at (show i < l.length by omega)
  have hbl : (gth l (i + 1)).length = n := by rw [hb, bump_len, h1]
  simp only [Int.natCast_add, Int.cast_ofNat_Int] at i1
  have hw0 : IntKind.wrap .i64 ((i : Int) + 1 - 1) = (i : Int) := by rw [wrap_id (by omega) (by omega)]; omega
  have hi0 : ¬ ((i : Int) + 1 = 0) := by omega
  have hw0' : IntKind.wrap .i64 (i : Int) = (i : Int) := wrap_id (by omega) (by omega)
  intro k
  induction k with
  | zero =>
    intro h m hk
    have e : h = n := by omega
    subst e
    exact ⟨m, by rw [if_pos hh0]⟩
  | succ k ih =>
    intro h m hk
    have hh : h < n := by omega
    have hwr : IntKind.wrap .i64 ((h : Int) + 1) = (h : Int) + 1 := wrap_id (by omega) (by omega)
    obtain ⟨m', a⟩ := ih (h + 1) ⟨m.h, m.nx + 17 + 19⟩ (by omega)
    refine ⟨m', ?_⟩
    simp only [Int.natCast_add, Int.cast_ofNat_Int] at a
    have hx := x.idx (show h < (gth l (i + 1)).length by omega) .i64
    have hy := y.idx (show h < (gth l i).length by omega) .i64
    have hx2 := ints_head (l := gth l (i + 1)) (i := h) (by omega)
    have hy2 := ints_head (l := gth l i) (i := h) (by omega)
    have hnb : nth (gth l (i + 1)) h = if h = h0 then nth (gth l i) h0 + 1 else nth (gth l i) h := by rw [hb, nth_bump (by omega)]
    obtain ⟨r0, r1⟩ := hr h
    have hlen := x.len
    rw [hbl] at hlen
    rw [← a, l09_course.L2_eq]
    by_cases q : h = h0
    · subst q
      rw [if_pos rfl] at hnb
      have hlt : ¬ (nth (gth l i) h + 1 < nth (gth l i) h) := by omega
      have hw1 : IntKind.wrap .i64 (nth (gth l i) h + 1 - nth (gth l i) h) = 1 := by rw [show nth (gth l i) h + 1 - nth (gth l i) h = 1 by omega]; exact wrap_id (by omega) (by omega)
      simp [hl.len, hi, i1, i2, j1, j2, hlen, hh, hx, hy, hx2, hy2, hnb, hi0, hw0, hw0', hw1, hwr, hlt]
      done
    · rw [if_neg q] at hnb
      have hif : (if h0 < h + 1 then (1 : Int) else 0) = if h0 < h then 1 else 0 := by
        by_cases q2 : h0 < h
        · rw [if_pos q2, if_pos (by omega)]
        · rw [if_neg q2, if_neg (by omega)]
      have hw1 : IntKind.wrap .i64 (nth (gth l i) h - nth (gth l i) h) = 0 := by rw [Int.sub_self]; exact wrap_id (by omega) (by omega)
      have hw2 : IntKind.wrap .i64 (if h0 < h then (1 : Int) else 0) = if h0 < h then 1 else 0 := wrap_id (by split <;> omega) (by split <;> omega)
      rw [hif]
      generalize (if h0 < h then (1 : Int) else 0) = z at hw2
      simp [hl.len, hi, i1, i2, j1, j2, hlen, hh, hx, hy, hx2, hy2, hnb, hi0, hw0, hw0', hw1, hw2, hwr]
      done
theorem csum_first (hl : IsVec IsInts v cs l) (hp : 0 < l.length) (hll : l.length < 100000) {n : Nat} (hn : n ≤ 4) (hz : gth l 0 = List.replicate n 0) (Kc : List Item) : ∀ (k h : Nat) (m : Mem), h + k = n →
    l09_course.L2 v (.fptr [vD, vN]) (.int .i64 0) (.int .i64 0) (.int .i64 h) m Kc = l09_course.L2 v (.fptr [vD, vN]) (.int .i64 0) (.int .i64 0) (.int .i64 n) m Kc := by
  have i1 := hl.idx hp .i64
  have i2 := hl.load hp
  have x := hl.at hp
  rw [hz] at x
  simp only [Int.ofNat_zero, Int.cast_ofNat_Int] at i1
  intro k
  induction k with
  | zero =>
    intro h m hk
    have e : h = n := by omega
    rw [e]
  | succ k ih =>
    intro h m hk
    have hh : h < n := by omega
    have hwr : IntKind.wrap .i64 ((h : Int) + 1) = (h : Int) + 1 := wrap_id (by omega) (by omega)
    have a := ih (h + 1) m (by omega)
    simp only [Int.natCast_add, Int.cast_ofNat_Int] at a
    have hx := x.idx (show h < (List.replicate n (0 : Int)).length by simpa using hh) .i64
    have hx2 := ints_head (l := List.replicate n (0 : Int)) (i := h) (by simpa using hh)
    rw [nth_zero'] at hx2
    have hlen := x.len
    rw [List.length_replicate] at hlen
    have hw1 : IntKind.wrap .i64 0 = 0 := wrap_id (by omega) (by omega)
    generalize List.replicate n (0 : Int) = z at hx hx2
    rw [← a, l09_course.L2_eq]
    simp [-List.drop_zero, hl.len, hp, i1, i2, hlen, hh, hx, hx2, hw1, hwr]
    done

theorem course_loop (hs : IsTale (.agg [vD, vN]) D N) (P : Pre D N) (hl : IsVec IsInts v cs l) (hll : l.length < 100000) (w : Way D N S (List.replicate D.length 0) l) : ∀ (k i : Nat) (m : Mem), i + k = l.length →
    l09_course.L0 v (.fptr [vD, vN]) (.int .i64 i) m [.code l09_course.r17, .code .ret] = some (.bool true, Mem.empty) := by
  have h4 := P.L.n4
  have hs' := hs
  obtain ⟨_, _, e0, hD, hN⟩ := hs.ex
  cases e0
  have hpos := w.pos
  intro k
  induction k with
  | zero =>
    intro i m hk
    have e : i = l.length := by omega
    have hi : l.length - 1 < l.length := by omega
    have x := hl.at hi
    have i1 := hl.idx hi .i64
    have i2 := hl.load hi
    rw [w.last] at x
    have hsame := same_spec x hD (by omega) (by omega)
    simp at hsame
    have hw : IntKind.wrap .i64 ((l.length : Int) - 1) = ((l.length - 1 : Nat) : Int) := by rw [wrap_id (by omega) (by omega)]; omega
    rw [l09_course.L0_eq]
    simp [e, hl.len, hpos, hw, i1, i2, hsame, x.closed, hD.closed]
    done
  | succ k ih =>
    intro i m hk
    have hi : i < l.length := by omega
    have hwr : IntKind.wrap .i64 ((i : Int) + 1) = (i : Int) + 1 := wrap_id (by omega) (by omega)
    have x := hl.at hi
    have i1 := hl.idx hi .i64
    have i2 := hl.load hi
    have hm := (w.all i hi).mem
    obtain ⟨cu, cn⟩ := (mem_cuts P.L).1 hm
    have hlen := cu.len
    have hc := fun m => cutR_spec hs' x (by omega) m
    rw [cutB_iff.2 cu] at hc
    have hcon := fun m => consR_spec hs' x (by have := P.L.N24; omega) (fun y hy => by have := P.L.notes y hy; omega) m
    rw [cn] at hcon
    have a := fun m => ih (i + 1) m (by omega)
    simp only [Int.natCast_add, Int.cast_ofNat_Int] at a
    cases i with
    | zero =>
      have hz := w.first
      have e1 := fun Kc m => csum_first (vD := vD) (vN := vN) hl hpos hll h4 hz Kc D.length 0 m (by omega)
      simp only [Int.ofNat_zero, Int.cast_ofNat_Int, Int.zero_add] at e1 i1 a hwr ⊢
      have hxl := x.len
      rw [hlen] at hxl
      have e2 : ∀ m, l09_course.L2 v (.fptr [vD, vN]) (.int .i64 0) (.int .i64 0) (.int .i64 D.length) m (.code l09_course.r15 :: .code l09_course.i5 :: .inBlock 1 :: .code l09_course.r3 :: .inLoop l09_course.l0 :: .inBlock 0 :: [.code l09_course.r17, .code .ret]) = some (.bool true, Mem.empty) := by
        intro m
        rw [l09_course.L2_eq]
        simp [-List.drop_zero, i1, i2, hxl, hwr, a]
        done
      rw [l09_course.L0_eq]
      simp [-List.drop_zero, hl.len, hi, i1, i2, hD.one, hN.one, hD.closed, hN.closed, x.closed, hc, hcon, e1, e2]
      done
    | succ i =>
      obtain ⟨h0, hh0, hb⟩ := w.step i hi
      have hmp := (w.all i (by omega)).mem
      obtain ⟨cp, _⟩ := (mem_cuts P.L).1 hmp
      have hrp : ∀ g, 0 ≤ nth (gth l i) g ∧ nth (gth l i) g ≤ 6 := fun g => ⟨cp.lo g, by have := cp.hi g; have := P.L.hi g; omega⟩
      obtain ⟨m', e1⟩ := csum_loop (vD := vD) (vN := vN) hl hi hll hh0 h4 cp.len hb hrp (.code l09_course.r15 :: .code l09_course.i5 :: .inBlock 1 :: .code l09_course.r3 :: .inLoop l09_course.l0 :: .inBlock 0 :: [.code l09_course.r17, .code .ret]) D.length 0 ⟨m.h, m.nx + 16⟩ (by omega)
      rw [if_neg (by omega)] at e1
      have hxl := x.len
      rw [hlen] at hxl
      simp only [Int.natCast_add, Int.cast_ofNat_Int, Int.ofNat_zero] at e1 i1 a hwr ⊢
      have hi0 : ¬ ((i : Int) + 1 = 0) := by omega
      have hi1 : (0 : Int) < (i : Int) + 1 := by omega
      have e2 : ∀ m, l09_course.L2 v (.fptr [vD, vN]) (.int .i64 ((i : Int) + 1)) (.int .i64 1) (.int .i64 D.length) m (.code l09_course.r15 :: .code l09_course.i5 :: .inBlock 1 :: .code l09_course.r3 :: .inLoop l09_course.l0 :: .inBlock 0 :: [.code l09_course.r17, .code .ret]) = some (.bool true, Mem.empty) := by
        intro m
        rw [l09_course.L2_eq]
        simp [i1, i2, hxl, hwr, hi0, hi1, a]
        done
      rw [l09_course.L0_eq]
      have hdi : ((i : Int) + 1 < l.length) := by omega
      simp [hl.len, hdi, i1, i2, hD.one, hN.one, hD.closed, hN.closed, x.closed, hc, hcon, e1, e2]
      done

theorem course_spec {t : AV} (hs : IsTale t D N) (P : Pre D N) (hl : IsVec IsInts v cs l) (hll : l.length < 100000) (w : Way D N S (List.replicate D.length 0) l) (m : Mem) : denC prog ann 48 [t, v] m = some (.bool true, m) := by
  obtain ⟨vD, vN, rfl, h1, h2⟩ := hs.ex
  have := course_loop hs P hl hll w l.length 0 Mem.empty (by omega)
  simp only [Int.cast_ofNat_Int, Int.ofNat_zero] at this
  rw [l09_course.call_eq _ _ _ (by simp [h1.closed, h2.closed, hl.closed])]
  simp [h1.one, h2.one, h1.closed, h2.closed, this]
end
end Go.Proofs.Ytdkmepjedjclkaa

/-
  BODIES OF FUNCTIONS OF THE PROGRAM AS SMALL OPERATIONS (written by gen.py; checked by the kernel against the program). Conditions: none.
-/
namespace Go.Proofs.Ytdkmepjedjclkaa
open Go.AM
open Go.Proofs.Try (prog)
set_option maxRecDepth 100000
set_option linter.all false

end Go.Proofs.Ytdkmepjedjclkaa

/-
  WatchMattern RETURNS TRUE. Conditions: none.
-/
namespace Go.Proofs.Ytdkmepjedjclkaa
open Go.AM
open Go.Proofs.Try (prog)
set_option linter.all false
set_option maxRecDepth 100000
set_option maxHeartbeats 4000000

section
variable {D : List Int} {N : List Note} {K : List (List (List Int))}
variable {vD vN : AV}
end

end Go.Proofs.Ytdkmepjedjclkaa

/-
  BODIES OF FUNCTIONS OF THE PROGRAM AS SMALL OPERATIONS (written by gen.py; checked by the kernel against the program). Conditions: none.
-/
namespace Go.Proofs.Ytdkmepjedjclkaa
open Go.AM
open Go.Proofs.Try (prog)
set_option maxRecDepth 100000
set_option linter.all false

namespace watch_Cuts
/-- pommel/watch.Cuts -/
noncomputable def b : Code := (Try.f35.body).getD .skip
theorem hf : prog.funcs[35]? = some Try.f35 := by kernel_rfl
noncomputable def r0 : Code := findReg b 0
noncomputable def r1 : Code := findReg b 1
noncomputable def r2 : Code := findReg b 2
noncomputable def i0 : Code := findCond b 0
noncomputable def i0t : Code := thenOf i0
noncomputable def i0e : Code := elseOf i0
noncomputable def r3 : Code := findReg b 3
noncomputable def r4 : Code := findReg b 4
theorem b_eq (K : List Item) (s : St) : den prog ann 35 (.code b :: K) s = den prog ann 35 (.code r0 :: .code r1 :: .code r2 :: .code i0 :: .code r4 :: .code .ret :: K) s := den_flat hf (l := [r0, r1, r2, i0, r4, .ret]) (by kernel_rfl) K s
theorem r0_eq (K : List Item) (s : St) : den prog ann 35 (.code r0 :: K) s = mreg prog ann 35 none [] none [] [
    ⟨some 1, none, .v fun s => frozenPtr (s.get 0)⟩,
    ⟨some 2, none, .v fun s => some (.int .i64 0)⟩,
    ⟨some 3, none, .v fun s => some (.int .i64 0)⟩] K s := (den_reg hf _ K s).trans (by kernel_rfl)
theorem r1_eq (K : List Item) (s : St) : den prog ann 35 (.code r1 :: K) s = mreg prog ann 35 none [] none [] [
    ⟨some 7, none, .v fun s => loadF true 2 (s.get 1)⟩,
    ⟨some 8, none, .c 0 (fun s => (.fn 61 [] [])) fun s => [(s.get 7)]⟩,
    ⟨some 6, none, .v fun s => some (s.get 8)⟩,
    ⟨some 9, none, .v fun s => extA (s.get 6) 0⟩,
    ⟨some 10, none, .v fun s => extA (s.get 6) 1⟩,
    ⟨some 4, none, .v fun s => some (s.get 9)⟩,
    ⟨some 5, none, .v fun s => some (s.get 10)⟩] K s := (den_reg hf _ K s).trans (by kernel_rfl)
theorem r2_eq (K : List Item) (s : St) : den prog ann 35 (.code r2 :: K) s = mreg prog ann 35 none [] none [] [
    ⟨some 11, none, .v fun s => some (s.get 5)⟩,
    ⟨some 12, none, .v fun s => unA .not (s.get 11)⟩] K s := (den_reg hf _ K s).trans (by kernel_rfl)
theorem i0_eq (K : List Item) (s : St) : den prog ann 35 (.code i0 :: K) s = ifV prog ann 35 12 i0t i0e K s (s.get 12) := den_if hf (by kernel_rfl) K s
theorem i0t_eq (K : List Item) (s : St) : den prog ann 35 (.code i0t :: K) s = den prog ann 35 (.code r3 :: .code .ret :: K) s := den_flat hf (l := [r3, .ret]) (by kernel_rfl) K s
theorem r3_eq (K : List Item) (s : St) : den prog ann 35 (.code r3 :: K) s = mreg prog ann 35 none [] none [] [
    ⟨some 2, none, .v fun s => some (.int .i64 0)⟩,
    ⟨some 3, none, .v fun s => some (.int .i64 1)⟩] K s := (den_reg hf _ K s).trans (by kernel_rfl)
theorem i0e_eq (K : List Item) (s : St) : den prog ann 35 (.code i0e :: K) s = den prog ann 35 (K) s := den_flat hf (l := []) (by kernel_rfl) K s
theorem r4_eq (K : List Item) (s : St) : den prog ann 35 (.code r4 :: K) s = mreg prog ann 35 none [] none [] [
    ⟨some 13, none, .v fun s => some (s.get 4)⟩,
    ⟨some 14, none, .c 0 (fun s => (.fn 62 [] [])) fun s => [(s.get 13)]⟩,
    ⟨some 15, none, .v fun s => lenSl (s.get 14)⟩,
    ⟨some 2, none, .v fun s => some (s.get 15)⟩,
    ⟨some 3, none, .v fun s => some (.int .i64 0)⟩] K s := (den_reg hf _ K s).trans (by kernel_rfl)
theorem ret_eq (K : List Item) (s : St) : den prog ann 35 (.code .ret :: K) s = finM true [fun s => some (s.get 2), fun s => some (s.get 3)] s := (den_ret hf K s).trans (by kernel_rfl)
theorem nil_eq (s : St) : den prog ann 35 [] s = finM true [fun s => some (s.get 2), fun s => some (s.get 3)] s := (den_nil hf s).trans (by kernel_rfl)
theorem inBlock_eq (id : Nat) (K : List Item) (s : St) : den prog ann 35 (.inBlock id :: K) s = den prog ann 35 K s := den_inBlock hf id K s
theorem exit_eq (id : Nat) (K : List Item) (s : St) : den prog ann 35 (.code (.exit id) :: K) s = exitV prog ann 35 (exitTo id K) s := den_exitV hf id K s
theorem call_eq (v0 : AV) (m : Mem) (h : closedL [v0] = true) : denC prog ann 35 [v0] m = (den prog ann 35 [.code b] ⟨[(0, v0)], 16, Mem.empty⟩).bind fun r => some (r.1, m) := (denC_pure hf (b := b) (by kernel_rfl) (by kernel_rfl) (by kernel_rfl) h m).trans (by kernel_rfl)
theorem pure_eq : (ann 35).pure = true := by kernel_rfl
attribute [simp] b_eq r0_eq r1_eq r2_eq i0_eq i0t_eq r3_eq i0e_eq r4_eq ret_eq nil_eq inBlock_eq exit_eq pure_eq
end watch_Cuts

end Go.Proofs.Ytdkmepjedjclkaa

/-
  WatchBirkhoff RETURNS TRUE. Conditions: none.
-/
namespace Go.Proofs.Ytdkmepjedjclkaa
open Go.AM
open Go.Proofs.Try (prog)
set_option linter.all false
set_option maxRecDepth 100000
set_option maxHeartbeats 4000000

/-- What Cuts hands back. -/
inductive CutsRes (D : List Int) (N : List Note) : Int → Int → Prop where
  | bad (h : ¬ ValidS D N) : CutsRes D N 0 1
  | ok (v : ValidS D N) : CutsRes D N (cutsL D N).length 0
theorem cutsV_spec {v : AV} {D : List Int} {N : List Note} (hs : IsTale v D N) (hl : D.length < 100000) (hn : N.length < 100000) :
    ∃ x e, CutsRes D N x e ∧ ∀ m, denC prog ann 35 [v] m = some (.tup [.int .i64 x, .int .i64 e], m) := by
  obtain ⟨r, hr, er⟩ := readV_spec hs hl hn
  obtain ⟨vD, vN, rfl, h1, h2⟩ := hs.ex
  have hcl : closedL [.agg [vD, vN]] = true := by simp [h1.closed, h2.closed]
  cases hr with
  | no h =>
    refine ⟨0, 1, .bad h, fun m => ?_⟩
    rw [watch_Cuts.call_eq _ _ hcl]
    simp [h1.one, h2.one, h1.closed, h2.closed, er]
  | @ok sv K val k s =>
    obtain ⟨av, ea, ia⟩ := allV s
    have hlen : (allL (pad D) K D.length).length = (cutsL D N).length := by rw [← allL_eq k, List.length_map]
    refine ⟨_, 0, .ok val, fun m => ?_⟩
    rw [watch_Cuts.call_eq _ _ hcl]
    simp [h1.one, h2.one, h1.closed, h2.closed, er, ea, ia.len, hlen, s.closed]

section
variable {D : List Int} {N : List Note} {K : List (List (List Int))} {vD vN vl : AV} {l : List Int}
end

end Go.Proofs.Ytdkmepjedjclkaa

/-
  WatchModal RETURNS TRUE. Conditions: none.
-/
namespace Go.Proofs.Ytdkmepjedjclkaa
open Go.AM
open Go.Proofs.Try (prog)
set_option linter.all false
set_option maxRecDepth 100000
set_option maxHeartbeats 4000000

theorem datV37 {d : Nat} {a : AV} (h : DatV prog (d + 3) 37 a) : ∃ T, IsSl u8s a T ∧ (∀ x ∈ T, x.length = 4) ∧ (∀ x ∈ T, ∀ i, Byte (nth x i)) ∧ (T.length : Int) ≤ 9223372036854775807 := by
  simp only [DatV, u37] at h
  obtain ⟨v, T, e, hn⟩ := dat37 h
  simp at e; subst e
  exact ⟨T, hn⟩

section
variable {D : List Int} {N : List Note} {S : List (List Int)} {vD vN : AV}
theorem mset_loop {vX : AV} {X : List (List Int)} (hs : IsTale (.agg [vD, vN]) D N) (val : ValidS D N) (hX : IsSl u8s vX X) (h4 : ∀ x ∈ X, x.length = 4) (hB : ∀ x ∈ X, ∀ i, Byte (nth x i)) {oid : Nat} (Kc : List Item) : ∀ (k i : Nat) (S : List (List Int)) (m : Mem), i + k = min 200 X.length → S.length = i → (∀ c ∈ S, CutL D c) → m.h oid = some (.cells (flatC rowC S)) →
    ∃ (S' : List (List Int)) (m' : Mem), S'.length = min 200 X.length ∧ (∀ c ∈ S', CutL D c) ∧ m'.h oid = some (.cells (flatC rowC S')) ∧
      l09_WatchModal.L0 vX (.fptr [vD, vN]) (.sl oid 1 0 i i) (.int .i64 i) m Kc = l09_WatchModal.L0 vX (.fptr [vD, vN]) (.sl oid 1 0 (min 200 X.length) (min 200 X.length)) (.int .i64 (min 200 X.length : Nat)) m' Kc := by
  have hs' := hs
  obtain ⟨_, _, e0, hD, hN⟩ := hs.ex
  cases e0
  intro k
  induction k with
  | zero =>
    intro i S m h1 h2 h3 h5
    have e : i = min 200 X.length := by omega
    subst e
    exact ⟨S, m, h2, h3, h5, rfl⟩
  | succ k ih =>
    intro i S m h1 h2 h3 h5
    have hi : i < X.length := by omega
    have hi2 : i < 200 := by omega
    have hwr : IntKind.wrap .i64 ((i : Int) + 1) = (i : Int) + 1 := wrap_id (by omega) (by omega)
    have hg := gth_mem hi
    have x4 := h4 _ hg
    obtain ⟨l, hl, el⟩ := cutN_spec hs' val x4 (hB _ hg)
    have hidx := hX.idx (k := 4) (fun a ha => by simp [h4 a ha]) hi .i64
    have hld : loadF true 4 (.fptr (flatC u8s (X.drop i))) = some (.agg (u8s (gth X i))) := by
      rw [flatC_at (gth_eq hi)]
      have : (u8s (gth X i) ++ flatC u8s (X.drop (i + 1))).take 4 = u8s (gth X i) := List.take_left' (by simp [x4])
      simp only [loadF_fptr, cond_true, this, ble_dec, List.length_append, u8s_len, x4]
      simp
    have hfl : flatC rowC (S ++ [l]) = flatC rowC S ++ [.fsl false l.length (ints l)] := by rw [flatC_append, flatC_one]; rfl
    obtain ⟨S', m', a, b, c, e⟩ := ih (i + 1) (S ++ [l]) ⟨upd m.h oid (some (.cells (flatC rowC S ++ [.fsl false l.length (ints l)]))), m.nx + 10⟩ (by omega) (by simp [h2]) (fun c hc => by
      rcases List.mem_append.1 hc with h | h
      · exact h3 c h
      · simp at h; rw [h]; exact hl) (by simp [hfl])
    refine ⟨S', m', a, b, c, ?_⟩
    simp only [Int.natCast_add, Int.cast_ofNat_Int] at e
    have hlen := hX.len
    rw [← e, l09_WatchModal.L0_eq]
    simp [hlen, hi, show (i : Int) < 200 by omega, hidx, hld, hD.one, hN.one, hD.closed, hN.closed, el, h5, flatC_row_len, h2, hwr, show i ≤ 4611686018427387903 by omega, show (i + 1) * 24 ≤ 70368744177664 by omega]
    done

theorem mall_loop {x6 x10 x11 : AV} (hs : IsTale (.agg [vD, vN]) D N) (val : ValidS D N) (hcf : (cutsL D N).length ≤ 2401) {oid : Nat} (Kc : List Item) : ∀ (k i : Nat) (X : List AV) (m : Mem), i + k = (cutsL D N).length → X.length = i → (∀ j, j < i → IsInts (cAt X j) (gth (cutsL D N) j)) → closedL X = true → m.h oid = some (.cells X) → oid < m.nx →
    ∃ (X' : List AV) (m' : Mem), IsVec IsInts (.fsl false (cutsL D N).length X') X' (cutsL D N) ∧ m'.h oid = some (.cells X') ∧
      l09_WatchModal.L2 (.fptr [vD, vN]) x6 x10 x11 (.int .i64 (cutsL D N).length) (.sl oid 1 0 i i) (.int .i64 i) m Kc =
        l09_WatchModal.L2 (.fptr [vD, vN]) x6 x10 x11 (.int .i64 (cutsL D N).length) (.sl oid 1 0 (cutsL D N).length (cutsL D N).length) (.int .i64 (cutsL D N).length) m' Kc := by
  have hs' := hs
  have h4 := val.n4
  have h24 := val.N24
  obtain ⟨_, _, e0, hD, hN⟩ := hs.ex
  cases e0
  intro k
  induction k with
  | zero =>
    intro i X m h1 hX hR hcl hm hid
    have e : i = (cutsL D N).length := by omega
    subst e
    exact ⟨X, m, ⟨hX, hR, hcl, .inr ⟨false, rfl⟩⟩, hm, rfl⟩
  | succ k ih =>
    intro i X m h1 hX hR hcl hm hid
    have hi : i < (cutsL D N).length := by omega
    have hwr : IntKind.wrap .i64 ((i : Int) + 1) = (i : Int) + 1 := wrap_id (by omega) (by omega)
    obtain ⟨w, e, hr, er⟩ := at_spec hs' (by omega) (by omega) (i : Int)
    obtain ⟨w1, rfl⟩ := hr.ok val (by omega) (by omega)
    have hg : (cutsL D N).getD (i : Int).toNat [] = gth (cutsL D N) i := rfl
    rw [hg] at w1
    obtain ⟨X', m', a, b, c⟩ := ih (i + 1) (X ++ [w]) ⟨upd m.h oid (some (.cells (X ++ [w]))), m.nx⟩ (by omega) (by simp [hX]) (fun j hj => by
      rw [cAt_append, hX]
      by_cases q : j < i
      · rw [if_pos q]; exact hR j q
      · have : j = i := by omega
        subst this
        rw [if_neg q, if_pos rfl]; exact w1) (by simp [hcl, w1.closed]) (by simp) hid
    refine ⟨X', m', a, b, ?_⟩
    simp only [Int.natCast_add, Int.cast_ofNat_Int] at c
    rw [← c, l09_WatchModal.L2_eq]
    simp [hi, show ((cutsL D N).length : Int) ≤ 2500 by omega, hD.one, hN.one, hD.closed, hN.closed, er, w1.one, w1.closed, w1.cells, hm, hX, hwr, show i ≤ 4611686018427387903 by omega, show (i + 1) * 24 ≤ 70368744177664 by omega]
    done

theorem mout_loop {vS vl : AV} {cs cl : List AV} {S l : List (List Int)} (hS : IsVec IsInts vS cs S) (hSw : Short S) (hSl : S.length < 100000) (hl : IsVec IsInts vl cl l) (hlw : Short l) (hll : l.length < 100000) (hno : ∀ i, i < l.length → gth l i ∉ S) {x5 : AV} (Kc : List Item) : ∀ (k i : Nat) (m : Mem), i + k = l.length →
    ∃ m', l09_WatchModal.L4 x5 vS vl (.int .i64 i) m Kc = l09_WatchModal.L4 x5 vS vl (.int .i64 l.length) m' Kc := by
  have inner : ∀ (i : Nat), i < l.length → ∀ (Kc : List Item) (k j : Nat) (m : Mem), j + k = S.length →
      ∃ m', l09_WatchModal.L6 x5 vS vl (.int .i64 i) (.int .i64 j) m Kc = l09_WatchModal.L6 x5 vS vl (.int .i64 i) (.int .i64 S.length) m' Kc := by
    intro i hi Kc k
    have x := hl.at hi
    induction k with
    | zero =>
      intro j m h1
      have e : j = S.length := by omega
      exact ⟨m, by rw [e]⟩
    | succ k ih =>
      intro j m h1
      have hj : j < S.length := by omega
      have hwr : IntKind.wrap .i64 ((j : Int) + 1) = (j : Int) + 1 := wrap_id (by omega) (by omega)
      have y := hS.at hj
      have hne : ¬ gth l i = gth S j := fun e => hno i hi (by rw [e]; exact gth_mem hj)
      have hsame := same_spec x y (by have := hlw i hi; omega) (by have := hSw j hj; omega)
      rw [decide_eq_false hne] at hsame
      obtain ⟨m', a⟩ := ih (j + 1) ⟨m.h, m.nx + 9⟩ (by omega)
      refine ⟨m', ?_⟩
      have hla : ∀ m, loadA false 1 m (.fptr (cs.drop j)) = some (cAt cs j) := fun m => by
        have := hS.load hj
        simpa [loadA, read1] using this
      simp only [Int.natCast_add, Int.cast_ofNat_Int] at a
      have hhd := hS.load hj
      simp at hhd
      rw [← a, l09_WatchModal.L6_eq]
      simp [hS.len, hj, hl.idx hi, hl.load hi, hS.idx hj, hS.load hj, hla, x.closed, y.closed, hsame, hwr]
      done
  intro k
  induction k with
  | zero =>
    intro i m h1
    have e : i = l.length := by omega
    exact ⟨m, by rw [e]⟩
  | succ k ih =>
    intro i m h1
    have hi : i < l.length := by omega
    have hwr : IntKind.wrap .i64 ((i : Int) + 1) = (i : Int) + 1 := wrap_id (by omega) (by omega)
    obtain ⟨m1, a⟩ := inner i hi (.inBlock 5 :: .code l09_WatchModal.r28 :: .inLoop l09_WatchModal.l4 :: .inBlock 4 :: Kc) S.length 0 m (by omega)
    obtain ⟨m2, b⟩ := ih (i + 1) m1 (by omega)
    refine ⟨m2, ?_⟩
    simp only [Int.natCast_add, Int.cast_ofNat_Int, Int.ofNat_zero] at a b
    have c : l09_WatchModal.L6 x5 vS vl (.int .i64 i) (.int .i64 S.length) m1 (.inBlock 5 :: .code l09_WatchModal.r28 :: .inLoop l09_WatchModal.l4 :: .inBlock 4 :: Kc) = l09_WatchModal.L4 x5 vS vl (.int .i64 ((i : Int) + 1)) m1 Kc := by
      rw [l09_WatchModal.L6_eq]
      simp [hS.len, hwr]
      done
    rw [← b, ← c, ← a, l09_WatchModal.L4_eq]
    simp [hl.len, hi]
    done
end

theorem modal_runs {d : Nat} (a0 a1 : AV) (h0 : DatV prog (d + 4) 39 a0) (h1 : DatV prog (d + 4) 37 a1) : ∃ m', denC prog ann 11 [a0, a1] Mem.empty = some (.bool true, m') := by
  obtain ⟨hh, ds, vT, T, t⟩ := datV39 h0
  obtain ⟨X, hX, hX4, hXB, hXl⟩ := datV37 (d := d + 1) h1
  obtain ⟨v, D, N, hs, val, hN12, em⟩ := made_spec t
  have hs' := hs
  have h4 := val.n4
  have P := val.pre
  have L := val.lims
  have hcl : a0.closed = true := by rw [t.eq]; simp [t.vT.closed]
  have ds4 := t.d4
  rw [t.eq] at hcl em ⊢
  have td6 : (.int .u8 hh :: (u8s ds ++ [vT]) : List AV).take 6 = .int .u8 hh :: (u8s ds ++ [vT]) := List.take_of_length_le (by simp [ds4])
  simp at td6
  obtain ⟨vD, vN, rfl, hD, hNn⟩ := hs.ex
  generalize hK : [Item.code l09_WatchModal.r7, .code l09_WatchModal.r8, .code l09_WatchModal.r9, .code l09_WatchModal.r10, .code l09_WatchModal.i1, .code l09_WatchModal.r12, .code l09_WatchModal.r13, .code l09_WatchModal.k2, .code l09_WatchModal.r20, .code l09_WatchModal.r21, .code l09_WatchModal.r22, .code l09_WatchModal.i4, .code l09_WatchModal.r24, .code l09_WatchModal.i5, .code l09_WatchModal.r26, .code l09_WatchModal.k4, .code l09_WatchModal.r34, .code .ret] = KA
  obtain ⟨S, m1, s1, s2, s3, s4⟩ := mset_loop hs' val hX hX4 hXB (oid := 1) KA (min 200 X.length) 0 [] ⟨upd (upd Mem.empty.h 0 none) 1 (some (.cells [])), 2⟩ (by omega) rfl (fun c hc => by cases hc) (by simp)
  simp only [Int.cast_ofNat_Int, Int.ofNat_zero] at s4
  have hXlen := hX.len
  have e0 : den prog ann 11 [.code l09_WatchModal.b] ⟨[(0, .agg (.int .u8 hh :: (u8s ds ++ [vT]))), (1, a1)], 158, Mem.empty⟩ = l09_WatchModal.L0 a1 (.fptr [vD, vN]) (.sl 1 1 0 (min 200 X.length) (min 200 X.length)) (.int .i64 (min 200 X.length : Nat)) m1 KA := by
    rw [← s4, ← hK]
    simp [hcl, t.vT.one, t.vT.closed, ds4, td6, em, hD.one, hNn.one, hD.closed, hNn.closed]
    done
  refine ⟨Mem.empty, ?_⟩
  rw [l09_WatchModal.call_eq _ _ _ (by simp [hcl, hX.closed]), e0, ← hK]
  clear e0 s4 hK
  have q1 : ((min 200 X.length < X.length) = False) ∨ ((min 200 X.length < X.length) = True ∧ ¬ ((min 200 X.length : Nat) : Int) < 200) := by
    by_cases q : min 200 X.length < X.length
    · exact .inr ⟨eq_true q, by omega⟩
    · exact .inl (eq_false q)
  have hk2 : min 200 X.length ≤ 200 := by omega
  generalize min 200 X.length = kk at *
  have hSl : S.length ≤ 200 := by omega
  have hall : S.all (cutB D) = true := List.all_eq_true.2 fun c hc => cutB_iff.2 (s2 c hc)
  have hsh : Short S := fun i hi => by rw [(s2 _ (gth_mem hi)).len]; omega
  have hvS := vec_rows false S
  obtain ⟨p, e, hp, ep⟩ := possV_spec hs' (by omega) (by omega) hvS (by omega) hsh
  obtain ⟨w, f, hw, ew⟩ := defV_spec hs' (by omega) (by omega) hvS (by omega) hsh
  obtain ⟨nn, g, hc, ec⟩ := cutsV_spec hs' (by omega) (by omega)
  have hcf := cuts_few (N := N) L
  cases hc with
  | bad h => exact absurd val h
  | ok _ =>
  -- with the set of all cuts
  obtain ⟨Xa, ma, b1, b2, b3⟩ := mall_loop (x6 := .fsl false S.length (flatC rowC S)) (x10 := w) (x11 := .int .i64 f) hs' val hcf (oid := m1.nx) [.code l09_WatchModal.r20, .code l09_WatchModal.r21, .code l09_WatchModal.r22, .code l09_WatchModal.i4, .code l09_WatchModal.r24, .code l09_WatchModal.i5, .code l09_WatchModal.r26, .code l09_WatchModal.k4, .code l09_WatchModal.r34, .code .ret] (cutsL D N).length 0 [] ⟨upd (upd m1.h 1 none) m1.nx (some (.cells [])), m1.nx + 1⟩ (by omega) rfl (fun j hj => by omega) rfl (by simp) (by show m1.nx < m1.nx + 1; omega)
  simp only [Int.cast_ofNat_Int, Int.ofNat_zero] at b3
  have hsha : Short (cutsL D N) := fun i hi => by rw [cutsL_row (gth_mem hi)]; omega
  obtain ⟨wa, fa, hwa, ewa⟩ := defV_spec hs' (by omega) (by omega) b1 (by omega) hsha
  have halla : (cutsL D N).all (cutB D) = true := List.all_eq_true.2 fun c hc => cutB_iff.2 ((mem_cuts L).1 hc).1
  cases hwa with
  | bad h => exact absurd val h
  | long _ h => omega
  | form _ _ h => rw [halla] at h; cases h
  | ok _ _ _ hcan _ => exact absurd hcan.mem hcan.out
  | none _ _ _ _ =>
  -- with none
  obtain ⟨wn, fn, hwn, ewn⟩ := defV_spec hs' (by omega) (by omega) (vec_nil (R := IsInts)) (by simp) (fun i hi => by simp at hi)
  have hfree : ∀ (S : List (List Int)), (∀ c ∈ cutsL D N, c ∉ S) → Can D N S (List.replicate D.length 0) := fun S h => can_free P val.all h
  have ways : ∀ {S : List (List Int)} {l : List (List Int)}, Can D N S (List.replicate D.length 0) → Path D N S (List.replicate D.length 0) l → ∀ ex m, denC prog ann 48 [.agg [vD, vN], .fsl ex l.length (flatC rowC l)] m = some (.bool true, m) := fun hc hp ex m =>
    course_spec hs' P (vec_rows ex _) (by have := path_few P hp; omega) (hp.way hc) m
  cases hwn with
  | bad h => exact absurd val h
  | long _ h => simp at h
  | form _ _ h => simp at h
  | none _ _ _ h => exact absurd (hfree [] fun c _ hc => by cases hc) h
  | @ok exn ln _ _ _ hcn hpn =>
  have wayn := ways hcn hpn exn
  have hfz : ∀ ex n cs m, frzV (AV.fsl ex n cs) m = some (.fsl ex n cs, m) := fun _ _ _ _ => rfl
  have hclS : closedL (flatC rowC S) = true := flatC_closedL (fun _ => rfl) S
  have hflS := flatC_row_len S
  have htkS : (flatC rowC S).take kk = flatC rowC S := List.take_of_length_le (by omega)
  have hXal : Xa.length = (cutsL D N).length := b1.n
  have hXac : closedL Xa = true := b1.cl
  have htka : Xa.take (cutsL D N).length = Xa := List.take_of_length_le (by omega)
  have hex : ¬ ((cutsL D N).length < (cutsL D N).length) := by omega
  rw [s1] at hvS ep ew b3
  have fin : ∀ (x6 x10 : AV) (f' : Int) m, l09_WatchModal.L2 (.fptr [vD, vN]) x6 x10 (.int .i64 f') (.int .i64 (cutsL D N).length) (.sl m1.nx 1 0 (cutsL D N).length (cutsL D N).length) (.int .i64 (cutsL D N).length) ma [.code l09_WatchModal.r20, .code l09_WatchModal.r21, .code l09_WatchModal.r22, .code l09_WatchModal.i4, .code l09_WatchModal.r24, .code l09_WatchModal.i5, .code l09_WatchModal.r26, .code l09_WatchModal.k4, .code l09_WatchModal.r34, .code .ret] = some (.bool true, m) → True := fun _ _ _ _ _ => trivial
  cases hw with
  | bad h => exact absurd val h
  | long _ h => omega
  | form _ _ h => rw [hall] at h; cases h
  | none _ _ _ hn =>
    cases hp with
    | bad h => exact absurd val h
    | long _ h => omega
    | form _ _ h => rw [hall] at h; cases h
    | none _ _ _ hq =>
      exact absurd (hfree S fun c hc hcS => by
        have := List.find?_eq_none.1 hq c hc
        simp [hcS] at this) hn
    | ok _ _ _ _ ip =>
      have e1 : l09_WatchModal.L2 (.fptr [vD, vN]) (.fsl false kk (flatC rowC S)) .nils (.int .i64 5) (.int .i64 (cutsL D N).length) (.sl m1.nx 1 0 0 0) (.int .i64 0) ⟨upd (upd m1.h 1 none) m1.nx (some (.cells [])), m1.nx + 1⟩ [.code l09_WatchModal.r20, .code l09_WatchModal.r21, .code l09_WatchModal.r22, .code l09_WatchModal.i4, .code l09_WatchModal.r24, .code l09_WatchModal.i5, .code l09_WatchModal.r26, .code l09_WatchModal.k4, .code l09_WatchModal.r34, .code .ret] = some (.bool true, Mem.empty) := by
        rw [b3, l09_WatchModal.L2_eq]
        simp [b2, hXal, hXac, htka, hD.one, hNn.one, hD.closed, hNn.closed, ewa, ewn, wayn]
        done
      rw [l09_WatchModal.L0_eq]
      rcases q1 with q1 | ⟨q1, q2⟩
      · simp [hXlen, q1, s3, hflS, s1, hclS, htkS, hD.one, hNn.one, hD.closed, hNn.closed, ep, ew, ec, ip.closed, ip.one, lives_spec, e1]
        done
      · simp [hXlen, q1, q2, s3, hflS, s1, hclS, htkS, hD.one, hNn.one, hD.closed, hNn.closed, ep, ew, ec, ip.closed, ip.one, lives_spec, e1]
        done
  | @ok exd ld _ _ _ hcd hpd =>
    have wayd := ways hcd hpd exd
    have wy := hpd.way hcd
    have few := path_few P hpd
    have shd : Short ld := fun i hi => by rw [hpd.row (by simp) _ (gth_mem hi)]; omega
    have eo := fun m => mout_loop (x5 := .fptr [vD, vN]) hvS hsh (by omega) (vec_rows exd ld) shd (by omega) (fun i hi => (wy.all i hi).out) [.code l09_WatchModal.r34, .code .ret] ld.length 0 m (by omega)
    have eo2 : ∀ m, l09_WatchModal.L4 (.fptr [vD, vN]) (.fsl false kk (flatC rowC S)) (.fsl exd ld.length (flatC rowC ld)) (.int .i64 0) m [.code l09_WatchModal.r34, .code .ret] = some (.bool true, Mem.empty) := fun m => by
      obtain ⟨m', a⟩ := eo m
      simp only [Int.cast_ofNat_Int, Int.ofNat_zero] at a
      rw [a, l09_WatchModal.L4_eq]
      simp [hD.one, hNn.one, hD.closed, hNn.closed, wayd]
      done
    have e1 : l09_WatchModal.L2 (.fptr [vD, vN]) (.fsl false kk (flatC rowC S)) (.fsl exd ld.length (flatC rowC ld)) (.int .i64 0) (.int .i64 (cutsL D N).length) (.sl m1.nx 1 0 0 0) (.int .i64 0) ⟨upd (upd m1.h 1 none) m1.nx (some (.cells [])), m1.nx + 1⟩ [.code l09_WatchModal.r20, .code l09_WatchModal.r21, .code l09_WatchModal.r22, .code l09_WatchModal.i4, .code l09_WatchModal.r24, .code l09_WatchModal.i5, .code l09_WatchModal.r26, .code l09_WatchModal.k4, .code l09_WatchModal.r34, .code .ret] = some (.bool true, Mem.empty) := by
      rw [b3, l09_WatchModal.L2_eq]
      simp [b2, hXal, hXac, htka, hD.one, hNn.one, hD.closed, hNn.closed, ewa, ewn, wayn, eo2]
      done
    have pe : (e = 0 ∨ e = 5) ∧ p.closed = true ∧ p.one = true := by
      cases hp with
      | bad h => exact absurd val h
      | long _ h => omega
      | form _ _ h => rw [hall] at h; cases h
      | none => exact ⟨.inr rfl, rfl, rfl⟩
      | ok _ _ _ _ ip => exact ⟨.inl rfl, ip.closed, ip.one⟩
    obtain ⟨pe, pc, po⟩ := pe
    rw [l09_WatchModal.L0_eq]
    rcases q1 with q1 | ⟨q1, q2⟩ <;> rcases pe with rfl | rfl
    · simp [hXlen, q1, s3, hflS, s1, hclS, htkS, hD.one, hNn.one, hD.closed, hNn.closed, ep, ew, ec, pc, po, lives_spec, e1]
      done
    · simp [hXlen, q1, s3, hflS, s1, hclS, htkS, hD.one, hNn.one, hD.closed, hNn.closed, ep, ew, ec, pc, po, lives_spec, e1]
      done
    · simp [hXlen, q1, q2, s3, hflS, s1, hclS, htkS, hD.one, hNn.one, hD.closed, hNn.closed, ep, ew, ec, pc, po, lives_spec, e1]
      done
    · simp [hXlen, q1, q2, s3, hflS, s1, hclS, htkS, hD.one, hNn.one, hD.closed, hNn.closed, ep, ew, ec, pc, po, lives_spec, e1]
      done
end Go.Proofs.Ytdkmepjedjclkaa
