/-
  BODIES OF FUNCTIONS OF THE PROGRAM AS SMALL OPERATIONS (written by gen.py; checked by the kernel against the program). Conditions: none.
-/
import Derived.Test.YtdkmepjedjclkaaKAmH
set_option linter.all false
namespace Go.Proofs.Ytdkmepjedjclkaa
open Go.AM
open Go.Proofs.Try (prog)
set_option maxRecDepth 100000
set_option linter.all false

namespace l09_WatchMattern
/-- pommel/pommellaw09.WatchMattern -/
noncomputable def b : Code := (Try.f9.body).getD .skip
theorem hf : prog.funcs[9]? = some Try.f9 := by kernel_rfl
noncomputable def r0 : Code := findReg b 0
noncomputable def r1 : Code := findReg b 1
noncomputable def r2 : Code := findReg b 2
noncomputable def r3 : Code := findReg b 3
noncomputable def i0 : Code := findCond b 0
noncomputable def i0t : Code := thenOf i0
noncomputable def i0e : Code := elseOf i0
noncomputable def r4 : Code := findReg b 4
noncomputable def r5 : Code := findReg b 5
noncomputable def k0 : Code := findBlk b 0
noncomputable def l0 : Code := loopOf k0
noncomputable def L0 (x3 x4 x6 : AV) (m : Mem) (K : List Item) : Option Res := den prog ann 9 (.code l0 :: .inLoop l0 :: .inBlock 0 :: K) ⟨[(3, x3), (4, x4), (6, x6)], 145, m⟩
noncomputable def r6 : Code := findReg b 6
noncomputable def i1 : Code := findCond b 1
noncomputable def i1t : Code := thenOf i1
noncomputable def i1e : Code := elseOf i1
noncomputable def k1 : Code := findBlk b 1
noncomputable def r8 : Code := findReg b 8
noncomputable def i2 : Code := findCond b 2
noncomputable def i2t : Code := thenOf i2
noncomputable def i2e : Code := elseOf i2
noncomputable def r9 : Code := findReg b 9
noncomputable def r10 : Code := findReg b 10
noncomputable def k2 : Code := findBlk b 2
noncomputable def l2 : Code := loopOf k2
noncomputable def L2 (x3 x4 x6 x7 : AV) (m : Mem) (K : List Item) : Option Res := den prog ann 9 (.code l2 :: .inLoop l2 :: .inBlock 2 :: K) ⟨[(3, x3), (4, x4), (6, x6), (7, x7)], 145, m⟩
noncomputable def r11 : Code := findReg b 11
noncomputable def i3 : Code := findCond b 3
noncomputable def i3t : Code := thenOf i3
noncomputable def i3e : Code := elseOf i3
noncomputable def k3 : Code := findBlk b 3
noncomputable def r13 : Code := findReg b 13
noncomputable def i4 : Code := findCond b 4
noncomputable def i4t : Code := thenOf i4
noncomputable def i4e : Code := elseOf i4
noncomputable def r14 : Code := findReg b 14
noncomputable def r12 : Code := findReg b 12
noncomputable def r7 : Code := findReg b 7
noncomputable def r15 : Code := findReg b 15
noncomputable def k4 : Code := findBlk b 4
noncomputable def l4 : Code := loopOf k4
noncomputable def L4 (x3 x4 x8 : AV) (m : Mem) (K : List Item) : Option Res := den prog ann 9 (.code l4 :: .inLoop l4 :: .inBlock 4 :: K) ⟨[(3, x3), (4, x4), (8, x8)], 145, m⟩
noncomputable def r16 : Code := findReg b 16
noncomputable def i5 : Code := findCond b 5
noncomputable def i5t : Code := thenOf i5
noncomputable def i5e : Code := elseOf i5
noncomputable def k5 : Code := findBlk b 5
noncomputable def r18 : Code := findReg b 18
noncomputable def k6 : Code := findBlk b 6
noncomputable def l6 : Code := loopOf k6
noncomputable def L6 (x3 x4 x8 x9 : AV) (m : Mem) (K : List Item) : Option Res := den prog ann 9 (.code l6 :: .inLoop l6 :: .inBlock 6 :: K) ⟨[(3, x3), (4, x4), (8, x8), (9, x9)], 145, m⟩
noncomputable def r19 : Code := findReg b 19
noncomputable def i6 : Code := findCond b 6
noncomputable def i6t : Code := thenOf i6
noncomputable def i6e : Code := elseOf i6
noncomputable def k7 : Code := findBlk b 7
noncomputable def r21 : Code := findReg b 21
noncomputable def k8 : Code := findBlk b 8
noncomputable def l8 : Code := loopOf k8
noncomputable def L8 (x3 x4 x8 x9 x10 : AV) (m : Mem) (K : List Item) : Option Res := den prog ann 9 (.code l8 :: .inLoop l8 :: .inBlock 8 :: K) ⟨[(3, x3), (4, x4), (8, x8), (9, x9), (10, x10)], 145, m⟩
noncomputable def r22 : Code := findReg b 22
noncomputable def i7 : Code := findCond b 7
noncomputable def i7t : Code := thenOf i7
noncomputable def i7e : Code := elseOf i7
noncomputable def k9 : Code := findBlk b 9
noncomputable def r24 : Code := findReg b 24
noncomputable def k10 : Code := findBlk b 10
noncomputable def l10 : Code := loopOf k10
noncomputable def L10 (x3 x4 x8 x9 x10 x11 : AV) (m : Mem) (K : List Item) : Option Res := den prog ann 9 (.code l10 :: .inLoop l10 :: .inBlock 10 :: K) ⟨[(3, x3), (4, x4), (8, x8), (9, x9), (10, x10), (11, x11)], 145, m⟩
noncomputable def r25 : Code := findReg b 25
noncomputable def i8 : Code := findCond b 8
noncomputable def i8t : Code := thenOf i8
noncomputable def i8e : Code := elseOf i8
noncomputable def k11 : Code := findBlk b 11
noncomputable def r27 : Code := findReg b 27
noncomputable def r28 : Code := findReg b 28
noncomputable def i9 : Code := findCond b 9
noncomputable def i9t : Code := thenOf i9
noncomputable def i9e : Code := elseOf i9
noncomputable def r29 : Code := findReg b 29
noncomputable def r26 : Code := findReg b 26
noncomputable def r23 : Code := findReg b 23
noncomputable def r20 : Code := findReg b 20
noncomputable def r17 : Code := findReg b 17
noncomputable def r30 : Code := findReg b 30
theorem b_eq (K : List Item) (s : St) : den prog ann 9 (.code b :: K) s = den prog ann 9 (.code r0 :: .code r1 :: .code r2 :: .code r3 :: .code i0 :: .code r5 :: .code k0 :: .code r15 :: .code k4 :: .code r30 :: .code .ret :: K) s := den_flat hf (l := [r0, r1, r2, r3, i0, r5, k0, r15, k4, r30, .ret]) (by kernel_rfl) K s
theorem r0_eq (K : List Item) (s : St) : den prog ann 9 (.code r0 :: K) s = mreg prog ann 9 none [] none [] [
    ⟨some 1, none, .v fun s => frozenPtr (s.get 0)⟩,
    ⟨some 2, none, .v fun s => some (.bool false)⟩] K s := (den_reg hf _ K s).trans (by kernel_rfl)
theorem r1_eq (K : List Item) (s : St) : den prog ann 9 (.code r1 :: K) s = mreg prog ann 9 none [] none [3] [
    ⟨some 14, none, .v fun s => loadF true 6 (s.get 1)⟩,
    ⟨some 15, none, .c 0 (fun s => (.fn 23 [] [])) fun s => [(s.get 14)]⟩,
    ⟨some 3, none, .w false none fun s => newPtr s.m [.nils, .nils]⟩,
    ⟨none, none, .w false none fun s => stA true 2 s.m (s.get 3) (s.get 15)⟩] K s := (den_reg hf _ K s).trans (by kernel_rfl)
theorem r2_eq (K : List Item) (s : St) : den prog ann 9 (.code r2 :: K) s = mreg prog ann 9 none [] none [] [
    ⟨some 17, none, .v fun s => loadF true 2 (s.get 3)⟩,
    ⟨some 18, none, .c 2 (fun s => (.fn 43 [] [])) fun s => [(s.get 17)]⟩,
    ⟨some 16, none, .v fun s => some (s.get 18)⟩,
    ⟨some 19, none, .v fun s => extA (s.get 16) 0⟩,
    ⟨some 20, none, .v fun s => extA (s.get 16) 1⟩,
    ⟨some 4, none, .v fun s => some (s.get 19)⟩,
    ⟨some 5, none, .v fun s => some (s.get 20)⟩] K s := (den_reg hf _ K s).trans (by kernel_rfl)
theorem r3_eq (K : List Item) (s : St) : den prog ann 9 (.code r3 :: K) s = mreg prog ann 9 none [] none [] [
    ⟨some 21, none, .v fun s => some (s.get 5)⟩,
    ⟨some 22, none, .v fun s => binA prog .neq 27 (s.get 21) (.int .i64 0)⟩,
    ⟨some 23, none, .v fun s => some (s.get 22)⟩,
    ⟨some 24, some (23, false), .v fun s => some (s.get 4)⟩,
    ⟨some 25, some (23, false), .v fun s => lenSl (s.get 24)⟩,
    ⟨some 26, some (23, false), .v fun s => fieldA 0 (s.get 3)⟩,
    ⟨some 27, some (23, false), .v fun s => loadF false 1 (s.get 26)⟩,
    ⟨some 28, some (23, false), .v fun s => lenSl (s.get 27)⟩,
    ⟨some 29, some (23, false), .v fun s => binA prog .neq 3 (s.get 25) (s.get 28)⟩,
    ⟨some 30, none, .v fun s => pickA (s.get 23) (.bool true) (s.get 29)⟩,
    ⟨some 31, none, .v fun s => some (s.get 30)⟩,
    ⟨some 32, some (31, false), .c 0 (fun s => (.fn 22 [] [])) fun s => []⟩,
    ⟨some 33, some (31, false), .v fun s => unA .not (s.get 32)⟩,
    ⟨some 34, none, .v fun s => pickA (s.get 31) (.bool true) (s.get 33)⟩] K s := (den_reg hf _ K s).trans (by kernel_rfl)
theorem i0_eq (K : List Item) (s : St) : den prog ann 9 (.code i0 :: K) s = ifV prog ann 9 34 i0t i0e K s (s.get 34) := den_if hf (by kernel_rfl) K s
theorem i0t_eq (K : List Item) (s : St) : den prog ann 9 (.code i0t :: K) s = den prog ann 9 (.code r4 :: .code .ret :: K) s := den_flat hf (l := [r4, .ret]) (by kernel_rfl) K s
theorem r4_eq (K : List Item) (s : St) : den prog ann 9 (.code r4 :: K) s = mreg prog ann 9 none [] none [] [
    ⟨some 2, none, .v fun s => some (.bool false)⟩] K s := (den_reg hf _ K s).trans (by kernel_rfl)
theorem i0e_eq (K : List Item) (s : St) : den prog ann 9 (.code i0e :: K) s = den prog ann 9 (K) s := den_flat hf (l := []) (by kernel_rfl) K s
theorem r5_eq (K : List Item) (s : St) : den prog ann 9 (.code r5 :: K) s = mreg prog ann 9 none [] none [] [
    ⟨some 6, none, .v fun s => some (.int .i64 0)⟩] K s := (den_reg hf _ K s).trans (by kernel_rfl)
theorem k0_eq (K : List Item) (t : List (Nat × AV)) (m : Mem) : den prog ann 9 (.code k0 :: K) ⟨t, 145, m⟩ = L0 (get t 3) (get t 4) (get t 6) m K := den_loop_enter hf (b := l0) (id := 6) (l := [3, 4, 6]) (by kernel_rfl) (by kernel_rfl) (by kernel_rfl) K _
theorem l0_eq (K : List Item) (t : List (Nat × AV)) (m : Mem) : den prog ann 9 (.inLoop l0 :: .inBlock 0 :: K) ⟨t, 145, m⟩ = L0 (get t 3) (get t 4) (get t 6) m K := den_loop_again hf (id := 6) (l := [3, 4, 6]) (by kernel_rfl) (by kernel_rfl) (.inBlock 0 :: K) _
theorem L0_eq (x3 x4 x6 : AV) (m : Mem) (K : List Item) : L0 x3 x4 x6 m K = den prog ann 9 (.code r6 :: .code i1 :: .code k1 :: .code r7 :: .inLoop l0 :: .inBlock 0 :: K) ⟨[(3, x3), (4, x4), (6, x6)], 145, m⟩ := den_flat hf (l := [r6, i1, k1, r7]) (by kernel_rfl) _ _
theorem r6_eq (K : List Item) (s : St) : den prog ann 9 (.code r6 :: K) s = mreg prog ann 9 (some [3, 4, 6]) [] none [] [
    ⟨some 35, none, .v fun s => some (s.get 6)⟩,
    ⟨some 36, none, .v fun s => some (s.get 4)⟩,
    ⟨some 37, none, .v fun s => lenSl (s.get 36)⟩,
    ⟨some 38, none, .v fun s => binA prog .lss 3 (s.get 35) (s.get 37)⟩] K s := (den_reg hf _ K s).trans (by kernel_rfl)
theorem i1_eq (K : List Item) (s : St) : den prog ann 9 (.code i1 :: K) s = ifV prog ann 9 38 i1t i1e K s (s.get 38) := den_if hf (by kernel_rfl) K s
theorem i1t_eq (K : List Item) (s : St) : den prog ann 9 (.code i1t :: K) s = den prog ann 9 (K) s := den_flat hf (l := []) (by kernel_rfl) K s
theorem i1e_eq (K : List Item) (s : St) : den prog ann 9 (.code i1e :: K) s = den prog ann 9 (.code (.exit 0) :: K) s := den_flat hf (l := [(.exit 0)]) (by kernel_rfl) K s
theorem k1_eq (K : List Item) (s : St) : den prog ann 9 (.code k1 :: K) s = den prog ann 9 (.code r8 :: .code i2 :: .code r10 :: .code k2 :: .inBlock 1 :: K) s := den_blk hf (b := blkOf k1) (l := [r8, i2, r10, k2]) (by kernel_rfl) (by kernel_rfl) K s
theorem r8_draw : drawOk (fun g => (ann g).pure) (modeOf (ann 9) (idOf r8)) (frzOf (ann 9) (idOf r8)) (opsOf r8) = true := drawOk_of (an := [0, 0, 3, 7, 15, 0, 32, 0, 224, 480, 1023]) (by kernel_rfl) (by kernel_rfl)
theorem r8_eq (K : List Item) (s : St) : den prog ann 9 (.code r8 :: K) s = mreg prog ann 9 none [] (some 11) [] [
    ⟨some 41, none, .v fun s => some (s.get 4)⟩,
    ⟨some 42, none, .v fun s => some (s.get 6)⟩,
    ⟨some 43, none, .v fun s => idxSl 1 (s.get 41) (s.get 42)⟩,
    ⟨some 44, none, .v fun s => loadF false 1 (s.get 43)⟩,
    ⟨some 45, none, .v fun s => lenSl (s.get 44)⟩,
    ⟨some 46, none, .v fun s => fieldA 0 (s.get 3)⟩,
    ⟨some 47, none, .v fun s => loadF false 1 (s.get 46)⟩,
    ⟨some 48, none, .v fun s => some (s.get 6)⟩,
    ⟨some 49, none, .v fun s => idxSl 1 (s.get 47) (s.get 48)⟩,
    ⟨some 50, none, .v fun s => loadA false 1 s.m (s.get 49)⟩,
    ⟨some 51, none, .v fun s => binA prog .neq 3 (s.get 45) (s.get 50)⟩] K s := (den_regD hf r8_draw K s).trans (by kernel_rfl)
theorem i2_eq (K : List Item) (s : St) : den prog ann 9 (.code i2 :: K) s = ifV prog ann 9 51 i2t i2e K s (s.get 51) := den_if hf (by kernel_rfl) K s
theorem i2t_eq (K : List Item) (s : St) : den prog ann 9 (.code i2t :: K) s = den prog ann 9 (.code r9 :: .code .ret :: K) s := den_flat hf (l := [r9, .ret]) (by kernel_rfl) K s
theorem r9_eq (K : List Item) (s : St) : den prog ann 9 (.code r9 :: K) s = mreg prog ann 9 none [] none [] [
    ⟨some 2, none, .v fun s => some (.bool false)⟩] K s := (den_reg hf _ K s).trans (by kernel_rfl)
theorem i2e_eq (K : List Item) (s : St) : den prog ann 9 (.code i2e :: K) s = den prog ann 9 (K) s := den_flat hf (l := []) (by kernel_rfl) K s
theorem r10_eq (K : List Item) (s : St) : den prog ann 9 (.code r10 :: K) s = mreg prog ann 9 none [] none [] [
    ⟨some 7, none, .v fun s => some (.int .i64 0)⟩] K s := (den_reg hf _ K s).trans (by kernel_rfl)
theorem k2_eq (K : List Item) (t : List (Nat × AV)) (m : Mem) : den prog ann 9 (.code k2 :: K) ⟨t, 145, m⟩ = L2 (get t 3) (get t 4) (get t 6) (get t 7) m K := den_loop_enter hf (b := l2) (id := 11) (l := [3, 4, 6, 7]) (by kernel_rfl) (by kernel_rfl) (by kernel_rfl) K _
theorem l2_eq (K : List Item) (t : List (Nat × AV)) (m : Mem) : den prog ann 9 (.inLoop l2 :: .inBlock 2 :: K) ⟨t, 145, m⟩ = L2 (get t 3) (get t 4) (get t 6) (get t 7) m K := den_loop_again hf (id := 11) (l := [3, 4, 6, 7]) (by kernel_rfl) (by kernel_rfl) (.inBlock 2 :: K) _
theorem L2_eq (x3 x4 x6 x7 : AV) (m : Mem) (K : List Item) : L2 x3 x4 x6 x7 m K = den prog ann 9 (.code r11 :: .code i3 :: .code k3 :: .code r12 :: .inLoop l2 :: .inBlock 2 :: K) ⟨[(3, x3), (4, x4), (6, x6), (7, x7)], 145, m⟩ := den_flat hf (l := [r11, i3, k3, r12]) (by kernel_rfl) _ _
theorem r11_eq (K : List Item) (s : St) : den prog ann 9 (.code r11 :: K) s = mreg prog ann 9 (some [3, 4, 6, 7]) [] none [] [
    ⟨some 52, none, .v fun s => some (s.get 7)⟩,
    ⟨some 53, none, .v fun s => some (s.get 4)⟩,
    ⟨some 54, none, .v fun s => some (s.get 6)⟩,
    ⟨some 55, none, .v fun s => idxSl 1 (s.get 53) (s.get 54)⟩,
    ⟨some 56, none, .v fun s => loadF false 1 (s.get 55)⟩,
    ⟨some 57, none, .v fun s => lenSl (s.get 56)⟩,
    ⟨some 58, none, .v fun s => binA prog .lss 3 (s.get 52) (s.get 57)⟩] K s := (den_reg hf _ K s).trans (by kernel_rfl)
theorem i3_eq (K : List Item) (s : St) : den prog ann 9 (.code i3 :: K) s = ifV prog ann 9 58 i3t i3e K s (s.get 58) := den_if hf (by kernel_rfl) K s
theorem i3t_eq (K : List Item) (s : St) : den prog ann 9 (.code i3t :: K) s = den prog ann 9 (K) s := den_flat hf (l := []) (by kernel_rfl) K s
theorem i3e_eq (K : List Item) (s : St) : den prog ann 9 (.code i3e :: K) s = den prog ann 9 (.code (.exit 2) :: K) s := den_flat hf (l := [(.exit 2)]) (by kernel_rfl) K s
theorem k3_eq (K : List Item) (s : St) : den prog ann 9 (.code k3 :: K) s = den prog ann 9 (.code r13 :: .code i4 :: .inBlock 3 :: K) s := den_blk hf (b := blkOf k3) (l := [r13, i4]) (by kernel_rfl) (by kernel_rfl) K s
theorem r13_draw : drawOk (fun g => (ann g).pure) (modeOf (ann 9) (idOf r13)) (frzOf (ann 9) (idOf r13)) (opsOf r13) = true := drawOk_of (an := [0, 0, 0, 6, 14, 0, 62, 126, 255, 511]) (by kernel_rfl) (by kernel_rfl)
theorem r13_eq (K : List Item) (s : St) : den prog ann 9 (.code r13 :: K) s = mreg prog ann 9 none [] (some 10) [] [
    ⟨some 61, none, .v fun s => loadF true 2 (s.get 3)⟩,
    ⟨some 62, none, .v fun s => some (s.get 4)⟩,
    ⟨some 63, none, .v fun s => some (s.get 6)⟩,
    ⟨some 64, none, .v fun s => idxSl 1 (s.get 62) (s.get 63)⟩,
    ⟨some 65, none, .v fun s => loadF false 1 (s.get 64)⟩,
    ⟨some 66, none, .v fun s => some (s.get 7)⟩,
    ⟨some 67, none, .v fun s => idxSl 1 (s.get 65) (s.get 66)⟩,
    ⟨some 68, none, .v fun s => loadF false 1 (s.get 67)⟩,
    ⟨some 69, none, .c 0 (fun s => (.fn 27 [] [])) fun s => [(s.get 61), (s.get 68)]⟩,
    ⟨some 70, none, .v fun s => unA .not (s.get 69)⟩] K s := (den_regD hf r13_draw K s).trans (by kernel_rfl)
theorem i4_eq (K : List Item) (s : St) : den prog ann 9 (.code i4 :: K) s = ifV prog ann 9 70 i4t i4e K s (s.get 70) := den_if hf (by kernel_rfl) K s
theorem i4t_eq (K : List Item) (s : St) : den prog ann 9 (.code i4t :: K) s = den prog ann 9 (.code r14 :: .code .ret :: K) s := den_flat hf (l := [r14, .ret]) (by kernel_rfl) K s
theorem r14_eq (K : List Item) (s : St) : den prog ann 9 (.code r14 :: K) s = mreg prog ann 9 none [] none [] [
    ⟨some 2, none, .v fun s => some (.bool false)⟩] K s := (den_reg hf _ K s).trans (by kernel_rfl)
theorem i4e_eq (K : List Item) (s : St) : den prog ann 9 (.code i4e :: K) s = den prog ann 9 (K) s := den_flat hf (l := []) (by kernel_rfl) K s
theorem r12_eq (K : List Item) (s : St) : den prog ann 9 (.code r12 :: K) s = mreg prog ann 9 (some [3, 4, 6, 7]) [] none [] [
    ⟨some 59, none, .v fun s => some (s.get 7)⟩,
    ⟨some 60, none, .v fun s => binA prog .add 3 (s.get 59) (.int .i64 1)⟩,
    ⟨some 7, none, .v fun s => some (s.get 60)⟩] K s := (den_reg hf _ K s).trans (by kernel_rfl)
theorem r7_eq (K : List Item) (s : St) : den prog ann 9 (.code r7 :: K) s = mreg prog ann 9 (some [3, 4, 6]) [] none [] [
    ⟨some 39, none, .v fun s => some (s.get 6)⟩,
    ⟨some 40, none, .v fun s => binA prog .add 3 (s.get 39) (.int .i64 1)⟩,
    ⟨some 6, none, .v fun s => some (s.get 40)⟩] K s := (den_reg hf _ K s).trans (by kernel_rfl)
theorem r15_eq (K : List Item) (s : St) : den prog ann 9 (.code r15 :: K) s = mreg prog ann 9 (some [3, 4]) [] none [] [
    ⟨some 8, none, .v fun s => some (.int .i64 0)⟩] K s := (den_reg hf _ K s).trans (by kernel_rfl)
theorem k4_eq (K : List Item) (t : List (Nat × AV)) (m : Mem) : den prog ann 9 (.code k4 :: K) ⟨t, 145, m⟩ = L4 (get t 3) (get t 4) (get t 8) m K := den_loop_enter hf (b := l4) (id := 16) (l := [3, 4, 8]) (by kernel_rfl) (by kernel_rfl) (by kernel_rfl) K _
theorem l4_eq (K : List Item) (t : List (Nat × AV)) (m : Mem) : den prog ann 9 (.inLoop l4 :: .inBlock 4 :: K) ⟨t, 145, m⟩ = L4 (get t 3) (get t 4) (get t 8) m K := den_loop_again hf (id := 16) (l := [3, 4, 8]) (by kernel_rfl) (by kernel_rfl) (.inBlock 4 :: K) _
theorem L4_eq (x3 x4 x8 : AV) (m : Mem) (K : List Item) : L4 x3 x4 x8 m K = den prog ann 9 (.code r16 :: .code i5 :: .code k5 :: .code r17 :: .inLoop l4 :: .inBlock 4 :: K) ⟨[(3, x3), (4, x4), (8, x8)], 145, m⟩ := den_flat hf (l := [r16, i5, k5, r17]) (by kernel_rfl) _ _
theorem r16_eq (K : List Item) (s : St) : den prog ann 9 (.code r16 :: K) s = mreg prog ann 9 (some [3, 4, 8]) [] none [] [
    ⟨some 71, none, .v fun s => some (s.get 8)⟩,
    ⟨some 72, none, .v fun s => some (s.get 4)⟩,
    ⟨some 73, none, .v fun s => lenSl (s.get 72)⟩,
    ⟨some 74, none, .v fun s => binA prog .lss 3 (s.get 71) (s.get 73)⟩] K s := (den_reg hf _ K s).trans (by kernel_rfl)
theorem i5_eq (K : List Item) (s : St) : den prog ann 9 (.code i5 :: K) s = ifV prog ann 9 74 i5t i5e K s (s.get 74) := den_if hf (by kernel_rfl) K s
theorem i5t_eq (K : List Item) (s : St) : den prog ann 9 (.code i5t :: K) s = den prog ann 9 (K) s := den_flat hf (l := []) (by kernel_rfl) K s
theorem i5e_eq (K : List Item) (s : St) : den prog ann 9 (.code i5e :: K) s = den prog ann 9 (.code (.exit 4) :: K) s := den_flat hf (l := [(.exit 4)]) (by kernel_rfl) K s
theorem k5_eq (K : List Item) (s : St) : den prog ann 9 (.code k5 :: K) s = den prog ann 9 (.code r18 :: .code k6 :: .inBlock 5 :: K) s := den_blk hf (b := blkOf k5) (l := [r18, k6]) (by kernel_rfl) (by kernel_rfl) K s
theorem r18_eq (K : List Item) (s : St) : den prog ann 9 (.code r18 :: K) s = mreg prog ann 9 none [] none [] [
    ⟨some 9, none, .v fun s => some (.int .i64 0)⟩] K s := (den_reg hf _ K s).trans (by kernel_rfl)
theorem k6_eq (K : List Item) (t : List (Nat × AV)) (m : Mem) : den prog ann 9 (.code k6 :: K) ⟨t, 145, m⟩ = L6 (get t 3) (get t 4) (get t 8) (get t 9) m K := den_loop_enter hf (b := l6) (id := 19) (l := [3, 4, 8, 9]) (by kernel_rfl) (by kernel_rfl) (by kernel_rfl) K _
theorem l6_eq (K : List Item) (t : List (Nat × AV)) (m : Mem) : den prog ann 9 (.inLoop l6 :: .inBlock 6 :: K) ⟨t, 145, m⟩ = L6 (get t 3) (get t 4) (get t 8) (get t 9) m K := den_loop_again hf (id := 19) (l := [3, 4, 8, 9]) (by kernel_rfl) (by kernel_rfl) (.inBlock 6 :: K) _
theorem L6_eq (x3 x4 x8 x9 : AV) (m : Mem) (K : List Item) : L6 x3 x4 x8 x9 m K = den prog ann 9 (.code r19 :: .code i6 :: .code k7 :: .code r20 :: .inLoop l6 :: .inBlock 6 :: K) ⟨[(3, x3), (4, x4), (8, x8), (9, x9)], 145, m⟩ := den_flat hf (l := [r19, i6, k7, r20]) (by kernel_rfl) _ _
theorem r19_eq (K : List Item) (s : St) : den prog ann 9 (.code r19 :: K) s = mreg prog ann 9 (some [3, 4, 8, 9]) [] none [] [
    ⟨some 77, none, .v fun s => some (s.get 9)⟩,
    ⟨some 78, none, .v fun s => some (s.get 4)⟩,
    ⟨some 79, none, .v fun s => some (s.get 8)⟩,
    ⟨some 80, none, .v fun s => idxSl 1 (s.get 78) (s.get 79)⟩,
    ⟨some 81, none, .v fun s => loadF false 1 (s.get 80)⟩,
    ⟨some 82, none, .v fun s => lenSl (s.get 81)⟩,
    ⟨some 83, none, .v fun s => binA prog .lss 3 (s.get 77) (s.get 82)⟩] K s := (den_reg hf _ K s).trans (by kernel_rfl)
theorem i6_eq (K : List Item) (s : St) : den prog ann 9 (.code i6 :: K) s = ifV prog ann 9 83 i6t i6e K s (s.get 83) := den_if hf (by kernel_rfl) K s
theorem i6t_eq (K : List Item) (s : St) : den prog ann 9 (.code i6t :: K) s = den prog ann 9 (K) s := den_flat hf (l := []) (by kernel_rfl) K s
theorem i6e_eq (K : List Item) (s : St) : den prog ann 9 (.code i6e :: K) s = den prog ann 9 (.code (.exit 6) :: K) s := den_flat hf (l := [(.exit 6)]) (by kernel_rfl) K s
theorem k7_eq (K : List Item) (s : St) : den prog ann 9 (.code k7 :: K) s = den prog ann 9 (.code r21 :: .code k8 :: .inBlock 7 :: K) s := den_blk hf (b := blkOf k7) (l := [r21, k8]) (by kernel_rfl) (by kernel_rfl) K s
theorem r21_eq (K : List Item) (s : St) : den prog ann 9 (.code r21 :: K) s = mreg prog ann 9 none [] none [] [
    ⟨some 10, none, .v fun s => some (.int .i64 0)⟩] K s := (den_reg hf _ K s).trans (by kernel_rfl)
theorem k8_eq (K : List Item) (t : List (Nat × AV)) (m : Mem) : den prog ann 9 (.code k8 :: K) ⟨t, 145, m⟩ = L8 (get t 3) (get t 4) (get t 8) (get t 9) (get t 10) m K := den_loop_enter hf (b := l8) (id := 22) (l := [3, 4, 8, 9, 10]) (by kernel_rfl) (by kernel_rfl) (by kernel_rfl) K _
theorem l8_eq (K : List Item) (t : List (Nat × AV)) (m : Mem) : den prog ann 9 (.inLoop l8 :: .inBlock 8 :: K) ⟨t, 145, m⟩ = L8 (get t 3) (get t 4) (get t 8) (get t 9) (get t 10) m K := den_loop_again hf (id := 22) (l := [3, 4, 8, 9, 10]) (by kernel_rfl) (by kernel_rfl) (.inBlock 8 :: K) _
theorem L8_eq (x3 x4 x8 x9 x10 : AV) (m : Mem) (K : List Item) : L8 x3 x4 x8 x9 x10 m K = den prog ann 9 (.code r22 :: .code i7 :: .code k9 :: .code r23 :: .inLoop l8 :: .inBlock 8 :: K) ⟨[(3, x3), (4, x4), (8, x8), (9, x9), (10, x10)], 145, m⟩ := den_flat hf (l := [r22, i7, k9, r23]) (by kernel_rfl) _ _
theorem r22_eq (K : List Item) (s : St) : den prog ann 9 (.code r22 :: K) s = mreg prog ann 9 (some [3, 4, 8, 9, 10]) [] none [] [
    ⟨some 86, none, .v fun s => some (s.get 10)⟩,
    ⟨some 87, none, .v fun s => some (s.get 4)⟩,
    ⟨some 88, none, .v fun s => lenSl (s.get 87)⟩,
    ⟨some 89, none, .v fun s => binA prog .lss 3 (s.get 86) (s.get 88)⟩] K s := (den_reg hf _ K s).trans (by kernel_rfl)
theorem i7_eq (K : List Item) (s : St) : den prog ann 9 (.code i7 :: K) s = ifV prog ann 9 89 i7t i7e K s (s.get 89) := den_if hf (by kernel_rfl) K s
theorem i7t_eq (K : List Item) (s : St) : den prog ann 9 (.code i7t :: K) s = den prog ann 9 (K) s := den_flat hf (l := []) (by kernel_rfl) K s
theorem i7e_eq (K : List Item) (s : St) : den prog ann 9 (.code i7e :: K) s = den prog ann 9 (.code (.exit 8) :: K) s := den_flat hf (l := [(.exit 8)]) (by kernel_rfl) K s
theorem k9_eq (K : List Item) (s : St) : den prog ann 9 (.code k9 :: K) s = den prog ann 9 (.code r24 :: .code k10 :: .inBlock 9 :: K) s := den_blk hf (b := blkOf k9) (l := [r24, k10]) (by kernel_rfl) (by kernel_rfl) K s
theorem r24_eq (K : List Item) (s : St) : den prog ann 9 (.code r24 :: K) s = mreg prog ann 9 none [] none [] [
    ⟨some 11, none, .v fun s => some (.int .i64 0)⟩] K s := (den_reg hf _ K s).trans (by kernel_rfl)
theorem k10_eq (K : List Item) (t : List (Nat × AV)) (m : Mem) : den prog ann 9 (.code k10 :: K) ⟨t, 145, m⟩ = L10 (get t 3) (get t 4) (get t 8) (get t 9) (get t 10) (get t 11) m K := den_loop_enter hf (b := l10) (id := 25) (l := [3, 4, 8, 9, 10, 11]) (by kernel_rfl) (by kernel_rfl) (by kernel_rfl) K _
theorem l10_eq (K : List Item) (t : List (Nat × AV)) (m : Mem) : den prog ann 9 (.inLoop l10 :: .inBlock 10 :: K) ⟨t, 145, m⟩ = L10 (get t 3) (get t 4) (get t 8) (get t 9) (get t 10) (get t 11) m K := den_loop_again hf (id := 25) (l := [3, 4, 8, 9, 10, 11]) (by kernel_rfl) (by kernel_rfl) (.inBlock 10 :: K) _
theorem L10_eq (x3 x4 x8 x9 x10 x11 : AV) (m : Mem) (K : List Item) : L10 x3 x4 x8 x9 x10 x11 m K = den prog ann 9 (.code r25 :: .code i8 :: .code k11 :: .code r26 :: .inLoop l10 :: .inBlock 10 :: K) ⟨[(3, x3), (4, x4), (8, x8), (9, x9), (10, x10), (11, x11)], 145, m⟩ := den_flat hf (l := [r25, i8, k11, r26]) (by kernel_rfl) _ _
theorem r25_eq (K : List Item) (s : St) : den prog ann 9 (.code r25 :: K) s = mreg prog ann 9 (some [3, 4, 8, 9, 10, 11]) [] none [] [
    ⟨some 92, none, .v fun s => some (s.get 11)⟩,
    ⟨some 93, none, .v fun s => some (s.get 4)⟩,
    ⟨some 94, none, .v fun s => some (s.get 10)⟩,
    ⟨some 95, none, .v fun s => idxSl 1 (s.get 93) (s.get 94)⟩,
    ⟨some 96, none, .v fun s => loadF false 1 (s.get 95)⟩,
    ⟨some 97, none, .v fun s => lenSl (s.get 96)⟩,
    ⟨some 98, none, .v fun s => binA prog .lss 3 (s.get 92) (s.get 97)⟩] K s := (den_reg hf _ K s).trans (by kernel_rfl)
theorem i8_eq (K : List Item) (s : St) : den prog ann 9 (.code i8 :: K) s = ifV prog ann 9 98 i8t i8e K s (s.get 98) := den_if hf (by kernel_rfl) K s
theorem i8t_eq (K : List Item) (s : St) : den prog ann 9 (.code i8t :: K) s = den prog ann 9 (K) s := den_flat hf (l := []) (by kernel_rfl) K s
theorem i8e_eq (K : List Item) (s : St) : den prog ann 9 (.code i8e :: K) s = den prog ann 9 (.code (.exit 10) :: K) s := den_flat hf (l := [(.exit 10)]) (by kernel_rfl) K s
theorem k11_eq (K : List Item) (s : St) : den prog ann 9 (.code k11 :: K) s = den prog ann 9 (.code r27 :: .code r28 :: .code i9 :: .inBlock 11 :: K) s := den_blk hf (b := blkOf k11) (l := [r27, r28, i9]) (by kernel_rfl) (by kernel_rfl) K s
theorem r27_eq (K : List Item) (s : St) : den prog ann 9 (.code r27 :: K) s = mreg prog ann 9 none [] none [] [
    ⟨some 102, none, .v fun s => loadF true 2 (s.get 3)⟩,
    ⟨some 103, none, .v fun s => some (s.get 8)⟩,
    ⟨some 104, none, .v fun s => some (s.get 9)⟩,
    ⟨some 105, none, .v fun s => binA prog .add 3 (s.get 104) (.int .i64 1)⟩,
    ⟨some 106, none, .v fun s => bldA (plc [(0, 1), (1, 1)]) [.int .i64 0, .int .i64 0] [(0, (s.get 103)), (1, (s.get 105))]⟩,
    ⟨some 107, none, .v fun s => some (s.get 10)⟩,
    ⟨some 108, none, .v fun s => some (s.get 11)⟩,
    ⟨some 109, none, .v fun s => binA prog .add 3 (s.get 108) (.int .i64 1)⟩,
    ⟨some 110, none, .v fun s => bldA (plc [(0, 1), (1, 1)]) [.int .i64 0, .int .i64 0] [(0, (s.get 107)), (1, (s.get 109))]⟩,
    ⟨some 111, none, .c 0 (fun s => (.fn 32 [] [])) fun s => [(s.get 102), (s.get 106), (s.get 110)]⟩,
    ⟨some 101, none, .v fun s => some (s.get 111)⟩,
    ⟨some 112, none, .v fun s => extA (s.get 101) 0⟩,
    ⟨some 113, none, .v fun s => extA (s.get 101) 1⟩,
    ⟨some 12, none, .v fun s => some (s.get 112)⟩,
    ⟨some 13, none, .v fun s => some (s.get 113)⟩] K s := (den_reg hf _ K s).trans (by kernel_rfl)
theorem r28_draw : drawOk (fun g => (ann g).pure) (modeOf (ann 9) (idOf r28)) (frzOf (ann 9) (idOf r28)) (opsOf r28) = true := drawOk_of (an := [0, 1, 3, 7, 7, 7, 55, 119, 7, 503, 1015, 7, 7, 6151, 14343, 7, 63495, 129031, 262135, 524279, 1048567, 1048567, 4194295, 8388599, 16777207, 16777207, 67108855, 134217719, 268435447, 536870911, 1073741823]) (by kernel_rfl) (by kernel_rfl)
theorem r28_eq (K : List Item) (s : St) : den prog ann 9 (.code r28 :: K) s = mreg prog ann 9 none [] (some 31) [] [
    ⟨some 114, none, .v fun s => some (s.get 13)⟩,
    ⟨some 115, none, .v fun s => binA prog .neq 27 (s.get 114) (.int .i64 0)⟩,
    ⟨some 116, none, .v fun s => some (s.get 115)⟩,
    ⟨some 117, some (116, false), .v fun s => some (s.get 12)⟩,
    ⟨some 118, some (116, false), .v fun s => some (s.get 4)⟩,
    ⟨some 119, some (116, false), .v fun s => some (s.get 8)⟩,
    ⟨some 120, some (116, false), .v fun s => idxSl 1 (s.get 118) (s.get 119)⟩,
    ⟨some 121, some (116, false), .v fun s => loadF false 1 (s.get 120)⟩,
    ⟨some 122, some (116, false), .v fun s => some (s.get 9)⟩,
    ⟨some 123, some (116, false), .v fun s => idxSl 1 (s.get 121) (s.get 122)⟩,
    ⟨some 124, some (116, false), .v fun s => loadF false 1 (s.get 123)⟩,
    ⟨some 125, some (116, false), .v fun s => some (s.get 4)⟩,
    ⟨some 126, some (116, false), .v fun s => some (s.get 10)⟩,
    ⟨some 127, some (116, false), .v fun s => idxSl 1 (s.get 125) (s.get 126)⟩,
    ⟨some 128, some (116, false), .v fun s => loadF false 1 (s.get 127)⟩,
    ⟨some 129, some (116, false), .v fun s => some (s.get 11)⟩,
    ⟨some 130, some (116, false), .v fun s => idxSl 1 (s.get 128) (s.get 129)⟩,
    ⟨some 131, some (116, false), .v fun s => loadF false 1 (s.get 130)⟩,
    ⟨some 132, some (116, false), .c 0 (fun s => (.fn 31 [] [])) fun s => [(s.get 124), (s.get 131)]⟩,
    ⟨some 133, some (116, false), .v fun s => some (s.get 132)⟩,
    ⟨some 134, some (133, true), .v fun s => some (s.get 8)⟩,
    ⟨some 135, some (133, true), .v fun s => some (s.get 10)⟩,
    ⟨some 136, some (133, true), .v fun s => binA prog .neq 3 (s.get 134) (s.get 135)⟩,
    ⟨some 137, some (133, true), .v fun s => some (s.get 136)⟩,
    ⟨some 138, some (137, false), .v fun s => some (s.get 9)⟩,
    ⟨some 139, some (137, false), .v fun s => some (s.get 11)⟩,
    ⟨some 140, some (137, false), .v fun s => binA prog .neq 3 (s.get 138) (s.get 139)⟩,
    ⟨some 141, some (133, true), .v fun s => pickA (s.get 137) (.bool true) (s.get 140)⟩,
    ⟨some 142, some (116, false), .v fun s => pickA (s.get 133) (s.get 141) (.bool false)⟩,
    ⟨some 143, some (116, false), .v fun s => binA prog .neq 4 (s.get 117) (s.get 142)⟩,
    ⟨some 144, none, .v fun s => pickA (s.get 116) (.bool true) (s.get 143)⟩] K s := (den_regD hf r28_draw K s).trans (by kernel_rfl)
theorem i9_eq (K : List Item) (s : St) : den prog ann 9 (.code i9 :: K) s = ifV prog ann 9 144 i9t i9e K s (s.get 144) := den_if hf (by kernel_rfl) K s
theorem i9t_eq (K : List Item) (s : St) : den prog ann 9 (.code i9t :: K) s = den prog ann 9 (.code r29 :: .code .ret :: K) s := den_flat hf (l := [r29, .ret]) (by kernel_rfl) K s
theorem r29_eq (K : List Item) (s : St) : den prog ann 9 (.code r29 :: K) s = mreg prog ann 9 none [] none [] [
    ⟨some 2, none, .v fun s => some (.bool false)⟩] K s := (den_reg hf _ K s).trans (by kernel_rfl)
theorem i9e_eq (K : List Item) (s : St) : den prog ann 9 (.code i9e :: K) s = den prog ann 9 (K) s := den_flat hf (l := []) (by kernel_rfl) K s
theorem r26_eq (K : List Item) (s : St) : den prog ann 9 (.code r26 :: K) s = mreg prog ann 9 (some [3, 4, 8, 9, 10, 11]) [] none [] [
    ⟨some 99, none, .v fun s => some (s.get 11)⟩,
    ⟨some 100, none, .v fun s => binA prog .add 3 (s.get 99) (.int .i64 1)⟩,
    ⟨some 11, none, .v fun s => some (s.get 100)⟩] K s := (den_reg hf _ K s).trans (by kernel_rfl)
theorem r23_eq (K : List Item) (s : St) : den prog ann 9 (.code r23 :: K) s = mreg prog ann 9 (some [3, 4, 8, 9, 10]) [] none [] [
    ⟨some 90, none, .v fun s => some (s.get 10)⟩,
    ⟨some 91, none, .v fun s => binA prog .add 3 (s.get 90) (.int .i64 1)⟩,
    ⟨some 10, none, .v fun s => some (s.get 91)⟩] K s := (den_reg hf _ K s).trans (by kernel_rfl)
theorem r20_eq (K : List Item) (s : St) : den prog ann 9 (.code r20 :: K) s = mreg prog ann 9 (some [3, 4, 8, 9]) [] none [] [
    ⟨some 84, none, .v fun s => some (s.get 9)⟩,
    ⟨some 85, none, .v fun s => binA prog .add 3 (s.get 84) (.int .i64 1)⟩,
    ⟨some 9, none, .v fun s => some (s.get 85)⟩] K s := (den_reg hf _ K s).trans (by kernel_rfl)
theorem r17_eq (K : List Item) (s : St) : den prog ann 9 (.code r17 :: K) s = mreg prog ann 9 (some [3, 4, 8]) [] none [] [
    ⟨some 75, none, .v fun s => some (s.get 8)⟩,
    ⟨some 76, none, .v fun s => binA prog .add 3 (s.get 75) (.int .i64 1)⟩,
    ⟨some 8, none, .v fun s => some (s.get 76)⟩] K s := (den_reg hf _ K s).trans (by kernel_rfl)
theorem r30_eq (K : List Item) (s : St) : den prog ann 9 (.code r30 :: K) s = mreg prog ann 9 (some []) [] none [] [
    ⟨some 2, none, .v fun s => some (.bool true)⟩] K s := (den_reg hf _ K s).trans (by kernel_rfl)
theorem ret_eq (K : List Item) (s : St) : den prog ann 9 (.code .ret :: K) s = finM true [fun s => some (s.get 2)] s := (den_ret hf K s).trans (by kernel_rfl)
theorem nil_eq (s : St) : den prog ann 9 [] s = finM true [fun s => some (s.get 2)] s := (den_nil hf s).trans (by kernel_rfl)
theorem inBlock_eq (id : Nat) (K : List Item) (s : St) : den prog ann 9 (.inBlock id :: K) s = den prog ann 9 K s := den_inBlock hf id K s
theorem exit_eq (id : Nat) (K : List Item) (s : St) : den prog ann 9 (.code (.exit id) :: K) s = exitV prog ann 9 (exitTo id K) s := den_exitV hf id K s
theorem call_eq (v0 : AV) (m : Mem) (h : closedL [v0] = true) : denC prog ann 9 [v0] m = (den prog ann 9 [.code b] ⟨[(0, v0)], 145, Mem.empty⟩).bind fun r => some (r.1, m) := (denC_pure hf (b := b) (by kernel_rfl) (by kernel_rfl) (by kernel_rfl) h m).trans (by kernel_rfl)
theorem pure_eq : (ann 9).pure = true := by kernel_rfl
attribute [simp] b_eq r0_eq r1_eq r2_eq r3_eq i0_eq i0t_eq r4_eq i0e_eq r5_eq k0_eq l0_eq r6_eq i1_eq i1t_eq i1e_eq k1_eq r8_eq i2_eq i2t_eq r9_eq i2e_eq r10_eq k2_eq l2_eq r11_eq i3_eq i3t_eq i3e_eq k3_eq r13_eq i4_eq i4t_eq r14_eq i4e_eq r12_eq r7_eq r15_eq k4_eq l4_eq r16_eq i5_eq i5t_eq i5e_eq k5_eq r18_eq k6_eq l6_eq r19_eq i6_eq i6t_eq i6e_eq k7_eq r21_eq k8_eq l8_eq r22_eq i7_eq i7t_eq i7e_eq k9_eq r24_eq k10_eq l10_eq r25_eq i8_eq i8t_eq i8e_eq k11_eq r27_eq r28_eq i9_eq i9t_eq r29_eq i9e_eq r26_eq r23_eq r20_eq r17_eq r30_eq ret_eq nil_eq inBlock_eq exit_eq pure_eq
end l09_WatchMattern
end Go.Proofs.Ytdkmepjedjclkaa
