/-
  BODIES OF FUNCTIONS OF THE PROGRAM AS SMALL OPERATIONS (written by gen.py; checked by the kernel against the program). Conditions: none.
-/
import Derived.Test.YthnpflkpjimkfaaKAmH
set_option linter.all false
namespace Go.Proofs.Ythnpflkpjimkfaa
open Go.AM
open Go.Proofs.Try (prog)
set_option maxRecDepth 100000
set_option linter.all false



namespace r07_Smallest
/-- pommel/pommelref07.Smallest -/
noncomputable def b : Code := (Try.f29.body).getD .skip
theorem hf : prog.funcs[29]? = some Try.f29 := by kernel_rfl
noncomputable def r0 : Code := findReg b 0
noncomputable def r1 : Code := findReg b 1
noncomputable def r2 : Code := findReg b 2
noncomputable def r3 : Code := findReg b 3
noncomputable def r4 : Code := findReg b 4
noncomputable def k0 : Code := findBlk b 0
noncomputable def l0 : Code := loopOf k0
noncomputable def L0 (x1 x2 x3 x5 x6 x7 x8 : AV) (m : Mem) (K : List Item) : Option Res := den prog ann 29 (.code l0 :: .inLoop l0 :: .inBlock 0 :: K) ⟨[(1, x1), (2, x2), (3, x3), (5, x5), (6, x6), (7, x7), (8, x8)], 141, m⟩
noncomputable def r5 : Code := findReg b 5
noncomputable def i0 : Code := findCond b 0
noncomputable def i0t : Code := thenOf i0
noncomputable def i0e : Code := elseOf i0
noncomputable def k1 : Code := findBlk b 1
noncomputable def r7 : Code := findReg b 7
noncomputable def r8 : Code := findReg b 8
noncomputable def k2 : Code := findBlk b 2
noncomputable def l2 : Code := loopOf k2
noncomputable def L2 (x1 x2 x3 x5 x6 x7 x8 x9 : AV) (m : Mem) (K : List Item) : Option Res := den prog ann 29 (.code l2 :: .inLoop l2 :: .inBlock 2 :: K) ⟨[(1, x1), (2, x2), (3, x3), (5, x5), (6, x6), (7, x7), (8, x8), (9, x9)], 141, m⟩
noncomputable def r9 : Code := findReg b 9
noncomputable def i1 : Code := findCond b 1
noncomputable def i1t : Code := thenOf i1
noncomputable def i1e : Code := elseOf i1
noncomputable def k3 : Code := findBlk b 3
noncomputable def r11 : Code := findReg b 11
noncomputable def i2 : Code := findCond b 2
noncomputable def i2t : Code := thenOf i2
noncomputable def i2e : Code := elseOf i2
noncomputable def r12 : Code := findReg b 12
noncomputable def r10 : Code := findReg b 10
noncomputable def r13 : Code := findReg b 13
noncomputable def i3 : Code := findCond b 3
noncomputable def i3t : Code := thenOf i3
noncomputable def i3e : Code := elseOf i3
noncomputable def r14 : Code := findReg b 14
noncomputable def r15 : Code := findReg b 15
noncomputable def r6 : Code := findReg b 6
noncomputable def r16 : Code := findReg b 16
noncomputable def r17 : Code := findReg b 17
noncomputable def k4 : Code := findBlk b 4
noncomputable def l4 : Code := loopOf k4
noncomputable def L4 (x1 x2 x6 x7 x10 x11 : AV) (m : Mem) (K : List Item) : Option Res := den prog ann 29 (.code l4 :: .inLoop l4 :: .inBlock 4 :: K) ⟨[(1, x1), (2, x2), (6, x6), (7, x7), (10, x10), (11, x11)], 141, m⟩
noncomputable def r18 : Code := findReg b 18
noncomputable def i4 : Code := findCond b 4
noncomputable def i4t : Code := thenOf i4
noncomputable def i4e : Code := elseOf i4
noncomputable def k5 : Code := findBlk b 5
noncomputable def r20 : Code := findReg b 20
noncomputable def r21 : Code := findReg b 21
noncomputable def k6 : Code := findBlk b 6
noncomputable def l6 : Code := loopOf k6
noncomputable def L6 (x1 x2 x6 x7 x10 x11 x12 x13 : AV) (m : Mem) (K : List Item) : Option Res := den prog ann 29 (.code l6 :: .inLoop l6 :: .inBlock 6 :: K) ⟨[(1, x1), (2, x2), (6, x6), (7, x7), (10, x10), (11, x11), (12, x12), (13, x13)], 141, m⟩
noncomputable def r22 : Code := findReg b 22
noncomputable def i5 : Code := findCond b 5
noncomputable def i5t : Code := thenOf i5
noncomputable def i5e : Code := elseOf i5
noncomputable def k7 : Code := findBlk b 7
noncomputable def r24 : Code := findReg b 24
noncomputable def r23 : Code := findReg b 23
noncomputable def r25 : Code := findReg b 25
noncomputable def r19 : Code := findReg b 19
noncomputable def r26 : Code := findReg b 26
theorem b_eq (K : List Item) (s : St) : den prog ann 29 (.code b :: K) s = den prog ann 29 (.code r0 :: .code r1 :: .code r2 :: .code r3 :: .code r4 :: .code k0 :: .code r16 :: .code r17 :: .code k4 :: .code r26 :: .code .ret :: K) s := den_flat hf (l := [r0, r1, r2, r3, r4, k0, r16, r17, k4, r26, .ret]) (by kernel_rfl) K s
theorem r0_eq (K : List Item) (s : St) : den prog ann 29 (.code r0 :: K) s = mreg prog ann 29 none [] none [] [
    ⟨some 1, none, .v fun s => frozenPtr (s.get 0)⟩,
    ⟨some 2, none, .w false none fun s => newPtr s.m [.nils, .nils]⟩] K s := (den_reg hf _ K s).trans (by kernel_rfl)
theorem r1_eq (K : List Item) (s : St) : den prog ann 29 (.code r1 :: K) s = mreg prog ann 29 none [] none [] [
    ⟨some 15, none, .v fun s => loadF true 2 (s.get 1)⟩,
    ⟨some 16, none, .c 0 (fun s => (.fn 66 [] [])) fun s => [(s.get 15)]⟩,
    ⟨some 14, none, .v fun s => some (s.get 16)⟩,
    ⟨some 17, none, .v fun s => extA (s.get 14) 0⟩,
    ⟨some 18, none, .v fun s => extA (s.get 14) 1⟩,
    ⟨some 3, none, .v fun s => some (s.get 17)⟩,
    ⟨some 4, none, .v fun s => some (s.get 18)⟩] K s := (den_reg hf _ K s).trans (by kernel_rfl)
theorem r2_eq (K : List Item) (s : St) : den prog ann 29 (.code r2 :: K) s = mreg prog ann 29 none [] none [] [
    ⟨some 19, none, .v fun s => loadF true 2 (s.get 1)⟩,
    ⟨some 20, none, .c 0 (fun s => (.fn 67 [] [])) fun s => [(s.get 19)]⟩,
    ⟨some 5, none, .v fun s => some (s.get 20)⟩] K s := (den_reg hf _ K s).trans (by kernel_rfl)
theorem r3_eq (K : List Item) (s : St) : den prog ann 29 (.code r3 :: K) s = mreg prog ann 29 none [] none [] [
    ⟨some 21, none, .v fun s => fieldA 0 (s.get 1)⟩,
    ⟨some 22, none, .v fun s => loadF false 1 (s.get 21)⟩,
    ⟨some 23, none, .v fun s => lenSl (s.get 22)⟩,
    ⟨some 24, none, .w false none fun s => makeA 1 8 (.int .i64 0) s.m (s.get 23) (s.get 23)⟩,
    ⟨some 25, none, .w false none fun s => bslM s.m 0 (bslA 1 0 [.int .i64 0] [])⟩,
    ⟨some 6, none, .v fun s => some (s.get 24)⟩,
    ⟨some 7, none, .v fun s => some (s.get 25)⟩] K s := (den_reg hf _ K s).trans (by kernel_rfl)
theorem r4_eq (K : List Item) (s : St) : den prog ann 29 (.code r4 :: K) s = mreg prog ann 29 none [] none [] [
    ⟨some 8, none, .v fun s => some (.int .i64 0)⟩] K s := (den_reg hf _ K s).trans (by kernel_rfl)
theorem k0_eq (K : List Item) (t : List (Nat × AV)) (m : Mem) : den prog ann 29 (.code k0 :: K) ⟨t, 141, m⟩ = L0 (get t 1) (get t 2) (get t 3) (get t 5) (get t 6) (get t 7) (get t 8) m K := den_loop_enter hf (b := l0) (id := 5) (l := [1, 2, 3, 5, 6, 7, 8]) (by kernel_rfl) (by kernel_rfl) (by kernel_rfl) K _
theorem l0_eq (K : List Item) (t : List (Nat × AV)) (m : Mem) : den prog ann 29 (.inLoop l0 :: .inBlock 0 :: K) ⟨t, 141, m⟩ = L0 (get t 1) (get t 2) (get t 3) (get t 5) (get t 6) (get t 7) (get t 8) m K := den_loop_again hf (id := 5) (l := [1, 2, 3, 5, 6, 7, 8]) (by kernel_rfl) (by kernel_rfl) (.inBlock 0 :: K) _
theorem L0_eq (x1 x2 x3 x5 x6 x7 x8 : AV) (m : Mem) (K : List Item) : L0 x1 x2 x3 x5 x6 x7 x8 m K = den prog ann 29 (.code r5 :: .code i0 :: .code k1 :: .code r6 :: .inLoop l0 :: .inBlock 0 :: K) ⟨[(1, x1), (2, x2), (3, x3), (5, x5), (6, x6), (7, x7), (8, x8)], 141, m⟩ := den_flat hf (l := [r5, i0, k1, r6]) (by kernel_rfl) _ _
theorem r5_eq (K : List Item) (s : St) : den prog ann 29 (.code r5 :: K) s = mreg prog ann 29 (some [1, 2, 3, 5, 6, 7, 8]) [] none [] [
    ⟨some 26, none, .v fun s => some (s.get 8)⟩,
    ⟨some 27, none, .v fun s => some (s.get 3)⟩,
    ⟨some 28, none, .v fun s => lenSl (s.get 27)⟩,
    ⟨some 29, none, .v fun s => binA prog .lss 3 (s.get 26) (s.get 28)⟩] K s := (den_reg hf _ K s).trans (by kernel_rfl)
theorem i0_eq (K : List Item) (s : St) : den prog ann 29 (.code i0 :: K) s = ifV prog ann 29 29 i0t i0e K s (s.get 29) := den_if hf (by kernel_rfl) K s
theorem i0t_eq (K : List Item) (s : St) : den prog ann 29 (.code i0t :: K) s = den prog ann 29 (K) s := den_flat hf (l := []) (by kernel_rfl) K s
theorem i0e_eq (K : List Item) (s : St) : den prog ann 29 (.code i0e :: K) s = den prog ann 29 (.code (.exit 0) :: K) s := den_flat hf (l := [(.exit 0)]) (by kernel_rfl) K s
theorem k1_eq (K : List Item) (s : St) : den prog ann 29 (.code k1 :: K) s = den prog ann 29 (.code r7 :: .code r8 :: .code k2 :: .code r13 :: .code i3 :: .inBlock 1 :: K) s := den_blk hf (b := blkOf k1) (l := [r7, r8, k2, r13, i3]) (by kernel_rfl) (by kernel_rfl) K s
theorem r7_eq (K : List Item) (s : St) : den prog ann 29 (.code r7 :: K) s = mreg prog ann 29 none [] none [] [
    ⟨some 32, none, .v fun s => some (s.get 6)⟩,
    ⟨some 33, none, .v fun s => some (s.get 3)⟩,
    ⟨some 34, none, .v fun s => some (s.get 8)⟩,
    ⟨some 35, none, .v fun s => idxSl 1 (s.get 33) (s.get 34)⟩,
    ⟨some 36, none, .v fun s => loadF false 1 (s.get 35)⟩,
    ⟨some 37, none, .v fun s => idxSl 1 (s.get 32) (s.get 36)⟩,
    ⟨none, none, .w false none fun s => stA false 1 s.m (s.get 37) (.int .i64 (-1))⟩] K s := (den_reg hf _ K s).trans (by kernel_rfl)
theorem r8_eq (K : List Item) (s : St) : den prog ann 29 (.code r8 :: K) s = mreg prog ann 29 none [] none [] [
    ⟨some 9, none, .v fun s => some (.int .i64 0)⟩] K s := (den_reg hf _ K s).trans (by kernel_rfl)
theorem k2_eq (K : List Item) (t : List (Nat × AV)) (m : Mem) : den prog ann 29 (.code k2 :: K) ⟨t, 141, m⟩ = L2 (get t 1) (get t 2) (get t 3) (get t 5) (get t 6) (get t 7) (get t 8) (get t 9) m K := den_loop_enter hf (b := l2) (id := 9) (l := [1, 2, 3, 5, 6, 7, 8, 9]) (by kernel_rfl) (by kernel_rfl) (by kernel_rfl) K _
theorem l2_eq (K : List Item) (t : List (Nat × AV)) (m : Mem) : den prog ann 29 (.inLoop l2 :: .inBlock 2 :: K) ⟨t, 141, m⟩ = L2 (get t 1) (get t 2) (get t 3) (get t 5) (get t 6) (get t 7) (get t 8) (get t 9) m K := den_loop_again hf (id := 9) (l := [1, 2, 3, 5, 6, 7, 8, 9]) (by kernel_rfl) (by kernel_rfl) (.inBlock 2 :: K) _
theorem L2_eq (x1 x2 x3 x5 x6 x7 x8 x9 : AV) (m : Mem) (K : List Item) : L2 x1 x2 x3 x5 x6 x7 x8 x9 m K = den prog ann 29 (.code r9 :: .code i1 :: .code k3 :: .code r10 :: .inLoop l2 :: .inBlock 2 :: K) ⟨[(1, x1), (2, x2), (3, x3), (5, x5), (6, x6), (7, x7), (8, x8), (9, x9)], 141, m⟩ := den_flat hf (l := [r9, i1, k3, r10]) (by kernel_rfl) _ _
theorem r9_eq (K : List Item) (s : St) : den prog ann 29 (.code r9 :: K) s = mreg prog ann 29 (some [1, 2, 3, 5, 6, 7, 8, 9]) [] none [] [
    ⟨some 38, none, .v fun s => some (s.get 9)⟩,
    ⟨some 39, none, .v fun s => some (s.get 7)⟩,
    ⟨some 40, none, .v fun s => lenSl (s.get 39)⟩,
    ⟨some 41, none, .v fun s => binA prog .lss 3 (s.get 38) (s.get 40)⟩] K s := (den_reg hf _ K s).trans (by kernel_rfl)
theorem i1_eq (K : List Item) (s : St) : den prog ann 29 (.code i1 :: K) s = ifV prog ann 29 41 i1t i1e K s (s.get 41) := den_if hf (by kernel_rfl) K s
theorem i1t_eq (K : List Item) (s : St) : den prog ann 29 (.code i1t :: K) s = den prog ann 29 (K) s := den_flat hf (l := []) (by kernel_rfl) K s
theorem i1e_eq (K : List Item) (s : St) : den prog ann 29 (.code i1e :: K) s = den prog ann 29 (.code (.exit 2) :: K) s := den_flat hf (l := [(.exit 2)]) (by kernel_rfl) K s
theorem k3_eq (K : List Item) (s : St) : den prog ann 29 (.code k3 :: K) s = den prog ann 29 (.code r11 :: .code i2 :: .inBlock 3 :: K) s := den_blk hf (b := blkOf k3) (l := [r11, i2]) (by kernel_rfl) (by kernel_rfl) K s
theorem r11_draw : drawOk (fun g => (ann g).pure) (modeOf (ann 29) (idOf r11)) (frzOf (ann 29) (idOf r11)) (opsOf r11) = true := drawOk_of (an := [0, 0, 0, 6, 14, 31, 63, 0, 0, 384, 896, 2047, 4095]) (by kernel_rfl) (by kernel_rfl)
theorem r11_eq (K : List Item) (s : St) : den prog ann 29 (.code r11 :: K) s = mreg prog ann 29 none [] (some 13) [] [
    ⟨some 44, none, .v fun s => some (s.get 5)⟩,
    ⟨some 45, none, .v fun s => some (s.get 3)⟩,
    ⟨some 46, none, .v fun s => some (s.get 8)⟩,
    ⟨some 47, none, .v fun s => idxSl 1 (s.get 45) (s.get 46)⟩,
    ⟨some 48, none, .v fun s => loadF false 1 (s.get 47)⟩,
    ⟨some 49, none, .v fun s => idxSl 1 (s.get 44) (s.get 48)⟩,
    ⟨some 50, none, .v fun s => loadF false 1 (s.get 49)⟩,
    ⟨some 51, none, .v fun s => some (s.get 7)⟩,
    ⟨some 52, none, .v fun s => some (s.get 9)⟩,
    ⟨some 53, none, .v fun s => idxSl 1 (s.get 51) (s.get 52)⟩,
    ⟨some 54, none, .v fun s => loadA false 1 s.m (s.get 53)⟩,
    ⟨some 55, none, .v fun s => idxSl 1 (s.get 50) (s.get 54)⟩,
    ⟨some 56, none, .v fun s => loadF false 1 (s.get 55)⟩] K s := (den_regD hf r11_draw K s).trans (by kernel_rfl)
theorem i2_eq (K : List Item) (s : St) : den prog ann 29 (.code i2 :: K) s = ifV prog ann 29 56 i2t i2e K s (s.get 56) := den_if hf (by kernel_rfl) K s
theorem i2t_eq (K : List Item) (s : St) : den prog ann 29 (.code i2t :: K) s = den prog ann 29 (.code r12 :: K) s := den_flat hf (l := [r12]) (by kernel_rfl) K s
theorem r12_eq (K : List Item) (s : St) : den prog ann 29 (.code r12 :: K) s = mreg prog ann 29 none [] none [] [
    ⟨some 57, none, .v fun s => some (s.get 6)⟩,
    ⟨some 58, none, .v fun s => some (s.get 3)⟩,
    ⟨some 59, none, .v fun s => some (s.get 8)⟩,
    ⟨some 60, none, .v fun s => idxSl 1 (s.get 58) (s.get 59)⟩,
    ⟨some 61, none, .v fun s => loadF false 1 (s.get 60)⟩,
    ⟨some 62, none, .v fun s => some (s.get 9)⟩,
    ⟨some 63, none, .v fun s => idxSl 1 (s.get 57) (s.get 61)⟩,
    ⟨none, none, .w false none fun s => stA false 1 s.m (s.get 63) (s.get 62)⟩] K s := (den_reg hf _ K s).trans (by kernel_rfl)
theorem i2e_eq (K : List Item) (s : St) : den prog ann 29 (.code i2e :: K) s = den prog ann 29 (K) s := den_flat hf (l := []) (by kernel_rfl) K s
theorem r10_eq (K : List Item) (s : St) : den prog ann 29 (.code r10 :: K) s = mreg prog ann 29 (some [1, 2, 3, 5, 6, 7, 8, 9]) [] none [] [
    ⟨some 42, none, .v fun s => some (s.get 9)⟩,
    ⟨some 43, none, .v fun s => binA prog .add 3 (s.get 42) (.int .i64 1)⟩,
    ⟨some 9, none, .v fun s => some (s.get 43)⟩] K s := (den_reg hf _ K s).trans (by kernel_rfl)
theorem r13_eq (K : List Item) (s : St) : den prog ann 29 (.code r13 :: K) s = mreg prog ann 29 (some [1, 2, 3, 5, 6, 7, 8]) [] none [] [
    ⟨some 64, none, .v fun s => some (s.get 6)⟩,
    ⟨some 65, none, .v fun s => some (s.get 3)⟩,
    ⟨some 66, none, .v fun s => some (s.get 8)⟩,
    ⟨some 67, none, .v fun s => idxSl 1 (s.get 65) (s.get 66)⟩,
    ⟨some 68, none, .v fun s => loadF false 1 (s.get 67)⟩,
    ⟨some 69, none, .v fun s => idxSl 1 (s.get 64) (s.get 68)⟩,
    ⟨some 70, none, .v fun s => loadA false 1 s.m (s.get 69)⟩,
    ⟨some 71, none, .v fun s => binA prog .lss 3 (s.get 70) (.int .i64 0)⟩] K s := (den_reg hf _ K s).trans (by kernel_rfl)
theorem i3_eq (K : List Item) (s : St) : den prog ann 29 (.code i3 :: K) s = ifV prog ann 29 71 i3t i3e K s (s.get 71) := den_if hf (by kernel_rfl) K s
theorem i3t_eq (K : List Item) (s : St) : den prog ann 29 (.code i3t :: K) s = den prog ann 29 (.code r14 :: .code r15 :: K) s := den_flat hf (l := [r14, r15]) (by kernel_rfl) K s
theorem r14_eq (K : List Item) (s : St) : den prog ann 29 (.code r14 :: K) s = mreg prog ann 29 none [] none [] [
    ⟨some 72, none, .v fun s => some (s.get 6)⟩,
    ⟨some 73, none, .v fun s => some (s.get 3)⟩,
    ⟨some 74, none, .v fun s => some (s.get 8)⟩,
    ⟨some 75, none, .v fun s => idxSl 1 (s.get 73) (s.get 74)⟩,
    ⟨some 76, none, .v fun s => loadF false 1 (s.get 75)⟩,
    ⟨some 77, none, .v fun s => some (s.get 7)⟩,
    ⟨some 78, none, .v fun s => lenSl (s.get 77)⟩,
    ⟨some 79, none, .v fun s => idxSl 1 (s.get 72) (s.get 76)⟩,
    ⟨none, none, .w false none fun s => stA false 1 s.m (s.get 79) (s.get 78)⟩] K s := (den_reg hf _ K s).trans (by kernel_rfl)
theorem r15_eq (K : List Item) (s : St) : den prog ann 29 (.code r15 :: K) s = mreg prog ann 29 none [] none [] [
    ⟨some 80, none, .v fun s => some (s.get 7)⟩,
    ⟨some 81, none, .v fun s => some (s.get 3)⟩,
    ⟨some 82, none, .v fun s => some (s.get 8)⟩,
    ⟨some 83, none, .v fun s => idxSl 1 (s.get 81) (s.get 82)⟩,
    ⟨some 84, none, .v fun s => loadF false 1 (s.get 83)⟩,
    ⟨some 85, none, .v fun s => bslF 1 (bslA 1 1 [.int .i64 0] [(0, (s.get 84))])⟩,
    ⟨some 86, none, .w false none fun s => appendA 1 8 s.m (s.get 80) (s.get 85)⟩,
    ⟨some 7, none, .v fun s => some (s.get 86)⟩] K s := (den_reg hf _ K s).trans (by kernel_rfl)
theorem i3e_eq (K : List Item) (s : St) : den prog ann 29 (.code i3e :: K) s = den prog ann 29 (K) s := den_flat hf (l := []) (by kernel_rfl) K s
theorem r6_eq (K : List Item) (s : St) : den prog ann 29 (.code r6 :: K) s = mreg prog ann 29 (some [1, 2, 3, 5, 6, 7, 8]) [] none [] [
    ⟨some 30, none, .v fun s => some (s.get 8)⟩,
    ⟨some 31, none, .v fun s => binA prog .add 3 (s.get 30) (.int .i64 1)⟩,
    ⟨some 8, none, .v fun s => some (s.get 31)⟩] K s := (den_reg hf _ K s).trans (by kernel_rfl)
theorem r16_eq (K : List Item) (s : St) : den prog ann 29 (.code r16 :: K) s = mreg prog ann 29 (some [1, 2, 6, 7]) [] none [] [
    ⟨some 87, none, .v fun s => bldA (plc [(0, 1), (1, 1)]) [.nils, .nils] []⟩,
    ⟨some 10, none, .w false none fun s => newPtr s.m [.nils, .nils]⟩,
    ⟨none, none, .w false none fun s => stA true 2 s.m (s.get 10) (s.get 87)⟩] K s := (den_reg hf _ K s).trans (by kernel_rfl)
theorem r17_eq (K : List Item) (s : St) : den prog ann 29 (.code r17 :: K) s = mreg prog ann 29 none [] none [] [
    ⟨some 11, none, .v fun s => some (.int .i64 0)⟩] K s := (den_reg hf _ K s).trans (by kernel_rfl)
theorem k4_eq (K : List Item) (t : List (Nat × AV)) (m : Mem) : den prog ann 29 (.code k4 :: K) ⟨t, 141, m⟩ = L4 (get t 1) (get t 2) (get t 6) (get t 7) (get t 10) (get t 11) m K := den_loop_enter hf (b := l4) (id := 18) (l := [1, 2, 6, 7, 10, 11]) (by kernel_rfl) (by kernel_rfl) (by kernel_rfl) K _
theorem l4_eq (K : List Item) (t : List (Nat × AV)) (m : Mem) : den prog ann 29 (.inLoop l4 :: .inBlock 4 :: K) ⟨t, 141, m⟩ = L4 (get t 1) (get t 2) (get t 6) (get t 7) (get t 10) (get t 11) m K := den_loop_again hf (id := 18) (l := [1, 2, 6, 7, 10, 11]) (by kernel_rfl) (by kernel_rfl) (.inBlock 4 :: K) _
theorem L4_eq (x1 x2 x6 x7 x10 x11 : AV) (m : Mem) (K : List Item) : L4 x1 x2 x6 x7 x10 x11 m K = den prog ann 29 (.code r18 :: .code i4 :: .code k5 :: .code r19 :: .inLoop l4 :: .inBlock 4 :: K) ⟨[(1, x1), (2, x2), (6, x6), (7, x7), (10, x10), (11, x11)], 141, m⟩ := den_flat hf (l := [r18, i4, k5, r19]) (by kernel_rfl) _ _
theorem r18_eq (K : List Item) (s : St) : den prog ann 29 (.code r18 :: K) s = mreg prog ann 29 (some [1, 2, 6, 7, 10, 11]) [] none [] [
    ⟨some 88, none, .v fun s => some (s.get 11)⟩,
    ⟨some 89, none, .v fun s => some (s.get 7)⟩,
    ⟨some 90, none, .v fun s => lenSl (s.get 89)⟩,
    ⟨some 91, none, .v fun s => binA prog .lss 3 (s.get 88) (s.get 90)⟩] K s := (den_reg hf _ K s).trans (by kernel_rfl)
theorem i4_eq (K : List Item) (s : St) : den prog ann 29 (.code i4 :: K) s = ifV prog ann 29 91 i4t i4e K s (s.get 91) := den_if hf (by kernel_rfl) K s
theorem i4t_eq (K : List Item) (s : St) : den prog ann 29 (.code i4t :: K) s = den prog ann 29 (K) s := den_flat hf (l := []) (by kernel_rfl) K s
theorem i4e_eq (K : List Item) (s : St) : den prog ann 29 (.code i4e :: K) s = den prog ann 29 (.code (.exit 4) :: K) s := den_flat hf (l := [(.exit 4)]) (by kernel_rfl) K s
theorem k5_eq (K : List Item) (s : St) : den prog ann 29 (.code k5 :: K) s = den prog ann 29 (.code r20 :: .code r21 :: .code k6 :: .code r25 :: .inBlock 5 :: K) s := den_blk hf (b := blkOf k5) (l := [r20, r21, k6, r25]) (by kernel_rfl) (by kernel_rfl) K s
theorem r20_eq (K : List Item) (s : St) : den prog ann 29 (.code r20 :: K) s = mreg prog ann 29 none [] none [] [
    ⟨some 94, none, .w false none fun s => bslM s.m 0 (bslA 1 0 [.int .i64 0] [])⟩,
    ⟨some 12, none, .v fun s => some (s.get 94)⟩] K s := (den_reg hf _ K s).trans (by kernel_rfl)
theorem r21_eq (K : List Item) (s : St) : den prog ann 29 (.code r21 :: K) s = mreg prog ann 29 none [] none [] [
    ⟨some 13, none, .v fun s => some (.int .i64 0)⟩] K s := (den_reg hf _ K s).trans (by kernel_rfl)
theorem k6_eq (K : List Item) (t : List (Nat × AV)) (m : Mem) : den prog ann 29 (.code k6 :: K) ⟨t, 141, m⟩ = L6 (get t 1) (get t 2) (get t 6) (get t 7) (get t 10) (get t 11) (get t 12) (get t 13) m K := den_loop_enter hf (b := l6) (id := 22) (l := [1, 2, 6, 7, 10, 11, 12, 13]) (by kernel_rfl) (by kernel_rfl) (by kernel_rfl) K _
theorem l6_eq (K : List Item) (t : List (Nat × AV)) (m : Mem) : den prog ann 29 (.inLoop l6 :: .inBlock 6 :: K) ⟨t, 141, m⟩ = L6 (get t 1) (get t 2) (get t 6) (get t 7) (get t 10) (get t 11) (get t 12) (get t 13) m K := den_loop_again hf (id := 22) (l := [1, 2, 6, 7, 10, 11, 12, 13]) (by kernel_rfl) (by kernel_rfl) (.inBlock 6 :: K) _
theorem L6_eq (x1 x2 x6 x7 x10 x11 x12 x13 : AV) (m : Mem) (K : List Item) : L6 x1 x2 x6 x7 x10 x11 x12 x13 m K = den prog ann 29 (.code r22 :: .code i5 :: .code k7 :: .code r23 :: .inLoop l6 :: .inBlock 6 :: K) ⟨[(1, x1), (2, x2), (6, x6), (7, x7), (10, x10), (11, x11), (12, x12), (13, x13)], 141, m⟩ := den_flat hf (l := [r22, i5, k7, r23]) (by kernel_rfl) _ _
theorem r22_eq (K : List Item) (s : St) : den prog ann 29 (.code r22 :: K) s = mreg prog ann 29 (some [1, 2, 6, 7, 10, 11, 12, 13]) [] none [] [
    ⟨some 95, none, .v fun s => some (s.get 13)⟩,
    ⟨some 96, none, .v fun s => fieldA 0 (s.get 1)⟩,
    ⟨some 97, none, .v fun s => loadF false 1 (s.get 96)⟩,
    ⟨some 98, none, .v fun s => idxSl 1 (s.get 97) (.int .i64 0)⟩,
    ⟨some 99, none, .v fun s => loadF false 1 (s.get 98)⟩,
    ⟨some 100, none, .v fun s => lenSl (s.get 99)⟩,
    ⟨some 101, none, .v fun s => binA prog .lss 3 (s.get 95) (s.get 100)⟩] K s := (den_reg hf _ K s).trans (by kernel_rfl)
theorem i5_eq (K : List Item) (s : St) : den prog ann 29 (.code i5 :: K) s = ifV prog ann 29 101 i5t i5e K s (s.get 101) := den_if hf (by kernel_rfl) K s
theorem i5t_eq (K : List Item) (s : St) : den prog ann 29 (.code i5t :: K) s = den prog ann 29 (K) s := den_flat hf (l := []) (by kernel_rfl) K s
theorem i5e_eq (K : List Item) (s : St) : den prog ann 29 (.code i5e :: K) s = den prog ann 29 (.code (.exit 6) :: K) s := den_flat hf (l := [(.exit 6)]) (by kernel_rfl) K s
theorem k7_eq (K : List Item) (s : St) : den prog ann 29 (.code k7 :: K) s = den prog ann 29 (.code r24 :: .inBlock 7 :: K) s := den_blk hf (b := blkOf k7) (l := [r24]) (by kernel_rfl) (by kernel_rfl) K s
theorem r24_draw : drawOk (fun g => (ann g).pure) (modeOf (ann 29) (idOf r24)) (frzOf (ann 29) (idOf r24)) (opsOf r24) = true := drawOk_of (an := [0, 0, 0, 4, 0, 0, 48, 112, 252, 508, 0, 2044, 4092, 8190, 16382, 32766, 65535, 131071]) (by kernel_rfl) (by kernel_rfl)
theorem r24_eq (K : List Item) (s : St) : den prog ann 29 (.code r24 :: K) s = mreg prog ann 29 none [] (some 18) [] [
    ⟨some 104, none, .v fun s => some (s.get 12)⟩,
    ⟨some 105, none, .v fun s => some (s.get 6)⟩,
    ⟨some 106, none, .v fun s => fieldA 0 (s.get 1)⟩,
    ⟨some 107, none, .v fun s => loadF false 1 (s.get 106)⟩,
    ⟨some 108, none, .v fun s => some (s.get 7)⟩,
    ⟨some 109, none, .v fun s => some (s.get 11)⟩,
    ⟨some 110, none, .v fun s => idxSl 1 (s.get 108) (s.get 109)⟩,
    ⟨some 111, none, .v fun s => loadA false 1 s.m (s.get 110)⟩,
    ⟨some 112, none, .v fun s => idxSl 1 (s.get 107) (s.get 111)⟩,
    ⟨some 113, none, .v fun s => loadF false 1 (s.get 112)⟩,
    ⟨some 114, none, .v fun s => some (s.get 13)⟩,
    ⟨some 115, none, .v fun s => idxSl 1 (s.get 113) (s.get 114)⟩,
    ⟨some 116, none, .v fun s => loadF false 1 (s.get 115)⟩,
    ⟨some 117, none, .v fun s => idxSl 1 (s.get 105) (s.get 116)⟩,
    ⟨some 118, none, .v fun s => loadA false 1 s.m (s.get 117)⟩,
    ⟨some 119, none, .v fun s => bslF 1 (bslA 1 1 [.int .i64 0] [(0, (s.get 118))])⟩,
    ⟨some 120, none, .w false (some 16) fun s => appendA 1 8 s.m (s.get 104) (s.get 119)⟩,
    ⟨some 12, none, .v fun s => some (s.get 120)⟩] K s := (den_regD hf r24_draw K s).trans (by kernel_rfl)
theorem r23_eq (K : List Item) (s : St) : den prog ann 29 (.code r23 :: K) s = mreg prog ann 29 (some [1, 2, 6, 7, 10, 11, 12, 13]) [] none [] [
    ⟨some 102, none, .v fun s => some (s.get 13)⟩,
    ⟨some 103, none, .v fun s => binA prog .add 3 (s.get 102) (.int .i64 1)⟩,
    ⟨some 13, none, .v fun s => some (s.get 103)⟩] K s := (den_reg hf _ K s).trans (by kernel_rfl)
theorem r25_draw : drawOk (fun g => (ann g).pure) (modeOf (ann 29) (idOf r25)) (frzOf (ann 29) (idOf r25)) (opsOf r25) = true := drawOk_of (an := [0, 1, 0, 4, 15, 0, 32, 0, 128, 0, 0, 1536, 3584, 8064, 16256, 32640, 65535, 127, 262143, 524287, 1048575]) (by kernel_rfl) (by kernel_rfl)
theorem r25_eq (K : List Item) (s : St) : den prog ann 29 (.code r25 :: K) s = mreg prog ann 29 (some [1, 2, 6, 7, 10, 11, 12]) [12] (some 21) [3122126, 2000124, 3122132] [
    ⟨some 121, none, .v fun s => fieldA 0 (s.get 10)⟩,
    ⟨some 122, none, .v fun s => loadA false 1 s.m (s.get 121)⟩,
    ⟨some 123, none, .v fun s => some (s.get 12)⟩,
    ⟨some 124, none, .v fun s => bslF 1 (bslA 1 1 [.nils] [(0, (s.get 123))])⟩,
    ⟨some 125, none, .w false (some 4) fun s => appendA 1 24 s.m (s.get 122) (s.get 124)⟩,
    ⟨some 126, none, .v fun s => fieldA 1 (s.get 10)⟩,
    ⟨some 127, none, .v fun s => loadA false 1 s.m (s.get 126)⟩,
    ⟨some 128, none, .v fun s => fieldA 1 (s.get 1)⟩,
    ⟨some 129, none, .v fun s => loadF false 1 (s.get 128)⟩,
    ⟨some 130, none, .v fun s => some (s.get 7)⟩,
    ⟨some 131, none, .v fun s => some (s.get 11)⟩,
    ⟨some 132, none, .v fun s => idxSl 1 (s.get 130) (s.get 131)⟩,
    ⟨some 133, none, .v fun s => loadA false 1 s.m (s.get 132)⟩,
    ⟨some 134, none, .v fun s => idxSl 1 (s.get 129) (s.get 133)⟩,
    ⟨some 135, none, .v fun s => loadF false 1 (s.get 134)⟩,
    ⟨some 136, none, .v fun s => bslF 1 (bslA 1 1 [.bool false] [(0, (s.get 135))])⟩,
    ⟨some 137, none, .w false (some 16) fun s => appendA 1 1 s.m (s.get 127) (s.get 136)⟩,
    ⟨some 138, none, .v fun s => fieldA 0 (s.get 10)⟩,
    ⟨none, none, .w false (some 18) fun s => stA false 1 s.m (s.get 138) (s.get 125)⟩,
    ⟨some 139, none, .v fun s => fieldA 1 (s.get 10)⟩,
    ⟨none, none, .w false (some 20) fun s => stA false 1 s.m (s.get 139) (s.get 137)⟩] K s := (den_regD hf r25_draw K s).trans (by kernel_rfl)
theorem r19_eq (K : List Item) (s : St) : den prog ann 29 (.code r19 :: K) s = mreg prog ann 29 (some [1, 2, 6, 7, 10, 11]) [] none [] [
    ⟨some 92, none, .v fun s => some (s.get 11)⟩,
    ⟨some 93, none, .v fun s => binA prog .add 3 (s.get 92) (.int .i64 1)⟩,
    ⟨some 11, none, .v fun s => some (s.get 93)⟩] K s := (den_reg hf _ K s).trans (by kernel_rfl)
theorem r26_eq (K : List Item) (s : St) : den prog ann 29 (.code r26 :: K) s = mreg prog ann 29 (some [2, 10]) [] none [] [
    ⟨some 140, none, .v fun s => loadA true 2 s.m (s.get 10)⟩,
    ⟨none, none, .w false none fun s => stA true 2 s.m (s.get 2) (s.get 140)⟩] K s := (den_reg hf _ K s).trans (by kernel_rfl)
theorem ret_eq (K : List Item) (s : St) : den prog ann 29 (.code .ret :: K) s = finM true [fun s => loadA true 2 s.m (s.get 2)] s := (den_ret hf K s).trans (by kernel_rfl)
theorem nil_eq (s : St) : den prog ann 29 [] s = finM true [fun s => loadA true 2 s.m (s.get 2)] s := (den_nil hf s).trans (by kernel_rfl)
theorem inBlock_eq (id : Nat) (K : List Item) (s : St) : den prog ann 29 (.inBlock id :: K) s = den prog ann 29 K s := den_inBlock hf id K s
theorem exit_eq (id : Nat) (K : List Item) (s : St) : den prog ann 29 (.code (.exit id) :: K) s = exitV prog ann 29 (exitTo id K) s := den_exitV hf id K s
theorem call_eq (v0 : AV) (m : Mem) (h : closedL [v0] = true) : denC prog ann 29 [v0] m = (den prog ann 29 [.code b] ⟨[(0, v0)], 141, Mem.empty⟩).bind fun r => some (r.1, m) := (denC_pure hf (b := b) (by kernel_rfl) (by kernel_rfl) (by kernel_rfl) h m).trans (by kernel_rfl)
theorem pure_eq : (ann 29).pure = true := by kernel_rfl
attribute [simp] b_eq r0_eq r1_eq r2_eq r3_eq r4_eq k0_eq l0_eq r5_eq i0_eq i0t_eq i0e_eq k1_eq r7_eq r8_eq k2_eq l2_eq r9_eq i1_eq i1t_eq i1e_eq k3_eq r11_eq i2_eq i2t_eq r12_eq i2e_eq r10_eq r13_eq i3_eq i3t_eq r14_eq r15_eq i3e_eq r6_eq r16_eq r17_eq k4_eq l4_eq r18_eq i4_eq i4t_eq i4e_eq k5_eq r20_eq r21_eq k6_eq l6_eq r22_eq i5_eq i5t_eq i5e_eq k7_eq r24_eq r23_eq r25_eq r19_eq r26_eq ret_eq nil_eq inBlock_eq exit_eq pure_eq
end r07_Smallest

namespace brand_smallest
/-- pommel/brand.smallest -/
noncomputable def b : Code := (Try.f56.body).getD .skip
theorem hf : prog.funcs[56]? = some Try.f56 := by kernel_rfl
noncomputable def r0 : Code := findReg b 0
noncomputable def r1 : Code := findReg b 1
noncomputable def r2 : Code := findReg b 2
noncomputable def r3 : Code := findReg b 3
noncomputable def k0 : Code := findBlk b 0
noncomputable def l0 : Code := loopOf k0
noncomputable def L0 (x1 x2 x3 x4 x23 x24 : AV) (m : Mem) (K : List Item) : Option Res := den prog ann 56 (.code l0 :: .inLoop l0 :: .inBlock 0 :: K) ⟨[(1, x1), (2, x2), (3, x3), (4, x4), (23, x23), (24, x24)], 161, m⟩
noncomputable def r4 : Code := findReg b 4
noncomputable def i0 : Code := findCond b 0
noncomputable def i0t : Code := thenOf i0
noncomputable def i0e : Code := elseOf i0
noncomputable def k1 : Code := findBlk b 1
noncomputable def r5 : Code := findReg b 5
noncomputable def r6 : Code := findReg b 6
noncomputable def r7 : Code := findReg b 7
noncomputable def k2 : Code := findBlk b 2
noncomputable def l2 : Code := loopOf k2
noncomputable def L2 (x1 x2 x3 x4 x5 x23 x24 x32 x33 : AV) (m : Mem) (K : List Item) : Option Res := den prog ann 56 (.code l2 :: .inLoop l2 :: .inBlock 2 :: K) ⟨[(1, x1), (2, x2), (3, x3), (4, x4), (5, x5), (23, x23), (24, x24), (32, x32), (33, x33)], 161, m⟩
noncomputable def r8 : Code := findReg b 8
noncomputable def i1 : Code := findCond b 1
noncomputable def i1t : Code := thenOf i1
noncomputable def i1e : Code := elseOf i1
noncomputable def k3 : Code := findBlk b 3
noncomputable def r9 : Code := findReg b 9
noncomputable def r10 : Code := findReg b 10
noncomputable def r11 : Code := findReg b 11
noncomputable def r12 : Code := findReg b 12
noncomputable def r13 : Code := findReg b 13
noncomputable def k4 : Code := findBlk b 4
noncomputable def l4 : Code := loopOf k4
noncomputable def L4 (x1 x2 x3 x4 x7 : AV) (m : Mem) (K : List Item) : Option Res := den prog ann 56 (.code l4 :: .inLoop l4 :: .inBlock 4 :: K) ⟨[(1, x1), (2, x2), (3, x3), (4, x4), (7, x7)], 161, m⟩
noncomputable def r14 : Code := findReg b 14
noncomputable def i2 : Code := findCond b 2
noncomputable def i2t : Code := thenOf i2
noncomputable def i2e : Code := elseOf i2
noncomputable def k5 : Code := findBlk b 5
noncomputable def r15 : Code := findReg b 15
noncomputable def r16 : Code := findReg b 16
noncomputable def k6 : Code := findBlk b 6
noncomputable def l6 : Code := loopOf k6
noncomputable def L6 (x1 x2 x3 x4 x7 x56 x57 : AV) (m : Mem) (K : List Item) : Option Res := den prog ann 56 (.code l6 :: .inLoop l6 :: .inBlock 6 :: K) ⟨[(1, x1), (2, x2), (3, x3), (4, x4), (7, x7), (56, x56), (57, x57)], 161, m⟩
noncomputable def r17 : Code := findReg b 17
noncomputable def i3 : Code := findCond b 3
noncomputable def i3t : Code := thenOf i3
noncomputable def i3e : Code := elseOf i3
noncomputable def k7 : Code := findBlk b 7
noncomputable def r18 : Code := findReg b 18
noncomputable def r19 : Code := findReg b 19
noncomputable def k8 : Code := findBlk b 8
noncomputable def l8 : Code := loopOf k8
noncomputable def L8 (x1 x2 x3 x4 x7 x8 x56 x57 x60 x61 : AV) (m : Mem) (K : List Item) : Option Res := den prog ann 56 (.code l8 :: .inLoop l8 :: .inBlock 8 :: K) ⟨[(1, x1), (2, x2), (3, x3), (4, x4), (7, x7), (8, x8), (56, x56), (57, x57), (60, x60), (61, x61)], 161, m⟩
noncomputable def r20 : Code := findReg b 20
noncomputable def i4 : Code := findCond b 4
noncomputable def i4t : Code := thenOf i4
noncomputable def i4e : Code := elseOf i4
noncomputable def k9 : Code := findBlk b 9
noncomputable def r21 : Code := findReg b 21
noncomputable def r22 : Code := findReg b 22
noncomputable def k10 : Code := findBlk b 10
noncomputable def l10 : Code := loopOf k10
noncomputable def L10 (x1 x2 x3 x4 x7 x8 x9 x56 x57 x60 x61 x69 x70 : AV) (m : Mem) (K : List Item) : Option Res := den prog ann 56 (.code l10 :: .inLoop l10 :: .inBlock 10 :: K) ⟨[(1, x1), (2, x2), (3, x3), (4, x4), (7, x7), (8, x8), (9, x9), (56, x56), (57, x57), (60, x60), (61, x61), (69, x69), (70, x70)], 161, m⟩
noncomputable def r23 : Code := findReg b 23
noncomputable def i5 : Code := findCond b 5
noncomputable def i5t : Code := thenOf i5
noncomputable def i5e : Code := elseOf i5
noncomputable def k11 : Code := findBlk b 11
noncomputable def r24 : Code := findReg b 24
noncomputable def r25 : Code := findReg b 25
noncomputable def i6 : Code := findCond b 6
noncomputable def i6t : Code := thenOf i6
noncomputable def i6e : Code := elseOf i6
noncomputable def r26 : Code := findReg b 26
noncomputable def r27 : Code := findReg b 27
noncomputable def r28 : Code := findReg b 28
noncomputable def r29 : Code := findReg b 29
noncomputable def r30 : Code := findReg b 30
noncomputable def r31 : Code := findReg b 31
noncomputable def r32 : Code := findReg b 32
noncomputable def r33 : Code := findReg b 33
noncomputable def k12 : Code := findBlk b 12
noncomputable def l12 : Code := loopOf k12
noncomputable def L12 (x1 x2 x11 x12 x13 x14 : AV) (m : Mem) (K : List Item) : Option Res := den prog ann 56 (.code l12 :: .inLoop l12 :: .inBlock 12 :: K) ⟨[(1, x1), (2, x2), (11, x11), (12, x12), (13, x13), (14, x14)], 161, m⟩
noncomputable def r34 : Code := findReg b 34
noncomputable def i7 : Code := findCond b 7
noncomputable def i7t : Code := thenOf i7
noncomputable def i7e : Code := elseOf i7
noncomputable def k13 : Code := findBlk b 13
noncomputable def r36 : Code := findReg b 36
noncomputable def r37 : Code := findReg b 37
noncomputable def k14 : Code := findBlk b 14
noncomputable def l14 : Code := loopOf k14
noncomputable def L14 (x1 x2 x11 x12 x13 x14 x15 x128 x129 x130 : AV) (m : Mem) (K : List Item) : Option Res := den prog ann 56 (.code l14 :: .inLoop l14 :: .inBlock 14 :: K) ⟨[(1, x1), (2, x2), (11, x11), (12, x12), (13, x13), (14, x14), (15, x15), (128, x128), (129, x129), (130, x130)], 161, m⟩
noncomputable def r38 : Code := findReg b 38
noncomputable def i8 : Code := findCond b 8
noncomputable def i8t : Code := thenOf i8
noncomputable def i8e : Code := elseOf i8
noncomputable def k15 : Code := findBlk b 15
noncomputable def r39 : Code := findReg b 39
noncomputable def r40 : Code := findReg b 40
noncomputable def r41 : Code := findReg b 41
noncomputable def r42 : Code := findReg b 42
noncomputable def r35 : Code := findReg b 35
noncomputable def r43 : Code := findReg b 43
theorem b_eq (K : List Item) (s : St) : den prog ann 56 (.code b :: K) s = den prog ann 56 (.code r0 :: .code r1 :: .code r2 :: .code r3 :: .code k0 :: .code r13 :: .code k4 :: .code r30 :: .code r31 :: .code r32 :: .code r33 :: .code k12 :: .code r43 :: .code .ret :: K) s := den_flat hf (l := [r0, r1, r2, r3, k0, r13, k4, r30, r31, r32, r33, k12, r43, .ret]) (by kernel_rfl) K s
theorem r0_eq (K : List Item) (s : St) : den prog ann 56 (.code r0 :: K) s = mreg prog ann 56 none [] none [] [
    ⟨some 1, none, .v fun s => frozenPtr (s.get 0)⟩,
    ⟨some 2, none, .w false none fun s => newPtr s.m [.nils, .nils]⟩] K s := (den_reg hf _ K s).trans (by kernel_rfl)
theorem r1_eq (K : List Item) (s : St) : den prog ann 56 (.code r1 :: K) s = mreg prog ann 56 none [] none [] [
    ⟨some 18, none, .v fun s => fieldA 0 (s.get 1)⟩,
    ⟨some 19, none, .v fun s => loadF false 1 (s.get 18)⟩,
    ⟨some 20, none, .v fun s => lenSl (s.get 19)⟩,
    ⟨some 3, none, .v fun s => some (s.get 20)⟩] K s := (den_reg hf _ K s).trans (by kernel_rfl)
theorem r2_eq (K : List Item) (s : St) : den prog ann 56 (.code r2 :: K) s = mreg prog ann 56 none [] none [4] [
    ⟨some 21, none, .v fun s => some (s.get 3)⟩,
    ⟨some 22, none, .w false none fun s => makeA 1 24 (.nils) s.m (s.get 21) (s.get 21)⟩,
    ⟨some 4, none, .w false none fun s => newPtr s.m [.nils]⟩,
    ⟨none, none, .w false none fun s => stA false 1 s.m (s.get 4) (s.get 22)⟩] K s := (den_reg hf _ K s).trans (by kernel_rfl)
theorem r3_eq (K : List Item) (s : St) : den prog ann 56 (.code r3 :: K) s = mreg prog ann 56 none [] none [] [
    ⟨some 23, none, .v fun s => some (s.get 3)⟩,
    ⟨some 24, none, .v fun s => some (.int .i64 0)⟩] K s := (den_reg hf _ K s).trans (by kernel_rfl)
theorem k0_eq (K : List Item) (t : List (Nat × AV)) (m : Mem) : den prog ann 56 (.code k0 :: K) ⟨t, 161, m⟩ = L0 (get t 1) (get t 2) (get t 3) (get t 4) (get t 23) (get t 24) m K := den_loop_enter hf (b := l0) (id := 4) (l := [1, 2, 3, 4, 23, 24]) (by kernel_rfl) (by kernel_rfl) (by kernel_rfl) K _
theorem l0_eq (K : List Item) (t : List (Nat × AV)) (m : Mem) : den prog ann 56 (.inLoop l0 :: .inBlock 0 :: K) ⟨t, 161, m⟩ = L0 (get t 1) (get t 2) (get t 3) (get t 4) (get t 23) (get t 24) m K := den_loop_again hf (id := 4) (l := [1, 2, 3, 4, 23, 24]) (by kernel_rfl) (by kernel_rfl) (.inBlock 0 :: K) _
theorem L0_eq (x1 x2 x3 x4 x23 x24 : AV) (m : Mem) (K : List Item) : L0 x1 x2 x3 x4 x23 x24 m K = den prog ann 56 (.code r4 :: .code i0 :: .code k1 :: .code r12 :: .inLoop l0 :: .inBlock 0 :: K) ⟨[(1, x1), (2, x2), (3, x3), (4, x4), (23, x23), (24, x24)], 161, m⟩ := den_flat hf (l := [r4, i0, k1, r12]) (by kernel_rfl) _ _
theorem r4_eq (K : List Item) (s : St) : den prog ann 56 (.code r4 :: K) s = mreg prog ann 56 (some [1, 2, 3, 4, 23, 24]) [] none [] [
    ⟨some 25, none, .v fun s => binA prog .lss 3 (s.get 24) (s.get 23)⟩] K s := (den_reg hf _ K s).trans (by kernel_rfl)
theorem i0_eq (K : List Item) (s : St) : den prog ann 56 (.code i0 :: K) s = ifV prog ann 56 25 i0t i0e K s (s.get 25) := den_if hf (by kernel_rfl) K s
theorem i0t_eq (K : List Item) (s : St) : den prog ann 56 (.code i0t :: K) s = den prog ann 56 (K) s := den_flat hf (l := []) (by kernel_rfl) K s
theorem i0e_eq (K : List Item) (s : St) : den prog ann 56 (.code i0e :: K) s = den prog ann 56 (.code (.exit 0) :: K) s := den_flat hf (l := [(.exit 0)]) (by kernel_rfl) K s
theorem k1_eq (K : List Item) (s : St) : den prog ann 56 (.code k1 :: K) s = den prog ann 56 (.code r5 :: .code r6 :: .code r7 :: .code k2 :: .inBlock 1 :: K) s := den_blk hf (b := blkOf k1) (l := [r5, r6, r7, k2]) (by kernel_rfl) (by kernel_rfl) K s
theorem r5_eq (K : List Item) (s : St) : den prog ann 56 (.code r5 :: K) s = mreg prog ann 56 none [] none [] [
    ⟨some 26, none, .v fun s => some (s.get 24)⟩,
    ⟨some 5, none, .v fun s => some (s.get 26)⟩] K s := (den_reg hf _ K s).trans (by kernel_rfl)
theorem r6_draw : drawOk (fun g => (ann g).pure) (modeOf (ann 56) (idOf r6)) (frzOf (ann 56) (idOf r6)) (opsOf r6) = true := drawOk_of (an := [0, 0, 0, 4, 15, 31]) (by kernel_rfl) (by kernel_rfl)
theorem r6_eq (K : List Item) (s : St) : den prog ann 56 (.code r6 :: K) s = mreg prog ann 56 none [] (some 6) [] [
    ⟨some 27, none, .v fun s => loadF false 1 (s.get 4)⟩,
    ⟨some 28, none, .v fun s => some (s.get 5)⟩,
    ⟨some 29, none, .v fun s => some (s.get 3)⟩,
    ⟨some 30, none, .w false (some 3) fun s => makeA 1 1 (.bool false) s.m (s.get 29) (s.get 29)⟩,
    ⟨some 31, none, .v fun s => idxSl 1 (s.get 27) (s.get 28)⟩,
    ⟨none, none, .w false (some 5) fun s => stA false 1 s.m (s.get 31) (s.get 30)⟩] K s := (den_regD hf r6_draw K s).trans (by kernel_rfl)
theorem r7_eq (K : List Item) (s : St) : den prog ann 56 (.code r7 :: K) s = mreg prog ann 56 none [] none [] [
    ⟨some 32, none, .v fun s => some (s.get 3)⟩,
    ⟨some 33, none, .v fun s => some (.int .i64 0)⟩] K s := (den_reg hf _ K s).trans (by kernel_rfl)
theorem k2_eq (K : List Item) (t : List (Nat × AV)) (m : Mem) : den prog ann 56 (.code k2 :: K) ⟨t, 161, m⟩ = L2 (get t 1) (get t 2) (get t 3) (get t 4) (get t 5) (get t 23) (get t 24) (get t 32) (get t 33) m K := den_loop_enter hf (b := l2) (id := 8) (l := [1, 2, 3, 4, 5, 23, 24, 32, 33]) (by kernel_rfl) (by kernel_rfl) (by kernel_rfl) K _
theorem l2_eq (K : List Item) (t : List (Nat × AV)) (m : Mem) : den prog ann 56 (.inLoop l2 :: .inBlock 2 :: K) ⟨t, 161, m⟩ = L2 (get t 1) (get t 2) (get t 3) (get t 4) (get t 5) (get t 23) (get t 24) (get t 32) (get t 33) m K := den_loop_again hf (id := 8) (l := [1, 2, 3, 4, 5, 23, 24, 32, 33]) (by kernel_rfl) (by kernel_rfl) (.inBlock 2 :: K) _
theorem L2_eq (x1 x2 x3 x4 x5 x23 x24 x32 x33 : AV) (m : Mem) (K : List Item) : L2 x1 x2 x3 x4 x5 x23 x24 x32 x33 m K = den prog ann 56 (.code r8 :: .code i1 :: .code k3 :: .code r11 :: .inLoop l2 :: .inBlock 2 :: K) ⟨[(1, x1), (2, x2), (3, x3), (4, x4), (5, x5), (23, x23), (24, x24), (32, x32), (33, x33)], 161, m⟩ := den_flat hf (l := [r8, i1, k3, r11]) (by kernel_rfl) _ _
theorem r8_eq (K : List Item) (s : St) : den prog ann 56 (.code r8 :: K) s = mreg prog ann 56 (some [1, 2, 3, 4, 5, 23, 24, 32, 33]) [] none [] [
    ⟨some 34, none, .v fun s => binA prog .lss 3 (s.get 33) (s.get 32)⟩] K s := (den_reg hf _ K s).trans (by kernel_rfl)
theorem i1_eq (K : List Item) (s : St) : den prog ann 56 (.code i1 :: K) s = ifV prog ann 56 34 i1t i1e K s (s.get 34) := den_if hf (by kernel_rfl) K s
theorem i1t_eq (K : List Item) (s : St) : den prog ann 56 (.code i1t :: K) s = den prog ann 56 (K) s := den_flat hf (l := []) (by kernel_rfl) K s
theorem i1e_eq (K : List Item) (s : St) : den prog ann 56 (.code i1e :: K) s = den prog ann 56 (.code (.exit 2) :: K) s := den_flat hf (l := [(.exit 2)]) (by kernel_rfl) K s
theorem k3_eq (K : List Item) (s : St) : den prog ann 56 (.code k3 :: K) s = den prog ann 56 (.code r9 :: .code r10 :: .inBlock 3 :: K) s := den_blk hf (b := blkOf k3) (l := [r9, r10]) (by kernel_rfl) (by kernel_rfl) K s
theorem r9_eq (K : List Item) (s : St) : den prog ann 56 (.code r9 :: K) s = mreg prog ann 56 none [] none [] [
    ⟨some 35, none, .v fun s => some (s.get 33)⟩,
    ⟨some 6, none, .v fun s => some (s.get 35)⟩] K s := (den_reg hf _ K s).trans (by kernel_rfl)
theorem r10_draw : drawOk (fun g => (ann g).pure) (modeOf (ann 56) (idOf r10)) (frzOf (ann 56) (idOf r10)) (opsOf r10) = true := drawOk_of (an := [0, 0, 3, 7, 0, 0, 32, 0, 224, 480, 0, 1024, 0, 7168, 15360, 32736, 65535, 131071]) (by kernel_rfl) (by kernel_rfl)
theorem r10_eq (K : List Item) (s : St) : den prog ann 56 (.code r10 :: K) s = mreg prog ann 56 none [] (some 18) [] [
    ⟨some 36, none, .v fun s => loadF false 1 (s.get 4)⟩,
    ⟨some 37, none, .v fun s => some (s.get 5)⟩,
    ⟨some 38, none, .v fun s => idxSl 1 (s.get 36) (s.get 37)⟩,
    ⟨some 39, none, .v fun s => loadA false 1 s.m (s.get 38)⟩,
    ⟨some 40, none, .v fun s => some (s.get 6)⟩,
    ⟨some 41, none, .v fun s => fieldA 1 (s.get 1)⟩,
    ⟨some 42, none, .v fun s => loadF false 1 (s.get 41)⟩,
    ⟨some 43, none, .v fun s => some (s.get 5)⟩,
    ⟨some 44, none, .v fun s => idxSl 1 (s.get 42) (s.get 43)⟩,
    ⟨some 45, none, .v fun s => loadF false 1 (s.get 44)⟩,
    ⟨some 46, none, .v fun s => fieldA 1 (s.get 1)⟩,
    ⟨some 47, none, .v fun s => loadF false 1 (s.get 46)⟩,
    ⟨some 48, none, .v fun s => some (s.get 6)⟩,
    ⟨some 49, none, .v fun s => idxSl 1 (s.get 47) (s.get 48)⟩,
    ⟨some 50, none, .v fun s => loadF false 1 (s.get 49)⟩,
    ⟨some 51, none, .v fun s => binA prog .neq 4 (s.get 45) (s.get 50)⟩,
    ⟨some 52, none, .v fun s => idxSl 1 (s.get 39) (s.get 40)⟩,
    ⟨none, none, .w false (some 17) fun s => stA false 1 s.m (s.get 52) (s.get 51)⟩] K s := (den_regD hf r10_draw K s).trans (by kernel_rfl)
theorem r11_eq (K : List Item) (s : St) : den prog ann 56 (.code r11 :: K) s = mreg prog ann 56 (some [1, 2, 3, 4, 5, 23, 24, 32, 33]) [] none [] [
    ⟨some 53, none, .v fun s => binA prog .add 3 (s.get 33) (.int .i64 1)⟩,
    ⟨some 33, none, .v fun s => some (s.get 53)⟩] K s := (den_reg hf _ K s).trans (by kernel_rfl)
theorem r12_eq (K : List Item) (s : St) : den prog ann 56 (.code r12 :: K) s = mreg prog ann 56 (some [1, 2, 3, 4, 23, 24]) [] none [] [
    ⟨some 54, none, .v fun s => binA prog .add 3 (s.get 24) (.int .i64 1)⟩,
    ⟨some 24, none, .v fun s => some (s.get 54)⟩] K s := (den_reg hf _ K s).trans (by kernel_rfl)
theorem r13_eq (K : List Item) (s : St) : den prog ann 56 (.code r13 :: K) s = mreg prog ann 56 (some [1, 2, 3, 4]) [] none [] [
    ⟨some 7, none, .v fun s => some (.bool true)⟩] K s := (den_reg hf _ K s).trans (by kernel_rfl)
theorem k4_eq (K : List Item) (t : List (Nat × AV)) (m : Mem) : den prog ann 56 (.code k4 :: K) ⟨t, 161, m⟩ = L4 (get t 1) (get t 2) (get t 3) (get t 4) (get t 7) m K := den_loop_enter hf (b := l4) (id := 14) (l := [1, 2, 3, 4, 7]) (by kernel_rfl) (by kernel_rfl) (by kernel_rfl) K _
theorem l4_eq (K : List Item) (t : List (Nat × AV)) (m : Mem) : den prog ann 56 (.inLoop l4 :: .inBlock 4 :: K) ⟨t, 161, m⟩ = L4 (get t 1) (get t 2) (get t 3) (get t 4) (get t 7) m K := den_loop_again hf (id := 14) (l := [1, 2, 3, 4, 7]) (by kernel_rfl) (by kernel_rfl) (.inBlock 4 :: K) _
theorem L4_eq (x1 x2 x3 x4 x7 : AV) (m : Mem) (K : List Item) : L4 x1 x2 x3 x4 x7 m K = den prog ann 56 (.code r14 :: .code i2 :: .code k5 :: .inLoop l4 :: .inBlock 4 :: K) ⟨[(1, x1), (2, x2), (3, x3), (4, x4), (7, x7)], 161, m⟩ := den_flat hf (l := [r14, i2, k5]) (by kernel_rfl) _ _
theorem r14_eq (K : List Item) (s : St) : den prog ann 56 (.code r14 :: K) s = mreg prog ann 56 (some [1, 2, 3, 4, 7]) [] none [] [
    ⟨some 55, none, .v fun s => some (s.get 7)⟩] K s := (den_reg hf _ K s).trans (by kernel_rfl)
theorem i2_eq (K : List Item) (s : St) : den prog ann 56 (.code i2 :: K) s = ifV prog ann 56 55 i2t i2e K s (s.get 55) := den_if hf (by kernel_rfl) K s
theorem i2t_eq (K : List Item) (s : St) : den prog ann 56 (.code i2t :: K) s = den prog ann 56 (K) s := den_flat hf (l := []) (by kernel_rfl) K s
theorem i2e_eq (K : List Item) (s : St) : den prog ann 56 (.code i2e :: K) s = den prog ann 56 (.code (.exit 4) :: K) s := den_flat hf (l := [(.exit 4)]) (by kernel_rfl) K s
theorem k5_eq (K : List Item) (s : St) : den prog ann 56 (.code k5 :: K) s = den prog ann 56 (.code r15 :: .code r16 :: .code k6 :: .inBlock 5 :: K) s := den_blk hf (b := blkOf k5) (l := [r15, r16, k6]) (by kernel_rfl) (by kernel_rfl) K s
theorem r15_eq (K : List Item) (s : St) : den prog ann 56 (.code r15 :: K) s = mreg prog ann 56 none [] none [] [
    ⟨some 7, none, .v fun s => some (.bool false)⟩] K s := (den_reg hf _ K s).trans (by kernel_rfl)
theorem r16_eq (K : List Item) (s : St) : den prog ann 56 (.code r16 :: K) s = mreg prog ann 56 none [] none [] [
    ⟨some 56, none, .v fun s => some (s.get 3)⟩,
    ⟨some 57, none, .v fun s => some (.int .i64 0)⟩] K s := (den_reg hf _ K s).trans (by kernel_rfl)
theorem k6_eq (K : List Item) (t : List (Nat × AV)) (m : Mem) : den prog ann 56 (.code k6 :: K) ⟨t, 161, m⟩ = L6 (get t 1) (get t 2) (get t 3) (get t 4) (get t 7) (get t 56) (get t 57) m K := den_loop_enter hf (b := l6) (id := 17) (l := [1, 2, 3, 4, 7, 56, 57]) (by kernel_rfl) (by kernel_rfl) (by kernel_rfl) K _
theorem l6_eq (K : List Item) (t : List (Nat × AV)) (m : Mem) : den prog ann 56 (.inLoop l6 :: .inBlock 6 :: K) ⟨t, 161, m⟩ = L6 (get t 1) (get t 2) (get t 3) (get t 4) (get t 7) (get t 56) (get t 57) m K := den_loop_again hf (id := 17) (l := [1, 2, 3, 4, 7, 56, 57]) (by kernel_rfl) (by kernel_rfl) (.inBlock 6 :: K) _
theorem L6_eq (x1 x2 x3 x4 x7 x56 x57 : AV) (m : Mem) (K : List Item) : L6 x1 x2 x3 x4 x7 x56 x57 m K = den prog ann 56 (.code r17 :: .code i3 :: .code k7 :: .code r29 :: .inLoop l6 :: .inBlock 6 :: K) ⟨[(1, x1), (2, x2), (3, x3), (4, x4), (7, x7), (56, x56), (57, x57)], 161, m⟩ := den_flat hf (l := [r17, i3, k7, r29]) (by kernel_rfl) _ _
theorem r17_eq (K : List Item) (s : St) : den prog ann 56 (.code r17 :: K) s = mreg prog ann 56 (some [1, 2, 3, 4, 7, 56, 57]) [] none [] [
    ⟨some 58, none, .v fun s => binA prog .lss 3 (s.get 57) (s.get 56)⟩] K s := (den_reg hf _ K s).trans (by kernel_rfl)
theorem i3_eq (K : List Item) (s : St) : den prog ann 56 (.code i3 :: K) s = ifV prog ann 56 58 i3t i3e K s (s.get 58) := den_if hf (by kernel_rfl) K s
theorem i3t_eq (K : List Item) (s : St) : den prog ann 56 (.code i3t :: K) s = den prog ann 56 (K) s := den_flat hf (l := []) (by kernel_rfl) K s
theorem i3e_eq (K : List Item) (s : St) : den prog ann 56 (.code i3e :: K) s = den prog ann 56 (.code (.exit 6) :: K) s := den_flat hf (l := [(.exit 6)]) (by kernel_rfl) K s
theorem k7_eq (K : List Item) (s : St) : den prog ann 56 (.code k7 :: K) s = den prog ann 56 (.code r18 :: .code r19 :: .code k8 :: .inBlock 7 :: K) s := den_blk hf (b := blkOf k7) (l := [r18, r19, k8]) (by kernel_rfl) (by kernel_rfl) K s
theorem r18_eq (K : List Item) (s : St) : den prog ann 56 (.code r18 :: K) s = mreg prog ann 56 none [] none [] [
    ⟨some 59, none, .v fun s => some (s.get 57)⟩,
    ⟨some 8, none, .v fun s => some (s.get 59)⟩] K s := (den_reg hf _ K s).trans (by kernel_rfl)
theorem r19_eq (K : List Item) (s : St) : den prog ann 56 (.code r19 :: K) s = mreg prog ann 56 none [] none [] [
    ⟨some 60, none, .v fun s => some (s.get 3)⟩,
    ⟨some 61, none, .v fun s => some (.int .i64 0)⟩] K s := (den_reg hf _ K s).trans (by kernel_rfl)
theorem k8_eq (K : List Item) (t : List (Nat × AV)) (m : Mem) : den prog ann 56 (.code k8 :: K) ⟨t, 161, m⟩ = L8 (get t 1) (get t 2) (get t 3) (get t 4) (get t 7) (get t 8) (get t 56) (get t 57) (get t 60) (get t 61) m K := den_loop_enter hf (b := l8) (id := 20) (l := [1, 2, 3, 4, 7, 8, 56, 57, 60, 61]) (by kernel_rfl) (by kernel_rfl) (by kernel_rfl) K _
theorem l8_eq (K : List Item) (t : List (Nat × AV)) (m : Mem) : den prog ann 56 (.inLoop l8 :: .inBlock 8 :: K) ⟨t, 161, m⟩ = L8 (get t 1) (get t 2) (get t 3) (get t 4) (get t 7) (get t 8) (get t 56) (get t 57) (get t 60) (get t 61) m K := den_loop_again hf (id := 20) (l := [1, 2, 3, 4, 7, 8, 56, 57, 60, 61]) (by kernel_rfl) (by kernel_rfl) (.inBlock 8 :: K) _
theorem L8_eq (x1 x2 x3 x4 x7 x8 x56 x57 x60 x61 : AV) (m : Mem) (K : List Item) : L8 x1 x2 x3 x4 x7 x8 x56 x57 x60 x61 m K = den prog ann 56 (.code r20 :: .code i4 :: .code k9 :: .code r28 :: .inLoop l8 :: .inBlock 8 :: K) ⟨[(1, x1), (2, x2), (3, x3), (4, x4), (7, x7), (8, x8), (56, x56), (57, x57), (60, x60), (61, x61)], 161, m⟩ := den_flat hf (l := [r20, i4, k9, r28]) (by kernel_rfl) _ _
theorem r20_eq (K : List Item) (s : St) : den prog ann 56 (.code r20 :: K) s = mreg prog ann 56 (some [1, 2, 3, 4, 7, 8, 56, 57, 60, 61]) [] none [] [
    ⟨some 62, none, .v fun s => binA prog .lss 3 (s.get 61) (s.get 60)⟩] K s := (den_reg hf _ K s).trans (by kernel_rfl)
theorem i4_eq (K : List Item) (s : St) : den prog ann 56 (.code i4 :: K) s = ifV prog ann 56 62 i4t i4e K s (s.get 62) := den_if hf (by kernel_rfl) K s
theorem i4t_eq (K : List Item) (s : St) : den prog ann 56 (.code i4t :: K) s = den prog ann 56 (K) s := den_flat hf (l := []) (by kernel_rfl) K s
theorem i4e_eq (K : List Item) (s : St) : den prog ann 56 (.code i4e :: K) s = den prog ann 56 (.code (.exit 8) :: K) s := den_flat hf (l := [(.exit 8)]) (by kernel_rfl) K s
theorem k9_eq (K : List Item) (s : St) : den prog ann 56 (.code k9 :: K) s = den prog ann 56 (.code r21 :: .code r22 :: .code k10 :: .inBlock 9 :: K) s := den_blk hf (b := blkOf k9) (l := [r21, r22, k10]) (by kernel_rfl) (by kernel_rfl) K s
theorem r21_eq (K : List Item) (s : St) : den prog ann 56 (.code r21 :: K) s = mreg prog ann 56 none [] none [] [
    ⟨some 63, none, .v fun s => some (s.get 61)⟩,
    ⟨some 9, none, .v fun s => some (s.get 63)⟩] K s := (den_reg hf _ K s).trans (by kernel_rfl)
theorem r22_eq (K : List Item) (s : St) : den prog ann 56 (.code r22 :: K) s = mreg prog ann 56 none [] none [] [
    ⟨some 64, none, .v fun s => fieldA 0 (s.get 1)⟩,
    ⟨some 65, none, .v fun s => loadF false 1 (s.get 64)⟩,
    ⟨some 66, none, .v fun s => some (s.get 8)⟩,
    ⟨some 67, none, .v fun s => idxSl 1 (s.get 65) (s.get 66)⟩,
    ⟨some 68, none, .v fun s => loadF false 1 (s.get 67)⟩,
    ⟨some 69, none, .v fun s => lenSl (s.get 68)⟩,
    ⟨some 70, none, .v fun s => some (.int .i64 0)⟩] K s := (den_reg hf _ K s).trans (by kernel_rfl)
theorem k10_eq (K : List Item) (t : List (Nat × AV)) (m : Mem) : den prog ann 56 (.code k10 :: K) ⟨t, 161, m⟩ = L10 (get t 1) (get t 2) (get t 3) (get t 4) (get t 7) (get t 8) (get t 9) (get t 56) (get t 57) (get t 60) (get t 61) (get t 69) (get t 70) m K := den_loop_enter hf (b := l10) (id := 23) (l := [1, 2, 3, 4, 7, 8, 9, 56, 57, 60, 61, 69, 70]) (by kernel_rfl) (by kernel_rfl) (by kernel_rfl) K _
theorem l10_eq (K : List Item) (t : List (Nat × AV)) (m : Mem) : den prog ann 56 (.inLoop l10 :: .inBlock 10 :: K) ⟨t, 161, m⟩ = L10 (get t 1) (get t 2) (get t 3) (get t 4) (get t 7) (get t 8) (get t 9) (get t 56) (get t 57) (get t 60) (get t 61) (get t 69) (get t 70) m K := den_loop_again hf (id := 23) (l := [1, 2, 3, 4, 7, 8, 9, 56, 57, 60, 61, 69, 70]) (by kernel_rfl) (by kernel_rfl) (.inBlock 10 :: K) _
theorem L10_eq (x1 x2 x3 x4 x7 x8 x9 x56 x57 x60 x61 x69 x70 : AV) (m : Mem) (K : List Item) : L10 x1 x2 x3 x4 x7 x8 x9 x56 x57 x60 x61 x69 x70 m K = den prog ann 56 (.code r23 :: .code i5 :: .code k11 :: .code r27 :: .inLoop l10 :: .inBlock 10 :: K) ⟨[(1, x1), (2, x2), (3, x3), (4, x4), (7, x7), (8, x8), (9, x9), (56, x56), (57, x57), (60, x60), (61, x61), (69, x69), (70, x70)], 161, m⟩ := den_flat hf (l := [r23, i5, k11, r27]) (by kernel_rfl) _ _
theorem r23_eq (K : List Item) (s : St) : den prog ann 56 (.code r23 :: K) s = mreg prog ann 56 (some [1, 2, 3, 4, 7, 8, 9, 56, 57, 60, 61, 69, 70]) [] none [] [
    ⟨some 71, none, .v fun s => binA prog .lss 3 (s.get 70) (s.get 69)⟩] K s := (den_reg hf _ K s).trans (by kernel_rfl)
theorem i5_eq (K : List Item) (s : St) : den prog ann 56 (.code i5 :: K) s = ifV prog ann 56 71 i5t i5e K s (s.get 71) := den_if hf (by kernel_rfl) K s
theorem i5t_eq (K : List Item) (s : St) : den prog ann 56 (.code i5t :: K) s = den prog ann 56 (K) s := den_flat hf (l := []) (by kernel_rfl) K s
theorem i5e_eq (K : List Item) (s : St) : den prog ann 56 (.code i5e :: K) s = den prog ann 56 (.code (.exit 10) :: K) s := den_flat hf (l := [(.exit 10)]) (by kernel_rfl) K s
theorem k11_eq (K : List Item) (s : St) : den prog ann 56 (.code k11 :: K) s = den prog ann 56 (.code r24 :: .code r25 :: .code i6 :: .inBlock 11 :: K) s := den_blk hf (b := blkOf k11) (l := [r24, r25, i6]) (by kernel_rfl) (by kernel_rfl) K s
theorem r24_eq (K : List Item) (s : St) : den prog ann 56 (.code r24 :: K) s = mreg prog ann 56 none [] none [] [
    ⟨some 72, none, .v fun s => some (s.get 70)⟩,
    ⟨some 10, none, .v fun s => some (s.get 72)⟩] K s := (den_reg hf _ K s).trans (by kernel_rfl)
theorem r25_draw : drawOk (fun g => (ann g).pure) (modeOf (ann 56) (idOf r25)) (frzOf (ann 56) (idOf r25)) (opsOf r25) = true := drawOk_of (an := [0, 0, 3, 7, 0, 31, 63, 127, 255, 511, 511, 1535, 511, 7679, 15871, 511, 65023, 130559, 262143, 524287, 511, 1049087, 511, 7340543, 15729151, 511, 66060799, 133169663, 268435455, 536870911, 1073741823]) (by kernel_rfl) (by kernel_rfl)
theorem r25_eq (K : List Item) (s : St) : den prog ann 56 (.code r25 :: K) s = mreg prog ann 56 none [] (some 31) [] [
    ⟨some 73, none, .v fun s => loadF false 1 (s.get 4)⟩,
    ⟨some 74, none, .v fun s => some (s.get 8)⟩,
    ⟨some 75, none, .v fun s => idxSl 1 (s.get 73) (s.get 74)⟩,
    ⟨some 76, none, .v fun s => loadA false 1 s.m (s.get 75)⟩,
    ⟨some 77, none, .v fun s => some (s.get 9)⟩,
    ⟨some 78, none, .v fun s => idxSl 1 (s.get 76) (s.get 77)⟩,
    ⟨some 79, none, .v fun s => loadA false 1 s.m (s.get 78)⟩,
    ⟨some 80, none, .v fun s => unA .not (s.get 79)⟩,
    ⟨some 81, none, .v fun s => some (s.get 80)⟩,
    ⟨some 82, some (81, true), .v fun s => loadF false 1 (s.get 4)⟩,
    ⟨some 83, some (81, true), .v fun s => fieldA 0 (s.get 1)⟩,
    ⟨some 84, some (81, true), .v fun s => loadF false 1 (s.get 83)⟩,
    ⟨some 85, some (81, true), .v fun s => some (s.get 8)⟩,
    ⟨some 86, some (81, true), .v fun s => idxSl 1 (s.get 84) (s.get 85)⟩,
    ⟨some 87, some (81, true), .v fun s => loadF false 1 (s.get 86)⟩,
    ⟨some 88, some (81, true), .v fun s => some (s.get 10)⟩,
    ⟨some 89, some (81, true), .v fun s => idxSl 1 (s.get 87) (s.get 88)⟩,
    ⟨some 90, some (81, true), .v fun s => loadF false 1 (s.get 89)⟩,
    ⟨some 91, some (81, true), .v fun s => idxSl 1 (s.get 82) (s.get 90)⟩,
    ⟨some 92, some (81, true), .v fun s => loadA false 1 s.m (s.get 91)⟩,
    ⟨some 93, some (81, true), .v fun s => fieldA 0 (s.get 1)⟩,
    ⟨some 94, some (81, true), .v fun s => loadF false 1 (s.get 93)⟩,
    ⟨some 95, some (81, true), .v fun s => some (s.get 9)⟩,
    ⟨some 96, some (81, true), .v fun s => idxSl 1 (s.get 94) (s.get 95)⟩,
    ⟨some 97, some (81, true), .v fun s => loadF false 1 (s.get 96)⟩,
    ⟨some 98, some (81, true), .v fun s => some (s.get 10)⟩,
    ⟨some 99, some (81, true), .v fun s => idxSl 1 (s.get 97) (s.get 98)⟩,
    ⟨some 100, some (81, true), .v fun s => loadF false 1 (s.get 99)⟩,
    ⟨some 101, some (81, true), .v fun s => idxSl 1 (s.get 92) (s.get 100)⟩,
    ⟨some 102, some (81, true), .v fun s => loadA false 1 s.m (s.get 101)⟩,
    ⟨some 103, none, .v fun s => pickA (s.get 81) (s.get 102) (.bool false)⟩] K s := (den_regD hf r25_draw K s).trans (by kernel_rfl)
theorem i6_eq (K : List Item) (s : St) : den prog ann 56 (.code i6 :: K) s = ifV prog ann 56 103 i6t i6e K s (s.get 103) := den_if hf (by kernel_rfl) K s
theorem i6t_eq (K : List Item) (s : St) : den prog ann 56 (.code i6t :: K) s = den prog ann 56 (.code r26 :: K) s := den_flat hf (l := [r26]) (by kernel_rfl) K s
theorem r26_eq (K : List Item) (s : St) : den prog ann 56 (.code r26 :: K) s = mreg prog ann 56 none [] none [] [
    ⟨some 104, none, .v fun s => loadF false 1 (s.get 4)⟩,
    ⟨some 105, none, .v fun s => some (s.get 8)⟩,
    ⟨some 106, none, .v fun s => idxSl 1 (s.get 104) (s.get 105)⟩,
    ⟨some 107, none, .v fun s => loadA false 1 s.m (s.get 106)⟩,
    ⟨some 108, none, .v fun s => some (s.get 9)⟩,
    ⟨some 109, none, .v fun s => idxSl 1 (s.get 107) (s.get 108)⟩,
    ⟨none, none, .w false none fun s => stA false 1 s.m (s.get 109) (.bool true)⟩,
    ⟨some 7, none, .v fun s => some (.bool true)⟩] K s := (den_reg hf _ K s).trans (by kernel_rfl)
theorem i6e_eq (K : List Item) (s : St) : den prog ann 56 (.code i6e :: K) s = den prog ann 56 (K) s := den_flat hf (l := []) (by kernel_rfl) K s
theorem r27_eq (K : List Item) (s : St) : den prog ann 56 (.code r27 :: K) s = mreg prog ann 56 (some [1, 2, 3, 4, 7, 8, 9, 56, 57, 60, 61, 69, 70]) [] none [] [
    ⟨some 110, none, .v fun s => binA prog .add 3 (s.get 70) (.int .i64 1)⟩,
    ⟨some 70, none, .v fun s => some (s.get 110)⟩] K s := (den_reg hf _ K s).trans (by kernel_rfl)
theorem r28_eq (K : List Item) (s : St) : den prog ann 56 (.code r28 :: K) s = mreg prog ann 56 (some [1, 2, 3, 4, 7, 8, 56, 57, 60, 61]) [] none [] [
    ⟨some 111, none, .v fun s => binA prog .add 3 (s.get 61) (.int .i64 1)⟩,
    ⟨some 61, none, .v fun s => some (s.get 111)⟩] K s := (den_reg hf _ K s).trans (by kernel_rfl)
theorem r29_eq (K : List Item) (s : St) : den prog ann 56 (.code r29 :: K) s = mreg prog ann 56 (some [1, 2, 3, 4, 7, 56, 57]) [] none [] [
    ⟨some 112, none, .v fun s => binA prog .add 3 (s.get 57) (.int .i64 1)⟩,
    ⟨some 57, none, .v fun s => some (s.get 112)⟩] K s := (den_reg hf _ K s).trans (by kernel_rfl)
theorem r30_eq (K : List Item) (s : St) : den prog ann 56 (.code r30 :: K) s = mreg prog ann 56 (some [1, 2, 4]) [] none [] [
    ⟨some 11, none, .w false none fun s => newPtr s.m [.nils, .nils]⟩] K s := (den_reg hf _ K s).trans (by kernel_rfl)
theorem r31_eq (K : List Item) (s : St) : den prog ann 56 (.code r31 :: K) s = mreg prog ann 56 none [] none [] [
    ⟨some 113, none, .w false none fun s => bslM s.m 1 (bslA 1 1 [.int .i64 0] [(0, (.int .i64 0))])⟩,
    ⟨some 12, none, .w false none fun s => newPtr s.m [.nils]⟩,
    ⟨none, none, .w false none fun s => stA false 1 s.m (s.get 12) (s.get 113)⟩] K s := (den_reg hf _ K s).trans (by kernel_rfl)
theorem r32_eq (K : List Item) (s : St) : den prog ann 56 (.code r32 :: K) s = mreg prog ann 56 none [] none [] [
    ⟨some 114, none, .v fun s => some (.fn 80 [] [(s.get 12), (s.get 4)])⟩,
    ⟨some 13, none, .v fun s => some (s.get 114)⟩] K s := (den_reg hf _ K s).trans (by kernel_rfl)
theorem r33_eq (K : List Item) (s : St) : den prog ann 56 (.code r33 :: K) s = mreg prog ann 56 none [] none [] [
    ⟨some 14, none, .v fun s => some (.int .i64 0)⟩] K s := (den_reg hf _ K s).trans (by kernel_rfl)
theorem k12_eq (K : List Item) (t : List (Nat × AV)) (m : Mem) : den prog ann 56 (.code k12 :: K) ⟨t, 161, m⟩ = L12 (get t 1) (get t 2) (get t 11) (get t 12) (get t 13) (get t 14) m K := den_loop_enter hf (b := l12) (id := 34) (l := [1, 2, 11, 12, 13, 14]) (by kernel_rfl) (by kernel_rfl) (by kernel_rfl) K _
theorem l12_eq (K : List Item) (t : List (Nat × AV)) (m : Mem) : den prog ann 56 (.inLoop l12 :: .inBlock 12 :: K) ⟨t, 161, m⟩ = L12 (get t 1) (get t 2) (get t 11) (get t 12) (get t 13) (get t 14) m K := den_loop_again hf (id := 34) (l := [1, 2, 11, 12, 13, 14]) (by kernel_rfl) (by kernel_rfl) (.inBlock 12 :: K) _
theorem L12_eq (x1 x2 x11 x12 x13 x14 : AV) (m : Mem) (K : List Item) : L12 x1 x2 x11 x12 x13 x14 m K = den prog ann 56 (.code r34 :: .code i7 :: .code k13 :: .code r35 :: .inLoop l12 :: .inBlock 12 :: K) ⟨[(1, x1), (2, x2), (11, x11), (12, x12), (13, x13), (14, x14)], 161, m⟩ := den_flat hf (l := [r34, i7, k13, r35]) (by kernel_rfl) _ _
theorem r34_eq (K : List Item) (s : St) : den prog ann 56 (.code r34 :: K) s = mreg prog ann 56 (some [1, 2, 11, 12, 13, 14]) [] none [] [
    ⟨some 115, none, .v fun s => some (s.get 14)⟩,
    ⟨some 116, none, .v fun s => loadA false 1 s.m (s.get 12)⟩,
    ⟨some 117, none, .v fun s => lenSl (s.get 116)⟩,
    ⟨some 118, none, .v fun s => binA prog .lss 3 (s.get 115) (s.get 117)⟩] K s := (den_reg hf _ K s).trans (by kernel_rfl)
theorem i7_eq (K : List Item) (s : St) : den prog ann 56 (.code i7 :: K) s = ifV prog ann 56 118 i7t i7e K s (s.get 118) := den_if hf (by kernel_rfl) K s
theorem i7t_eq (K : List Item) (s : St) : den prog ann 56 (.code i7t :: K) s = den prog ann 56 (K) s := den_flat hf (l := []) (by kernel_rfl) K s
theorem i7e_eq (K : List Item) (s : St) : den prog ann 56 (.code i7e :: K) s = den prog ann 56 (.code (.exit 12) :: K) s := den_flat hf (l := [(.exit 12)]) (by kernel_rfl) K s
theorem k13_eq (K : List Item) (s : St) : den prog ann 56 (.code k13 :: K) s = den prog ann 56 (.code r36 :: .code r37 :: .code k14 :: .code r42 :: .inBlock 13 :: K) s := den_blk hf (b := blkOf k13) (l := [r36, r37, k14, r42]) (by kernel_rfl) (by kernel_rfl) K s
theorem r36_eq (K : List Item) (s : St) : den prog ann 56 (.code r36 :: K) s = mreg prog ann 56 none [] none [] [
    ⟨some 15, none, .v fun s => some (.nils)⟩] K s := (den_reg hf _ K s).trans (by kernel_rfl)
theorem r37_draw : drawOk (fun g => (ann g).pure) (modeOf (ann 56) (idOf r37)) (frzOf (ann 56) (idOf r37)) (opsOf r37) = true := drawOk_of (an := [0, 1, 0, 0, 12, 28, 63, 127, 255, 0]) (by kernel_rfl) (by kernel_rfl)
theorem r37_eq (K : List Item) (s : St) : den prog ann 56 (.code r37 :: K) s = mreg prog ann 56 none [] (some 10) [] [
    ⟨some 121, none, .v fun s => fieldA 0 (s.get 1)⟩,
    ⟨some 122, none, .v fun s => loadF false 1 (s.get 121)⟩,
    ⟨some 123, none, .v fun s => loadA false 1 s.m (s.get 12)⟩,
    ⟨some 124, none, .v fun s => some (s.get 14)⟩,
    ⟨some 125, none, .v fun s => idxSl 1 (s.get 123) (s.get 124)⟩,
    ⟨some 126, none, .v fun s => loadA false 1 s.m (s.get 125)⟩,
    ⟨some 127, none, .v fun s => idxSl 1 (s.get 122) (s.get 126)⟩,
    ⟨some 128, none, .v fun s => loadF false 1 (s.get 127)⟩,
    ⟨some 129, none, .v fun s => lenSl (s.get 128)⟩,
    ⟨some 130, none, .v fun s => some (.int .i64 0)⟩] K s := (den_regD hf r37_draw K s).trans (by kernel_rfl)
theorem k14_eq (K : List Item) (t : List (Nat × AV)) (m : Mem) : den prog ann 56 (.code k14 :: K) ⟨t, 161, m⟩ = L14 (get t 1) (get t 2) (get t 11) (get t 12) (get t 13) (get t 14) (get t 15) (get t 128) (get t 129) (get t 130) m K := den_loop_enter hf (b := l14) (id := 38) (l := [1, 2, 11, 12, 13, 14, 15, 128, 129, 130]) (by kernel_rfl) (by kernel_rfl) (by kernel_rfl) K _
theorem l14_eq (K : List Item) (t : List (Nat × AV)) (m : Mem) : den prog ann 56 (.inLoop l14 :: .inBlock 14 :: K) ⟨t, 161, m⟩ = L14 (get t 1) (get t 2) (get t 11) (get t 12) (get t 13) (get t 14) (get t 15) (get t 128) (get t 129) (get t 130) m K := den_loop_again hf (id := 38) (l := [1, 2, 11, 12, 13, 14, 15, 128, 129, 130]) (by kernel_rfl) (by kernel_rfl) (.inBlock 14 :: K) _
theorem L14_eq (x1 x2 x11 x12 x13 x14 x15 x128 x129 x130 : AV) (m : Mem) (K : List Item) : L14 x1 x2 x11 x12 x13 x14 x15 x128 x129 x130 m K = den prog ann 56 (.code r38 :: .code i8 :: .code k15 :: .code r41 :: .inLoop l14 :: .inBlock 14 :: K) ⟨[(1, x1), (2, x2), (11, x11), (12, x12), (13, x13), (14, x14), (15, x15), (128, x128), (129, x129), (130, x130)], 161, m⟩ := den_flat hf (l := [r38, i8, k15, r41]) (by kernel_rfl) _ _
theorem r38_eq (K : List Item) (s : St) : den prog ann 56 (.code r38 :: K) s = mreg prog ann 56 (some [1, 2, 11, 12, 13, 14, 15, 128, 129, 130]) [] none [] [
    ⟨some 131, none, .v fun s => binA prog .lss 3 (s.get 130) (s.get 129)⟩] K s := (den_reg hf _ K s).trans (by kernel_rfl)
theorem i8_eq (K : List Item) (s : St) : den prog ann 56 (.code i8 :: K) s = ifV prog ann 56 131 i8t i8e K s (s.get 131) := den_if hf (by kernel_rfl) K s
theorem i8t_eq (K : List Item) (s : St) : den prog ann 56 (.code i8t :: K) s = den prog ann 56 (K) s := den_flat hf (l := []) (by kernel_rfl) K s
theorem i8e_eq (K : List Item) (s : St) : den prog ann 56 (.code i8e :: K) s = den prog ann 56 (.code (.exit 14) :: K) s := den_flat hf (l := [(.exit 14)]) (by kernel_rfl) K s
theorem k15_eq (K : List Item) (s : St) : den prog ann 56 (.code k15 :: K) s = den prog ann 56 (.code r39 :: .code r40 :: .inBlock 15 :: K) s := den_blk hf (b := blkOf k15) (l := [r39, r40]) (by kernel_rfl) (by kernel_rfl) K s
theorem r39_eq (K : List Item) (s : St) : den prog ann 56 (.code r39 :: K) s = mreg prog ann 56 none [] none [] [
    ⟨some 132, none, .v fun s => idxSl 1 (s.get 128) (s.get 130)⟩,
    ⟨some 133, none, .v fun s => loadF false 1 (s.get 132)⟩,
    ⟨some 17, none, .v fun s => some (s.get 133)⟩] K s := (den_reg hf _ K s).trans (by kernel_rfl)
theorem r40_eq (K : List Item) (s : St) : den prog ann 56 (.code r40 :: K) s = mreg prog ann 56 none [] none [] [
    ⟨some 134, none, .v fun s => some (s.get 15)⟩,
    ⟨some 135, none, .v fun s => some (s.get 13)⟩,
    ⟨some 136, none, .v fun s => some (s.get 17)⟩,
    ⟨some 137, none, .c 0 (fun s => (s.get 135)) fun s => [(s.get 136)]⟩,
    ⟨some 138, none, .v fun s => bslF 1 (bslA 1 1 [.int .i64 0] [(0, (s.get 137))])⟩,
    ⟨some 139, none, .w false none fun s => appendA 1 8 s.m (s.get 134) (s.get 138)⟩,
    ⟨some 15, none, .v fun s => some (s.get 139)⟩] K s := (den_reg hf _ K s).trans (by kernel_rfl)
theorem r41_eq (K : List Item) (s : St) : den prog ann 56 (.code r41 :: K) s = mreg prog ann 56 (some [1, 2, 11, 12, 13, 14, 15, 128, 129, 130]) [] none [] [
    ⟨some 140, none, .v fun s => binA prog .add 3 (s.get 130) (.int .i64 1)⟩,
    ⟨some 130, none, .v fun s => some (s.get 140)⟩] K s := (den_reg hf _ K s).trans (by kernel_rfl)
theorem r42_draw : drawOk (fun g => (ann g).pure) (modeOf (ann 56) (idOf r42)) (frzOf (ann 56) (idOf r42)) (opsOf r42) = true := drawOk_of (an := [0, 1, 0, 4, 15, 0, 32, 0, 128, 0, 0, 1536, 3584, 8064, 16256, 32640, 65535, 127, 262143, 524287, 1048575]) (by kernel_rfl) (by kernel_rfl)
theorem r42_eq (K : List Item) (s : St) : den prog ann 56 (.code r42 :: K) s = mreg prog ann 56 (some [1, 2, 11, 12, 13, 14, 15]) [15] (some 21) [3142146, 2000144, 3142012, 3142152] [
    ⟨some 141, none, .v fun s => fieldA 0 (s.get 11)⟩,
    ⟨some 142, none, .v fun s => loadA false 1 s.m (s.get 141)⟩,
    ⟨some 143, none, .v fun s => some (s.get 15)⟩,
    ⟨some 144, none, .v fun s => bslF 1 (bslA 1 1 [.nils] [(0, (s.get 143))])⟩,
    ⟨some 145, none, .w false (some 4) fun s => appendA 1 24 s.m (s.get 142) (s.get 144)⟩,
    ⟨some 146, none, .v fun s => fieldA 1 (s.get 11)⟩,
    ⟨some 147, none, .v fun s => loadA false 1 s.m (s.get 146)⟩,
    ⟨some 148, none, .v fun s => fieldA 1 (s.get 1)⟩,
    ⟨some 149, none, .v fun s => loadF false 1 (s.get 148)⟩,
    ⟨some 150, none, .v fun s => loadA false 1 s.m (s.get 12)⟩,
    ⟨some 151, none, .v fun s => some (s.get 14)⟩,
    ⟨some 152, none, .v fun s => idxSl 1 (s.get 150) (s.get 151)⟩,
    ⟨some 153, none, .v fun s => loadA false 1 s.m (s.get 152)⟩,
    ⟨some 154, none, .v fun s => idxSl 1 (s.get 149) (s.get 153)⟩,
    ⟨some 155, none, .v fun s => loadF false 1 (s.get 154)⟩,
    ⟨some 156, none, .v fun s => bslF 1 (bslA 1 1 [.bool false] [(0, (s.get 155))])⟩,
    ⟨some 157, none, .w false (some 16) fun s => appendA 1 1 s.m (s.get 147) (s.get 156)⟩,
    ⟨some 158, none, .v fun s => fieldA 0 (s.get 11)⟩,
    ⟨none, none, .w false (some 18) fun s => stA false 1 s.m (s.get 158) (s.get 145)⟩,
    ⟨some 159, none, .v fun s => fieldA 1 (s.get 11)⟩,
    ⟨none, none, .w false (some 20) fun s => stA false 1 s.m (s.get 159) (s.get 157)⟩] K s := (den_regD hf r42_draw K s).trans (by kernel_rfl)
theorem r35_eq (K : List Item) (s : St) : den prog ann 56 (.code r35 :: K) s = mreg prog ann 56 (some [1, 2, 11, 12, 13, 14]) [] none [] [
    ⟨some 119, none, .v fun s => some (s.get 14)⟩,
    ⟨some 120, none, .v fun s => binA prog .add 3 (s.get 119) (.int .i64 1)⟩,
    ⟨some 14, none, .v fun s => some (s.get 120)⟩] K s := (den_reg hf _ K s).trans (by kernel_rfl)
theorem r43_eq (K : List Item) (s : St) : den prog ann 56 (.code r43 :: K) s = mreg prog ann 56 (some [2, 11]) [] none [] [
    ⟨some 160, none, .v fun s => loadA true 2 s.m (s.get 11)⟩,
    ⟨none, none, .w false none fun s => stA true 2 s.m (s.get 2) (s.get 160)⟩] K s := (den_reg hf _ K s).trans (by kernel_rfl)
theorem ret_eq (K : List Item) (s : St) : den prog ann 56 (.code .ret :: K) s = finM true [fun s => loadA true 2 s.m (s.get 2)] s := (den_ret hf K s).trans (by kernel_rfl)
theorem nil_eq (s : St) : den prog ann 56 [] s = finM true [fun s => loadA true 2 s.m (s.get 2)] s := (den_nil hf s).trans (by kernel_rfl)
theorem inBlock_eq (id : Nat) (K : List Item) (s : St) : den prog ann 56 (.inBlock id :: K) s = den prog ann 56 K s := den_inBlock hf id K s
theorem exit_eq (id : Nat) (K : List Item) (s : St) : den prog ann 56 (.code (.exit id) :: K) s = exitV prog ann 56 (exitTo id K) s := den_exitV hf id K s
theorem call_eq (v0 : AV) (m : Mem) (h : closedL [v0] = true) : denC prog ann 56 [v0] m = (den prog ann 56 [.code b] ⟨[(0, v0)], 161, Mem.empty⟩).bind fun r => some (r.1, m) := (denC_pure hf (b := b) (by kernel_rfl) (by kernel_rfl) (by kernel_rfl) h m).trans (by kernel_rfl)
theorem pure_eq : (ann 56).pure = true := by kernel_rfl
attribute [simp] b_eq r0_eq r1_eq r2_eq r3_eq k0_eq l0_eq r4_eq i0_eq i0t_eq i0e_eq k1_eq r5_eq r6_eq r7_eq k2_eq l2_eq r8_eq i1_eq i1t_eq i1e_eq k3_eq r9_eq r10_eq r11_eq r12_eq r13_eq k4_eq l4_eq r14_eq i2_eq i2t_eq i2e_eq k5_eq r15_eq r16_eq k6_eq l6_eq r17_eq i3_eq i3t_eq i3e_eq k7_eq r18_eq r19_eq k8_eq l8_eq r20_eq i4_eq i4t_eq i4e_eq k9_eq r21_eq r22_eq k10_eq l10_eq r23_eq i5_eq i5t_eq i5e_eq k11_eq r24_eq r25_eq i6_eq i6t_eq r26_eq i6e_eq r27_eq r28_eq r29_eq r30_eq r31_eq r32_eq r33_eq k12_eq l12_eq r34_eq i7_eq i7t_eq i7e_eq k13_eq r36_eq r37_eq k14_eq l14_eq r38_eq i8_eq i8t_eq i8e_eq k15_eq r39_eq r40_eq r41_eq r42_eq r35_eq r43_eq ret_eq nil_eq inBlock_eq exit_eq pure_eq
end brand_smallest

namespace r07_reached
/-- pommel/pommelref07.reached -/
noncomputable def b : Code := (Try.f66.body).getD .skip
theorem hf : prog.funcs[66]? = some Try.f66 := by kernel_rfl
noncomputable def r0 : Code := findReg b 0
noncomputable def r1 : Code := findReg b 1
noncomputable def r2 : Code := findReg b 2
noncomputable def k0 : Code := findBlk b 0
noncomputable def l0 : Code := loopOf k0
noncomputable def L0 (x1 x4 x5 x6 : AV) (m : Mem) (K : List Item) : Option Res := den prog ann 66 (.code l0 :: .inLoop l0 :: .inBlock 0 :: K) ⟨[(1, x1), (4, x4), (5, x5), (6, x6)], 72, m⟩
noncomputable def r3 : Code := findReg b 3
noncomputable def i0 : Code := findCond b 0
noncomputable def i0t : Code := thenOf i0
noncomputable def i0e : Code := elseOf i0
noncomputable def k1 : Code := findBlk b 1
noncomputable def r5 : Code := findReg b 5
noncomputable def k2 : Code := findBlk b 2
noncomputable def l2 : Code := loopOf k2
noncomputable def L2 (x1 x4 x5 x6 x7 : AV) (m : Mem) (K : List Item) : Option Res := den prog ann 66 (.code l2 :: .inLoop l2 :: .inBlock 2 :: K) ⟨[(1, x1), (4, x4), (5, x5), (6, x6), (7, x7)], 72, m⟩
noncomputable def r6 : Code := findReg b 6
noncomputable def i1 : Code := findCond b 1
noncomputable def i1t : Code := thenOf i1
noncomputable def i1e : Code := elseOf i1
noncomputable def k3 : Code := findBlk b 3
noncomputable def r8 : Code := findReg b 8
noncomputable def r9 : Code := findReg b 9
noncomputable def k4 : Code := findBlk b 4
noncomputable def l4 : Code := loopOf k4
noncomputable def L4 (x1 x4 x5 x6 x7 x8 x9 x10 : AV) (m : Mem) (K : List Item) : Option Res := den prog ann 66 (.code l4 :: .inLoop l4 :: .inBlock 4 :: K) ⟨[(1, x1), (4, x4), (5, x5), (6, x6), (7, x7), (8, x8), (9, x9), (10, x10)], 72, m⟩
noncomputable def r10 : Code := findReg b 10
noncomputable def i2 : Code := findCond b 2
noncomputable def i2t : Code := thenOf i2
noncomputable def i2e : Code := elseOf i2
noncomputable def k5 : Code := findBlk b 5
noncomputable def r12 : Code := findReg b 12
noncomputable def r11 : Code := findReg b 11
noncomputable def r13 : Code := findReg b 13
noncomputable def i3 : Code := findCond b 3
noncomputable def i3t : Code := thenOf i3
noncomputable def i3e : Code := elseOf i3
noncomputable def r14 : Code := findReg b 14
noncomputable def r7 : Code := findReg b 7
noncomputable def r4 : Code := findReg b 4
noncomputable def r15 : Code := findReg b 15
theorem b_eq (K : List Item) (s : St) : den prog ann 66 (.code b :: K) s = den prog ann 66 (.code r0 :: .code r1 :: .code r2 :: .code k0 :: .code r15 :: .code .ret :: K) s := den_flat hf (l := [r0, r1, r2, k0, r15, .ret]) (by kernel_rfl) K s
theorem r0_eq (K : List Item) (s : St) : den prog ann 66 (.code r0 :: K) s = mreg prog ann 66 none [] none [] [
    ⟨some 1, none, .v fun s => frozenPtr (s.get 0)⟩,
    ⟨some 2, none, .v fun s => some (.nils)⟩,
    ⟨some 3, none, .v fun s => some (.nils)⟩] K s := (den_reg hf _ K s).trans (by kernel_rfl)
theorem r1_eq (K : List Item) (s : St) : den prog ann 66 (.code r1 :: K) s = mreg prog ann 66 none [] none [] [
    ⟨some 11, none, .w false none fun s => bslM s.m 1 (bslA 1 1 [.int .i64 0] [(0, (.int .i64 0))])⟩,
    ⟨some 12, none, .w false none fun s => bslM s.m 1 (bslA 1 1 [.str []] [(0, (.str []))])⟩,
    ⟨some 4, none, .v fun s => some (s.get 11)⟩,
    ⟨some 5, none, .v fun s => some (s.get 12)⟩] K s := (den_reg hf _ K s).trans (by kernel_rfl)
theorem r2_eq (K : List Item) (s : St) : den prog ann 66 (.code r2 :: K) s = mreg prog ann 66 none [] none [] [
    ⟨some 6, none, .v fun s => some (.int .i64 0)⟩] K s := (den_reg hf _ K s).trans (by kernel_rfl)
theorem k0_eq (K : List Item) (t : List (Nat × AV)) (m : Mem) : den prog ann 66 (.code k0 :: K) ⟨t, 72, m⟩ = L0 (get t 1) (get t 4) (get t 5) (get t 6) m K := den_loop_enter hf (b := l0) (id := 3) (l := [1, 4, 5, 6]) (by kernel_rfl) (by kernel_rfl) (by kernel_rfl) K _
theorem l0_eq (K : List Item) (t : List (Nat × AV)) (m : Mem) : den prog ann 66 (.inLoop l0 :: .inBlock 0 :: K) ⟨t, 72, m⟩ = L0 (get t 1) (get t 4) (get t 5) (get t 6) m K := den_loop_again hf (id := 3) (l := [1, 4, 5, 6]) (by kernel_rfl) (by kernel_rfl) (.inBlock 0 :: K) _
theorem L0_eq (x1 x4 x5 x6 : AV) (m : Mem) (K : List Item) : L0 x1 x4 x5 x6 m K = den prog ann 66 (.code r3 :: .code i0 :: .code k1 :: .code r4 :: .inLoop l0 :: .inBlock 0 :: K) ⟨[(1, x1), (4, x4), (5, x5), (6, x6)], 72, m⟩ := den_flat hf (l := [r3, i0, k1, r4]) (by kernel_rfl) _ _
theorem r3_eq (K : List Item) (s : St) : den prog ann 66 (.code r3 :: K) s = mreg prog ann 66 (some [1, 4, 5, 6]) [] none [] [
    ⟨some 13, none, .v fun s => some (s.get 6)⟩,
    ⟨some 14, none, .v fun s => some (s.get 4)⟩,
    ⟨some 15, none, .v fun s => lenSl (s.get 14)⟩,
    ⟨some 16, none, .v fun s => binA prog .lss 3 (s.get 13) (s.get 15)⟩] K s := (den_reg hf _ K s).trans (by kernel_rfl)
theorem i0_eq (K : List Item) (s : St) : den prog ann 66 (.code i0 :: K) s = ifV prog ann 66 16 i0t i0e K s (s.get 16) := den_if hf (by kernel_rfl) K s
theorem i0t_eq (K : List Item) (s : St) : den prog ann 66 (.code i0t :: K) s = den prog ann 66 (K) s := den_flat hf (l := []) (by kernel_rfl) K s
theorem i0e_eq (K : List Item) (s : St) : den prog ann 66 (.code i0e :: K) s = den prog ann 66 (.code (.exit 0) :: K) s := den_flat hf (l := [(.exit 0)]) (by kernel_rfl) K s
theorem k1_eq (K : List Item) (s : St) : den prog ann 66 (.code k1 :: K) s = den prog ann 66 (.code r5 :: .code k2 :: .inBlock 1 :: K) s := den_blk hf (b := blkOf k1) (l := [r5, k2]) (by kernel_rfl) (by kernel_rfl) K s
theorem r5_eq (K : List Item) (s : St) : den prog ann 66 (.code r5 :: K) s = mreg prog ann 66 none [] none [] [
    ⟨some 7, none, .v fun s => some (.int .i64 0)⟩] K s := (den_reg hf _ K s).trans (by kernel_rfl)
theorem k2_eq (K : List Item) (t : List (Nat × AV)) (m : Mem) : den prog ann 66 (.code k2 :: K) ⟨t, 72, m⟩ = L2 (get t 1) (get t 4) (get t 5) (get t 6) (get t 7) m K := den_loop_enter hf (b := l2) (id := 6) (l := [1, 4, 5, 6, 7]) (by kernel_rfl) (by kernel_rfl) (by kernel_rfl) K _
theorem l2_eq (K : List Item) (t : List (Nat × AV)) (m : Mem) : den prog ann 66 (.inLoop l2 :: .inBlock 2 :: K) ⟨t, 72, m⟩ = L2 (get t 1) (get t 4) (get t 5) (get t 6) (get t 7) m K := den_loop_again hf (id := 6) (l := [1, 4, 5, 6, 7]) (by kernel_rfl) (by kernel_rfl) (.inBlock 2 :: K) _
theorem L2_eq (x1 x4 x5 x6 x7 : AV) (m : Mem) (K : List Item) : L2 x1 x4 x5 x6 x7 m K = den prog ann 66 (.code r6 :: .code i1 :: .code k3 :: .code r7 :: .inLoop l2 :: .inBlock 2 :: K) ⟨[(1, x1), (4, x4), (5, x5), (6, x6), (7, x7)], 72, m⟩ := den_flat hf (l := [r6, i1, k3, r7]) (by kernel_rfl) _ _
theorem r6_eq (K : List Item) (s : St) : den prog ann 66 (.code r6 :: K) s = mreg prog ann 66 (some [1, 4, 5, 6, 7]) [] none [] [
    ⟨some 19, none, .v fun s => some (s.get 7)⟩,
    ⟨some 20, none, .v fun s => fieldA 0 (s.get 1)⟩,
    ⟨some 21, none, .v fun s => loadF false 1 (s.get 20)⟩,
    ⟨some 22, none, .v fun s => idxSl 1 (s.get 21) (.int .i64 0)⟩,
    ⟨some 23, none, .v fun s => loadF false 1 (s.get 22)⟩,
    ⟨some 24, none, .v fun s => lenSl (s.get 23)⟩,
    ⟨some 25, none, .v fun s => binA prog .lss 3 (s.get 19) (s.get 24)⟩] K s := (den_reg hf _ K s).trans (by kernel_rfl)
theorem i1_eq (K : List Item) (s : St) : den prog ann 66 (.code i1 :: K) s = ifV prog ann 66 25 i1t i1e K s (s.get 25) := den_if hf (by kernel_rfl) K s
theorem i1t_eq (K : List Item) (s : St) : den prog ann 66 (.code i1t :: K) s = den prog ann 66 (K) s := den_flat hf (l := []) (by kernel_rfl) K s
theorem i1e_eq (K : List Item) (s : St) : den prog ann 66 (.code i1e :: K) s = den prog ann 66 (.code (.exit 2) :: K) s := den_flat hf (l := [(.exit 2)]) (by kernel_rfl) K s
theorem k3_eq (K : List Item) (s : St) : den prog ann 66 (.code k3 :: K) s = den prog ann 66 (.code r8 :: .code r9 :: .code k4 :: .code r13 :: .code i3 :: .inBlock 3 :: K) s := den_blk hf (b := blkOf k3) (l := [r8, r9, k4, r13, i3]) (by kernel_rfl) (by kernel_rfl) K s
theorem r8_draw : drawOk (fun g => (ann g).pure) (modeOf (ann 66) (idOf r8)) (frzOf (ann 66) (idOf r8)) (opsOf r8) = true := drawOk_of (an := [0, 1, 0, 0, 12, 28, 63, 127, 0, 511, 1023, 2047, 4095]) (by kernel_rfl) (by kernel_rfl)
theorem r8_eq (K : List Item) (s : St) : den prog ann 66 (.code r8 :: K) s = mreg prog ann 66 none [] (some 13) [] [
    ⟨some 28, none, .v fun s => fieldA 0 (s.get 1)⟩,
    ⟨some 29, none, .v fun s => loadF false 1 (s.get 28)⟩,
    ⟨some 30, none, .v fun s => some (s.get 4)⟩,
    ⟨some 31, none, .v fun s => some (s.get 6)⟩,
    ⟨some 32, none, .v fun s => idxSl 1 (s.get 30) (s.get 31)⟩,
    ⟨some 33, none, .v fun s => loadA false 1 s.m (s.get 32)⟩,
    ⟨some 34, none, .v fun s => idxSl 1 (s.get 29) (s.get 33)⟩,
    ⟨some 35, none, .v fun s => loadF false 1 (s.get 34)⟩,
    ⟨some 36, none, .v fun s => some (s.get 7)⟩,
    ⟨some 37, none, .v fun s => idxSl 1 (s.get 35) (s.get 36)⟩,
    ⟨some 38, none, .v fun s => loadF false 1 (s.get 37)⟩,
    ⟨some 8, none, .v fun s => some (s.get 38)⟩,
    ⟨some 9, none, .v fun s => some (.bool false)⟩] K s := (den_regD hf r8_draw K s).trans (by kernel_rfl)
theorem r9_eq (K : List Item) (s : St) : den prog ann 66 (.code r9 :: K) s = mreg prog ann 66 none [] none [] [
    ⟨some 10, none, .v fun s => some (.int .i64 0)⟩] K s := (den_reg hf _ K s).trans (by kernel_rfl)
theorem k4_eq (K : List Item) (t : List (Nat × AV)) (m : Mem) : den prog ann 66 (.code k4 :: K) ⟨t, 72, m⟩ = L4 (get t 1) (get t 4) (get t 5) (get t 6) (get t 7) (get t 8) (get t 9) (get t 10) m K := den_loop_enter hf (b := l4) (id := 10) (l := [1, 4, 5, 6, 7, 8, 9, 10]) (by kernel_rfl) (by kernel_rfl) (by kernel_rfl) K _
theorem l4_eq (K : List Item) (t : List (Nat × AV)) (m : Mem) : den prog ann 66 (.inLoop l4 :: .inBlock 4 :: K) ⟨t, 72, m⟩ = L4 (get t 1) (get t 4) (get t 5) (get t 6) (get t 7) (get t 8) (get t 9) (get t 10) m K := den_loop_again hf (id := 10) (l := [1, 4, 5, 6, 7, 8, 9, 10]) (by kernel_rfl) (by kernel_rfl) (.inBlock 4 :: K) _
theorem L4_eq (x1 x4 x5 x6 x7 x8 x9 x10 : AV) (m : Mem) (K : List Item) : L4 x1 x4 x5 x6 x7 x8 x9 x10 m K = den prog ann 66 (.code r10 :: .code i2 :: .code k5 :: .code r11 :: .inLoop l4 :: .inBlock 4 :: K) ⟨[(1, x1), (4, x4), (5, x5), (6, x6), (7, x7), (8, x8), (9, x9), (10, x10)], 72, m⟩ := den_flat hf (l := [r10, i2, k5, r11]) (by kernel_rfl) _ _
theorem r10_eq (K : List Item) (s : St) : den prog ann 66 (.code r10 :: K) s = mreg prog ann 66 (some [1, 4, 5, 6, 7, 8, 9, 10]) [] none [] [
    ⟨some 39, none, .v fun s => some (s.get 10)⟩,
    ⟨some 40, none, .v fun s => some (s.get 4)⟩,
    ⟨some 41, none, .v fun s => lenSl (s.get 40)⟩,
    ⟨some 42, none, .v fun s => binA prog .lss 3 (s.get 39) (s.get 41)⟩] K s := (den_reg hf _ K s).trans (by kernel_rfl)
theorem i2_eq (K : List Item) (s : St) : den prog ann 66 (.code i2 :: K) s = ifV prog ann 66 42 i2t i2e K s (s.get 42) := den_if hf (by kernel_rfl) K s
theorem i2t_eq (K : List Item) (s : St) : den prog ann 66 (.code i2t :: K) s = den prog ann 66 (K) s := den_flat hf (l := []) (by kernel_rfl) K s
theorem i2e_eq (K : List Item) (s : St) : den prog ann 66 (.code i2e :: K) s = den prog ann 66 (.code (.exit 4) :: K) s := den_flat hf (l := [(.exit 4)]) (by kernel_rfl) K s
theorem k5_eq (K : List Item) (s : St) : den prog ann 66 (.code k5 :: K) s = den prog ann 66 (.code r12 :: .inBlock 5 :: K) s := den_blk hf (b := blkOf k5) (l := [r12]) (by kernel_rfl) (by kernel_rfl) K s
theorem r12_eq (K : List Item) (s : St) : den prog ann 66 (.code r12 :: K) s = mreg prog ann 66 none [] none [] [
    ⟨some 45, none, .v fun s => some (s.get 9)⟩,
    ⟨some 46, none, .v fun s => some (s.get 45)⟩,
    ⟨some 47, some (46, false), .v fun s => some (s.get 4)⟩,
    ⟨some 48, some (46, false), .v fun s => some (s.get 10)⟩,
    ⟨some 49, some (46, false), .v fun s => idxSl 1 (s.get 47) (s.get 48)⟩,
    ⟨some 50, some (46, false), .v fun s => loadA false 1 s.m (s.get 49)⟩,
    ⟨some 51, some (46, false), .v fun s => some (s.get 8)⟩,
    ⟨some 52, some (46, false), .v fun s => binA prog .eql 3 (s.get 50) (s.get 51)⟩,
    ⟨some 53, none, .v fun s => pickA (s.get 46) (.bool true) (s.get 52)⟩,
    ⟨some 9, none, .v fun s => some (s.get 53)⟩] K s := (den_reg hf _ K s).trans (by kernel_rfl)
theorem r11_eq (K : List Item) (s : St) : den prog ann 66 (.code r11 :: K) s = mreg prog ann 66 (some [1, 4, 5, 6, 7, 8, 9, 10]) [] none [] [
    ⟨some 43, none, .v fun s => some (s.get 10)⟩,
    ⟨some 44, none, .v fun s => binA prog .add 3 (s.get 43) (.int .i64 1)⟩,
    ⟨some 10, none, .v fun s => some (s.get 44)⟩] K s := (den_reg hf _ K s).trans (by kernel_rfl)
theorem r13_eq (K : List Item) (s : St) : den prog ann 66 (.code r13 :: K) s = mreg prog ann 66 (some [1, 4, 5, 6, 7, 8, 9]) [] none [] [
    ⟨some 54, none, .v fun s => some (s.get 9)⟩,
    ⟨some 55, none, .v fun s => unA .not (s.get 54)⟩] K s := (den_reg hf _ K s).trans (by kernel_rfl)
theorem i3_eq (K : List Item) (s : St) : den prog ann 66 (.code i3 :: K) s = ifV prog ann 66 55 i3t i3e K s (s.get 55) := den_if hf (by kernel_rfl) K s
theorem i3t_eq (K : List Item) (s : St) : den prog ann 66 (.code i3t :: K) s = den prog ann 66 (.code r14 :: K) s := den_flat hf (l := [r14]) (by kernel_rfl) K s
theorem r14_draw : drawOk (fun g => (ann g).pure) (modeOf (ann 66) (idOf r14)) (frzOf (ann 66) (idOf r14)) (opsOf r14) = true := drawOk_of (an := [0, 0, 2, 7, 0, 0, 0, 96, 224, 0, 527, 2031, 4079, 8191, 16383, 32767]) (by kernel_rfl) (by kernel_rfl)
theorem r14_eq (K : List Item) (s : St) : den prog ann 66 (.code r14 :: K) s = mreg prog ann 66 none [] (some 16) [3056063, 2000058] [
    ⟨some 56, none, .v fun s => some (s.get 4)⟩,
    ⟨some 57, none, .v fun s => some (s.get 8)⟩,
    ⟨some 58, none, .v fun s => bslF 1 (bslA 1 1 [.int .i64 0] [(0, (s.get 57))])⟩,
    ⟨some 59, none, .w false (some 3) fun s => appendA 1 8 s.m (s.get 56) (s.get 58)⟩,
    ⟨some 60, none, .v fun s => some (s.get 5)⟩,
    ⟨some 61, none, .v fun s => some (s.get 5)⟩,
    ⟨some 62, none, .v fun s => some (s.get 6)⟩,
    ⟨some 63, none, .v fun s => idxSl 1 (s.get 61) (s.get 62)⟩,
    ⟨some 64, none, .v fun s => loadA false 1 s.m (s.get 63)⟩,
    ⟨some 65, none, .v fun s => some (s.get 7)⟩,
    ⟨some 66, none, .c 0 (fun s => (.fn 64 [] [])) fun s => [(s.get 65)]⟩,
    ⟨some 67, none, .v fun s => binA prog .add 9 (s.get 64) (s.get 66)⟩,
    ⟨some 68, none, .v fun s => bslF 1 (bslA 1 1 [.str []] [(0, (s.get 67))])⟩,
    ⟨some 69, none, .w false (some 13) fun s => appendA 1 16 s.m (s.get 60) (s.get 68)⟩,
    ⟨some 4, none, .v fun s => some (s.get 59)⟩,
    ⟨some 5, none, .v fun s => some (s.get 69)⟩] K s := (den_regD hf r14_draw K s).trans (by kernel_rfl)
theorem i3e_eq (K : List Item) (s : St) : den prog ann 66 (.code i3e :: K) s = den prog ann 66 (K) s := den_flat hf (l := []) (by kernel_rfl) K s
theorem r7_eq (K : List Item) (s : St) : den prog ann 66 (.code r7 :: K) s = mreg prog ann 66 (some [1, 4, 5, 6, 7]) [] none [] [
    ⟨some 26, none, .v fun s => some (s.get 7)⟩,
    ⟨some 27, none, .v fun s => binA prog .add 3 (s.get 26) (.int .i64 1)⟩,
    ⟨some 7, none, .v fun s => some (s.get 27)⟩] K s := (den_reg hf _ K s).trans (by kernel_rfl)
theorem r4_eq (K : List Item) (s : St) : den prog ann 66 (.code r4 :: K) s = mreg prog ann 66 (some [1, 4, 5, 6]) [] none [] [
    ⟨some 17, none, .v fun s => some (s.get 6)⟩,
    ⟨some 18, none, .v fun s => binA prog .add 3 (s.get 17) (.int .i64 1)⟩,
    ⟨some 6, none, .v fun s => some (s.get 18)⟩] K s := (den_reg hf _ K s).trans (by kernel_rfl)
theorem r15_eq (K : List Item) (s : St) : den prog ann 66 (.code r15 :: K) s = mreg prog ann 66 (some [4, 5]) [] none [] [
    ⟨some 70, none, .v fun s => some (s.get 4)⟩,
    ⟨some 71, none, .v fun s => some (s.get 5)⟩,
    ⟨some 2, none, .v fun s => some (s.get 70)⟩,
    ⟨some 3, none, .v fun s => some (s.get 71)⟩] K s := (den_reg hf _ K s).trans (by kernel_rfl)
theorem ret_eq (K : List Item) (s : St) : den prog ann 66 (.code .ret :: K) s = finM true [fun s => some (s.get 2), fun s => some (s.get 3)] s := (den_ret hf K s).trans (by kernel_rfl)
theorem nil_eq (s : St) : den prog ann 66 [] s = finM true [fun s => some (s.get 2), fun s => some (s.get 3)] s := (den_nil hf s).trans (by kernel_rfl)
theorem inBlock_eq (id : Nat) (K : List Item) (s : St) : den prog ann 66 (.inBlock id :: K) s = den prog ann 66 K s := den_inBlock hf id K s
theorem exit_eq (id : Nat) (K : List Item) (s : St) : den prog ann 66 (.code (.exit id) :: K) s = exitV prog ann 66 (exitTo id K) s := den_exitV hf id K s
theorem call_eq (v0 : AV) (m : Mem) (h : closedL [v0] = true) : denC prog ann 66 [v0] m = (den prog ann 66 [.code b] ⟨[(0, v0)], 72, Mem.empty⟩).bind fun r => some (r.1, m) := (denC_pure hf (b := b) (by kernel_rfl) (by kernel_rfl) (by kernel_rfl) h m).trans (by kernel_rfl)
theorem pure_eq : (ann 66).pure = true := by kernel_rfl
attribute [simp] b_eq r0_eq r1_eq r2_eq k0_eq l0_eq r3_eq i0_eq i0t_eq i0e_eq k1_eq r5_eq k2_eq l2_eq r6_eq i1_eq i1t_eq i1e_eq k3_eq r8_eq r9_eq k4_eq l4_eq r10_eq i2_eq i2t_eq i2e_eq k5_eq r12_eq r11_eq r13_eq i3_eq i3t_eq r14_eq i3e_eq r7_eq r4_eq r15_eq ret_eq nil_eq inBlock_eq exit_eq pure_eq
end r07_reached

namespace r07_alike
/-- pommel/pommelref07.alike -/
noncomputable def b : Code := (Try.f67.body).getD .skip
theorem hf : prog.funcs[67]? = some Try.f67 := by kernel_rfl
noncomputable def r0 : Code := findReg b 0
noncomputable def r1 : Code := findReg b 1
noncomputable def r2 : Code := findReg b 2
noncomputable def r3 : Code := findReg b 3
noncomputable def k0 : Code := findBlk b 0
noncomputable def l0 : Code := loopOf k0
noncomputable def L0 (x1 x3 x4 x5 : AV) (m : Mem) (K : List Item) : Option Res := den prog ann 67 (.code l0 :: .inLoop l0 :: .inBlock 0 :: K) ⟨[(1, x1), (3, x3), (4, x4), (5, x5)], 109, m⟩
noncomputable def r4 : Code := findReg b 4
noncomputable def i0 : Code := findCond b 0
noncomputable def i0t : Code := thenOf i0
noncomputable def i0e : Code := elseOf i0
noncomputable def k1 : Code := findBlk b 1
noncomputable def r6 : Code := findReg b 6
noncomputable def r7 : Code := findReg b 7
noncomputable def k2 : Code := findBlk b 2
noncomputable def l2 : Code := loopOf k2
noncomputable def L2 (x1 x3 x4 x5 x6 x7 : AV) (m : Mem) (K : List Item) : Option Res := den prog ann 67 (.code l2 :: .inLoop l2 :: .inBlock 2 :: K) ⟨[(1, x1), (3, x3), (4, x4), (5, x5), (6, x6), (7, x7)], 109, m⟩
noncomputable def r8 : Code := findReg b 8
noncomputable def i1 : Code := findCond b 1
noncomputable def i1t : Code := thenOf i1
noncomputable def i1e : Code := elseOf i1
noncomputable def k3 : Code := findBlk b 3
noncomputable def r10 : Code := findReg b 10
noncomputable def r9 : Code := findReg b 9
noncomputable def r11 : Code := findReg b 11
noncomputable def r5 : Code := findReg b 5
noncomputable def r12 : Code := findReg b 12
noncomputable def k4 : Code := findBlk b 4
noncomputable def l4 : Code := loopOf k4
noncomputable def L4 (x1 x3 x4 x8 : AV) (m : Mem) (K : List Item) : Option Res := den prog ann 67 (.code l4 :: .inLoop l4 :: .inBlock 4 :: K) ⟨[(1, x1), (3, x3), (4, x4), (8, x8)], 109, m⟩
noncomputable def r13 : Code := findReg b 13
noncomputable def i2 : Code := findCond b 2
noncomputable def i2t : Code := thenOf i2
noncomputable def i2e : Code := elseOf i2
noncomputable def k5 : Code := findBlk b 5
noncomputable def r15 : Code := findReg b 15
noncomputable def k6 : Code := findBlk b 6
noncomputable def l6 : Code := loopOf k6
noncomputable def L6 (x1 x3 x4 x8 x9 : AV) (m : Mem) (K : List Item) : Option Res := den prog ann 67 (.code l6 :: .inLoop l6 :: .inBlock 6 :: K) ⟨[(1, x1), (3, x3), (4, x4), (8, x8), (9, x9)], 109, m⟩
noncomputable def r16 : Code := findReg b 16
noncomputable def i3 : Code := findCond b 3
noncomputable def i3t : Code := thenOf i3
noncomputable def i3e : Code := elseOf i3
noncomputable def k7 : Code := findBlk b 7
noncomputable def r18 : Code := findReg b 18
noncomputable def k8 : Code := findBlk b 8
noncomputable def l8 : Code := loopOf k8
noncomputable def L8 (x1 x3 x4 x8 x9 x10 : AV) (m : Mem) (K : List Item) : Option Res := den prog ann 67 (.code l8 :: .inLoop l8 :: .inBlock 8 :: K) ⟨[(1, x1), (3, x3), (4, x4), (8, x8), (9, x9), (10, x10)], 109, m⟩
noncomputable def r19 : Code := findReg b 19
noncomputable def i4 : Code := findCond b 4
noncomputable def i4t : Code := thenOf i4
noncomputable def i4e : Code := elseOf i4
noncomputable def k9 : Code := findBlk b 9
noncomputable def r21 : Code := findReg b 21
noncomputable def k10 : Code := findBlk b 10
noncomputable def l10 : Code := loopOf k10
noncomputable def L10 (x1 x3 x4 x8 x9 x10 x11 : AV) (m : Mem) (K : List Item) : Option Res := den prog ann 67 (.code l10 :: .inLoop l10 :: .inBlock 10 :: K) ⟨[(1, x1), (3, x3), (4, x4), (8, x8), (9, x9), (10, x10), (11, x11)], 109, m⟩
noncomputable def r22 : Code := findReg b 22
noncomputable def i5 : Code := findCond b 5
noncomputable def i5t : Code := thenOf i5
noncomputable def i5e : Code := elseOf i5
noncomputable def k11 : Code := findBlk b 11
noncomputable def r24 : Code := findReg b 24
noncomputable def r23 : Code := findReg b 23
noncomputable def r20 : Code := findReg b 20
noncomputable def r17 : Code := findReg b 17
noncomputable def r14 : Code := findReg b 14
noncomputable def r25 : Code := findReg b 25
theorem b_eq (K : List Item) (s : St) : den prog ann 67 (.code b :: K) s = den prog ann 67 (.code r0 :: .code r1 :: .code r2 :: .code r3 :: .code k0 :: .code r12 :: .code k4 :: .code r25 :: .code .ret :: K) s := den_flat hf (l := [r0, r1, r2, r3, k0, r12, k4, r25, .ret]) (by kernel_rfl) K s
theorem r0_eq (K : List Item) (s : St) : den prog ann 67 (.code r0 :: K) s = mreg prog ann 67 none [] none [] [
    ⟨some 1, none, .v fun s => frozenPtr (s.get 0)⟩,
    ⟨some 2, none, .v fun s => some (.nils)⟩] K s := (den_reg hf _ K s).trans (by kernel_rfl)
theorem r1_eq (K : List Item) (s : St) : den prog ann 67 (.code r1 :: K) s = mreg prog ann 67 none [] none [] [
    ⟨some 12, none, .v fun s => fieldA 0 (s.get 1)⟩,
    ⟨some 13, none, .v fun s => loadF false 1 (s.get 12)⟩,
    ⟨some 14, none, .v fun s => lenSl (s.get 13)⟩,
    ⟨some 3, none, .v fun s => some (s.get 14)⟩] K s := (den_reg hf _ K s).trans (by kernel_rfl)
theorem r2_eq (K : List Item) (s : St) : den prog ann 67 (.code r2 :: K) s = mreg prog ann 67 none [] none [] [
    ⟨some 15, none, .w false none fun s => bslM s.m 0 (bslA 1 0 [.nils] [])⟩,
    ⟨some 4, none, .v fun s => some (s.get 15)⟩] K s := (den_reg hf _ K s).trans (by kernel_rfl)
theorem r3_eq (K : List Item) (s : St) : den prog ann 67 (.code r3 :: K) s = mreg prog ann 67 none [] none [] [
    ⟨some 5, none, .v fun s => some (.int .i64 0)⟩] K s := (den_reg hf _ K s).trans (by kernel_rfl)
theorem k0_eq (K : List Item) (t : List (Nat × AV)) (m : Mem) : den prog ann 67 (.code k0 :: K) ⟨t, 109, m⟩ = L0 (get t 1) (get t 3) (get t 4) (get t 5) m K := den_loop_enter hf (b := l0) (id := 4) (l := [1, 3, 4, 5]) (by kernel_rfl) (by kernel_rfl) (by kernel_rfl) K _
theorem l0_eq (K : List Item) (t : List (Nat × AV)) (m : Mem) : den prog ann 67 (.inLoop l0 :: .inBlock 0 :: K) ⟨t, 109, m⟩ = L0 (get t 1) (get t 3) (get t 4) (get t 5) m K := den_loop_again hf (id := 4) (l := [1, 3, 4, 5]) (by kernel_rfl) (by kernel_rfl) (.inBlock 0 :: K) _
theorem L0_eq (x1 x3 x4 x5 : AV) (m : Mem) (K : List Item) : L0 x1 x3 x4 x5 m K = den prog ann 67 (.code r4 :: .code i0 :: .code k1 :: .code r5 :: .inLoop l0 :: .inBlock 0 :: K) ⟨[(1, x1), (3, x3), (4, x4), (5, x5)], 109, m⟩ := den_flat hf (l := [r4, i0, k1, r5]) (by kernel_rfl) _ _
theorem r4_eq (K : List Item) (s : St) : den prog ann 67 (.code r4 :: K) s = mreg prog ann 67 (some [1, 3, 4, 5]) [] none [] [
    ⟨some 16, none, .v fun s => some (s.get 5)⟩,
    ⟨some 17, none, .v fun s => some (s.get 3)⟩,
    ⟨some 18, none, .v fun s => binA prog .lss 3 (s.get 16) (s.get 17)⟩] K s := (den_reg hf _ K s).trans (by kernel_rfl)
theorem i0_eq (K : List Item) (s : St) : den prog ann 67 (.code i0 :: K) s = ifV prog ann 67 18 i0t i0e K s (s.get 18) := den_if hf (by kernel_rfl) K s
theorem i0t_eq (K : List Item) (s : St) : den prog ann 67 (.code i0t :: K) s = den prog ann 67 (K) s := den_flat hf (l := []) (by kernel_rfl) K s
theorem i0e_eq (K : List Item) (s : St) : den prog ann 67 (.code i0e :: K) s = den prog ann 67 (.code (.exit 0) :: K) s := den_flat hf (l := [(.exit 0)]) (by kernel_rfl) K s
theorem k1_eq (K : List Item) (s : St) : den prog ann 67 (.code k1 :: K) s = den prog ann 67 (.code r6 :: .code r7 :: .code k2 :: .code r11 :: .inBlock 1 :: K) s := den_blk hf (b := blkOf k1) (l := [r6, r7, k2, r11]) (by kernel_rfl) (by kernel_rfl) K s
theorem r6_eq (K : List Item) (s : St) : den prog ann 67 (.code r6 :: K) s = mreg prog ann 67 none [] none [] [
    ⟨some 21, none, .w false none fun s => bslM s.m 0 (bslA 1 0 [.bool false] [])⟩,
    ⟨some 6, none, .v fun s => some (s.get 21)⟩] K s := (den_reg hf _ K s).trans (by kernel_rfl)
theorem r7_eq (K : List Item) (s : St) : den prog ann 67 (.code r7 :: K) s = mreg prog ann 67 none [] none [] [
    ⟨some 7, none, .v fun s => some (.int .i64 0)⟩] K s := (den_reg hf _ K s).trans (by kernel_rfl)
theorem k2_eq (K : List Item) (t : List (Nat × AV)) (m : Mem) : den prog ann 67 (.code k2 :: K) ⟨t, 109, m⟩ = L2 (get t 1) (get t 3) (get t 4) (get t 5) (get t 6) (get t 7) m K := den_loop_enter hf (b := l2) (id := 8) (l := [1, 3, 4, 5, 6, 7]) (by kernel_rfl) (by kernel_rfl) (by kernel_rfl) K _
theorem l2_eq (K : List Item) (t : List (Nat × AV)) (m : Mem) : den prog ann 67 (.inLoop l2 :: .inBlock 2 :: K) ⟨t, 109, m⟩ = L2 (get t 1) (get t 3) (get t 4) (get t 5) (get t 6) (get t 7) m K := den_loop_again hf (id := 8) (l := [1, 3, 4, 5, 6, 7]) (by kernel_rfl) (by kernel_rfl) (.inBlock 2 :: K) _
theorem L2_eq (x1 x3 x4 x5 x6 x7 : AV) (m : Mem) (K : List Item) : L2 x1 x3 x4 x5 x6 x7 m K = den prog ann 67 (.code r8 :: .code i1 :: .code k3 :: .code r9 :: .inLoop l2 :: .inBlock 2 :: K) ⟨[(1, x1), (3, x3), (4, x4), (5, x5), (6, x6), (7, x7)], 109, m⟩ := den_flat hf (l := [r8, i1, k3, r9]) (by kernel_rfl) _ _
theorem r8_eq (K : List Item) (s : St) : den prog ann 67 (.code r8 :: K) s = mreg prog ann 67 (some [1, 3, 4, 5, 6, 7]) [] none [] [
    ⟨some 22, none, .v fun s => some (s.get 7)⟩,
    ⟨some 23, none, .v fun s => some (s.get 3)⟩,
    ⟨some 24, none, .v fun s => binA prog .lss 3 (s.get 22) (s.get 23)⟩] K s := (den_reg hf _ K s).trans (by kernel_rfl)
theorem i1_eq (K : List Item) (s : St) : den prog ann 67 (.code i1 :: K) s = ifV prog ann 67 24 i1t i1e K s (s.get 24) := den_if hf (by kernel_rfl) K s
theorem i1t_eq (K : List Item) (s : St) : den prog ann 67 (.code i1t :: K) s = den prog ann 67 (K) s := den_flat hf (l := []) (by kernel_rfl) K s
theorem i1e_eq (K : List Item) (s : St) : den prog ann 67 (.code i1e :: K) s = den prog ann 67 (.code (.exit 2) :: K) s := den_flat hf (l := [(.exit 2)]) (by kernel_rfl) K s
theorem k3_eq (K : List Item) (s : St) : den prog ann 67 (.code k3 :: K) s = den prog ann 67 (.code r10 :: .inBlock 3 :: K) s := den_blk hf (b := blkOf k3) (l := [r10]) (by kernel_rfl) (by kernel_rfl) K s
theorem r10_draw : drawOk (fun g => (ann g).pure) (modeOf (ann 67) (idOf r10)) (frzOf (ann 67) (idOf r10)) (opsOf r10) = true := drawOk_of (an := [0, 0, 2, 0, 14, 30, 0, 64, 0, 448, 960, 2046, 4094, 8191, 16383]) (by kernel_rfl) (by kernel_rfl)
theorem r10_eq (K : List Item) (s : St) : den prog ann 67 (.code r10 :: K) s = mreg prog ann 67 none [] (some 15) [] [
    ⟨some 27, none, .v fun s => some (s.get 6)⟩,
    ⟨some 28, none, .v fun s => fieldA 1 (s.get 1)⟩,
    ⟨some 29, none, .v fun s => loadF false 1 (s.get 28)⟩,
    ⟨some 30, none, .v fun s => some (s.get 5)⟩,
    ⟨some 31, none, .v fun s => idxSl 1 (s.get 29) (s.get 30)⟩,
    ⟨some 32, none, .v fun s => loadF false 1 (s.get 31)⟩,
    ⟨some 33, none, .v fun s => fieldA 1 (s.get 1)⟩,
    ⟨some 34, none, .v fun s => loadF false 1 (s.get 33)⟩,
    ⟨some 35, none, .v fun s => some (s.get 7)⟩,
    ⟨some 36, none, .v fun s => idxSl 1 (s.get 34) (s.get 35)⟩,
    ⟨some 37, none, .v fun s => loadF false 1 (s.get 36)⟩,
    ⟨some 38, none, .v fun s => binA prog .eql 4 (s.get 32) (s.get 37)⟩,
    ⟨some 39, none, .v fun s => bslF 1 (bslA 1 1 [.bool false] [(0, (s.get 38))])⟩,
    ⟨some 40, none, .w false (some 13) fun s => appendA 1 1 s.m (s.get 27) (s.get 39)⟩,
    ⟨some 6, none, .v fun s => some (s.get 40)⟩] K s := (den_regD hf r10_draw K s).trans (by kernel_rfl)
theorem r9_eq (K : List Item) (s : St) : den prog ann 67 (.code r9 :: K) s = mreg prog ann 67 (some [1, 3, 4, 5, 6, 7]) [] none [] [
    ⟨some 25, none, .v fun s => some (s.get 7)⟩,
    ⟨some 26, none, .v fun s => binA prog .add 3 (s.get 25) (.int .i64 1)⟩,
    ⟨some 7, none, .v fun s => some (s.get 26)⟩] K s := (den_reg hf _ K s).trans (by kernel_rfl)
theorem r11_eq (K : List Item) (s : St) : den prog ann 67 (.code r11 :: K) s = mreg prog ann 67 (some [1, 3, 4, 5, 6]) [] none [] [
    ⟨some 41, none, .v fun s => some (s.get 4)⟩,
    ⟨some 42, none, .v fun s => some (s.get 6)⟩,
    ⟨some 43, none, .w false none fun s => bslM s.m 1 (bslA 1 1 [.nils] [(0, (s.get 42))])⟩,
    ⟨some 44, none, .w false none fun s => appendA 1 24 s.m (s.get 41) (s.get 43)⟩,
    ⟨some 4, none, .v fun s => some (s.get 44)⟩] K s := (den_reg hf _ K s).trans (by kernel_rfl)
theorem r5_eq (K : List Item) (s : St) : den prog ann 67 (.code r5 :: K) s = mreg prog ann 67 (some [1, 3, 4, 5]) [] none [] [
    ⟨some 19, none, .v fun s => some (s.get 5)⟩,
    ⟨some 20, none, .v fun s => binA prog .add 3 (s.get 19) (.int .i64 1)⟩,
    ⟨some 5, none, .v fun s => some (s.get 20)⟩] K s := (den_reg hf _ K s).trans (by kernel_rfl)
theorem r12_eq (K : List Item) (s : St) : den prog ann 67 (.code r12 :: K) s = mreg prog ann 67 (some [1, 3, 4]) [] none [] [
    ⟨some 8, none, .v fun s => some (.int .i64 0)⟩] K s := (den_reg hf _ K s).trans (by kernel_rfl)
theorem k4_eq (K : List Item) (t : List (Nat × AV)) (m : Mem) : den prog ann 67 (.code k4 :: K) ⟨t, 109, m⟩ = L4 (get t 1) (get t 3) (get t 4) (get t 8) m K := den_loop_enter hf (b := l4) (id := 13) (l := [1, 3, 4, 8]) (by kernel_rfl) (by kernel_rfl) (by kernel_rfl) K _
theorem l4_eq (K : List Item) (t : List (Nat × AV)) (m : Mem) : den prog ann 67 (.inLoop l4 :: .inBlock 4 :: K) ⟨t, 109, m⟩ = L4 (get t 1) (get t 3) (get t 4) (get t 8) m K := den_loop_again hf (id := 13) (l := [1, 3, 4, 8]) (by kernel_rfl) (by kernel_rfl) (.inBlock 4 :: K) _
theorem L4_eq (x1 x3 x4 x8 : AV) (m : Mem) (K : List Item) : L4 x1 x3 x4 x8 m K = den prog ann 67 (.code r13 :: .code i2 :: .code k5 :: .code r14 :: .inLoop l4 :: .inBlock 4 :: K) ⟨[(1, x1), (3, x3), (4, x4), (8, x8)], 109, m⟩ := den_flat hf (l := [r13, i2, k5, r14]) (by kernel_rfl) _ _
theorem r13_eq (K : List Item) (s : St) : den prog ann 67 (.code r13 :: K) s = mreg prog ann 67 (some [1, 3, 4, 8]) [] none [] [
    ⟨some 45, none, .v fun s => some (s.get 8)⟩,
    ⟨some 46, none, .v fun s => some (s.get 3)⟩,
    ⟨some 47, none, .v fun s => some (s.get 3)⟩,
    ⟨some 48, none, .v fun s => binA prog .mul 3 (s.get 46) (s.get 47)⟩,
    ⟨some 49, none, .v fun s => binA prog .lss 3 (s.get 45) (s.get 48)⟩] K s := (den_reg hf _ K s).trans (by kernel_rfl)
theorem i2_eq (K : List Item) (s : St) : den prog ann 67 (.code i2 :: K) s = ifV prog ann 67 49 i2t i2e K s (s.get 49) := den_if hf (by kernel_rfl) K s
theorem i2t_eq (K : List Item) (s : St) : den prog ann 67 (.code i2t :: K) s = den prog ann 67 (K) s := den_flat hf (l := []) (by kernel_rfl) K s
theorem i2e_eq (K : List Item) (s : St) : den prog ann 67 (.code i2e :: K) s = den prog ann 67 (.code (.exit 4) :: K) s := den_flat hf (l := [(.exit 4)]) (by kernel_rfl) K s
theorem k5_eq (K : List Item) (s : St) : den prog ann 67 (.code k5 :: K) s = den prog ann 67 (.code r15 :: .code k6 :: .inBlock 5 :: K) s := den_blk hf (b := blkOf k5) (l := [r15, k6]) (by kernel_rfl) (by kernel_rfl) K s
theorem r15_eq (K : List Item) (s : St) : den prog ann 67 (.code r15 :: K) s = mreg prog ann 67 none [] none [] [
    ⟨some 9, none, .v fun s => some (.int .i64 0)⟩] K s := (den_reg hf _ K s).trans (by kernel_rfl)
theorem k6_eq (K : List Item) (t : List (Nat × AV)) (m : Mem) : den prog ann 67 (.code k6 :: K) ⟨t, 109, m⟩ = L6 (get t 1) (get t 3) (get t 4) (get t 8) (get t 9) m K := den_loop_enter hf (b := l6) (id := 16) (l := [1, 3, 4, 8, 9]) (by kernel_rfl) (by kernel_rfl) (by kernel_rfl) K _
theorem l6_eq (K : List Item) (t : List (Nat × AV)) (m : Mem) : den prog ann 67 (.inLoop l6 :: .inBlock 6 :: K) ⟨t, 109, m⟩ = L6 (get t 1) (get t 3) (get t 4) (get t 8) (get t 9) m K := den_loop_again hf (id := 16) (l := [1, 3, 4, 8, 9]) (by kernel_rfl) (by kernel_rfl) (.inBlock 6 :: K) _
theorem L6_eq (x1 x3 x4 x8 x9 : AV) (m : Mem) (K : List Item) : L6 x1 x3 x4 x8 x9 m K = den prog ann 67 (.code r16 :: .code i3 :: .code k7 :: .code r17 :: .inLoop l6 :: .inBlock 6 :: K) ⟨[(1, x1), (3, x3), (4, x4), (8, x8), (9, x9)], 109, m⟩ := den_flat hf (l := [r16, i3, k7, r17]) (by kernel_rfl) _ _
theorem r16_eq (K : List Item) (s : St) : den prog ann 67 (.code r16 :: K) s = mreg prog ann 67 (some [1, 3, 4, 8, 9]) [] none [] [
    ⟨some 52, none, .v fun s => some (s.get 9)⟩,
    ⟨some 53, none, .v fun s => some (s.get 3)⟩,
    ⟨some 54, none, .v fun s => binA prog .lss 3 (s.get 52) (s.get 53)⟩] K s := (den_reg hf _ K s).trans (by kernel_rfl)
theorem i3_eq (K : List Item) (s : St) : den prog ann 67 (.code i3 :: K) s = ifV prog ann 67 54 i3t i3e K s (s.get 54) := den_if hf (by kernel_rfl) K s
theorem i3t_eq (K : List Item) (s : St) : den prog ann 67 (.code i3t :: K) s = den prog ann 67 (K) s := den_flat hf (l := []) (by kernel_rfl) K s
theorem i3e_eq (K : List Item) (s : St) : den prog ann 67 (.code i3e :: K) s = den prog ann 67 (.code (.exit 6) :: K) s := den_flat hf (l := [(.exit 6)]) (by kernel_rfl) K s
theorem k7_eq (K : List Item) (s : St) : den prog ann 67 (.code k7 :: K) s = den prog ann 67 (.code r18 :: .code k8 :: .inBlock 7 :: K) s := den_blk hf (b := blkOf k7) (l := [r18, k8]) (by kernel_rfl) (by kernel_rfl) K s
theorem r18_eq (K : List Item) (s : St) : den prog ann 67 (.code r18 :: K) s = mreg prog ann 67 none [] none [] [
    ⟨some 10, none, .v fun s => some (.int .i64 0)⟩] K s := (den_reg hf _ K s).trans (by kernel_rfl)
theorem k8_eq (K : List Item) (t : List (Nat × AV)) (m : Mem) : den prog ann 67 (.code k8 :: K) ⟨t, 109, m⟩ = L8 (get t 1) (get t 3) (get t 4) (get t 8) (get t 9) (get t 10) m K := den_loop_enter hf (b := l8) (id := 19) (l := [1, 3, 4, 8, 9, 10]) (by kernel_rfl) (by kernel_rfl) (by kernel_rfl) K _
theorem l8_eq (K : List Item) (t : List (Nat × AV)) (m : Mem) : den prog ann 67 (.inLoop l8 :: .inBlock 8 :: K) ⟨t, 109, m⟩ = L8 (get t 1) (get t 3) (get t 4) (get t 8) (get t 9) (get t 10) m K := den_loop_again hf (id := 19) (l := [1, 3, 4, 8, 9, 10]) (by kernel_rfl) (by kernel_rfl) (.inBlock 8 :: K) _
theorem L8_eq (x1 x3 x4 x8 x9 x10 : AV) (m : Mem) (K : List Item) : L8 x1 x3 x4 x8 x9 x10 m K = den prog ann 67 (.code r19 :: .code i4 :: .code k9 :: .code r20 :: .inLoop l8 :: .inBlock 8 :: K) ⟨[(1, x1), (3, x3), (4, x4), (8, x8), (9, x9), (10, x10)], 109, m⟩ := den_flat hf (l := [r19, i4, k9, r20]) (by kernel_rfl) _ _
theorem r19_eq (K : List Item) (s : St) : den prog ann 67 (.code r19 :: K) s = mreg prog ann 67 (some [1, 3, 4, 8, 9, 10]) [] none [] [
    ⟨some 57, none, .v fun s => some (s.get 10)⟩,
    ⟨some 58, none, .v fun s => some (s.get 3)⟩,
    ⟨some 59, none, .v fun s => binA prog .lss 3 (s.get 57) (s.get 58)⟩] K s := (den_reg hf _ K s).trans (by kernel_rfl)
theorem i4_eq (K : List Item) (s : St) : den prog ann 67 (.code i4 :: K) s = ifV prog ann 67 59 i4t i4e K s (s.get 59) := den_if hf (by kernel_rfl) K s
theorem i4t_eq (K : List Item) (s : St) : den prog ann 67 (.code i4t :: K) s = den prog ann 67 (K) s := den_flat hf (l := []) (by kernel_rfl) K s
theorem i4e_eq (K : List Item) (s : St) : den prog ann 67 (.code i4e :: K) s = den prog ann 67 (.code (.exit 8) :: K) s := den_flat hf (l := [(.exit 8)]) (by kernel_rfl) K s
theorem k9_eq (K : List Item) (s : St) : den prog ann 67 (.code k9 :: K) s = den prog ann 67 (.code r21 :: .code k10 :: .inBlock 9 :: K) s := den_blk hf (b := blkOf k9) (l := [r21, k10]) (by kernel_rfl) (by kernel_rfl) K s
theorem r21_eq (K : List Item) (s : St) : den prog ann 67 (.code r21 :: K) s = mreg prog ann 67 none [] none [] [
    ⟨some 11, none, .v fun s => some (.int .i64 0)⟩] K s := (den_reg hf _ K s).trans (by kernel_rfl)
theorem k10_eq (K : List Item) (t : List (Nat × AV)) (m : Mem) : den prog ann 67 (.code k10 :: K) ⟨t, 109, m⟩ = L10 (get t 1) (get t 3) (get t 4) (get t 8) (get t 9) (get t 10) (get t 11) m K := den_loop_enter hf (b := l10) (id := 22) (l := [1, 3, 4, 8, 9, 10, 11]) (by kernel_rfl) (by kernel_rfl) (by kernel_rfl) K _
theorem l10_eq (K : List Item) (t : List (Nat × AV)) (m : Mem) : den prog ann 67 (.inLoop l10 :: .inBlock 10 :: K) ⟨t, 109, m⟩ = L10 (get t 1) (get t 3) (get t 4) (get t 8) (get t 9) (get t 10) (get t 11) m K := den_loop_again hf (id := 22) (l := [1, 3, 4, 8, 9, 10, 11]) (by kernel_rfl) (by kernel_rfl) (.inBlock 10 :: K) _
theorem L10_eq (x1 x3 x4 x8 x9 x10 x11 : AV) (m : Mem) (K : List Item) : L10 x1 x3 x4 x8 x9 x10 x11 m K = den prog ann 67 (.code r22 :: .code i5 :: .code k11 :: .code r23 :: .inLoop l10 :: .inBlock 10 :: K) ⟨[(1, x1), (3, x3), (4, x4), (8, x8), (9, x9), (10, x10), (11, x11)], 109, m⟩ := den_flat hf (l := [r22, i5, k11, r23]) (by kernel_rfl) _ _
theorem r22_eq (K : List Item) (s : St) : den prog ann 67 (.code r22 :: K) s = mreg prog ann 67 (some [1, 3, 4, 8, 9, 10, 11]) [] none [] [
    ⟨some 62, none, .v fun s => some (s.get 11)⟩,
    ⟨some 63, none, .v fun s => fieldA 0 (s.get 1)⟩,
    ⟨some 64, none, .v fun s => loadF false 1 (s.get 63)⟩,
    ⟨some 65, none, .v fun s => some (s.get 9)⟩,
    ⟨some 66, none, .v fun s => idxSl 1 (s.get 64) (s.get 65)⟩,
    ⟨some 67, none, .v fun s => loadF false 1 (s.get 66)⟩,
    ⟨some 68, none, .v fun s => lenSl (s.get 67)⟩,
    ⟨some 69, none, .v fun s => binA prog .lss 3 (s.get 62) (s.get 68)⟩] K s := (den_reg hf _ K s).trans (by kernel_rfl)
theorem i5_eq (K : List Item) (s : St) : den prog ann 67 (.code i5 :: K) s = ifV prog ann 67 69 i5t i5e K s (s.get 69) := den_if hf (by kernel_rfl) K s
theorem i5t_eq (K : List Item) (s : St) : den prog ann 67 (.code i5t :: K) s = den prog ann 67 (K) s := den_flat hf (l := []) (by kernel_rfl) K s
theorem i5e_eq (K : List Item) (s : St) : den prog ann 67 (.code i5e :: K) s = den prog ann 67 (.code (.exit 10) :: K) s := den_flat hf (l := [(.exit 10)]) (by kernel_rfl) K s
theorem k11_eq (K : List Item) (s : St) : den prog ann 67 (.code k11 :: K) s = den prog ann 67 (.code r24 :: .inBlock 11 :: K) s := den_blk hf (b := blkOf k11) (l := [r24]) (by kernel_rfl) (by kernel_rfl) K s
theorem r24_draw : drawOk (fun g => (ann g).pure) (modeOf (ann 67) (idOf r24)) (frzOf (ann 67) (idOf r24)) (opsOf r24) = true := drawOk_of (an := [0, 0, 3, 7, 0, 0, 0, 96, 224, 0, 992, 2016, 4064, 8160, 8160, 24544, 8160, 122848, 253920, 8160, 1040352, 2088928, 4194272, 8388576, 8160, 16785376, 8160, 117448672, 251666400, 8160, 1056972768, 2130714592, 4294967264, 8589934560, 17179869152, 34359738367, 68719476735]) (by kernel_rfl) (by kernel_rfl)
theorem r24_eq (K : List Item) (s : St) : den prog ann 67 (.code r24 :: K) s = mreg prog ann 67 none [] (some 37) [] [
    ⟨some 72, none, .v fun s => some (s.get 4)⟩,
    ⟨some 73, none, .v fun s => some (s.get 9)⟩,
    ⟨some 74, none, .v fun s => idxSl 1 (s.get 72) (s.get 73)⟩,
    ⟨some 75, none, .v fun s => loadA false 1 s.m (s.get 74)⟩,
    ⟨some 76, none, .v fun s => some (s.get 10)⟩,
    ⟨some 77, none, .v fun s => some (s.get 4)⟩,
    ⟨some 78, none, .v fun s => some (s.get 9)⟩,
    ⟨some 79, none, .v fun s => idxSl 1 (s.get 77) (s.get 78)⟩,
    ⟨some 80, none, .v fun s => loadA false 1 s.m (s.get 79)⟩,
    ⟨some 81, none, .v fun s => some (s.get 10)⟩,
    ⟨some 82, none, .v fun s => idxSl 1 (s.get 80) (s.get 81)⟩,
    ⟨some 83, none, .v fun s => loadA false 1 s.m (s.get 82)⟩,
    ⟨some 84, none, .v fun s => some (s.get 83)⟩,
    ⟨some 85, some (84, true), .v fun s => some (s.get 4)⟩,
    ⟨some 86, some (84, true), .v fun s => fieldA 0 (s.get 1)⟩,
    ⟨some 87, some (84, true), .v fun s => loadF false 1 (s.get 86)⟩,
    ⟨some 88, some (84, true), .v fun s => some (s.get 9)⟩,
    ⟨some 89, some (84, true), .v fun s => idxSl 1 (s.get 87) (s.get 88)⟩,
    ⟨some 90, some (84, true), .v fun s => loadF false 1 (s.get 89)⟩,
    ⟨some 91, some (84, true), .v fun s => some (s.get 11)⟩,
    ⟨some 92, some (84, true), .v fun s => idxSl 1 (s.get 90) (s.get 91)⟩,
    ⟨some 93, some (84, true), .v fun s => loadF false 1 (s.get 92)⟩,
    ⟨some 94, some (84, true), .v fun s => idxSl 1 (s.get 85) (s.get 93)⟩,
    ⟨some 95, some (84, true), .v fun s => loadA false 1 s.m (s.get 94)⟩,
    ⟨some 96, some (84, true), .v fun s => fieldA 0 (s.get 1)⟩,
    ⟨some 97, some (84, true), .v fun s => loadF false 1 (s.get 96)⟩,
    ⟨some 98, some (84, true), .v fun s => some (s.get 10)⟩,
    ⟨some 99, some (84, true), .v fun s => idxSl 1 (s.get 97) (s.get 98)⟩,
    ⟨some 100, some (84, true), .v fun s => loadF false 1 (s.get 99)⟩,
    ⟨some 101, some (84, true), .v fun s => some (s.get 11)⟩,
    ⟨some 102, some (84, true), .v fun s => idxSl 1 (s.get 100) (s.get 101)⟩,
    ⟨some 103, some (84, true), .v fun s => loadF false 1 (s.get 102)⟩,
    ⟨some 104, some (84, true), .v fun s => idxSl 1 (s.get 95) (s.get 103)⟩,
    ⟨some 105, some (84, true), .v fun s => loadA false 1 s.m (s.get 104)⟩,
    ⟨some 106, none, .v fun s => pickA (s.get 84) (s.get 105) (.bool false)⟩,
    ⟨some 107, none, .v fun s => idxSl 1 (s.get 75) (s.get 76)⟩,
    ⟨none, none, .w false (some 36) fun s => stA false 1 s.m (s.get 107) (s.get 106)⟩] K s := (den_regD hf r24_draw K s).trans (by kernel_rfl)
theorem r23_eq (K : List Item) (s : St) : den prog ann 67 (.code r23 :: K) s = mreg prog ann 67 (some [1, 3, 4, 8, 9, 10, 11]) [] none [] [
    ⟨some 70, none, .v fun s => some (s.get 11)⟩,
    ⟨some 71, none, .v fun s => binA prog .add 3 (s.get 70) (.int .i64 1)⟩,
    ⟨some 11, none, .v fun s => some (s.get 71)⟩] K s := (den_reg hf _ K s).trans (by kernel_rfl)
theorem r20_eq (K : List Item) (s : St) : den prog ann 67 (.code r20 :: K) s = mreg prog ann 67 (some [1, 3, 4, 8, 9, 10]) [] none [] [
    ⟨some 60, none, .v fun s => some (s.get 10)⟩,
    ⟨some 61, none, .v fun s => binA prog .add 3 (s.get 60) (.int .i64 1)⟩,
    ⟨some 10, none, .v fun s => some (s.get 61)⟩] K s := (den_reg hf _ K s).trans (by kernel_rfl)
theorem r17_eq (K : List Item) (s : St) : den prog ann 67 (.code r17 :: K) s = mreg prog ann 67 (some [1, 3, 4, 8, 9]) [] none [] [
    ⟨some 55, none, .v fun s => some (s.get 9)⟩,
    ⟨some 56, none, .v fun s => binA prog .add 3 (s.get 55) (.int .i64 1)⟩,
    ⟨some 9, none, .v fun s => some (s.get 56)⟩] K s := (den_reg hf _ K s).trans (by kernel_rfl)
theorem r14_eq (K : List Item) (s : St) : den prog ann 67 (.code r14 :: K) s = mreg prog ann 67 (some [1, 3, 4, 8]) [] none [] [
    ⟨some 50, none, .v fun s => some (s.get 8)⟩,
    ⟨some 51, none, .v fun s => binA prog .add 3 (s.get 50) (.int .i64 1)⟩,
    ⟨some 8, none, .v fun s => some (s.get 51)⟩] K s := (den_reg hf _ K s).trans (by kernel_rfl)
theorem r25_eq (K : List Item) (s : St) : den prog ann 67 (.code r25 :: K) s = mreg prog ann 67 (some [4]) [] none [] [
    ⟨some 108, none, .v fun s => some (s.get 4)⟩,
    ⟨some 2, none, .v fun s => some (s.get 108)⟩] K s := (den_reg hf _ K s).trans (by kernel_rfl)
theorem ret_eq (K : List Item) (s : St) : den prog ann 67 (.code .ret :: K) s = finM true [fun s => some (s.get 2)] s := (den_ret hf K s).trans (by kernel_rfl)
theorem nil_eq (s : St) : den prog ann 67 [] s = finM true [fun s => some (s.get 2)] s := (den_nil hf s).trans (by kernel_rfl)
theorem inBlock_eq (id : Nat) (K : List Item) (s : St) : den prog ann 67 (.inBlock id :: K) s = den prog ann 67 K s := den_inBlock hf id K s
theorem exit_eq (id : Nat) (K : List Item) (s : St) : den prog ann 67 (.code (.exit id) :: K) s = exitV prog ann 67 (exitTo id K) s := den_exitV hf id K s
theorem call_eq (v0 : AV) (m : Mem) (h : closedL [v0] = true) : denC prog ann 67 [v0] m = (den prog ann 67 [.code b] ⟨[(0, v0)], 109, Mem.empty⟩).bind fun r => some (r.1, m) := (denC_pure hf (b := b) (by kernel_rfl) (by kernel_rfl) (by kernel_rfl) h m).trans (by kernel_rfl)
theorem pure_eq : (ann 67).pure = true := by kernel_rfl
attribute [simp] b_eq r0_eq r1_eq r2_eq r3_eq k0_eq l0_eq r4_eq i0_eq i0t_eq i0e_eq k1_eq r6_eq r7_eq k2_eq l2_eq r8_eq i1_eq i1t_eq i1e_eq k3_eq r10_eq r9_eq r11_eq r5_eq r12_eq k4_eq l4_eq r13_eq i2_eq i2t_eq i2e_eq k5_eq r15_eq k6_eq l6_eq r16_eq i3_eq i3t_eq i3e_eq k7_eq r18_eq k8_eq l8_eq r19_eq i4_eq i4t_eq i4e_eq k9_eq r21_eq k10_eq l10_eq r22_eq i5_eq i5t_eq i5e_eq k11_eq r24_eq r23_eq r20_eq r17_eq r14_eq r25_eq ret_eq nil_eq inBlock_eq exit_eq pure_eq
end r07_alike

namespace brand_smallest_1
/-- pommel/brand.smallest$1 -/
noncomputable def b : Code := (Try.f80.body).getD .skip
theorem hf : prog.funcs[80]? = some Try.f80 := by kernel_rfl
noncomputable def r0 : Code := findReg b 0
noncomputable def r1 : Code := findReg b 1
noncomputable def r2 : Code := findReg b 2
noncomputable def i0 : Code := findCond b 0
noncomputable def i0t : Code := thenOf i0
noncomputable def i0e : Code := elseOf i0
noncomputable def r3 : Code := findReg b 3
noncomputable def r4 : Code := findReg b 4
noncomputable def r5 : Code := findReg b 5
theorem b_eq (K : List Item) (s : St) : den prog ann 80 (.code b :: K) s = den prog ann 80 (.code r0 :: .code r1 :: .code r2 :: .code i0 :: .code r5 :: .code .ret :: K) s := den_flat hf (l := [r0, r1, r2, i0, r5, .ret]) (by kernel_rfl) K s
theorem r0_eq (K : List Item) (s : St) : den prog ann 80 (.code r0 :: K) s = mreg prog ann 80 none [] none [] [
    ⟨some 3, none, .v fun s => frozenPtr (s.get 0)⟩,
    ⟨some 4, none, .v fun s => some (.int .i64 0)⟩] K s := (den_reg hf _ K s).trans (by kernel_rfl)
theorem r1_eq (K : List Item) (s : St) : den prog ann 80 (.code r1 :: K) s = mreg prog ann 80 none [] none [] [
    ⟨some 6, none, .v fun s => loadA false 1 s.m (s.get 1)⟩,
    ⟨some 7, none, .v fun s => some (.fn 82 [] [(s.get 2), (s.get 3)])⟩,
    ⟨some 8, none, .c 0 (fun s => (.fn 81 [] [])) fun s => [(s.get 6), (s.get 7)]⟩,
    ⟨some 5, none, .v fun s => some (s.get 8)⟩] K s := (den_reg hf _ K s).trans (by kernel_rfl)
theorem r2_eq (K : List Item) (s : St) : den prog ann 80 (.code r2 :: K) s = mreg prog ann 80 none [] none [] [
    ⟨some 9, none, .v fun s => some (s.get 5)⟩,
    ⟨some 10, none, .v fun s => binA prog .lss 3 (s.get 9) (.int .i64 0)⟩] K s := (den_reg hf _ K s).trans (by kernel_rfl)
theorem i0_eq (K : List Item) (s : St) : den prog ann 80 (.code i0 :: K) s = ifV prog ann 80 10 i0t i0e K s (s.get 10) := den_if hf (by kernel_rfl) K s
theorem i0t_eq (K : List Item) (s : St) : den prog ann 80 (.code i0t :: K) s = den prog ann 80 (.code r3 :: .code r4 :: K) s := den_flat hf (l := [r3, r4]) (by kernel_rfl) K s
theorem r3_eq (K : List Item) (s : St) : den prog ann 80 (.code r3 :: K) s = mreg prog ann 80 none [] none [] [
    ⟨some 11, none, .v fun s => loadA false 1 s.m (s.get 1)⟩,
    ⟨some 12, none, .v fun s => lenSl (s.get 11)⟩,
    ⟨some 5, none, .v fun s => some (s.get 12)⟩] K s := (den_reg hf _ K s).trans (by kernel_rfl)
theorem r4_eq (K : List Item) (s : St) : den prog ann 80 (.code r4 :: K) s = mreg prog ann 80 none [] none [] [
    ⟨some 13, none, .v fun s => loadA false 1 s.m (s.get 1)⟩,
    ⟨some 14, none, .v fun s => loadF false 1 (s.get 3)⟩,
    ⟨some 15, none, .v fun s => bslF 1 (bslA 1 1 [.int .i64 0] [(0, (s.get 14))])⟩,
    ⟨some 16, none, .w false none fun s => appendA 1 8 s.m (s.get 13) (s.get 15)⟩,
    ⟨none, none, .w false none fun s => stA false 1 s.m (s.get 1) (s.get 16)⟩] K s := (den_reg hf _ K s).trans (by kernel_rfl)
theorem i0e_eq (K : List Item) (s : St) : den prog ann 80 (.code i0e :: K) s = den prog ann 80 (K) s := den_flat hf (l := []) (by kernel_rfl) K s
theorem r5_eq (K : List Item) (s : St) : den prog ann 80 (.code r5 :: K) s = mreg prog ann 80 (some [5]) [] none [] [
    ⟨some 17, none, .v fun s => some (s.get 5)⟩,
    ⟨some 4, none, .v fun s => some (s.get 17)⟩] K s := (den_reg hf _ K s).trans (by kernel_rfl)
theorem ret_eq (K : List Item) (s : St) : den prog ann 80 (.code .ret :: K) s = finM false [fun s => some (s.get 4)] s := (den_ret hf K s).trans (by kernel_rfl)
theorem nil_eq (s : St) : den prog ann 80 [] s = finM false [fun s => some (s.get 4)] s := (den_nil hf s).trans (by kernel_rfl)
theorem inBlock_eq (id : Nat) (K : List Item) (s : St) : den prog ann 80 (.inBlock id :: K) s = den prog ann 80 K s := den_inBlock hf id K s
theorem exit_eq (id : Nat) (K : List Item) (s : St) : den prog ann 80 (.code (.exit id) :: K) s = exitV prog ann 80 (exitTo id K) s := den_exitV hf id K s
theorem call_eq (v0 v1 v2 : AV) (m : Mem) : denC prog ann 80 [v0, v1, v2] m = den prog ann 80 [.code b] ⟨[(0, v0), (1, v1), (2, v2)], 18, m⟩ := (denC_impure hf (b := b) (by kernel_rfl) (by kernel_rfl) (by kernel_rfl) m).trans (by kernel_rfl)
theorem pure_eq : (ann 80).pure = false := by kernel_rfl
attribute [simp] b_eq r0_eq r1_eq r2_eq i0_eq i0t_eq r3_eq r4_eq i0e_eq r5_eq ret_eq nil_eq inBlock_eq exit_eq pure_eq
end brand_smallest_1

namespace slices_IndexFunc_int
/-- slices.IndexFuncintint -/
noncomputable def b : Code := (Try.f81.body).getD .skip
theorem hf : prog.funcs[81]? = some Try.f81 := by kernel_rfl
noncomputable def r0 : Code := findReg b 0
noncomputable def r1 : Code := findReg b 1
noncomputable def k0 : Code := findBlk b 0
noncomputable def l0 : Code := loopOf k0
noncomputable def L0 (x0 x1 x7 x8 : AV) (m : Mem) (K : List Item) : Option Res := den prog ann 81 (.code l0 :: .inLoop l0 :: .inBlock 0 :: K) ⟨[(0, x0), (1, x1), (7, x7), (8, x8)], 19, m⟩
noncomputable def r2 : Code := findReg b 2
noncomputable def i0 : Code := findCond b 0
noncomputable def i0t : Code := thenOf i0
noncomputable def i0e : Code := elseOf i0
noncomputable def k1 : Code := findBlk b 1
noncomputable def r3 : Code := findReg b 3
noncomputable def r4 : Code := findReg b 4
noncomputable def i1 : Code := findCond b 1
noncomputable def i1t : Code := thenOf i1
noncomputable def i1e : Code := elseOf i1
noncomputable def r5 : Code := findReg b 5
noncomputable def r6 : Code := findReg b 6
noncomputable def r7 : Code := findReg b 7
theorem b_eq (K : List Item) (s : St) : den prog ann 81 (.code b :: K) s = den prog ann 81 (.code r0 :: .code r1 :: .code k0 :: .code r7 :: .code .ret :: K) s := den_flat hf (l := [r0, r1, k0, r7, .ret]) (by kernel_rfl) K s
theorem r0_eq (K : List Item) (s : St) : den prog ann 81 (.code r0 :: K) s = mreg prog ann 81 none [] none [] [
    ⟨some 4, none, .v fun s => some (.int .i64 0)⟩] K s := (den_reg hf _ K s).trans (by kernel_rfl)
theorem r1_eq (K : List Item) (s : St) : den prog ann 81 (.code r1 :: K) s = mreg prog ann 81 none [] none [] [
    ⟨some 6, none, .v fun s => some (s.get 0)⟩,
    ⟨some 7, none, .v fun s => lenSl (s.get 6)⟩,
    ⟨some 8, none, .v fun s => some (.int .i64 0)⟩] K s := (den_reg hf _ K s).trans (by kernel_rfl)
theorem k0_eq (K : List Item) (t : List (Nat × AV)) (m : Mem) : den prog ann 81 (.code k0 :: K) ⟨t, 19, m⟩ = L0 (get t 0) (get t 1) (get t 7) (get t 8) m K := den_loop_enter hf (b := l0) (id := 2) (l := [0, 1, 7, 8]) (by kernel_rfl) (by kernel_rfl) (by kernel_rfl) K _
theorem l0_eq (K : List Item) (t : List (Nat × AV)) (m : Mem) : den prog ann 81 (.inLoop l0 :: .inBlock 0 :: K) ⟨t, 19, m⟩ = L0 (get t 0) (get t 1) (get t 7) (get t 8) m K := den_loop_again hf (id := 2) (l := [0, 1, 7, 8]) (by kernel_rfl) (by kernel_rfl) (.inBlock 0 :: K) _
theorem L0_eq (x0 x1 x7 x8 : AV) (m : Mem) (K : List Item) : L0 x0 x1 x7 x8 m K = den prog ann 81 (.code r2 :: .code i0 :: .code k1 :: .code r6 :: .inLoop l0 :: .inBlock 0 :: K) ⟨[(0, x0), (1, x1), (7, x7), (8, x8)], 19, m⟩ := den_flat hf (l := [r2, i0, k1, r6]) (by kernel_rfl) _ _
theorem r2_eq (K : List Item) (s : St) : den prog ann 81 (.code r2 :: K) s = mreg prog ann 81 (some [0, 1, 7, 8]) [] none [] [
    ⟨some 9, none, .v fun s => binA prog .lss 3 (s.get 8) (s.get 7)⟩] K s := (den_reg hf _ K s).trans (by kernel_rfl)
theorem i0_eq (K : List Item) (s : St) : den prog ann 81 (.code i0 :: K) s = ifV prog ann 81 9 i0t i0e K s (s.get 9) := den_if hf (by kernel_rfl) K s
theorem i0t_eq (K : List Item) (s : St) : den prog ann 81 (.code i0t :: K) s = den prog ann 81 (K) s := den_flat hf (l := []) (by kernel_rfl) K s
theorem i0e_eq (K : List Item) (s : St) : den prog ann 81 (.code i0e :: K) s = den prog ann 81 (.code (.exit 0) :: K) s := den_flat hf (l := [(.exit 0)]) (by kernel_rfl) K s
theorem k1_eq (K : List Item) (s : St) : den prog ann 81 (.code k1 :: K) s = den prog ann 81 (.code r3 :: .code r4 :: .code i1 :: .inBlock 1 :: K) s := den_blk hf (b := blkOf k1) (l := [r3, r4, i1]) (by kernel_rfl) (by kernel_rfl) K s
theorem r3_eq (K : List Item) (s : St) : den prog ann 81 (.code r3 :: K) s = mreg prog ann 81 none [] none [] [
    ⟨some 10, none, .v fun s => some (s.get 8)⟩,
    ⟨some 5, none, .v fun s => some (s.get 10)⟩] K s := (den_reg hf _ K s).trans (by kernel_rfl)
theorem r4_eq (K : List Item) (s : St) : den prog ann 81 (.code r4 :: K) s = mreg prog ann 81 none [] none [] [
    ⟨some 11, none, .v fun s => some (s.get 1)⟩,
    ⟨some 12, none, .v fun s => some (s.get 0)⟩,
    ⟨some 13, none, .v fun s => some (s.get 5)⟩,
    ⟨some 14, none, .v fun s => idxSl 1 (s.get 12) (s.get 13)⟩,
    ⟨some 15, none, .v fun s => loadA false 1 s.m (s.get 14)⟩,
    ⟨some 16, none, .c 0 (fun s => (s.get 11)) fun s => [(s.get 15)]⟩] K s := (den_reg hf _ K s).trans (by kernel_rfl)
theorem i1_eq (K : List Item) (s : St) : den prog ann 81 (.code i1 :: K) s = ifV prog ann 81 16 i1t i1e K s (s.get 16) := den_if hf (by kernel_rfl) K s
theorem i1t_eq (K : List Item) (s : St) : den prog ann 81 (.code i1t :: K) s = den prog ann 81 (.code r5 :: .code .ret :: K) s := den_flat hf (l := [r5, .ret]) (by kernel_rfl) K s
theorem r5_eq (K : List Item) (s : St) : den prog ann 81 (.code r5 :: K) s = mreg prog ann 81 none [] none [] [
    ⟨some 17, none, .v fun s => some (s.get 5)⟩,
    ⟨some 4, none, .v fun s => some (s.get 17)⟩] K s := (den_reg hf _ K s).trans (by kernel_rfl)
theorem i1e_eq (K : List Item) (s : St) : den prog ann 81 (.code i1e :: K) s = den prog ann 81 (K) s := den_flat hf (l := []) (by kernel_rfl) K s
theorem r6_eq (K : List Item) (s : St) : den prog ann 81 (.code r6 :: K) s = mreg prog ann 81 (some [0, 1, 7, 8]) [] none [] [
    ⟨some 18, none, .v fun s => binA prog .add 3 (s.get 8) (.int .i64 1)⟩,
    ⟨some 8, none, .v fun s => some (s.get 18)⟩] K s := (den_reg hf _ K s).trans (by kernel_rfl)
theorem r7_eq (K : List Item) (s : St) : den prog ann 81 (.code r7 :: K) s = mreg prog ann 81 (some []) [] none [] [
    ⟨some 4, none, .v fun s => some (.int .i64 (-1))⟩] K s := (den_reg hf _ K s).trans (by kernel_rfl)
theorem ret_eq (K : List Item) (s : St) : den prog ann 81 (.code .ret :: K) s = finM false [fun s => some (s.get 4)] s := (den_ret hf K s).trans (by kernel_rfl)
theorem nil_eq (s : St) : den prog ann 81 [] s = finM false [fun s => some (s.get 4)] s := (den_nil hf s).trans (by kernel_rfl)
theorem inBlock_eq (id : Nat) (K : List Item) (s : St) : den prog ann 81 (.inBlock id :: K) s = den prog ann 81 K s := den_inBlock hf id K s
theorem exit_eq (id : Nat) (K : List Item) (s : St) : den prog ann 81 (.code (.exit id) :: K) s = exitV prog ann 81 (exitTo id K) s := den_exitV hf id K s
theorem call_eq (v0 v1 : AV) (m : Mem) : denC prog ann 81 [v0, v1] m = den prog ann 81 [.code b] ⟨[(0, v0), (1, v1)], 19, m⟩ := (denC_impure hf (b := b) (by kernel_rfl) (by kernel_rfl) (by kernel_rfl) m).trans (by kernel_rfl)
theorem pure_eq : (ann 81).pure = false := by kernel_rfl
attribute [simp] b_eq r0_eq r1_eq k0_eq l0_eq r2_eq i0_eq i0t_eq i0e_eq k1_eq r3_eq r4_eq i1_eq i1t_eq r5_eq i1e_eq r6_eq r7_eq ret_eq nil_eq inBlock_eq exit_eq pure_eq
end slices_IndexFunc_int

namespace brand_smallest_1_1
/-- pommel/brand.smallest$1$1 -/
noncomputable def b : Code := (Try.f82.body).getD .skip
theorem hf : prog.funcs[82]? = some Try.f82 := by kernel_rfl
noncomputable def r0 : Code := findReg b 0
noncomputable def r1 : Code := findReg b 1
theorem b_eq (K : List Item) (s : St) : den prog ann 82 (.code b :: K) s = den prog ann 82 (.code r0 :: .code r1 :: .code .ret :: K) s := den_flat hf (l := [r0, r1, .ret]) (by kernel_rfl) K s
theorem r0_eq (K : List Item) (s : St) : den prog ann 82 (.code r0 :: K) s = mreg prog ann 82 none [] none [] [
    ⟨some 4, none, .v fun s => some (.bool false)⟩] K s := (den_reg hf _ K s).trans (by kernel_rfl)
theorem r1_eq (K : List Item) (s : St) : den prog ann 82 (.code r1 :: K) s = mreg prog ann 82 none [] none [] [
    ⟨some 5, none, .v fun s => loadA false 1 s.m (s.get 1)⟩,
    ⟨some 6, none, .v fun s => loadA false 1 s.m (s.get 2)⟩,
    ⟨some 7, none, .v fun s => idxSl 1 (s.get 5) (s.get 6)⟩,
    ⟨some 8, none, .v fun s => loadA false 1 s.m (s.get 7)⟩,
    ⟨some 9, none, .v fun s => some (s.get 0)⟩,
    ⟨some 10, none, .v fun s => idxSl 1 (s.get 8) (s.get 9)⟩,
    ⟨some 11, none, .v fun s => loadA false 1 s.m (s.get 10)⟩,
    ⟨some 12, none, .v fun s => unA .not (s.get 11)⟩,
    ⟨some 4, none, .v fun s => some (s.get 12)⟩] K s := (den_reg hf _ K s).trans (by kernel_rfl)
theorem ret_eq (K : List Item) (s : St) : den prog ann 82 (.code .ret :: K) s = finM false [fun s => some (s.get 4)] s := (den_ret hf K s).trans (by kernel_rfl)
theorem nil_eq (s : St) : den prog ann 82 [] s = finM false [fun s => some (s.get 4)] s := (den_nil hf s).trans (by kernel_rfl)
theorem inBlock_eq (id : Nat) (K : List Item) (s : St) : den prog ann 82 (.inBlock id :: K) s = den prog ann 82 K s := den_inBlock hf id K s
theorem exit_eq (id : Nat) (K : List Item) (s : St) : den prog ann 82 (.code (.exit id) :: K) s = exitV prog ann 82 (exitTo id K) s := den_exitV hf id K s
theorem call_eq (v0 v1 v2 : AV) (m : Mem) : denC prog ann 82 [v0, v1, v2] m = den prog ann 82 [.code b] ⟨[(0, v0), (1, v1), (2, v2)], 13, m⟩ := (denC_impure hf (b := b) (by kernel_rfl) (by kernel_rfl) (by kernel_rfl) m).trans (by kernel_rfl)
theorem pure_eq : (ann 82).pure = false := by kernel_rfl
attribute [simp] b_eq r0_eq r1_eq ret_eq nil_eq inBlock_eq exit_eq pure_eq
end brand_smallest_1_1
end Go.Proofs.Ythnpflkpjimkfaa
