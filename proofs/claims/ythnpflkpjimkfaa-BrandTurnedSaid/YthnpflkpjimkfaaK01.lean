/-
  BODIES OF FUNCTIONS OF THE PROGRAM AS SMALL OPERATIONS (written by gen.py; checked by the kernel against the program). Conditions: none.
-/
import Derived.Test.YthnpflkpjimkfaaKAmH
import Derived.Test.YthnpflkpjimkfaaK00
set_option linter.all false
namespace Go.Proofs.Ythnpflkpjimkfaa
open Go.AM
open Go.Proofs.Try (prog)
set_option maxRecDepth 100000
set_option linter.all false


namespace brand_Differ
/-- pommel/brand.Differ -/
noncomputable def b : Code := (Try.f33.body).getD .skip
theorem hf : prog.funcs[33]? = some Try.f33 := by kernel_rfl
noncomputable def r0 : Code := findReg b 0
noncomputable def r1 : Code := findReg b 1
noncomputable def i0 : Code := findCond b 0
noncomputable def i0t : Code := thenOf i0
noncomputable def i0e : Code := elseOf i0
noncomputable def r2 : Code := findReg b 2
noncomputable def r3 : Code := findReg b 3
noncomputable def r4 : Code := findReg b 4
noncomputable def k0 : Code := findBlk b 0
noncomputable def l0 : Code := loopOf k0
noncomputable def L0 (x2 x3 x6 x7 : AV) (m : Mem) (K : List Item) : Option Res := den prog ann 33 (.code l0 :: .inLoop l0 :: .inBlock 0 :: K) ⟨[(2, x2), (3, x3), (6, x6), (7, x7)], 111, m⟩
noncomputable def r5 : Code := findReg b 5
noncomputable def i1 : Code := findCond b 1
noncomputable def i1t : Code := thenOf i1
noncomputable def i1e : Code := elseOf i1
noncomputable def k1 : Code := findBlk b 1
noncomputable def r7 : Code := findReg b 7
noncomputable def r8 : Code := findReg b 8
noncomputable def i2 : Code := findCond b 2
noncomputable def i2t : Code := thenOf i2
noncomputable def i2e : Code := elseOf i2
noncomputable def r9 : Code := findReg b 9
noncomputable def r10 : Code := findReg b 10
noncomputable def k2 : Code := findBlk b 2
noncomputable def l2 : Code := loopOf k2
noncomputable def L2 (x2 x3 x6 x7 x8 x67 x68 : AV) (m : Mem) (K : List Item) : Option Res := den prog ann 33 (.code l2 :: .inLoop l2 :: .inBlock 2 :: K) ⟨[(2, x2), (3, x3), (6, x6), (7, x7), (8, x8), (67, x67), (68, x68)], 111, m⟩
noncomputable def r11 : Code := findReg b 11
noncomputable def i3 : Code := findCond b 3
noncomputable def i3t : Code := thenOf i3
noncomputable def i3e : Code := elseOf i3
noncomputable def k3 : Code := findBlk b 3
noncomputable def r12 : Code := findReg b 12
noncomputable def r13 : Code := findReg b 13
noncomputable def r14 : Code := findReg b 14
noncomputable def r15 : Code := findReg b 15
noncomputable def i4 : Code := findCond b 4
noncomputable def i4t : Code := thenOf i4
noncomputable def i4e : Code := elseOf i4
noncomputable def r16 : Code := findReg b 16
noncomputable def r17 : Code := findReg b 17
noncomputable def r18 : Code := findReg b 18
noncomputable def r6 : Code := findReg b 6
noncomputable def r19 : Code := findReg b 19
theorem b_eq (K : List Item) (s : St) : den prog ann 33 (.code b :: K) s = den prog ann 33 (.code r0 :: .code r1 :: .code i0 :: .code r3 :: .code r4 :: .code k0 :: .code r19 :: .code .ret :: K) s := den_flat hf (l := [r0, r1, i0, r3, r4, k0, r19, .ret]) (by kernel_rfl) K s
theorem r0_eq (K : List Item) (s : St) : den prog ann 33 (.code r0 :: K) s = mreg prog ann 33 none [] none [] [
    ⟨some 2, none, .v fun s => frozenPtr (s.get 0)⟩,
    ⟨some 3, none, .v fun s => frozenPtr (s.get 1)⟩,
    ⟨some 4, none, .v fun s => some (.str [])⟩,
    ⟨some 5, none, .v fun s => some (.int .i64 0)⟩] K s := (den_reg hf _ K s).trans (by kernel_rfl)
theorem r1_draw : drawOk (fun g => (ann g).pure) (modeOf (ann 33) (idOf r1)) (frzOf (ann 33) (idOf r1)) (opsOf r1) = true := drawOk_of (an := [0, 1, 3, 7, 15, 31, 63, 127, 255, 511, 1023, 2047, 4095, 8191, 511, 16895, 49663, 115199, 246271, 524287, 1048575]) (by kernel_rfl) (by kernel_rfl)
theorem r1_eq (K : List Item) (s : St) : den prog ann 33 (.code r1 :: K) s = mreg prog ann 33 none [] (some 21) [] [
    ⟨some 13, none, .v fun s => loadF true 2 (s.get 2)⟩,
    ⟨some 14, none, .c 0 (fun s => (.fn 55 [] [])) fun s => [(s.get 13)]⟩,
    ⟨some 15, none, .v fun s => unA .not (s.get 14)⟩,
    ⟨some 16, none, .v fun s => some (s.get 15)⟩,
    ⟨some 17, some (16, false), .v fun s => loadF true 2 (s.get 3)⟩,
    ⟨some 18, some (16, false), .c 0 (fun s => (.fn 55 [] [])) fun s => [(s.get 17)]⟩,
    ⟨some 19, some (16, false), .v fun s => unA .not (s.get 18)⟩,
    ⟨some 20, none, .v fun s => pickA (s.get 16) (.bool true) (s.get 19)⟩,
    ⟨some 21, none, .v fun s => some (s.get 20)⟩,
    ⟨some 22, some (21, false), .v fun s => fieldA 0 (s.get 2)⟩,
    ⟨some 23, some (21, false), .v fun s => loadF false 1 (s.get 22)⟩,
    ⟨some 24, some (21, false), .v fun s => idxSl 1 (s.get 23) (.int .i64 0)⟩,
    ⟨some 25, some (21, false), .v fun s => loadF false 1 (s.get 24)⟩,
    ⟨some 26, some (21, false), .v fun s => lenSl (s.get 25)⟩,
    ⟨some 27, some (21, false), .v fun s => fieldA 0 (s.get 3)⟩,
    ⟨some 28, some (21, false), .v fun s => loadF false 1 (s.get 27)⟩,
    ⟨some 29, some (21, false), .v fun s => idxSl 1 (s.get 28) (.int .i64 0)⟩,
    ⟨some 30, some (21, false), .v fun s => loadF false 1 (s.get 29)⟩,
    ⟨some 31, some (21, false), .v fun s => lenSl (s.get 30)⟩,
    ⟨some 32, some (21, false), .v fun s => binA prog .neq 3 (s.get 26) (s.get 31)⟩,
    ⟨some 33, none, .v fun s => pickA (s.get 21) (.bool true) (s.get 32)⟩] K s := (den_regD hf r1_draw K s).trans (by kernel_rfl)
theorem i0_eq (K : List Item) (s : St) : den prog ann 33 (.code i0 :: K) s = ifV prog ann 33 33 i0t i0e K s (s.get 33) := den_if hf (by kernel_rfl) K s
theorem i0t_eq (K : List Item) (s : St) : den prog ann 33 (.code i0t :: K) s = den prog ann 33 (.code r2 :: .code .ret :: K) s := den_flat hf (l := [r2, .ret]) (by kernel_rfl) K s
theorem r2_eq (K : List Item) (s : St) : den prog ann 33 (.code r2 :: K) s = mreg prog ann 33 none [] none [] [
    ⟨some 4, none, .v fun s => some (.str [])⟩,
    ⟨some 5, none, .v fun s => some (.int .i64 1)⟩] K s := (den_reg hf _ K s).trans (by kernel_rfl)
theorem i0e_eq (K : List Item) (s : St) : den prog ann 33 (.code i0e :: K) s = den prog ann 33 (K) s := den_flat hf (l := []) (by kernel_rfl) K s
theorem r3_eq (K : List Item) (s : St) : den prog ann 33 (.code r3 :: K) s = mreg prog ann 33 none [] none [] [
    ⟨some 34, none, .w false none fun s => some (.map s.m.nx, s.m.new (.map 0 [] []))⟩,
    ⟨some 35, none, .v fun s => bldA (plc [(0, 1), (1, 1)]) [.int .i64 0, .int .i64 0] []⟩,
    ⟨none, none, .w false none fun s => updM prog s.m 114 (s.get 34) (s.get 35) (.str [])⟩,
    ⟨some 36, none, .v fun s => some (s.get 34)⟩,
    ⟨some 6, none, .v fun s => some (s.get 36)⟩] K s := (den_reg hf _ K s).trans (by kernel_rfl)
theorem r4_eq (K : List Item) (s : St) : den prog ann 33 (.code r4 :: K) s = mreg prog ann 33 none [] none [] [
    ⟨some 37, none, .v fun s => bldA (plc [(0, 1), (1, 1)]) [.int .i64 0, .int .i64 0] []⟩,
    ⟨some 38, none, .w false none fun s => bslM s.m 1 (bslA 2 1 [.int .i64 0, .int .i64 0] [(0, (s.get 37))])⟩,
    ⟨some 7, none, .v fun s => some (s.get 38)⟩] K s := (den_reg hf _ K s).trans (by kernel_rfl)
theorem k0_eq (K : List Item) (t : List (Nat × AV)) (m : Mem) : den prog ann 33 (.code k0 :: K) ⟨t, 111, m⟩ = L0 (get t 2) (get t 3) (get t 6) (get t 7) m K := den_loop_enter hf (b := l0) (id := 5) (l := [2, 3, 6, 7]) (by kernel_rfl) (by kernel_rfl) (by kernel_rfl) K _
theorem l0_eq (K : List Item) (t : List (Nat × AV)) (m : Mem) : den prog ann 33 (.inLoop l0 :: .inBlock 0 :: K) ⟨t, 111, m⟩ = L0 (get t 2) (get t 3) (get t 6) (get t 7) m K := den_loop_again hf (id := 5) (l := [2, 3, 6, 7]) (by kernel_rfl) (by kernel_rfl) (.inBlock 0 :: K) _
theorem L0_eq (x2 x3 x6 x7 : AV) (m : Mem) (K : List Item) : L0 x2 x3 x6 x7 m K = den prog ann 33 (.code r5 :: .code i1 :: .code k1 :: .code r6 :: .inLoop l0 :: .inBlock 0 :: K) ⟨[(2, x2), (3, x3), (6, x6), (7, x7)], 111, m⟩ := den_flat hf (l := [r5, i1, k1, r6]) (by kernel_rfl) _ _
theorem r5_eq (K : List Item) (s : St) : den prog ann 33 (.code r5 :: K) s = mreg prog ann 33 (some [2, 3, 6, 7]) [] none [] [
    ⟨some 39, none, .v fun s => some (s.get 7)⟩,
    ⟨some 40, none, .v fun s => lenSl (s.get 39)⟩,
    ⟨some 41, none, .v fun s => binA prog .gtr 3 (s.get 40) (.int .i64 0)⟩] K s := (den_reg hf _ K s).trans (by kernel_rfl)
theorem i1_eq (K : List Item) (s : St) : den prog ann 33 (.code i1 :: K) s = ifV prog ann 33 41 i1t i1e K s (s.get 41) := den_if hf (by kernel_rfl) K s
theorem i1t_eq (K : List Item) (s : St) : den prog ann 33 (.code i1t :: K) s = den prog ann 33 (K) s := den_flat hf (l := []) (by kernel_rfl) K s
theorem i1e_eq (K : List Item) (s : St) : den prog ann 33 (.code i1e :: K) s = den prog ann 33 (.code (.exit 0) :: K) s := den_flat hf (l := [(.exit 0)]) (by kernel_rfl) K s
theorem k1_eq (K : List Item) (s : St) : den prog ann 33 (.code k1 :: K) s = den prog ann 33 (.code r7 :: .code r8 :: .code i2 :: .code r10 :: .code k2 :: .inBlock 1 :: K) s := den_blk hf (b := blkOf k1) (l := [r7, r8, i2, r10, k2]) (by kernel_rfl) (by kernel_rfl) K s
theorem r7_eq (K : List Item) (s : St) : den prog ann 33 (.code r7 :: K) s = mreg prog ann 33 none [] none [8] [
    ⟨some 44, none, .v fun s => some (s.get 7)⟩,
    ⟨some 45, none, .v fun s => idxSl 2 (s.get 44) (.int .i64 0)⟩,
    ⟨some 46, none, .v fun s => loadA true 2 s.m (s.get 45)⟩,
    ⟨some 8, none, .w false none fun s => newPtr s.m [.int .i64 0, .int .i64 0]⟩,
    ⟨none, none, .w false none fun s => stA true 2 s.m (s.get 8) (s.get 46)⟩] K s := (den_reg hf _ K s).trans (by kernel_rfl)
theorem r8_draw : drawOk (fun g => (ann g).pure) (modeOf (ann 33) (idOf r8)) (frzOf (ann 33) (idOf r8)) (opsOf r8) = true := drawOk_of (an := [0, 1, 0, 4, 15, 31, 0, 64, 0, 256, 960, 1984, 4095]) (by kernel_rfl) (by kernel_rfl)
theorem r8_eq (K : List Item) (s : St) : den prog ann 33 (.code r8 :: K) s = mreg prog ann 33 none [] (some 13) [] [
    ⟨some 47, none, .v fun s => fieldA 1 (s.get 2)⟩,
    ⟨some 48, none, .v fun s => loadF false 1 (s.get 47)⟩,
    ⟨some 49, none, .v fun s => fieldA 0 (s.get 8)⟩,
    ⟨some 50, none, .v fun s => loadF false 1 (s.get 49)⟩,
    ⟨some 51, none, .v fun s => idxSl 1 (s.get 48) (s.get 50)⟩,
    ⟨some 52, none, .v fun s => loadF false 1 (s.get 51)⟩,
    ⟨some 53, none, .v fun s => fieldA 1 (s.get 3)⟩,
    ⟨some 54, none, .v fun s => loadF false 1 (s.get 53)⟩,
    ⟨some 55, none, .v fun s => fieldA 1 (s.get 8)⟩,
    ⟨some 56, none, .v fun s => loadF false 1 (s.get 55)⟩,
    ⟨some 57, none, .v fun s => idxSl 1 (s.get 54) (s.get 56)⟩,
    ⟨some 58, none, .v fun s => loadF false 1 (s.get 57)⟩,
    ⟨some 59, none, .v fun s => binA prog .neq 4 (s.get 52) (s.get 58)⟩] K s := (den_regD hf r8_draw K s).trans (by kernel_rfl)
theorem i2_eq (K : List Item) (s : St) : den prog ann 33 (.code i2 :: K) s = ifV prog ann 33 59 i2t i2e K s (s.get 59) := den_if hf (by kernel_rfl) K s
theorem i2t_eq (K : List Item) (s : St) : den prog ann 33 (.code i2t :: K) s = den prog ann 33 (.code r9 :: .code .ret :: K) s := den_flat hf (l := [r9, .ret]) (by kernel_rfl) K s
theorem r9_eq (K : List Item) (s : St) : den prog ann 33 (.code r9 :: K) s = mreg prog ann 33 none [] none [] [
    ⟨some 60, none, .v fun s => some (s.get 6)⟩,
    ⟨some 61, none, .v fun s => loadF true 2 (s.get 8)⟩,
    ⟨some 62, none, .v fun s => lookP prog s.m 114 (.str []) (s.get 60) (s.get 61) false⟩,
    ⟨some 4, none, .v fun s => some (s.get 62)⟩,
    ⟨some 5, none, .v fun s => some (.int .i64 0)⟩] K s := (den_reg hf _ K s).trans (by kernel_rfl)
theorem i2e_eq (K : List Item) (s : St) : den prog ann 33 (.code i2e :: K) s = den prog ann 33 (K) s := den_flat hf (l := []) (by kernel_rfl) K s
theorem r10_eq (K : List Item) (s : St) : den prog ann 33 (.code r10 :: K) s = mreg prog ann 33 none [] none [] [
    ⟨some 63, none, .v fun s => fieldA 0 (s.get 2)⟩,
    ⟨some 64, none, .v fun s => loadF false 1 (s.get 63)⟩,
    ⟨some 65, none, .v fun s => idxSl 1 (s.get 64) (.int .i64 0)⟩,
    ⟨some 66, none, .v fun s => loadF false 1 (s.get 65)⟩,
    ⟨some 67, none, .v fun s => lenSl (s.get 66)⟩,
    ⟨some 68, none, .v fun s => some (.int .i64 0)⟩] K s := (den_reg hf _ K s).trans (by kernel_rfl)
theorem k2_eq (K : List Item) (t : List (Nat × AV)) (m : Mem) : den prog ann 33 (.code k2 :: K) ⟨t, 111, m⟩ = L2 (get t 2) (get t 3) (get t 6) (get t 7) (get t 8) (get t 67) (get t 68) m K := den_loop_enter hf (b := l2) (id := 11) (l := [2, 3, 6, 7, 8, 67, 68]) (by kernel_rfl) (by kernel_rfl) (by kernel_rfl) K _
theorem l2_eq (K : List Item) (t : List (Nat × AV)) (m : Mem) : den prog ann 33 (.inLoop l2 :: .inBlock 2 :: K) ⟨t, 111, m⟩ = L2 (get t 2) (get t 3) (get t 6) (get t 7) (get t 8) (get t 67) (get t 68) m K := den_loop_again hf (id := 11) (l := [2, 3, 6, 7, 8, 67, 68]) (by kernel_rfl) (by kernel_rfl) (.inBlock 2 :: K) _
theorem L2_eq (x2 x3 x6 x7 x8 x67 x68 : AV) (m : Mem) (K : List Item) : L2 x2 x3 x6 x7 x8 x67 x68 m K = den prog ann 33 (.code r11 :: .code i3 :: .code k3 :: .code r18 :: .inLoop l2 :: .inBlock 2 :: K) ⟨[(2, x2), (3, x3), (6, x6), (7, x7), (8, x8), (67, x67), (68, x68)], 111, m⟩ := den_flat hf (l := [r11, i3, k3, r18]) (by kernel_rfl) _ _
theorem r11_eq (K : List Item) (s : St) : den prog ann 33 (.code r11 :: K) s = mreg prog ann 33 (some [2, 3, 6, 7, 8, 67, 68]) [] none [] [
    ⟨some 69, none, .v fun s => binA prog .lss 3 (s.get 68) (s.get 67)⟩] K s := (den_reg hf _ K s).trans (by kernel_rfl)
theorem i3_eq (K : List Item) (s : St) : den prog ann 33 (.code i3 :: K) s = ifV prog ann 33 69 i3t i3e K s (s.get 69) := den_if hf (by kernel_rfl) K s
theorem i3t_eq (K : List Item) (s : St) : den prog ann 33 (.code i3t :: K) s = den prog ann 33 (K) s := den_flat hf (l := []) (by kernel_rfl) K s
theorem i3e_eq (K : List Item) (s : St) : den prog ann 33 (.code i3e :: K) s = den prog ann 33 (.code (.exit 2) :: K) s := den_flat hf (l := [(.exit 2)]) (by kernel_rfl) K s
theorem k3_eq (K : List Item) (s : St) : den prog ann 33 (.code k3 :: K) s = den prog ann 33 (.code r12 :: .code r13 :: .code r14 :: .code r15 :: .code i4 :: .inBlock 3 :: K) s := den_blk hf (b := blkOf k3) (l := [r12, r13, r14, r15, i4]) (by kernel_rfl) (by kernel_rfl) K s
theorem r12_eq (K : List Item) (s : St) : den prog ann 33 (.code r12 :: K) s = mreg prog ann 33 none [] none [] [
    ⟨some 70, none, .v fun s => some (s.get 68)⟩,
    ⟨some 9, none, .v fun s => some (s.get 70)⟩] K s := (den_reg hf _ K s).trans (by kernel_rfl)
theorem r13_draw : drawOk (fun g => (ann g).pure) (modeOf (ann 33) (idOf r13)) (frzOf (ann 33) (idOf r13)) (opsOf r13) = true := drawOk_of (an := [0, 1, 0, 4, 15, 31, 0, 127, 255, 0, 512, 0, 2048, 7680, 15872, 0, 65024, 130560, 262143, 0, 1048575]) (by kernel_rfl) (by kernel_rfl)
theorem r13_eq (K : List Item) (s : St) : den prog ann 33 (.code r13 :: K) s = mreg prog ann 33 none [] (some 21) [10] [
    ⟨some 71, none, .v fun s => fieldA 0 (s.get 2)⟩,
    ⟨some 72, none, .v fun s => loadF false 1 (s.get 71)⟩,
    ⟨some 73, none, .v fun s => fieldA 0 (s.get 8)⟩,
    ⟨some 74, none, .v fun s => loadF false 1 (s.get 73)⟩,
    ⟨some 75, none, .v fun s => idxSl 1 (s.get 72) (s.get 74)⟩,
    ⟨some 76, none, .v fun s => loadF false 1 (s.get 75)⟩,
    ⟨some 77, none, .v fun s => some (s.get 9)⟩,
    ⟨some 78, none, .v fun s => idxSl 1 (s.get 76) (s.get 77)⟩,
    ⟨some 79, none, .v fun s => loadF false 1 (s.get 78)⟩,
    ⟨some 80, none, .v fun s => fieldA 0 (s.get 3)⟩,
    ⟨some 81, none, .v fun s => loadF false 1 (s.get 80)⟩,
    ⟨some 82, none, .v fun s => fieldA 1 (s.get 8)⟩,
    ⟨some 83, none, .v fun s => loadF false 1 (s.get 82)⟩,
    ⟨some 84, none, .v fun s => idxSl 1 (s.get 81) (s.get 83)⟩,
    ⟨some 85, none, .v fun s => loadF false 1 (s.get 84)⟩,
    ⟨some 86, none, .v fun s => some (s.get 9)⟩,
    ⟨some 87, none, .v fun s => idxSl 1 (s.get 85) (s.get 86)⟩,
    ⟨some 88, none, .v fun s => loadF false 1 (s.get 87)⟩,
    ⟨some 89, none, .v fun s => bldA (plc [(0, 1), (1, 1)]) [.int .i64 0, .int .i64 0] [(0, (s.get 79)), (1, (s.get 88))]⟩,
    ⟨some 10, none, .w false (some 19) fun s => newPtr s.m [.int .i64 0, .int .i64 0]⟩,
    ⟨none, none, .w false (some 20) fun s => stA true 2 s.m (s.get 10) (s.get 89)⟩] K s := (den_regD hf r13_draw K s).trans (by kernel_rfl)
theorem r14_eq (K : List Item) (s : St) : den prog ann 33 (.code r14 :: K) s = mreg prog ann 33 none [] none [] [
    ⟨some 91, none, .v fun s => some (s.get 6)⟩,
    ⟨some 92, none, .v fun s => loadF true 2 (s.get 10)⟩,
    ⟨some 93, none, .v fun s => lookP prog s.m 114 (.str []) (s.get 91) (s.get 92) true⟩,
    ⟨some 90, none, .v fun s => some (s.get 93)⟩,
    ⟨some 94, none, .v fun s => extA (s.get 90) 0⟩,
    ⟨some 95, none, .v fun s => extA (s.get 90) 1⟩,
    ⟨some 11, none, .v fun s => some (s.get 94)⟩,
    ⟨some 12, none, .v fun s => some (s.get 95)⟩] K s := (den_reg hf _ K s).trans (by kernel_rfl)
theorem r15_eq (K : List Item) (s : St) : den prog ann 33 (.code r15 :: K) s = mreg prog ann 33 none [] none [] [
    ⟨some 96, none, .v fun s => some (s.get 12)⟩,
    ⟨some 97, none, .v fun s => unA .not (s.get 96)⟩] K s := (den_reg hf _ K s).trans (by kernel_rfl)
theorem i4_eq (K : List Item) (s : St) : den prog ann 33 (.code i4 :: K) s = ifV prog ann 33 97 i4t i4e K s (s.get 97) := den_if hf (by kernel_rfl) K s
theorem i4t_eq (K : List Item) (s : St) : den prog ann 33 (.code i4t :: K) s = den prog ann 33 (.code r16 :: .code r17 :: K) s := den_flat hf (l := [r16, r17]) (by kernel_rfl) K s
theorem r16_draw : drawOk (fun g => (ann g).pure) (modeOf (ann 33) (idOf r16)) (frzOf (ann 33) (idOf r16)) (opsOf r16) = true := drawOk_of (an := [0, 0, 0, 0, 12, 0, 32, 124, 255]) (by kernel_rfl) (by kernel_rfl)
theorem r16_eq (K : List Item) (s : St) : den prog ann 33 (.code r16 :: K) s = mreg prog ann 33 none [] (some 9) [] [
    ⟨some 98, none, .v fun s => some (s.get 6)⟩,
    ⟨some 99, none, .v fun s => loadF true 2 (s.get 10)⟩,
    ⟨some 100, none, .v fun s => some (s.get 6)⟩,
    ⟨some 101, none, .v fun s => loadF true 2 (s.get 8)⟩,
    ⟨some 102, none, .v fun s => lookP prog s.m 114 (.str []) (s.get 100) (s.get 101) false⟩,
    ⟨some 103, none, .v fun s => some (s.get 9)⟩,
    ⟨some 104, none, .c 0 (fun s => (.fn 59 [] [])) fun s => [(s.get 103)]⟩,
    ⟨some 105, none, .v fun s => binA prog .add 9 (s.get 102) (s.get 104)⟩,
    ⟨none, none, .w false (some 8) fun s => updM prog s.m 114 (s.get 98) (s.get 99) (s.get 105)⟩] K s := (den_regD hf r16_draw K s).trans (by kernel_rfl)
theorem r17_eq (K : List Item) (s : St) : den prog ann 33 (.code r17 :: K) s = mreg prog ann 33 none [] none [] [
    ⟨some 106, none, .v fun s => some (s.get 7)⟩,
    ⟨some 107, none, .v fun s => loadF true 2 (s.get 10)⟩,
    ⟨some 108, none, .v fun s => bslF 1 (bslA 2 1 [.int .i64 0, .int .i64 0] [(0, (s.get 107))])⟩,
    ⟨some 109, none, .w false none fun s => appendA 2 16 s.m (s.get 106) (s.get 108)⟩,
    ⟨some 7, none, .v fun s => some (s.get 109)⟩] K s := (den_reg hf _ K s).trans (by kernel_rfl)
theorem i4e_eq (K : List Item) (s : St) : den prog ann 33 (.code i4e :: K) s = den prog ann 33 (K) s := den_flat hf (l := []) (by kernel_rfl) K s
theorem r18_eq (K : List Item) (s : St) : den prog ann 33 (.code r18 :: K) s = mreg prog ann 33 (some [2, 3, 6, 7, 8, 67, 68]) [] none [] [
    ⟨some 110, none, .v fun s => binA prog .add 3 (s.get 68) (.int .i64 1)⟩,
    ⟨some 68, none, .v fun s => some (s.get 110)⟩] K s := (den_reg hf _ K s).trans (by kernel_rfl)
theorem r6_eq (K : List Item) (s : St) : den prog ann 33 (.code r6 :: K) s = mreg prog ann 33 (some [2, 3, 6, 7]) [] none [] [
    ⟨some 42, none, .v fun s => some (s.get 7)⟩,
    ⟨some 43, none, .v fun s => sliceSl 2 (s.get 42) (some (.int .i64 1)) none⟩,
    ⟨some 7, none, .v fun s => some (s.get 43)⟩] K s := (den_reg hf _ K s).trans (by kernel_rfl)
theorem r19_eq (K : List Item) (s : St) : den prog ann 33 (.code r19 :: K) s = mreg prog ann 33 (some []) [] none [] [
    ⟨some 4, none, .v fun s => some (.str [])⟩,
    ⟨some 5, none, .v fun s => some (.int .i64 5)⟩] K s := (den_reg hf _ K s).trans (by kernel_rfl)
theorem ret_eq (K : List Item) (s : St) : den prog ann 33 (.code .ret :: K) s = finM true [fun s => some (s.get 4), fun s => some (s.get 5)] s := (den_ret hf K s).trans (by kernel_rfl)
theorem nil_eq (s : St) : den prog ann 33 [] s = finM true [fun s => some (s.get 4), fun s => some (s.get 5)] s := (den_nil hf s).trans (by kernel_rfl)
theorem inBlock_eq (id : Nat) (K : List Item) (s : St) : den prog ann 33 (.inBlock id :: K) s = den prog ann 33 K s := den_inBlock hf id K s
theorem exit_eq (id : Nat) (K : List Item) (s : St) : den prog ann 33 (.code (.exit id) :: K) s = exitV prog ann 33 (exitTo id K) s := den_exitV hf id K s
theorem call_eq (v0 v1 : AV) (m : Mem) (h : closedL [v0, v1] = true) : denC prog ann 33 [v0, v1] m = (den prog ann 33 [.code b] ⟨[(0, v0), (1, v1)], 111, Mem.empty⟩).bind fun r => some (r.1, m) := (denC_pure hf (b := b) (by kernel_rfl) (by kernel_rfl) (by kernel_rfl) h m).trans (by kernel_rfl)
theorem pure_eq : (ann 33).pure = true := by kernel_rfl
attribute [simp] b_eq r0_eq r1_eq i0_eq i0t_eq r2_eq i0e_eq r3_eq r4_eq k0_eq l0_eq r5_eq i1_eq i1t_eq i1e_eq k1_eq r7_eq r8_eq i2_eq i2t_eq r9_eq i2e_eq r10_eq k2_eq l2_eq r11_eq i3_eq i3t_eq i3e_eq k3_eq r12_eq r13_eq r14_eq r15_eq i4_eq i4t_eq r16_eq r17_eq i4e_eq r18_eq r6_eq r19_eq ret_eq nil_eq inBlock_eq exit_eq pure_eq
end brand_Differ

namespace r07_Differ
/-- pommel/pommelref07.Differ -/
noncomputable def b : Code := (Try.f34.body).getD .skip
theorem hf : prog.funcs[34]? = some Try.f34 := by kernel_rfl
noncomputable def r0 : Code := findReg b 0
noncomputable def r1 : Code := findReg b 1
noncomputable def r2 : Code := findReg b 2
noncomputable def k0 : Code := findBlk b 0
noncomputable def l0 : Code := loopOf k0
noncomputable def L0 (x2 x3 x6 x7 x8 x9 : AV) (m : Mem) (K : List Item) : Option Res := den prog ann 34 (.code l0 :: .inLoop l0 :: .inBlock 0 :: K) ⟨[(2, x2), (3, x3), (6, x6), (7, x7), (8, x8), (9, x9)], 94, m⟩
noncomputable def r3 : Code := findReg b 3
noncomputable def i0 : Code := findCond b 0
noncomputable def i0t : Code := thenOf i0
noncomputable def i0e : Code := elseOf i0
noncomputable def k1 : Code := findBlk b 1
noncomputable def r5 : Code := findReg b 5
noncomputable def r6 : Code := findReg b 6
noncomputable def i1 : Code := findCond b 1
noncomputable def i1t : Code := thenOf i1
noncomputable def i1e : Code := elseOf i1
noncomputable def r7 : Code := findReg b 7
noncomputable def r8 : Code := findReg b 8
noncomputable def k2 : Code := findBlk b 2
noncomputable def l2 : Code := loopOf k2
noncomputable def L2 (x2 x3 x6 x7 x8 x9 x10 x11 : AV) (m : Mem) (K : List Item) : Option Res := den prog ann 34 (.code l2 :: .inLoop l2 :: .inBlock 2 :: K) ⟨[(2, x2), (3, x3), (6, x6), (7, x7), (8, x8), (9, x9), (10, x10), (11, x11)], 94, m⟩
noncomputable def r9 : Code := findReg b 9
noncomputable def i2 : Code := findCond b 2
noncomputable def i2t : Code := thenOf i2
noncomputable def i2e : Code := elseOf i2
noncomputable def k3 : Code := findBlk b 3
noncomputable def r11 : Code := findReg b 11
noncomputable def r12 : Code := findReg b 12
noncomputable def i3 : Code := findCond b 3
noncomputable def i3t : Code := thenOf i3
noncomputable def i3e : Code := elseOf i3
noncomputable def r13 : Code := findReg b 13
noncomputable def r14 : Code := findReg b 14
noncomputable def r10 : Code := findReg b 10
noncomputable def r4 : Code := findReg b 4
noncomputable def r15 : Code := findReg b 15
theorem b_eq (K : List Item) (s : St) : den prog ann 34 (.code b :: K) s = den prog ann 34 (.code r0 :: .code r1 :: .code r2 :: .code k0 :: .code r15 :: .code .ret :: K) s := den_flat hf (l := [r0, r1, r2, k0, r15, .ret]) (by kernel_rfl) K s
theorem r0_eq (K : List Item) (s : St) : den prog ann 34 (.code r0 :: K) s = mreg prog ann 34 none [] none [] [
    ⟨some 2, none, .v fun s => frozenPtr (s.get 0)⟩,
    ⟨some 3, none, .v fun s => frozenPtr (s.get 1)⟩,
    ⟨some 4, none, .v fun s => some (.str [])⟩,
    ⟨some 5, none, .v fun s => some (.bool false)⟩] K s := (den_reg hf _ K s).trans (by kernel_rfl)
theorem r1_draw : drawOk (fun g => (ann g).pure) (modeOf (ann 34) (idOf r1)) (frzOf (ann 34) (idOf r1)) (opsOf r1) = true := drawOk_of (an := [0, 1, 0, 0, 0, 24, 56, 3, 135, 511]) (by kernel_rfl) (by kernel_rfl)
theorem r1_eq (K : List Item) (s : St) : den prog ann 34 (.code r1 :: K) s = mreg prog ann 34 none [] (some 10) [] [
    ⟨some 13, none, .v fun s => bldA (plc [(0, 1), (1, 1)]) [.int .i64 0, .int .i64 0] [(0, (.int .i64 0)), (1, (.int .i64 0))]⟩,
    ⟨some 14, none, .w false (some 1) fun s => bslM s.m 1 (bslA 2 1 [.int .i64 0, .int .i64 0] [(0, (s.get 13))])⟩,
    ⟨some 15, none, .w false (some 2) fun s => bslM s.m 1 (bslA 1 1 [.str []] [(0, (.str []))])⟩,
    ⟨some 16, none, .w false (some 3) fun s => some (.map s.m.nx, s.m.new (.map 0 [] []))⟩,
    ⟨some 17, none, .v fun s => bldA (plc [(0, 1), (1, 1)]) [.int .i64 0, .int .i64 0] [(0, (.int .i64 0)), (1, (.int .i64 0))]⟩,
    ⟨none, none, .w false (some 5) fun s => updM prog s.m 118 (s.get 16) (s.get 17) (.bool true)⟩,
    ⟨some 18, none, .v fun s => some (s.get 16)⟩,
    ⟨some 6, none, .v fun s => some (s.get 14)⟩,
    ⟨some 7, none, .v fun s => some (s.get 15)⟩,
    ⟨some 8, none, .v fun s => some (s.get 18)⟩] K s := (den_regD hf r1_draw K s).trans (by kernel_rfl)
theorem r2_eq (K : List Item) (s : St) : den prog ann 34 (.code r2 :: K) s = mreg prog ann 34 none [] none [] [
    ⟨some 9, none, .v fun s => some (.int .i64 0)⟩] K s := (den_reg hf _ K s).trans (by kernel_rfl)
theorem k0_eq (K : List Item) (t : List (Nat × AV)) (m : Mem) : den prog ann 34 (.code k0 :: K) ⟨t, 94, m⟩ = L0 (get t 2) (get t 3) (get t 6) (get t 7) (get t 8) (get t 9) m K := den_loop_enter hf (b := l0) (id := 3) (l := [2, 3, 6, 7, 8, 9]) (by kernel_rfl) (by kernel_rfl) (by kernel_rfl) K _
theorem l0_eq (K : List Item) (t : List (Nat × AV)) (m : Mem) : den prog ann 34 (.inLoop l0 :: .inBlock 0 :: K) ⟨t, 94, m⟩ = L0 (get t 2) (get t 3) (get t 6) (get t 7) (get t 8) (get t 9) m K := den_loop_again hf (id := 3) (l := [2, 3, 6, 7, 8, 9]) (by kernel_rfl) (by kernel_rfl) (.inBlock 0 :: K) _
theorem L0_eq (x2 x3 x6 x7 x8 x9 : AV) (m : Mem) (K : List Item) : L0 x2 x3 x6 x7 x8 x9 m K = den prog ann 34 (.code r3 :: .code i0 :: .code k1 :: .code r4 :: .inLoop l0 :: .inBlock 0 :: K) ⟨[(2, x2), (3, x3), (6, x6), (7, x7), (8, x8), (9, x9)], 94, m⟩ := den_flat hf (l := [r3, i0, k1, r4]) (by kernel_rfl) _ _
theorem r3_eq (K : List Item) (s : St) : den prog ann 34 (.code r3 :: K) s = mreg prog ann 34 (some [2, 3, 6, 7, 8, 9]) [] none [] [
    ⟨some 19, none, .v fun s => some (s.get 9)⟩,
    ⟨some 20, none, .v fun s => some (s.get 6)⟩,
    ⟨some 21, none, .v fun s => lenSl (s.get 20)⟩,
    ⟨some 22, none, .v fun s => binA prog .lss 3 (s.get 19) (s.get 21)⟩] K s := (den_reg hf _ K s).trans (by kernel_rfl)
theorem i0_eq (K : List Item) (s : St) : den prog ann 34 (.code i0 :: K) s = ifV prog ann 34 22 i0t i0e K s (s.get 22) := den_if hf (by kernel_rfl) K s
theorem i0t_eq (K : List Item) (s : St) : den prog ann 34 (.code i0t :: K) s = den prog ann 34 (K) s := den_flat hf (l := []) (by kernel_rfl) K s
theorem i0e_eq (K : List Item) (s : St) : den prog ann 34 (.code i0e :: K) s = den prog ann 34 (.code (.exit 0) :: K) s := den_flat hf (l := [(.exit 0)]) (by kernel_rfl) K s
theorem k1_eq (K : List Item) (s : St) : den prog ann 34 (.code k1 :: K) s = den prog ann 34 (.code r5 :: .code r6 :: .code i1 :: .code r8 :: .code k2 :: .inBlock 1 :: K) s := den_blk hf (b := blkOf k1) (l := [r5, r6, i1, r8, k2]) (by kernel_rfl) (by kernel_rfl) K s
theorem r5_eq (K : List Item) (s : St) : den prog ann 34 (.code r5 :: K) s = mreg prog ann 34 none [] none [10] [
    ⟨some 25, none, .v fun s => some (s.get 6)⟩,
    ⟨some 26, none, .v fun s => some (s.get 9)⟩,
    ⟨some 27, none, .v fun s => idxSl 2 (s.get 25) (s.get 26)⟩,
    ⟨some 28, none, .v fun s => loadA true 2 s.m (s.get 27)⟩,
    ⟨some 10, none, .w false none fun s => newPtr s.m [.int .i64 0, .int .i64 0]⟩,
    ⟨none, none, .w false none fun s => stA true 2 s.m (s.get 10) (s.get 28)⟩] K s := (den_reg hf _ K s).trans (by kernel_rfl)
theorem r6_draw : drawOk (fun g => (ann g).pure) (modeOf (ann 34) (idOf r6)) (frzOf (ann 34) (idOf r6)) (opsOf r6) = true := drawOk_of (an := [0, 1, 0, 4, 15, 31, 0, 64, 0, 256, 960, 1984, 4095]) (by kernel_rfl) (by kernel_rfl)
theorem r6_eq (K : List Item) (s : St) : den prog ann 34 (.code r6 :: K) s = mreg prog ann 34 none [] (some 13) [] [
    ⟨some 29, none, .v fun s => fieldA 1 (s.get 2)⟩,
    ⟨some 30, none, .v fun s => loadF false 1 (s.get 29)⟩,
    ⟨some 31, none, .v fun s => fieldA 0 (s.get 10)⟩,
    ⟨some 32, none, .v fun s => loadF false 1 (s.get 31)⟩,
    ⟨some 33, none, .v fun s => idxSl 1 (s.get 30) (s.get 32)⟩,
    ⟨some 34, none, .v fun s => loadF false 1 (s.get 33)⟩,
    ⟨some 35, none, .v fun s => fieldA 1 (s.get 3)⟩,
    ⟨some 36, none, .v fun s => loadF false 1 (s.get 35)⟩,
    ⟨some 37, none, .v fun s => fieldA 1 (s.get 10)⟩,
    ⟨some 38, none, .v fun s => loadF false 1 (s.get 37)⟩,
    ⟨some 39, none, .v fun s => idxSl 1 (s.get 36) (s.get 38)⟩,
    ⟨some 40, none, .v fun s => loadF false 1 (s.get 39)⟩,
    ⟨some 41, none, .v fun s => binA prog .neq 4 (s.get 34) (s.get 40)⟩] K s := (den_regD hf r6_draw K s).trans (by kernel_rfl)
theorem i1_eq (K : List Item) (s : St) : den prog ann 34 (.code i1 :: K) s = ifV prog ann 34 41 i1t i1e K s (s.get 41) := den_if hf (by kernel_rfl) K s
theorem i1t_eq (K : List Item) (s : St) : den prog ann 34 (.code i1t :: K) s = den prog ann 34 (.code r7 :: .code .ret :: K) s := den_flat hf (l := [r7, .ret]) (by kernel_rfl) K s
theorem r7_eq (K : List Item) (s : St) : den prog ann 34 (.code r7 :: K) s = mreg prog ann 34 none [] none [] [
    ⟨some 42, none, .v fun s => some (s.get 7)⟩,
    ⟨some 43, none, .v fun s => some (s.get 9)⟩,
    ⟨some 44, none, .v fun s => idxSl 1 (s.get 42) (s.get 43)⟩,
    ⟨some 45, none, .v fun s => loadA false 1 s.m (s.get 44)⟩,
    ⟨some 4, none, .v fun s => some (s.get 45)⟩,
    ⟨some 5, none, .v fun s => some (.bool true)⟩] K s := (den_reg hf _ K s).trans (by kernel_rfl)
theorem i1e_eq (K : List Item) (s : St) : den prog ann 34 (.code i1e :: K) s = den prog ann 34 (K) s := den_flat hf (l := []) (by kernel_rfl) K s
theorem r8_eq (K : List Item) (s : St) : den prog ann 34 (.code r8 :: K) s = mreg prog ann 34 none [] none [] [
    ⟨some 11, none, .v fun s => some (.int .i64 0)⟩] K s := (den_reg hf _ K s).trans (by kernel_rfl)
theorem k2_eq (K : List Item) (t : List (Nat × AV)) (m : Mem) : den prog ann 34 (.code k2 :: K) ⟨t, 94, m⟩ = L2 (get t 2) (get t 3) (get t 6) (get t 7) (get t 8) (get t 9) (get t 10) (get t 11) m K := den_loop_enter hf (b := l2) (id := 9) (l := [2, 3, 6, 7, 8, 9, 10, 11]) (by kernel_rfl) (by kernel_rfl) (by kernel_rfl) K _
theorem l2_eq (K : List Item) (t : List (Nat × AV)) (m : Mem) : den prog ann 34 (.inLoop l2 :: .inBlock 2 :: K) ⟨t, 94, m⟩ = L2 (get t 2) (get t 3) (get t 6) (get t 7) (get t 8) (get t 9) (get t 10) (get t 11) m K := den_loop_again hf (id := 9) (l := [2, 3, 6, 7, 8, 9, 10, 11]) (by kernel_rfl) (by kernel_rfl) (.inBlock 2 :: K) _
theorem L2_eq (x2 x3 x6 x7 x8 x9 x10 x11 : AV) (m : Mem) (K : List Item) : L2 x2 x3 x6 x7 x8 x9 x10 x11 m K = den prog ann 34 (.code r9 :: .code i2 :: .code k3 :: .code r10 :: .inLoop l2 :: .inBlock 2 :: K) ⟨[(2, x2), (3, x3), (6, x6), (7, x7), (8, x8), (9, x9), (10, x10), (11, x11)], 94, m⟩ := den_flat hf (l := [r9, i2, k3, r10]) (by kernel_rfl) _ _
theorem r9_eq (K : List Item) (s : St) : den prog ann 34 (.code r9 :: K) s = mreg prog ann 34 (some [2, 3, 6, 7, 8, 9, 10, 11]) [] none [] [
    ⟨some 46, none, .v fun s => some (s.get 11)⟩,
    ⟨some 47, none, .v fun s => fieldA 0 (s.get 2)⟩,
    ⟨some 48, none, .v fun s => loadF false 1 (s.get 47)⟩,
    ⟨some 49, none, .v fun s => idxSl 1 (s.get 48) (.int .i64 0)⟩,
    ⟨some 50, none, .v fun s => loadF false 1 (s.get 49)⟩,
    ⟨some 51, none, .v fun s => lenSl (s.get 50)⟩,
    ⟨some 52, none, .v fun s => binA prog .lss 3 (s.get 46) (s.get 51)⟩] K s := (den_reg hf _ K s).trans (by kernel_rfl)
theorem i2_eq (K : List Item) (s : St) : den prog ann 34 (.code i2 :: K) s = ifV prog ann 34 52 i2t i2e K s (s.get 52) := den_if hf (by kernel_rfl) K s
theorem i2t_eq (K : List Item) (s : St) : den prog ann 34 (.code i2t :: K) s = den prog ann 34 (K) s := den_flat hf (l := []) (by kernel_rfl) K s
theorem i2e_eq (K : List Item) (s : St) : den prog ann 34 (.code i2e :: K) s = den prog ann 34 (.code (.exit 2) :: K) s := den_flat hf (l := [(.exit 2)]) (by kernel_rfl) K s
theorem k3_eq (K : List Item) (s : St) : den prog ann 34 (.code k3 :: K) s = den prog ann 34 (.code r11 :: .code r12 :: .code i3 :: .inBlock 3 :: K) s := den_blk hf (b := blkOf k3) (l := [r11, r12, i3]) (by kernel_rfl) (by kernel_rfl) K s
theorem r11_draw : drawOk (fun g => (ann g).pure) (modeOf (ann 34) (idOf r11)) (frzOf (ann 34) (idOf r11)) (opsOf r11) = true := drawOk_of (an := [0, 1, 0, 4, 15, 31, 0, 127, 255, 0, 512, 0, 2048, 7680, 15872, 0, 65024, 130560, 262143, 0, 1048575]) (by kernel_rfl) (by kernel_rfl)
theorem r11_eq (K : List Item) (s : St) : den prog ann 34 (.code r11 :: K) s = mreg prog ann 34 none [] (some 21) [12] [
    ⟨some 55, none, .v fun s => fieldA 0 (s.get 2)⟩,
    ⟨some 56, none, .v fun s => loadF false 1 (s.get 55)⟩,
    ⟨some 57, none, .v fun s => fieldA 0 (s.get 10)⟩,
    ⟨some 58, none, .v fun s => loadF false 1 (s.get 57)⟩,
    ⟨some 59, none, .v fun s => idxSl 1 (s.get 56) (s.get 58)⟩,
    ⟨some 60, none, .v fun s => loadF false 1 (s.get 59)⟩,
    ⟨some 61, none, .v fun s => some (s.get 11)⟩,
    ⟨some 62, none, .v fun s => idxSl 1 (s.get 60) (s.get 61)⟩,
    ⟨some 63, none, .v fun s => loadF false 1 (s.get 62)⟩,
    ⟨some 64, none, .v fun s => fieldA 0 (s.get 3)⟩,
    ⟨some 65, none, .v fun s => loadF false 1 (s.get 64)⟩,
    ⟨some 66, none, .v fun s => fieldA 1 (s.get 10)⟩,
    ⟨some 67, none, .v fun s => loadF false 1 (s.get 66)⟩,
    ⟨some 68, none, .v fun s => idxSl 1 (s.get 65) (s.get 67)⟩,
    ⟨some 69, none, .v fun s => loadF false 1 (s.get 68)⟩,
    ⟨some 70, none, .v fun s => some (s.get 11)⟩,
    ⟨some 71, none, .v fun s => idxSl 1 (s.get 69) (s.get 70)⟩,
    ⟨some 72, none, .v fun s => loadF false 1 (s.get 71)⟩,
    ⟨some 73, none, .v fun s => bldA (plc [(0, 1), (1, 1)]) [.int .i64 0, .int .i64 0] [(0, (s.get 63)), (1, (s.get 72))]⟩,
    ⟨some 12, none, .w false (some 19) fun s => newPtr s.m [.int .i64 0, .int .i64 0]⟩,
    ⟨none, none, .w false (some 20) fun s => stA true 2 s.m (s.get 12) (s.get 73)⟩] K s := (den_regD hf r11_draw K s).trans (by kernel_rfl)
theorem r12_eq (K : List Item) (s : St) : den prog ann 34 (.code r12 :: K) s = mreg prog ann 34 none [] none [] [
    ⟨some 74, none, .v fun s => some (s.get 8)⟩,
    ⟨some 75, none, .v fun s => loadF true 2 (s.get 12)⟩,
    ⟨some 76, none, .v fun s => lookP prog s.m 118 (.bool false) (s.get 74) (s.get 75) false⟩,
    ⟨some 77, none, .v fun s => unA .not (s.get 76)⟩] K s := (den_reg hf _ K s).trans (by kernel_rfl)
theorem i3_eq (K : List Item) (s : St) : den prog ann 34 (.code i3 :: K) s = ifV prog ann 34 77 i3t i3e K s (s.get 77) := den_if hf (by kernel_rfl) K s
theorem i3t_eq (K : List Item) (s : St) : den prog ann 34 (.code i3t :: K) s = den prog ann 34 (.code r13 :: .code r14 :: K) s := den_flat hf (l := [r13, r14]) (by kernel_rfl) K s
theorem r13_eq (K : List Item) (s : St) : den prog ann 34 (.code r13 :: K) s = mreg prog ann 34 none [] none [] [
    ⟨some 78, none, .v fun s => some (s.get 8)⟩,
    ⟨some 79, none, .v fun s => loadF true 2 (s.get 12)⟩,
    ⟨none, none, .w false none fun s => updM prog s.m 118 (s.get 78) (s.get 79) (.bool true)⟩] K s := (den_reg hf _ K s).trans (by kernel_rfl)
theorem r14_draw : drawOk (fun g => (ann g).pure) (modeOf (ann 34) (idOf r14)) (frzOf (ann 34) (idOf r14)) (opsOf r14) = true := drawOk_of (an := [0, 0, 2, 7, 0, 0, 0, 96, 224, 0, 527, 2031, 4079, 8191, 16383, 32767]) (by kernel_rfl) (by kernel_rfl)
theorem r14_eq (K : List Item) (s : St) : den prog ann 34 (.code r14 :: K) s = mreg prog ann 34 none [] (some 16) [3080087, 2000082] [
    ⟨some 80, none, .v fun s => some (s.get 6)⟩,
    ⟨some 81, none, .v fun s => loadF true 2 (s.get 12)⟩,
    ⟨some 82, none, .v fun s => bslF 1 (bslA 2 1 [.int .i64 0, .int .i64 0] [(0, (s.get 81))])⟩,
    ⟨some 83, none, .w false (some 3) fun s => appendA 2 16 s.m (s.get 80) (s.get 82)⟩,
    ⟨some 84, none, .v fun s => some (s.get 7)⟩,
    ⟨some 85, none, .v fun s => some (s.get 7)⟩,
    ⟨some 86, none, .v fun s => some (s.get 9)⟩,
    ⟨some 87, none, .v fun s => idxSl 1 (s.get 85) (s.get 86)⟩,
    ⟨some 88, none, .v fun s => loadA false 1 s.m (s.get 87)⟩,
    ⟨some 89, none, .v fun s => some (s.get 11)⟩,
    ⟨some 90, none, .c 0 (fun s => (.fn 64 [] [])) fun s => [(s.get 89)]⟩,
    ⟨some 91, none, .v fun s => binA prog .add 9 (s.get 88) (s.get 90)⟩,
    ⟨some 92, none, .v fun s => bslF 1 (bslA 1 1 [.str []] [(0, (s.get 91))])⟩,
    ⟨some 93, none, .w false (some 13) fun s => appendA 1 16 s.m (s.get 84) (s.get 92)⟩,
    ⟨some 6, none, .v fun s => some (s.get 83)⟩,
    ⟨some 7, none, .v fun s => some (s.get 93)⟩] K s := (den_regD hf r14_draw K s).trans (by kernel_rfl)
theorem i3e_eq (K : List Item) (s : St) : den prog ann 34 (.code i3e :: K) s = den prog ann 34 (K) s := den_flat hf (l := []) (by kernel_rfl) K s
theorem r10_eq (K : List Item) (s : St) : den prog ann 34 (.code r10 :: K) s = mreg prog ann 34 (some [2, 3, 6, 7, 8, 9, 10, 11]) [] none [] [
    ⟨some 53, none, .v fun s => some (s.get 11)⟩,
    ⟨some 54, none, .v fun s => binA prog .add 3 (s.get 53) (.int .i64 1)⟩,
    ⟨some 11, none, .v fun s => some (s.get 54)⟩] K s := (den_reg hf _ K s).trans (by kernel_rfl)
theorem r4_eq (K : List Item) (s : St) : den prog ann 34 (.code r4 :: K) s = mreg prog ann 34 (some [2, 3, 6, 7, 8, 9]) [] none [] [
    ⟨some 23, none, .v fun s => some (s.get 9)⟩,
    ⟨some 24, none, .v fun s => binA prog .add 3 (s.get 23) (.int .i64 1)⟩,
    ⟨some 9, none, .v fun s => some (s.get 24)⟩] K s := (den_reg hf _ K s).trans (by kernel_rfl)
theorem r15_eq (K : List Item) (s : St) : den prog ann 34 (.code r15 :: K) s = mreg prog ann 34 (some []) [] none [] [
    ⟨some 4, none, .v fun s => some (.str [])⟩,
    ⟨some 5, none, .v fun s => some (.bool false)⟩] K s := (den_reg hf _ K s).trans (by kernel_rfl)
theorem ret_eq (K : List Item) (s : St) : den prog ann 34 (.code .ret :: K) s = finM true [fun s => some (s.get 4), fun s => some (s.get 5)] s := (den_ret hf K s).trans (by kernel_rfl)
theorem nil_eq (s : St) : den prog ann 34 [] s = finM true [fun s => some (s.get 4), fun s => some (s.get 5)] s := (den_nil hf s).trans (by kernel_rfl)
theorem inBlock_eq (id : Nat) (K : List Item) (s : St) : den prog ann 34 (.inBlock id :: K) s = den prog ann 34 K s := den_inBlock hf id K s
theorem exit_eq (id : Nat) (K : List Item) (s : St) : den prog ann 34 (.code (.exit id) :: K) s = exitV prog ann 34 (exitTo id K) s := den_exitV hf id K s
theorem call_eq (v0 v1 : AV) (m : Mem) (h : closedL [v0, v1] = true) : denC prog ann 34 [v0, v1] m = (den prog ann 34 [.code b] ⟨[(0, v0), (1, v1)], 94, Mem.empty⟩).bind fun r => some (r.1, m) := (denC_pure hf (b := b) (by kernel_rfl) (by kernel_rfl) (by kernel_rfl) h m).trans (by kernel_rfl)
theorem pure_eq : (ann 34).pure = true := by kernel_rfl
attribute [simp] b_eq r0_eq r1_eq r2_eq k0_eq l0_eq r3_eq i0_eq i0t_eq i0e_eq k1_eq r5_eq r6_eq i1_eq i1t_eq r7_eq i1e_eq r8_eq k2_eq l2_eq r9_eq i2_eq i2t_eq i2e_eq k3_eq r11_eq r12_eq i3_eq i3t_eq r13_eq r14_eq i3e_eq r10_eq r4_eq r15_eq ret_eq nil_eq inBlock_eq exit_eq pure_eq
end r07_Differ

namespace brand_letter
/-- pommel/brand.letter -/
noncomputable def b : Code := (Try.f59.body).getD .skip
theorem hf : prog.funcs[59]? = some Try.f59 := by kernel_rfl
noncomputable def r0 : Code := findReg b 0
noncomputable def r1 : Code := findReg b 1
theorem b_eq (K : List Item) (s : St) : den prog ann 59 (.code b :: K) s = den prog ann 59 (.code r0 :: .code r1 :: .code .ret :: K) s := den_flat hf (l := [r0, r1, .ret]) (by kernel_rfl) K s
theorem r0_eq (K : List Item) (s : St) : den prog ann 59 (.code r0 :: K) s = mreg prog ann 59 none [] none [] [
    ⟨some 2, none, .v fun s => some (.str [])⟩] K s := (den_reg hf _ K s).trans (by kernel_rfl)
theorem r1_eq (K : List Item) (s : St) : den prog ann 59 (.code r1 :: K) s = mreg prog ann 59 none [] none [] [
    ⟨some 3, none, .v fun s => some (s.get 0)⟩,
    ⟨some 4, none, .v fun s => convInt .u8 (s.get 3)⟩,
    ⟨some 5, none, .v fun s => binA prog .add 5 (.int .u8 97) (s.get 4)⟩,
    ⟨some 6, none, .w false none fun s => bslM s.m 1 (bslA 1 1 [.int .u8 0] [(0, (s.get 5))])⟩,
    ⟨some 7, none, .v fun s => convStr s.m (s.get 6)⟩,
    ⟨some 2, none, .v fun s => some (s.get 7)⟩] K s := (den_reg hf _ K s).trans (by kernel_rfl)
theorem ret_eq (K : List Item) (s : St) : den prog ann 59 (.code .ret :: K) s = finM true [fun s => some (s.get 2)] s := (den_ret hf K s).trans (by kernel_rfl)
theorem nil_eq (s : St) : den prog ann 59 [] s = finM true [fun s => some (s.get 2)] s := (den_nil hf s).trans (by kernel_rfl)
theorem inBlock_eq (id : Nat) (K : List Item) (s : St) : den prog ann 59 (.inBlock id :: K) s = den prog ann 59 K s := den_inBlock hf id K s
theorem exit_eq (id : Nat) (K : List Item) (s : St) : den prog ann 59 (.code (.exit id) :: K) s = exitV prog ann 59 (exitTo id K) s := den_exitV hf id K s
theorem call_eq (v0 : AV) (m : Mem) (h : closedL [v0] = true) : denC prog ann 59 [v0] m = (den prog ann 59 [.code b] ⟨[(0, v0)], 8, Mem.empty⟩).bind fun r => some (r.1, m) := (denC_pure hf (b := b) (by kernel_rfl) (by kernel_rfl) (by kernel_rfl) h m).trans (by kernel_rfl)
theorem pure_eq : (ann 59).pure = true := by kernel_rfl
attribute [simp] b_eq r0_eq r1_eq ret_eq nil_eq inBlock_eq exit_eq pure_eq
end brand_letter

end Go.Proofs.Ythnpflkpjimkfaa

/-
  LETTERS AS STRINGS: the code's and the specification's. Conditions: none.
-/
namespace Go.Proofs.Ythnpflkpjimkfaa
open Go.AM
open Go.Proofs.Try (prog)
set_option linter.all false
set_option maxRecDepth 100000
set_option maxHeartbeats 4000000

def ltr (a : Nat) : List UInt8 := [UInt8.ofNat (97 + a)]
theorem letter_spec {a : Nat} (h : a < 3) (m : Mem) : denC prog ann 59 [.int .i64 a] m = some (.str (ltr a), m) := by
  rw [brand_letter.call_eq _ _ (by simp)]
  rcases (by omega : a = 0 ∨ a = 1 ∨ a = 2) with rfl | rfl | rfl
  · simp [ltr, convStr, bytesOf, sliceStr, bnds, bnd, IntKind.wrap, IntKind.min, IntKind.max, IntKind.signed, IntKind.bits]; done
  · simp [ltr, convStr, bytesOf, sliceStr, bnds, bnd, IntKind.wrap, IntKind.min, IntKind.max, IntKind.signed, IntKind.bits]; done
  · simp [ltr, convStr, bytesOf, sliceStr, bnds, bnd, IntKind.wrap, IntKind.min, IntKind.max, IntKind.signed, IntKind.bits]; done
end Go.Proofs.Ythnpflkpjimkfaa

/-
  PAIRS OF STATES AS CELLS AND AS KEYS. Conditions: none.
-/
namespace Go.Proofs.Ythnpflkpjimkfaa
open Go.AM
open Go.Proofs.Try (prog)
set_option linter.all false
set_option maxRecDepth 100000
set_option maxHeartbeats 4000000

@[simp] theorem neqB (a b : Bool) : binA prog .neq 4 (.bool a) (.bool b) = some (.bool (!(a == b))) := by simp [binA, eqT, eqA, u4']
abbrev PN := Nat × Nat
def cP (x : PN) : List AV := [.int .i64 ((x.1 : Nat) : Int), .int .i64 ((x.2 : Nat) : Int)]
def encP (x : PN) : AV := .agg (cP x)
def flP : List PN → List AV
  | [] => []
  | x :: l => cP x ++ flP l
@[simp] theorem cP_len (x : PN) : (cP x).length = 2 := rfl
@[simp] theorem flP_len : ∀ l : List PN, (flP l).length = l.length * 2
  | [] => rfl
  | x :: l => by rw [flP, List.length_append, flP_len l, cP_len, List.length_cons]; omega
theorem sc3 (n : Int) : scV prog 3 (.int .i64 n) = true := by simp [scV, u3]
def allP : List PN := (List.range 6).flatMap fun a => (List.range 6).map fun b => (a, b)
end Go.Proofs.Ythnpflkpjimkfaa

/-
  SETS OF STATES AS BITS OF A NUMBER. Conditions: none.
-/
namespace Go.Proofs.Ythnpflkpjimkfaa
open Go.AM
open Go.Proofs.Try (prog)
set_option linter.all false
set_option maxRecDepth 100000
set_option maxHeartbeats 4000000

theorem wrapN {x : Nat} (h : x < 4096) : IntKind.wrap .i64 (x : Int) = x := wrap_id (by omega) (by omega)
theorem bvN (x : Nat) : BitVec.ofInt (IntKind.bits .i64) (x : Int) = BitVec.ofNat (IntKind.bits .i64) x := BitVec.ofInt_natCast _ x
theorem and_b {x y : Nat} (hx : x < 4096) (hy : y < 4096) : binA prog .and 3 (.int .i64 (x : Int)) (.int .i64 (y : Int)) = some (.int .i64 ((x &&& y : Nat) : Int)) := by
  have h : (BitVec.ofNat (IntKind.bits .i64) x &&& BitVec.ofNat (IntKind.bits .i64) y).toNat = x &&& y := by
    rw [BitVec.toNat_and, BitVec.toNat_ofNat, BitVec.toNat_ofNat, Nat.mod_eq_of_lt (Nat.lt_of_lt_of_le hx (by decide)), Nat.mod_eq_of_lt (Nat.lt_of_lt_of_le hy (by decide))]
  have hl : x &&& y < 4096 := Nat.and_lt_two_pow x (n := 12) hy
  rw [binA_and, bvN, bvN, h, wrapN hl]
theorem or_b {x y : Nat} (hx : x < 4096) (hy : y < 4096) : binA prog .or 3 (.int .i64 (x : Int)) (.int .i64 (y : Int)) = some (.int .i64 ((x ||| y : Nat) : Int)) := by
  have h : (BitVec.ofNat (IntKind.bits .i64) x ||| BitVec.ofNat (IntKind.bits .i64) y).toNat = x ||| y := by
    rw [BitVec.toNat_or, BitVec.toNat_ofNat, BitVec.toNat_ofNat, Nat.mod_eq_of_lt (Nat.lt_of_lt_of_le hx (by decide)), Nat.mod_eq_of_lt (Nat.lt_of_lt_of_le hy (by decide))]
  have hl : x ||| y < 4096 := Nat.or_lt_two_pow (n := 12) hx hy
  rw [binA_or, bvN, bvN, h, wrapN hl]
def pwB (t : Nat) : Nat := 2 ^ t
def shB (x s : Nat) : Nat := x / 2 ^ s
def lowB (x : Nat) : Nat := x &&& (x - 1)
theorem pwB_lt {t : Nat} (h : t < 6) : pwB t < 64 := Nat.pow_lt_pow_right (a := 2) (n := 6) (by omega) h
theorem shB_lt {x s : Nat} (h : x < 64) : shB x s < 64 := Nat.lt_of_le_of_lt (Nat.div_le_self _ _) h
theorem shl_b {n : Nat} (hn : n ≤ 6) : binA prog .shl 3 (.int .i64 1) (.int .i64 (n : Int)) = some (.int .i64 (pwB n : Int)) := by
  have : n = 0 ∨ n = 1 ∨ n = 2 ∨ n = 3 ∨ n = 4 ∨ n = 5 ∨ n = 6 := by omega
  rw [binA_shl]
  rcases this with rfl | rfl | rfl | rfl | rfl | rfl | rfl <;> rfl
theorem shr_b {x s : Nat} (hx : x < 64) (hs : s < 6) : binA prog .shr 3 (.int .i64 (x : Int)) (.int .i64 (s : Int)) = some (.int .i64 (shB x s : Int)) := by
  have h0 : ¬ ((s : Int) < 0) := by omega
  have h1 : min (s : Int).toNat (IntKind.bits .i64) = s := by
    show min (s : Int).toNat 64 = s
    omega
  rw [binA_shr, h1]
  have e : (x : Int).fdiv (2 ^ s) = (shB x s : Int) := by
    rw [Int.fdiv_eq_ediv_of_nonneg _ (Int.pow_nonneg (by omega)), shB]
    simp
  simp [h0, e]
theorem low_b {x : Nat} (hx : x < 64) : binA prog .and 3 (.int .i64 (x : Int)) (.int .i64 (IntKind.wrap .i64 ((x : Int) - 1))) = some (.int .i64 (lowB x : Int)) := by
  by_cases h : x = 0
  · subst h; rw [binA_and]; rfl
  · have e : IntKind.wrap .i64 ((x : Int) - 1) = ((x - 1 : Nat) : Int) := by
      rw [wrap_id (by omega) (by omega)]; omega
    rw [e, and_b (by omega) (by omega)]; rfl
theorem one_b {x s : Nat} (hx : x < 64) : binA prog .and 3 (.int .i64 (shB x s : Int)) (.int .i64 1) = some (.int .i64 (if shB x s % 2 = 1 then 1 else 0)) := by
  have h := and_b (x := shB x s) (y := 1) (by have := shB_lt (s := s) hx; omega) (by omega)
  rw [Nat.and_one_is_mod] at h
  refine h.trans ?_
  rcases Nat.mod_two_eq_zero_or_one (shB x s) with e | e <;> rw [e] <;> rfl

/-- Where a set of states goes by a letter: the states from s on are left. -/
def stepB (rows : List (List Int)) (x a : Nat) : Nat → Nat → Nat → Nat
  | 0, _, y => y
  | j + 1, s, y => stepB rows x a j (s + 1) (if shB x s % 2 = 1 then y ||| pwB (nx rows s a) else y)
theorem stepB_lt {rows : List (List Int)} {good : List Bool} {k : Nat} (v : VB rows good k) {x a : Nat} (ha : a < k) : ∀ (j s y : Nat), s + j = rows.length → y < 64 → stepB rows x a j s y < 64
  | 0, _, y, _, h => h
  | j + 1, s, y, h1, h => by
    rw [stepB]
    refine stepB_lt v ha j (s + 1) _ (by omega) ?_
    split
    · have := (nx_lt v (show s < rows.length by omega) ha).1
      have h6 := v.n6
      exact Nat.or_lt_two_pow (n := 6) h (pwB_lt (by omega))
    · exact h
def nxS (rows : List (List Int)) (x a : Nat) : Nat := stepB rows x a rows.length 0 0
def encS (x : Nat) : AV := .int .i64 (x : Int)
theorem keysS (ok : Nat → Prop) : Keys 3 encS ok := by
  refine ⟨fun a b _ _ => ?_, fun a _ => sc3 a⟩
  by_cases e : a = b
  · simp [keyEq, encS, sc3, eqSc, e]
  · have : ((a : Int) == (b : Int)) = false := by rw [beq_eq_false_iff_ne]; omega
    simp [keyEq, encS, sc3, eqSc, e, this]
theorem sets_few {l : List Nat} (hn : l.Nodup) (ha : ∀ x ∈ l, x < 64) : l.length ≤ 64 := by
  have := nodup_sub hn (L := List.range 64) fun x hx => List.mem_range.2 (ha x hx)
  simpa using this
def stS (x : Nat) : Bool := decide (lowB x = 0)
def rstW (rows : List (List Int)) (k : Nat) : Option (List UInt8) := bfs (nxS rows) (fun w a => w ++ ltr a) stS k 65 0 ([pwB rows.length - 1], [[]])
end Go.Proofs.Ythnpflkpjimkfaa

/-
  ALIKE STATES: those from which the same words lead to good ones; what marking unlike ones again and again ends in. Conditions: none.
-/
namespace Go.Proofs.Ythnpflkpjimkfaa
open Go.AM
open Go.Proofs.Try (prog)
set_option linter.all false
set_option maxRecDepth 100000
set_option maxHeartbeats 4000000

def gow (rows : List (List Int)) (s : Nat) (w : List Nat) : Nat := w.foldl (nx rows) s
def alk (rows : List (List Int)) (good : List Bool) (k i j : Nat) : Prop := ∀ w : List Nat, (∀ a ∈ w, a < k) → bnth good (gow rows i w) = bnth good (gow rows j w)
open Classical in
noncomputable def alB (rows : List (List Int)) (good : List Bool) (k i j : Nat) : Bool := decide (alk rows good k i j)
section
variable {rows : List (List Int)} {good : List Bool} {k : Nat}
theorem alk_refl (i : Nat) : alk rows good k i i := fun _ _ => rfl
theorem alk_symm {i j : Nat} (h : alk rows good k i j) : alk rows good k j i := fun w hw => (h w hw).symm
theorem alk_trans {i j l : Nat} (h : alk rows good k i j) (g : alk rows good k j l) : alk rows good k i l := fun w hw => (h w hw).trans (g w hw)
theorem alk_step {i j a : Nat} (h : alk rows good k i j) (ha : a < k) : alk rows good k (nx rows i a) (nx rows j a) := fun w hw => h (a :: w) (by
  intro b hb
  rcases List.mem_cons.1 hb with rfl | hb
  · exact ha
  · exact hw b hb)
theorem alk_good {i j : Nat} (h : alk rows good k i j) : bnth good i = bnth good j := h [] (by simp)
theorem alB_iff {i j : Nat} : alB rows good k i j = true ↔ alk rows good k i j := by simp [alB]
theorem alB_refl (i : Nat) : alB rows good k i i = true := alB_iff.2 (alk_refl i)
/-- Turning all states' Good leaves alike what is. -/
theorem alB_not {i j : Nat} (hi : ∀ s, s < good.length → s < good.length) (v : VB rows good k) (h1 : i < rows.length) (h2 : j < rows.length) : alB rows (good.map not) k i j = alB rows good k i j := by
  have hgo : ∀ (w : List Nat) (s : Nat), (∀ a ∈ w, a < k) → s < rows.length → gow rows s w < rows.length := by
    intro w
    induction w with
    | nil => intro s _ hs; exact hs
    | cons a w ih =>
      intro s hw hs
      exact ih (nx rows s a) (fun b hb => hw b (by simp [hb])) (nx_lt v hs (hw a (by simp))).1
  have hg := v.gl
  have hn : ∀ s, s < rows.length → bnth (good.map not) s = !bnth good s := fun s hs => by
    simp [bnth, show s < good.length by omega]
  have key : alk rows (good.map not) k i j ↔ alk rows good k i j := by
    constructor
    · intro h w hw
      have := h w hw
      rw [hn _ (hgo w i hw h1), hn _ (hgo w j hw h2)] at this
      simpa using this
    · intro h w hw
      rw [hn _ (hgo w i hw h1), hn _ (hgo w j hw h2), h w hw]
  by_cases c : alk rows good k i j
  · rw [alB_iff.2 (key.2 c), alB_iff.2 c]
  · have c' : ¬ alk rows (good.map not) k i j := fun h => c (key.1 h)
    have e1 : alB rows good k i j = false := by rw [Bool.eq_false_iff]; exact fun h => c (alB_iff.1 h)
    have e2 : alB rows (good.map not) k i j = false := by rw [Bool.eq_false_iff]; exact fun h => c' (alB_iff.1 h)
    rw [e1, e2]
end

/-! ### Matrices -/
abbrev MB := List (List Bool)
def brw (D : MB) (i : Nat) : List Bool := D.getD i []
def mth (D : MB) (i j : Nat) : Bool := bnth (brw D i) j
def setM (D : MB) (i j : Nat) (b : Bool) : MB := D.set i ((brw D i).set j b)
structure Wf (n : Nat) (D : MB) : Prop where
  l : D.length = n
  r : ∀ i, i < n → (brw D i).length = n
theorem brw_set {D : MB} {i i' : Nat} {r : List Bool} (h : i < D.length) : brw (D.set i r) i' = if i = i' then r else brw D i' := by
  simp only [brw, List.getD_eq_getElem?_getD, List.getElem?_set]
  by_cases e : i = i'
  · subst e; simp [h]
  · simp [e]
theorem bnth_set {l : List Bool} {j j' : Nat} {b : Bool} (h : j < l.length) : bnth (l.set j b) j' = if j = j' then b else bnth l j' := by
  simp only [bnth, List.getD_eq_getElem?_getD, List.getElem?_set]
  by_cases e : j = j'
  · subst e; simp [h]
  · simp [e]
theorem Wf.set {n : Nat} {D : MB} (h : Wf n D) {i j : Nat} (b : Bool) (hi : i < n) : Wf n (setM D i j b) := by
  refine ⟨by simp [setM, h.l], fun i' hi' => ?_⟩
  rw [setM, brw_set (by rw [h.l]; exact hi)]
  split
  · rw [List.length_set]; exact h.r i hi
  · exact h.r i' hi'
theorem Wf.get {n : Nat} {D : MB} (h : Wf n D) {i j i' j' : Nat} {b : Bool} (hi : i < n) (hj : j < n) : mth (setM D i j b) i' j' = if i = i' ∧ j = j' then b else mth D i' j' := by
  rw [mth, setM, brw_set (by rw [h.l]; exact hi)]
  by_cases e : i = i'
  · subst e
    rw [if_pos rfl, bnth_set (by rw [h.r i hi]; exact hj)]
    by_cases e' : j = j'
    · simp [e']
    · simp [e', mth]
  · simp [e, mth]
/-- How many are marked. -/
def cnt (n : Nat) (p : Nat → Nat → Bool) : Nat := ((List.range n).flatMap fun i => (List.range n).map fun j => (i, j)).countP fun x => p x.1 x.2
theorem pairs_len (n : Nat) : ((List.range n).flatMap fun i => (List.range n).map fun j => (i, j)).length = n * n := by
  have : ∀ m : Nat, ((List.range m).map fun _ => n).sum = m * n := by
    intro m
    induction m with
    | zero => simp
    | succ m ih => rw [List.range_succ, List.map_append, List.sum_append, ih]; simp [Nat.succ_mul]
  simp [List.length_flatMap, this]
theorem pairs_mem {n i j : Nat} : (i, j) ∈ ((List.range n).flatMap fun i => (List.range n).map fun j => (i, j)) ↔ i < n ∧ j < n := by
  simp
theorem countP_lt {α : Type} {p q : α → Bool} : ∀ {l : List α}, (∀ x ∈ l, p x = true → q x = true) → (∃ x ∈ l, q x = true ∧ p x = false) → l.countP p < l.countP q
  | [], _, ⟨_, h, _⟩ => by simp at h
  | a :: l, h, ⟨x, hx, h1, h2⟩ => by
    have mono : l.countP p ≤ l.countP q := List.countP_mono_left fun y hy => h y (by simp [hy])
    rcases List.mem_cons.1 hx with rfl | hx
    · simp [h1, h2]; omega
    · have ih := countP_lt (l := l) (fun y hy => h y (by simp [hy])) ⟨x, hx, h1, h2⟩
      rw [List.countP_cons, List.countP_cons]
      have := h a (by simp)
      by_cases e : p a = true
      · simp [e, this e]; omega
      · simp [e]; split <;> omega
theorem cnt_le (n : Nat) (p : Nat → Nat → Bool) : cnt n p ≤ n * n := by
  rw [← pairs_len n]; exact List.countP_le_length
theorem cnt_lt {n : Nat} {p q : Nat → Nat → Bool} (h : ∀ i j, i < n → j < n → p i j = true → q i j = true) {i j : Nat} (hi : i < n) (hj : j < n) (h1 : q i j = true) (h2 : p i j = false) : cnt n p < cnt n q :=
  countP_lt (fun x hx => by obtain ⟨i, j⟩ := x; obtain ⟨h1, h2⟩ := pairs_mem.1 hx; exact h i j h1 h2) ⟨(i, j), pairs_mem.2 ⟨hi, hj⟩, h1, h2⟩
/-! ### Rounds of marks -/
section
variable {S α : Type} (I : S → Prop) (μ : S → Nat) (Q : α → S → Prop) (step : S → α → S)
/-- Steps that do nothing, or count up. -/
def Ups (x : α) : Prop := ∀ s, I s → I (step s x) ∧ μ s ≤ μ (step s x) ∧ (μ (step s x) = μ s → step s x = s ∧ Q x s)
theorem ups_fold : ∀ (l : List α) (s : S), (∀ x ∈ l, Ups I μ Q step x) → I s → I (l.foldl step s) ∧ μ s ≤ μ (l.foldl step s) ∧ (μ (l.foldl step s) = μ s → l.foldl step s = s ∧ ∀ x ∈ l, Q x s)
  | [], s, _, h => ⟨h, Nat.le_refl _, fun _ => ⟨rfl, by simp⟩⟩
  | x :: l, s, hs, h => by
    obtain ⟨h1, h2, h3⟩ := hs x (by simp) s h
    obtain ⟨g1, g2, g3⟩ := ups_fold l (step s x) (fun y hy => hs y (by simp [hy])) h1
    refine ⟨g1, by simp only [List.foldl_cons]; omega, fun e => ?_⟩
    simp only [List.foldl_cons] at e ⊢
    obtain ⟨e1, e2⟩ := g3 (by omega)
    obtain ⟨e3, e4⟩ := h3 (by omega)
    rw [e1, e3]
    rw [e3] at e2
    exact ⟨rfl, fun y hy => by
      rcases List.mem_cons.1 hy with rfl | hy
      · exact e4
      · exact e2 y hy⟩
end
end Go.Proofs.Ythnpflkpjimkfaa

/-
  MARKING UNLIKE STATES: the program's way and the specification's end in the same. Conditions: none.
-/
namespace Go.Proofs.Ythnpflkpjimkfaa
open Go.AM
open Go.Proofs.Try (prog)
set_option linter.all false
set_option maxRecDepth 100000
set_option maxHeartbeats 4000000

abbrev PB := MB × Bool
def mk1 (rows : List (List Int)) (i j : Nat) (P : PB) (a : Nat) : PB := if mth P.1 i j = false ∧ mth P.1 (nx rows i a) (nx rows j a) = true then (setM P.1 i j true, true) else P
def mkA (rows : List (List Int)) (i j c a : Nat) (P : PB) : PB := (List.range' a c).foldl (mk1 rows i j) P
def mkJ (rows : List (List Int)) (k i c j : Nat) (P : PB) : PB := (List.range' j c).foldl (fun P j => mkA rows i j k 0 P) P
def mkI (rows : List (List Int)) (k n c i : Nat) (P : PB) : PB := (List.range' i c).foldl (fun P i => mkJ rows k i n 0 P) P
def fixD (rows : List (List Int)) (k n : Nat) : Nat → MB → MB
  | 0, D => D
  | f + 1, D => if (mkI rows k n n 0 (D, false)).2 = true then fixD rows k n f (mkI rows k n n 0 (D, false)).1 else (mkI rows k n n 0 (D, false)).1

section
variable {rows : List (List Int)} {good : List Bool} {k : Nat}
structure Mkd (rows : List (List Int)) (good : List Bool) (k : Nat) (D : MB) : Prop where
  wf : Wf rows.length D
  snd : ∀ i j, i < rows.length → j < rows.length → mth D i j = true → ¬ alk rows good k i j
  bas : ∀ i j, i < rows.length → j < rows.length → bnth good i ≠ bnth good j → mth D i j = true
def Cld (rows : List (List Int)) (k : Nat) (D : MB) : Prop := ∀ i j a, i < rows.length → j < rows.length → a < k → mth D i j = false → mth D (nx rows i a) (nx rows j a) = false
theorem Mkd.end_ {D : MB} (v : VB rows good k) (h : Mkd rows good k D) (c : Cld rows k D) {i j : Nat} (hi : i < rows.length) (hj : j < rows.length) : mth D i j = !alB rows good k i j := by
  have key : ∀ (w : List Nat) (i j : Nat), i < rows.length → j < rows.length → (∀ a ∈ w, a < k) → mth D i j = false → bnth good (gow rows i w) = bnth good (gow rows j w) := by
    intro w
    induction w with
    | nil =>
      intro i j hi hj _ e
      apply Classical.byContradiction
      intro q
      have := h.bas i j hi hj q
      rw [e] at this
      cases this
    | cons a w ih =>
      intro i j hi hj hw e
      have ha := hw a (by simp)
      exact ih _ _ (nx_lt v hi ha).1 (nx_lt v hj ha).1 (fun b hb => hw b (by simp [hb])) (c i j a hi hj ha e)
  rcases hm : mth D i j with _ | _
  · have : alk rows good k i j := fun w hw => key w i j hi hj hw hm
    rw [alB_iff.2 this]; rfl
  · have h1 := h.snd i j hi hj hm
    have : alB rows good k i j = false := by rw [Bool.eq_false_iff]; exact fun q => h1 (alB_iff.1 q)
    rw [this]; rfl

def IP (rows : List (List Int)) (good : List Bool) (k m0 : Nat) (P : PB) : Prop := Mkd rows good k P.1 ∧ m0 ≤ cnt rows.length (mth P.1) ∧ (P.2 = true ↔ m0 < cnt rows.length (mth P.1))
def μP (n : Nat) (P : PB) : Nat := cnt n (mth P.1)
theorem mk1_ups (v : VB rows good k) (m0 : Nat) {i j a : Nat} (hi : i < rows.length) (hj : j < rows.length) (ha : a < k) : Ups (IP rows good k m0) (μP rows.length) (fun a P => mth P.1 i j = false → mth P.1 (nx rows i a) (nx rows j a) = false) (mk1 rows i j) a := by
  intro P hP
  obtain ⟨hM, h0, hf⟩ := hP
  have ni := (nx_lt v hi ha).1
  have nj := (nx_lt v hj ha).1
  by_cases c : mth P.1 i j = false ∧ mth P.1 (nx rows i a) (nx rows j a) = true
  · have e : mk1 rows i j P a = (setM P.1 i j true, true) := by rw [mk1, if_pos c]
    rw [e]
    have g := fun i' j' => hM.wf.get (i := i) (j := j) (i' := i') (j' := j') (b := true) hi hj
    have lt : cnt rows.length (mth P.1) < cnt rows.length (mth (setM P.1 i j true)) := cnt_lt (fun i' j' _ _ h => by rw [g]; split; rfl; exact h) hi hj (by rw [g]; simp) c.1
    refine ⟨⟨⟨hM.wf.set true hi, fun i' j' h1 h2 h => ?_, fun i' j' h1 h2 h => ?_⟩, Nat.le_of_lt (Nat.lt_of_le_of_lt h0 lt), ⟨fun _ => Nat.lt_of_le_of_lt h0 lt, fun _ => rfl⟩⟩, Nat.le_of_lt lt, fun q => absurd q (Nat.ne_of_gt lt)⟩
    · rw [g] at h
      by_cases q : i = i' ∧ j = j'
      · obtain ⟨rfl, rfl⟩ := q
        intro hk
        exact hM.snd _ _ ni nj c.2 (alk_step hk ha)
      · rw [if_neg q] at h
        exact hM.snd i' j' h1 h2 h
    · rw [g]; split; rfl; exact hM.bas i' j' h1 h2 h
  · have e : mk1 rows i j P a = P := by rw [mk1, if_neg c]
    rw [e]
    refine ⟨⟨hM, h0, hf⟩, Nat.le_refl _, fun _ => ⟨rfl, fun q => ?_⟩⟩
    rcases hm : mth P.1 (nx rows i a) (nx rows j a) with _ | _
    · rfl
    · exact absurd ⟨q, hm⟩ c
theorem mkA_ups (v : VB rows good k) (m0 : Nat) {i j : Nat} (hi : i < rows.length) (hj : j < rows.length) : Ups (IP rows good k m0) (μP rows.length) (fun j P => ∀ a ∈ List.range' 0 k, mth P.1 i j = false → mth P.1 (nx rows i a) (nx rows j a) = false) (fun P j => mkA rows i j k 0 P) j := fun P hP => by
  obtain ⟨h1, h2, h3⟩ := ups_fold _ _ _ _ (List.range' 0 k) P (fun a ha => mk1_ups v m0 (i := i) (j := j) hi hj (by simp [List.mem_range'_1] at ha; exact ha)) hP
  exact ⟨h1, h2, fun e => h3 e⟩
theorem mkJ_ups (v : VB rows good k) (m0 : Nat) {i : Nat} (hi : i < rows.length) : Ups (IP rows good k m0) (μP rows.length) (fun i P => ∀ j ∈ List.range' 0 rows.length, ∀ a ∈ List.range' 0 k, mth P.1 i j = false → mth P.1 (nx rows i a) (nx rows j a) = false) (fun P i => mkJ rows k i rows.length 0 P) i := fun P hP => by
  obtain ⟨h1, h2, h3⟩ := ups_fold _ _ _ _ (List.range' 0 rows.length) P (fun j hj => mkA_ups v m0 (i := i) (j := j) hi (by simp [List.mem_range'_1] at hj; exact hj)) hP
  exact ⟨h1, h2, fun e => h3 e⟩
theorem mkI_law (v : VB rows good k) {D : MB} (h : Mkd rows good k D) : Mkd rows good k (mkI rows k rows.length rows.length 0 (D, false)).1 ∧ ((mkI rows k rows.length rows.length 0 (D, false)).2 = true → cnt rows.length (mth D) < cnt rows.length (mth (mkI rows k rows.length rows.length 0 (D, false)).1)) ∧ ((mkI rows k rows.length rows.length 0 (D, false)).2 = false → Cld rows k (mkI rows k rows.length rows.length 0 (D, false)).1) := by
  obtain ⟨h1, h2, h3⟩ := ups_fold _ _ _ _ (List.range' 0 rows.length) (D, false) (fun i hi => mkJ_ups v (cnt rows.length (mth D)) (i := i) (by simp [List.mem_range'_1] at hi; exact hi)) ⟨h, Nat.le_refl _, by simp⟩
  refine ⟨h1.1, fun e => h1.2.2.1 e, fun e => ?_⟩
  have e2 : ¬ cnt rows.length (mth D) < cnt rows.length (mth (mkI rows k rows.length rows.length 0 (D, false)).1) := fun q => by
    have := h1.2.2.2 q
    simp only [mkI] at e
    rw [e] at this
    cases this
  simp only [μP] at h2 h3
  obtain ⟨e3, e4⟩ := h3 (by have h2' := h2; simp only [mkI] at e2; omega)
  have e5 : mkI rows k rows.length rows.length 0 (D, false) = (D, false) := e3
  rw [e5]
  intro i j a hi hj ha
  exact e4 i (by simp [List.mem_range'_1, hi]) j (by simp [List.mem_range'_1, hj]) a (by simp [List.mem_range'_1, ha])
theorem fixD_law (v : VB rows good k) : ∀ (f : Nat) (D : MB), Mkd rows good k D → rows.length * rows.length < f + cnt rows.length (mth D) → Mkd rows good k (fixD rows k rows.length f D) ∧ Cld rows k (fixD rows k rows.length f D)
  | 0, D, h, hf => by
    have := cnt_le rows.length (mth D)
    omega
  | f + 1, D, h, hf => by
    obtain ⟨h1, h2, h3⟩ := mkI_law v h
    rw [fixD]
    by_cases c : (mkI rows k rows.length rows.length 0 (D, false)).2 = true
    · rw [if_pos c]
      exact fixD_law v f _ h1 (by have := h2 c; omega)
    · rw [if_neg c]
      exact ⟨h1, h3 (by simpa using c)⟩
/-- The first marks. -/
def D0 (good : List Bool) (n : Nat) : MB := (List.range n).map fun i => (List.range n).map fun j => !(bnth good i == bnth good j)
theorem D0_get {n i j : Nat} (hi : i < n) (hj : j < n) : mth (D0 good n) i j = !(bnth good i == bnth good j) := by
  simp [mth, brw, D0, bnth, hi, hj]
theorem D0_wf (n : Nat) : Wf n (D0 good n) := ⟨by simp [D0], fun i hi => by simp [brw, D0, hi]⟩
theorem D0_mkd : Mkd rows good k (D0 good rows.length) := by
  refine ⟨D0_wf _, fun i j hi hj h q => ?_, fun i j hi hj h => ?_⟩
  · rw [D0_get hi hj, alk_good q] at h
    simp at h
  · rw [D0_get hi hj]
    simpa using h
/-- What the program's marks end in. -/
theorem fixD_end (v : VB rows good k) {f : Nat} (hf : rows.length * rows.length < f) : Wf rows.length (fixD rows k rows.length f (D0 good rows.length)) ∧ ∀ i j, i < rows.length → j < rows.length → mth (fixD rows k rows.length f (D0 good rows.length)) i j = !alB rows good k i j := by
  obtain ⟨h1, h2⟩ := fixD_law v f (D0 good rows.length) D0_mkd (by omega)
  exact ⟨h1.wf, fun i j hi hj => h1.end_ v h2 hi hj⟩

/-! ### The specification's -/
def mkL (rows : List (List Int)) (s t : Nat) (L : MB) (a : Nat) : MB := setM L s t (mth L s t && mth L (nx rows s a) (nx rows t a))
def lkA (rows : List (List Int)) (s t c a : Nat) (L : MB) : MB := (List.range' a c).foldl (mkL rows s t) L
def lkJ (rows : List (List Int)) (k s c t : Nat) (L : MB) : MB := (List.range' t c).foldl (fun L t => lkA rows s t k 0 L) L
def lkI (rows : List (List Int)) (k n c s : Nat) (L : MB) : MB := (List.range' s c).foldl (fun L s => lkJ rows k s n 0 L) L
def lkR (rows : List (List Int)) (k n c r : Nat) (L : MB) : MB := (List.range' r c).foldl (fun L _ => lkI rows k n n 0 L) L
structure Lkd (rows : List (List Int)) (good : List Bool) (k : Nat) (L : MB) : Prop where
  wf : Wf rows.length L
  snd : ∀ i j, i < rows.length → j < rows.length → mth L i j = false → ¬ alk rows good k i j
  bas : ∀ i j, i < rows.length → j < rows.length → bnth good i ≠ bnth good j → mth L i j = false
def CldL (rows : List (List Int)) (k : Nat) (L : MB) : Prop := ∀ i j a, i < rows.length → j < rows.length → a < k → mth L i j = true → mth L (nx rows i a) (nx rows j a) = true
theorem Lkd.end_ {L : MB} (v : VB rows good k) (h : Lkd rows good k L) (c : CldL rows k L) {i j : Nat} (hi : i < rows.length) (hj : j < rows.length) : mth L i j = alB rows good k i j := by
  have key : ∀ (w : List Nat) (i j : Nat), i < rows.length → j < rows.length → (∀ a ∈ w, a < k) → mth L i j = true → bnth good (gow rows i w) = bnth good (gow rows j w) := by
    intro w
    induction w with
    | nil =>
      intro i j hi hj _ e
      apply Classical.byContradiction
      intro q
      have := h.bas i j hi hj q
      rw [e] at this
      cases this
    | cons a w ih =>
      intro i j hi hj hw e
      have ha := hw a (by simp)
      exact ih _ _ (nx_lt v hi ha).1 (nx_lt v hj ha).1 (fun b hb => hw b (by simp [hb])) (c i j a hi hj ha e)
  rcases hm : mth L i j with _ | _
  · have h1 := h.snd i j hi hj hm
    have : alB rows good k i j = false := by rw [Bool.eq_false_iff]; exact fun q => h1 (alB_iff.1 q)
    rw [this]
  · have : alk rows good k i j := fun w hw => key w i j hi hj hw hm
    rw [alB_iff.2 this]
def μL (n : Nat) (L : MB) : Nat := cnt n fun i j => !mth L i j
/-- The first answers. -/
def L0m (good : List Bool) (n : Nat) : MB := (List.range n).map fun i => (List.range n).map fun j => (bnth good i == bnth good j)
end
end Go.Proofs.Ythnpflkpjimkfaa

/-
  NUMBERING STATES UP TO LIKENESS: taking representatives as they come, and taking all states and leaving out later ones that are alike, is the same. Conditions: none.
-/
namespace Go.Proofs.Ythnpflkpjimkfaa
open Go.AM
open Go.Proofs.Try (prog)
set_option linter.all false
set_option maxRecDepth 100000
set_option maxHeartbeats 4000000

def numS (al : Nat → Nat → Bool) (s : Nat) (P : List Nat) : List Nat := if P.any (al s) = true then P else P ++ [s]
def idxA (al : Nat → Nat → Bool) (P : List Nat) (s : Nat) : Nat := P.findIdx (al s)
def addsN (al : Nat → Nat → Bool) (nxt : Nat → Nat → Nat) (q c a : Nat) (P : List Nat) : List Nat := (List.range' a c).foldl (fun P a => numS al (nxt q a) P) P
def bldN (al : Nat → Nat → Bool) (nxt : Nat → Nat → Nat) (k : Nat) : Nat → Nat → List Nat → List Nat
  | 0, _, P => P
  | f + 1, i, P => match P[i]? with
    | some q => bldN al nxt k f (i + 1) (addsN al nxt q k 0 P)
    | none => P
def ded (al : Nat → Nat → Bool) (R : List Nat) : List Nat := R.foldl (fun P s => numS al s P) []
def bfsA {β : Type} (nxt : Nat → Nat → Nat) (ext : β → Nat → β) (k : Nat) : Nat → Nat → List Nat × List β → List Nat × List β
  | 0, _, S => S
  | f + 1, i, S => match S.1[i]?, S.2[i]? with
    | some x, some w => bfsA nxt ext k f (i + 1) (bIn nxt ext x w k 0 S)
    | _, _ => S

section
variable {al : Nat → Nat → Bool} {nxt : Nat → Nat → Nat} {k : Nat}
theorem numS_pre (s : Nat) (P : List Nat) : ∃ l, numS al s P = P ++ l := by
  rw [numS]; split
  · exact ⟨[], by simp⟩
  · exact ⟨[s], rfl⟩
theorem fold_pre (f : Nat → Nat) : ∀ (l : List Nat) (P : List Nat), ∃ l', l.foldl (fun P a => numS al (f a) P) P = P ++ l'
  | [], P => ⟨[], by simp⟩
  | a :: l, P => by
    obtain ⟨l1, h1⟩ := numS_pre (al := al) (f a) P
    obtain ⟨l2, h2⟩ := fold_pre f l (numS al (f a) P)
    exact ⟨l1 ++ l2, by rw [List.foldl_cons, h2, h1, List.append_assoc]⟩
theorem addsN_pre (q c a : Nat) (P : List Nat) : ∃ l, addsN al nxt q c a P = P ++ l := fold_pre (fun a => nxt q a) _ P
theorem ded_app (R l : List Nat) : ded al (R ++ l) = l.foldl (fun P s => numS al s P) (ded al R) := by simp [ded]
theorem ded_pre (R l : List Nat) : ∃ l', ded al (R ++ l) = ded al R ++ l' := by rw [ded_app]; exact fold_pre id l _
theorem any_app {P l : List Nat} {p : Nat → Bool} (h : P.any p = true) : (P ++ l).any p = true := by rw [List.any_append, h]; rfl
theorem idxA_app {P l : List Nat} {s : Nat} (h : P.any (al s) = true) : idxA al (P ++ l) s = idxA al P s := by
  rw [idxA, List.findIdx_append, idxA]
  rw [if_pos]
  rw [List.findIdx_lt_length]
  simpa using h
/-- A likeness: an equivalence that steps keep. -/
structure Lik (al : Nat → Nat → Bool) (nxt : Nat → Nat → Nat) (k n : Nat) : Prop where
  rf : ∀ s, s < n → al s s = true
  sy : ∀ s t, s < n → t < n → al s t = true → al t s = true
  tr : ∀ s t u, s < n → t < n → u < n → al s t = true → al t u = true → al s u = true
  st : ∀ s t a, s < n → t < n → a < k → al s t = true → al (nxt s a) (nxt t a) = true
  cl : ∀ s a, s < n → a < k → nxt s a < n
variable {n : Nat}
theorem ded_sub : ∀ (R : List Nat) (P : List Nat) (s : Nat), s ∈ R.foldl (fun P s => numS al s P) P → s ∈ P ∨ s ∈ R
  | [], P, s, h => .inl h
  | r :: R, P, s, h => by
    rw [List.foldl_cons] at h
    rcases ded_sub R _ s h with h | h
    · rw [numS] at h
      split at h
      · exact .inl h
      · rcases List.mem_append.1 h with h | h
        · exact .inl h
        · right; simp at h; simp [h]
    · right; simp [h]
theorem ded_mem {R : List Nat} {s : Nat} (h : s ∈ ded al R) : s ∈ R := by
  rcases ded_sub R [] s h with h | h
  · simp at h
  · exact h
theorem ded_len : ∀ (R P : List Nat), (R.foldl (fun P s => numS al s P) P).length ≤ P.length + R.length
  | [], P => by simp
  | r :: R, P => by
    have h := ded_len R (numS al r P)
    have h2 : (numS al r P).length ≤ P.length + 1 := by rw [numS]; split <;> simp
    rw [List.foldl_cons, List.length_cons]; omega
/-- All that lie in a list have one alike among those that are left. -/
theorem ded_any (L : Lik al nxt k n) : ∀ (R : List Nat), (∀ s ∈ R, s < n) → ∀ s, s ∈ R → (ded al R).any (al s) = true := by
  intro R hR s hs
  obtain ⟨a, b, rfl⟩ := List.append_of_mem hs
  have h1 : ded al (a ++ s :: b) = b.foldl (fun P s => numS al s P) (numS al s (ded al a)) := by rw [ded_app, List.foldl_cons]
  have h2 : (numS al s (ded al a)).any (al s) = true := by
    rw [numS]
    split
    · assumption
    · simp [L.rf s (hR s hs)]
  obtain ⟨l, h3⟩ := fold_pre (al := al) id b (numS al s (ded al a))
  simp only [id] at h3
  rw [h1, h3]
  exact any_app h2
theorem ded_skip (L : Lik al nxt k n) {R : List Nat} (hR : ∀ s ∈ R, s < n) {s t : Nat} (hs : s < n) (ht : t ∈ R) (h : al s t = true) : numS al s (ded al R) = ded al R := by
  have h1 := ded_any L R hR t ht
  rw [List.any_eq_true] at h1
  obtain ⟨u, hu, h2⟩ := h1
  have : (ded al R).any (al s) = true := List.any_eq_true.2 ⟨u, hu, L.tr s t u hs (hR t ht) (hR u (ded_mem hu)) h h2⟩
  rw [numS, if_pos this]
variable {β : Type} {ext : β → Nat → β}
/-- One state's letters, on both sides. -/
theorem bIn_ded (L : Lik al nxt k n) {q : Nat} (hq : q < n) (w : β) : ∀ (c a : Nat) (S : List Nat × List β), a + c ≤ k → (∀ s ∈ S.1, s < n) → ded al (bIn nxt ext q w c a S).1 = addsN al nxt q c a (ded al S.1)
  | 0, a, S, _, _ => rfl
  | c + 1, a, S, hc, hS => by
    rw [addsN, List.range'_succ, List.foldl_cons, bIn]
    have hn := L.cl q a hq (by omega)
    by_cases h : nxt q a ∈ S.1
    · rw [if_pos h, bIn_ded L hq w c (a + 1) S (by omega) hS, addsN, ded_skip L hS hn h (L.rf _ hn)]
    · rw [if_neg h, bIn_ded L hq w c (a + 1) _ (by omega) (fun s hs => by
        rcases List.mem_append.1 hs with hs | hs
        · exact hS s hs
        · simp at hs; rw [hs]; exact hn), addsN]
      congr 1
      simp only []
      rw [ded_app]; rfl
theorem addsN_skip (L : Lik al nxt k n) {R : List Nat} (hR : ∀ s ∈ R, s < n) {q f : Nat} (hq : q < n) (hf : f < n) (hqf : al q f = true) (hfR : ∀ a, a < k → nxt f a ∈ R) : ∀ (c a : Nat), a + c ≤ k → addsN al nxt q c a (ded al R) = ded al R
  | 0, a, _ => rfl
  | c + 1, a, hc => by
    rw [addsN, List.range'_succ, List.foldl_cons, ded_skip L hR (L.cl q a hq (by omega)) (hfR a (by omega)) (L.st q f a hq hf (by omega) hqf)]
    exact addsN_skip L hR hq hf hqf hfR c (a + 1) (by omega)
theorem bIn_has (q : Nat) (w : β) : ∀ (c a : Nat) (S : List Nat × List β) (b : Nat), a ≤ b → b < a + c → nxt q b ∈ (bIn nxt ext q w c a S).1
  | 0, a, S, b, h1, h2 => by omega
  | c + 1, a, S, b, h1, h2 => by
    rw [bIn]
    by_cases e : b = a
    · subst e
      by_cases h : nxt q b ∈ S.1
      · rw [if_pos h]
        obtain ⟨p, _, e1, _⟩ := bIn_pre nxt ext q w c (b + 1) S
        rw [e1]; exact List.mem_append_left _ h
      · rw [if_neg h]
        obtain ⟨p, _, e1, _⟩ := bIn_pre nxt ext q w c (b + 1) (S.1 ++ [nxt q b], S.2 ++ [ext w b])
        rw [e1]; simp
    · split
      · exact bIn_has q w c (a + 1) _ b (by omega) (by omega)
      · exact bIn_has q w c (a + 1) _ b (by omega) (by omega)
theorem bfs_ded (L : Lik al nxt k n) {ln : β → Nat} (hex : ∀ w a, ln (ext w a) ≤ ln w + 1) : ∀ (f i : Nat) (S : List Nat × List β), BOk (· < n) ln S → i ≤ S.1.length → n < f + i → (∀ s ∈ S.1.take i, ∀ a, a < k → nxt s a ∈ S.1) → ∀ f', n < f' + (ded al (S.1.take i)).length →
    bldN al nxt k f' (ded al (S.1.take i)).length (ded al S.1) = ded al (bfsA nxt ext k f i S).1 := by
  intro f
  induction f with
  | zero =>
    intro i S hS hi hf
    have := nodup_sub hS.nd (L := List.range n) fun x hx => List.mem_range.2 (hS.all x hx)
    simp at this
    omega
  | succ f ih =>
    intro i S hS hi hf hcl f' hf'
    have hSn : S.1.length ≤ n := by
      have := nodup_sub hS.nd (L := List.range n) fun x hx => List.mem_range.2 (hS.all x hx)
      simpa using this
    by_cases c : i < S.1.length
    · have hx := List.getElem?_eq_getElem c
      have c2 : i < S.2.length := by rw [← hS.len]; exact c
      have hw := List.getElem?_eq_getElem c2
      generalize S.1[i] = q at hx
      generalize S.2[i] = w at hw
      have hqm := List.mem_of_getElem? hx
      have hq : q < n := hS.all q hqm
      rw [bfsA, hx, hw]
      simp only []
      have hS' := bIn_ok nxt ext (ok := (· < n)) (ln := ln) (k := k) (fun x a hx ha => L.cl x a hx ha) hex q w hq k 0 S (by omega) hS (hS.wl w (List.mem_of_getElem? hw))
      obtain ⟨p, p', e1, e2⟩ := bIn_pre nxt ext q w k 0 S
      have ht : (bIn nxt ext q w k 0 S).1.take (i + 1) = S.1.take (i + 1) := by rw [e1, List.take_append_of_le_length (by omega)]
      have ht1 : S.1.take (i + 1) = S.1.take i ++ [q] := by rw [List.take_add_one, hx]; rfl
      have hd1 : ded al (S.1.take (i + 1)) = numS al q (ded al (S.1.take i)) := by rw [ht1, ded_app]; rfl
      have hb := bIn_ded (ext := ext) L hq w k 0 S (by omega) hS.all
      have hcl' : ∀ s ∈ (bIn nxt ext q w k 0 S).1.take (i + 1), ∀ a, a < k → nxt s a ∈ (bIn nxt ext q w k 0 S).1 := by
        rw [ht, ht1]
        intro s hs a ha
        rcases List.mem_append.1 hs with hs | hs
        · rw [e1]; exact List.mem_append_left _ (hcl s hs a ha)
        · simp at hs
          subst hs
          exact bIn_has s w k 0 S a (by omega) (by omega)
      have IH := ih (i + 1) (bIn nxt ext q w k 0 S) hS' (by rw [e1]; simp; omega) (by omega) hcl'
      rw [ht, hd1, hb] at IH
      have hT : ∀ s ∈ S.1.take i, s < n := fun s hs => hS.all s (List.mem_of_mem_take hs)
      by_cases hany : (ded al (S.1.take i)).any (al q) = true
      · have e3 : numS al q (ded al (S.1.take i)) = ded al (S.1.take i) := by rw [numS, if_pos hany]
        rw [e3] at IH
        rw [List.any_eq_true] at hany
        obtain ⟨g, hg, hqg⟩ := hany
        have hgt := ded_mem hg
        have hsk := addsN_skip L hS.all hq (hT g hgt) hqg (fun a ha => hcl g hgt a ha) k 0 (by omega)
        rw [hsk] at IH
        exact IH f' hf'
      · have e3 : numS al q (ded al (S.1.take i)) = ded al (S.1.take i) ++ [q] := by rw [numS, if_neg hany]
        rw [e3] at IH hd1
        have hlen : (ded al (S.1.take i)).length ≤ i := by
          have := ded_len (al := al) (S.1.take i) []
          simp [List.length_take] at this
          exact Nat.le_trans this (by omega)
        have hsp : S.1 = S.1.take (i + 1) ++ S.1.drop (i + 1) := (List.take_append_drop _ _).symm
        obtain ⟨l', hl'⟩ := ded_pre (al := al) (S.1.take (i + 1)) (S.1.drop (i + 1))
        rw [← hsp, hd1] at hl'
        match f', hf' with
        | 0, hf' => omega
        | f' + 1, hf' =>
          have hat : (ded al S.1)[(ded al (S.1.take i)).length]? = some q := by rw [hl']; simp
          rw [bldN, hat]
          simp only []
          have := IH f' (by simp; omega)
          simpa using this
    · have hi' : i = S.1.length := by omega
      have hx : S.1[i]? = none := List.getElem?_eq_none (by omega)
      rw [bfsA, hx]
      simp only []
      have : S.1.take i = S.1 := by rw [hi']; simp
      rw [this]
      cases f' with
      | zero => rfl
      | succ f' =>
        rw [bldN]
        simp
end
theorem few6 {n : Nat} {st : List Nat} (n6 : n ≤ 6) (h : st.Nodup) (ha : ∀ x ∈ st, x < n) : st.length ≤ 6 := by
  have := nodup_sub h (L := List.range n) fun x hx => List.mem_range.2 (ha x hx)
  simp at this
  omega
end Go.Proofs.Ythnpflkpjimkfaa

/-
  LISTS THAT ARE NIL OR AN OBJECT OF THEIR OWN. Conditions: none.
-/
namespace Go.Proofs.Ythnpflkpjimkfaa
open Go.AM
open Go.Proofs.Try (prog)
set_option linter.all false
set_option maxRecDepth 100000
set_option maxHeartbeats 4000000

theorem Gl.oid {m : Mem} {v : AV} {id sz n : Nat} {xs : List AV} (h : Gl m v id sz n xs) : objId v = some id := by
  obtain ⟨⟨pre, rfl, hm⟩, hn, hl⟩ := h; rfl
def Nl (h : Nat → Option AObj) (v : AV) (xs : List AV) (lo hi : Nat) : Prop := (v = .nils ∧ xs = []) ∨ ∃ R, v = .sl R 1 0 xs.length xs.length ∧ h R = some (.cells xs) ∧ lo ≤ R ∧ R < hi
section
variable {h h' : Nat → Option AObj} {v : AV} {xs : List AV} {lo hi hi' : Nat}
theorem Nl.nil : Nl h .nils [] lo hi := .inl ⟨rfl, rfl⟩
theorem Nl.fr (n : Nl h v xs lo hi) (e : ∀ y, lo ≤ y → y < hi → objId v = some y → h' y = h y) (l : hi ≤ hi') : Nl h' v xs lo hi' := by
  rcases n with ⟨rfl, rfl⟩ | ⟨R, rfl, h1, h2, h3⟩
  · exact .nil
  · exact .inr ⟨R, rfl, by rw [e R h2 h3 rfl, h1], h2, by omega⟩
theorem Nl.one (n : Nl h v xs lo hi) : v.one = true := by
  rcases n with ⟨rfl, rfl⟩ | ⟨R, rfl, h1, h2, h3⟩ <;> rfl
theorem Nl.cells (n : Nl h v xs lo hi) : v.cells = [v] := by
  rcases n with ⟨rfl, rfl⟩ | ⟨R, rfl, h1, h2, h3⟩ <;> rfl
theorem Nl.oid (n : Nl h v xs lo hi) {y : Nat} (e : objId v = some y) : lo ≤ y ∧ y < hi := by
  rcases n with ⟨rfl, rfl⟩ | ⟨R, rfl, h1, h2, h3⟩
  · cases e
  · simp [objId] at e; omega
theorem Nl.len (n : Nl h v xs lo hi) : lenSl v = some (.int .i64 xs.length) := by
  rcases n with ⟨rfl, rfl⟩ | ⟨R, rfl, h1, h2, h3⟩ <;> rfl
theorem mapO_same {f : AV → Option AV} : ∀ l : List AV, (∀ x ∈ l, f x = some x) → mapO f l = some l
  | [], _ => rfl
  | a :: l, q => by simp [mapO, q a (by simp), mapO_same l (fun x hx => q x (by simp [hx]))]
theorem Nl.deep (n : Nl h v xs lo hi) (d : Nat) (hd : ∀ x ∈ xs, AM.deep h d x = some x) (h0 : v ≠ .nils) : AM.deep h (d + 1) v = some (.fsl false xs.length xs) := by
  rcases n with ⟨rfl, rfl⟩ | ⟨R, rfl, h1, h2, h3⟩
  · exact absurd rfl h0
  · simp [AM.deep, h1, mapO_same xs hd]
theorem Nl.nn (n : Nl h v xs lo hi) (h0 : xs ≠ []) : v ≠ .nils := by
  rcases n with ⟨rfl, rfl⟩ | ⟨R, rfl, h1, h2, h3⟩
  · exact absurd rfl h0
  · simp
theorem Nl.sl (n : Nl h v xs lo hi) (h0 : v ≠ .nils) : ∃ R, v = .sl R 1 0 xs.length xs.length ∧ h R = some (.cells xs) ∧ lo ≤ R ∧ R < hi := by
  rcases n with ⟨rfl, rfl⟩ | h
  · exact absurd rfl h0
  · exact h
/-- One more at the end. -/
theorem Nl.app {nx by' : Nat} (n : Nl h v xs lo hi) (hh : hi ≤ nx) (hl : lo ≤ nx) (hr : room (xs.length + 1) by' = true) (y : AV) :
    ∃ v' h' nx', appT 1 by' ⟨h, nx⟩ v (some (1, [y])) = some (v', ⟨h', nx'⟩) ∧ Nl h' v' (xs ++ [y]) lo nx' ∧ nx ≤ nx' ∧ nx' ≤ nx + 1 ∧ (∀ z, objId v' = some z → objId v = some z ∨ z = nx) ∧ (∀ z, objId v' ≠ some z → h' z = h z) ∧ v' ≠ .nils := by
  rcases n with ⟨rfl, rfl⟩ | ⟨R, rfl, h1, h2, h3⟩
  · refine ⟨.sl nx 1 0 1 1, upd h nx (some (.cells [y])), nx + 1, ?_, .inr ⟨nx, rfl, by simp, hl, by omega⟩, by omega, by omega, fun z e => .inr (by simp [objId] at e; omega), fun z e => updNe (fun q => e (by rw [q]; rfl)), by simp⟩
    simp at hr
    simp [Mem.new, hr]
  · refine ⟨.sl R 1 0 (xs.length + 1) (xs.length + 1), upd h R (some (.cells (xs ++ [y]))), nx, ?_, .inr ⟨R, by simp, by simp, h2, by omega⟩, by omega, by omega, fun z e => .inl e, fun z e => updNe (fun q => e (by rw [q]; rfl)), by simp⟩
    simp at hr
    simp [h1, hr.1, hr.2]
end
end Go.Proofs.Ythnpflkpjimkfaa

/-
  THE LEAST WORD THAT ONLY ONE OF TWO BRANDS ACCEPTS: the program's search. Conditions: none.
-/
namespace Go.Proofs.Ythnpflkpjimkfaa
open Go.AM
open Go.Proofs.Try (prog)
set_option linter.all false
set_option maxRecDepth 100000
set_option maxHeartbeats 8000000

def nxP (rows rows' : List (List Int)) (x : PN) (a : Nat) : PN := (nx rows x.1 a, nx rows' x.2 a)
def extL (w : List UInt8) (a : Nat) : List UInt8 := w ++ ltr a
def okP (n n' : Nat) (x : PN) : Prop := x.1 < n ∧ x.2 < n'
noncomputable def KD : List Item := [.code brand_Differ.r19, .code .ret]
noncomputable def KI : List Item := .inBlock 1 :: .code brand_Differ.r6 :: .inLoop brand_Differ.l0 :: .inBlock 0 :: KD

def stP (good good' : List Bool) (x : PN) : Bool := !(bnth good x.1 == bnth good' x.2)
def resP : Option (List UInt8) → AV
  | some w => .tup [.str w, .int .i64 0]
  | none => .tup [.str [], .int .i64 5]
/-- The search from the first pair. -/
def dfrW (rows rows' : List (List Int)) (good good' : List Bool) (k : Nat) : Option (List UInt8) := bfs (nxP rows rows') extL (stP good good') k 37 0 ([(0, 0)], [[]])
end Go.Proofs.Ythnpflkpjimkfaa
