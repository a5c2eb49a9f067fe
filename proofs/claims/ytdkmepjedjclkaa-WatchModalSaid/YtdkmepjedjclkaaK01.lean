/-
  BODIES OF FUNCTIONS OF THE PROGRAM AS SMALL OPERATIONS (written by gen.py; checked by the kernel against the program). Conditions: none.
-/
import Derived.Test.YtdkmepjedjclkaaKAmH
import Derived.Test.YtdkmepjedjclkaaK00
set_option linter.all false
namespace Go.Proofs.Ytdkmepjedjclkaa
open Go.AM
open Go.Proofs.Try (prog)
set_option maxRecDepth 100000
set_option linter.all false

namespace l09_Tale_made
/-- (pommel/pommellaw09.Tale).made -/
noncomputable def b : Code := (Try.f23.body).getD .skip
theorem hf : prog.funcs[23]? = some Try.f23 := by kernel_rfl
noncomputable def r0 : Code := findReg b 0
noncomputable def r1 : Code := findReg b 1
noncomputable def r2 : Code := findReg b 2
noncomputable def k0 : Code := findBlk b 0
noncomputable def l0 : Code := loopOf k0
noncomputable def L0 (x1 x2 x3 x4 : AV) (m : Mem) (K : List Item) : Option Res := den prog ann 23 (.code l0 :: .inLoop l0 :: .inBlock 0 :: K) ⟨[(1, x1), (2, x2), (3, x3), (4, x4)], 123, m⟩
noncomputable def r3 : Code := findReg b 3
noncomputable def i0 : Code := findCond b 0
noncomputable def i0t : Code := thenOf i0
noncomputable def i0e : Code := elseOf i0
noncomputable def k1 : Code := findBlk b 1
noncomputable def r5 : Code := findReg b 5
noncomputable def r4 : Code := findReg b 4
noncomputable def r6 : Code := findReg b 6
noncomputable def k2 : Code := findBlk b 2
noncomputable def l2 : Code := loopOf k2
noncomputable def L2 (x1 x2 x3 x5 : AV) (m : Mem) (K : List Item) : Option Res := den prog ann 23 (.code l2 :: .inLoop l2 :: .inBlock 2 :: K) ⟨[(1, x1), (2, x2), (3, x3), (5, x5)], 123, m⟩
noncomputable def r7 : Code := findReg b 7
noncomputable def i1 : Code := findCond b 1
noncomputable def i1t : Code := thenOf i1
noncomputable def i1e : Code := elseOf i1
noncomputable def k3 : Code := findBlk b 3
noncomputable def r9 : Code := findReg b 9
noncomputable def r10 : Code := findReg b 10
noncomputable def r11 : Code := findReg b 11
noncomputable def i2 : Code := findCond b 2
noncomputable def i2t : Code := thenOf i2
noncomputable def i2e : Code := elseOf i2
noncomputable def r12 : Code := findReg b 12
noncomputable def r13 : Code := findReg b 13
noncomputable def r14 : Code := findReg b 14
noncomputable def i3 : Code := findCond b 3
noncomputable def i3t : Code := thenOf i3
noncomputable def i3e : Code := elseOf i3
noncomputable def r15 : Code := findReg b 15
noncomputable def r8 : Code := findReg b 8
noncomputable def r16 : Code := findReg b 16
theorem b_eq (K : List Item) (s : St) : den prog ann 23 (.code b :: K) s = den prog ann 23 (.code r0 :: .code r1 :: .code r2 :: .code k0 :: .code r6 :: .code k2 :: .code r16 :: .code .ret :: K) s := den_flat hf (l := [r0, r1, r2, k0, r6, k2, r16, .ret]) (by kernel_rfl) K s
theorem r0_eq (K : List Item) (s : St) : den prog ann 23 (.code r0 :: K) s = mreg prog ann 23 none [] none [] [
    ⟨some 1, none, .v fun s => frozenPtr (s.get 0)⟩,
    ⟨some 2, none, .w false none fun s => newPtr s.m [.nils, .nils]⟩] K s := (den_reg hf _ K s).trans (by kernel_rfl)
theorem r1_eq (K : List Item) (s : St) : den prog ann 23 (.code r1 :: K) s = mreg prog ann 23 none [] none [] [
    ⟨some 9, none, .v fun s => bldA (plc [(0, 1), (1, 1)]) [.nils, .nils] []⟩,
    ⟨some 3, none, .w false none fun s => newPtr s.m [.nils, .nils]⟩,
    ⟨none, none, .w false none fun s => stA true 2 s.m (s.get 3) (s.get 9)⟩] K s := (den_reg hf _ K s).trans (by kernel_rfl)
theorem r2_eq (K : List Item) (s : St) : den prog ann 23 (.code r2 :: K) s = mreg prog ann 23 none [] none [] [
    ⟨some 4, none, .v fun s => some (.int .i64 0)⟩] K s := (den_reg hf _ K s).trans (by kernel_rfl)
theorem k0_eq (K : List Item) (t : List (Nat × AV)) (m : Mem) : den prog ann 23 (.code k0 :: K) ⟨t, 123, m⟩ = L0 (get t 1) (get t 2) (get t 3) (get t 4) m K := den_loop_enter hf (b := l0) (id := 3) (l := [1, 2, 3, 4]) (by kernel_rfl) (by kernel_rfl) (by kernel_rfl) K _
theorem l0_eq (K : List Item) (t : List (Nat × AV)) (m : Mem) : den prog ann 23 (.inLoop l0 :: .inBlock 0 :: K) ⟨t, 123, m⟩ = L0 (get t 1) (get t 2) (get t 3) (get t 4) m K := den_loop_again hf (id := 3) (l := [1, 2, 3, 4]) (by kernel_rfl) (by kernel_rfl) (.inBlock 0 :: K) _
theorem L0_eq (x1 x2 x3 x4 : AV) (m : Mem) (K : List Item) : L0 x1 x2 x3 x4 m K = den prog ann 23 (.code r3 :: .code i0 :: .code k1 :: .code r4 :: .inLoop l0 :: .inBlock 0 :: K) ⟨[(1, x1), (2, x2), (3, x3), (4, x4)], 123, m⟩ := den_flat hf (l := [r3, i0, k1, r4]) (by kernel_rfl) _ _
theorem r3_eq (K : List Item) (s : St) : den prog ann 23 (.code r3 :: K) s = mreg prog ann 23 (some [1, 2, 3, 4]) [] none [] [
    ⟨some 10, none, .v fun s => some (s.get 4)⟩,
    ⟨some 11, none, .v fun s => fieldA 0 (s.get 1)⟩,
    ⟨some 12, none, .v fun s => loadF false 1 (s.get 11)⟩,
    ⟨some 13, none, .v fun s => convInt .i64 (s.get 12)⟩,
    ⟨some 14, none, .v fun s => binA prog .rem 3 (s.get 13) (.int .i64 4)⟩,
    ⟨some 15, none, .v fun s => binA prog .leq 3 (s.get 10) (s.get 14)⟩] K s := (den_reg hf _ K s).trans (by kernel_rfl)
theorem i0_eq (K : List Item) (s : St) : den prog ann 23 (.code i0 :: K) s = ifV prog ann 23 15 i0t i0e K s (s.get 15) := den_if hf (by kernel_rfl) K s
theorem i0t_eq (K : List Item) (s : St) : den prog ann 23 (.code i0t :: K) s = den prog ann 23 (K) s := den_flat hf (l := []) (by kernel_rfl) K s
theorem i0e_eq (K : List Item) (s : St) : den prog ann 23 (.code i0e :: K) s = den prog ann 23 (.code (.exit 0) :: K) s := den_flat hf (l := [(.exit 0)]) (by kernel_rfl) K s
theorem k1_eq (K : List Item) (s : St) : den prog ann 23 (.code k1 :: K) s = den prog ann 23 (.code r5 :: .inBlock 1 :: K) s := den_blk hf (b := blkOf k1) (l := [r5]) (by kernel_rfl) (by kernel_rfl) K s
theorem r5_draw : drawOk (fun g => (ann g).pure) (modeOf (ann 23) (idOf r5)) (frzOf (ann 23) (idOf r5)) (opsOf r5) = true := drawOk_of (an := [0, 1, 0, 0, 12, 28, 60, 124, 252, 511, 1023, 2047]) (by kernel_rfl) (by kernel_rfl)
theorem r5_eq (K : List Item) (s : St) : den prog ann 23 (.code r5 :: K) s = mreg prog ann 23 none [] (some 12) [] [
    ⟨some 18, none, .v fun s => fieldA 0 (s.get 3)⟩,
    ⟨some 19, none, .v fun s => loadA false 1 s.m (s.get 18)⟩,
    ⟨some 20, none, .v fun s => some (s.get 4)⟩,
    ⟨some 21, none, .v fun s => fieldA 1 (s.get 1)⟩,
    ⟨some 22, none, .v fun s => idxArr 4 1 (s.get 21) (s.get 20)⟩,
    ⟨some 23, none, .v fun s => loadF false 1 (s.get 22)⟩,
    ⟨some 24, none, .v fun s => convInt .i64 (s.get 23)⟩,
    ⟨some 25, none, .v fun s => binA prog .rem 3 (s.get 24) (.int .i64 7)⟩,
    ⟨some 26, none, .v fun s => bslF 1 (bslA 1 1 [.int .i64 0] [(0, (s.get 25))])⟩,
    ⟨some 27, none, .w false (some 9) fun s => appendA 1 8 s.m (s.get 19) (s.get 26)⟩,
    ⟨some 28, none, .v fun s => fieldA 0 (s.get 3)⟩,
    ⟨none, none, .w false (some 11) fun s => stA false 1 s.m (s.get 28) (s.get 27)⟩] K s := (den_regD hf r5_draw K s).trans (by kernel_rfl)
theorem r4_eq (K : List Item) (s : St) : den prog ann 23 (.code r4 :: K) s = mreg prog ann 23 (some [1, 2, 3, 4]) [] none [] [
    ⟨some 16, none, .v fun s => some (s.get 4)⟩,
    ⟨some 17, none, .v fun s => binA prog .add 3 (s.get 16) (.int .i64 1)⟩,
    ⟨some 4, none, .v fun s => some (s.get 17)⟩] K s := (den_reg hf _ K s).trans (by kernel_rfl)
theorem r6_eq (K : List Item) (s : St) : den prog ann 23 (.code r6 :: K) s = mreg prog ann 23 (some [1, 2, 3]) [] none [] [
    ⟨some 5, none, .v fun s => some (.int .i64 0)⟩] K s := (den_reg hf _ K s).trans (by kernel_rfl)
theorem k2_eq (K : List Item) (t : List (Nat × AV)) (m : Mem) : den prog ann 23 (.code k2 :: K) ⟨t, 123, m⟩ = L2 (get t 1) (get t 2) (get t 3) (get t 5) m K := den_loop_enter hf (b := l2) (id := 7) (l := [1, 2, 3, 5]) (by kernel_rfl) (by kernel_rfl) (by kernel_rfl) K _
theorem l2_eq (K : List Item) (t : List (Nat × AV)) (m : Mem) : den prog ann 23 (.inLoop l2 :: .inBlock 2 :: K) ⟨t, 123, m⟩ = L2 (get t 1) (get t 2) (get t 3) (get t 5) m K := den_loop_again hf (id := 7) (l := [1, 2, 3, 5]) (by kernel_rfl) (by kernel_rfl) (.inBlock 2 :: K) _
theorem L2_eq (x1 x2 x3 x5 : AV) (m : Mem) (K : List Item) : L2 x1 x2 x3 x5 m K = den prog ann 23 (.code r7 :: .code i1 :: .code k3 :: .code r8 :: .inLoop l2 :: .inBlock 2 :: K) ⟨[(1, x1), (2, x2), (3, x3), (5, x5)], 123, m⟩ := den_flat hf (l := [r7, i1, k3, r8]) (by kernel_rfl) _ _
theorem r7_eq (K : List Item) (s : St) : den prog ann 23 (.code r7 :: K) s = mreg prog ann 23 (some [1, 2, 3, 5]) [] none [] [
    ⟨some 29, none, .v fun s => some (s.get 5)⟩,
    ⟨some 30, none, .v fun s => fieldA 5 (s.get 1)⟩,
    ⟨some 31, none, .v fun s => loadF false 1 (s.get 30)⟩,
    ⟨some 32, none, .v fun s => lenSl (s.get 31)⟩,
    ⟨some 33, none, .v fun s => binA prog .lss 3 (s.get 29) (s.get 32)⟩,
    ⟨some 34, none, .v fun s => some (s.get 33)⟩,
    ⟨some 35, some (34, true), .v fun s => fieldA 1 (s.get 3)⟩,
    ⟨some 36, some (34, true), .v fun s => loadA false 1 s.m (s.get 35)⟩,
    ⟨some 37, some (34, true), .v fun s => lenSl (s.get 36)⟩,
    ⟨some 38, some (34, true), .v fun s => binA prog .lss 3 (s.get 37) (.int .i64 12)⟩,
    ⟨some 39, none, .v fun s => pickA (s.get 34) (s.get 38) (.bool false)⟩] K s := (den_reg hf _ K s).trans (by kernel_rfl)
theorem i1_eq (K : List Item) (s : St) : den prog ann 23 (.code i1 :: K) s = ifV prog ann 23 39 i1t i1e K s (s.get 39) := den_if hf (by kernel_rfl) K s
theorem i1t_eq (K : List Item) (s : St) : den prog ann 23 (.code i1t :: K) s = den prog ann 23 (K) s := den_flat hf (l := []) (by kernel_rfl) K s
theorem i1e_eq (K : List Item) (s : St) : den prog ann 23 (.code i1e :: K) s = den prog ann 23 (.code (.exit 2) :: K) s := den_flat hf (l := [(.exit 2)]) (by kernel_rfl) K s
theorem k3_eq (K : List Item) (s : St) : den prog ann 23 (.code k3 :: K) s = den prog ann 23 (.code r9 :: .code r10 :: .code r11 :: .code i2 :: .code r12 :: .code r13 :: .code r14 :: .code i3 :: .inBlock 3 :: K) s := den_blk hf (b := blkOf k3) (l := [r9, r10, r11, i2, r12, r13, r14, i3]) (by kernel_rfl) (by kernel_rfl) K s
theorem r9_eq (K : List Item) (s : St) : den prog ann 23 (.code r9 :: K) s = mreg prog ann 23 none [] none [6] [
    ⟨some 42, none, .v fun s => fieldA 5 (s.get 1)⟩,
    ⟨some 43, none, .v fun s => loadF false 1 (s.get 42)⟩,
    ⟨some 44, none, .v fun s => some (s.get 5)⟩,
    ⟨some 45, none, .v fun s => idxSl 4 (s.get 43) (s.get 44)⟩,
    ⟨some 46, none, .v fun s => loadF true 4 (s.get 45)⟩,
    ⟨some 6, none, .w false none fun s => newPtr s.m [.int .u8 0, .int .u8 0, .int .u8 0, .int .u8 0]⟩,
    ⟨none, none, .w false none fun s => stA true 4 s.m (s.get 6) (s.get 46)⟩] K s := (den_reg hf _ K s).trans (by kernel_rfl)
theorem r10_draw : drawOk (fun g => (ann g).pure) (modeOf (ann 23) (idOf r10)) (frzOf (ann 23) (idOf r10)) (opsOf r10) = true := drawOk_of (an := [0, 1, 3, 0, 8, 24, 63, 0, 128, 384, 0, 1024, 3072, 8064, 16383, 0, 65535]) (by kernel_rfl) (by kernel_rfl)
theorem r10_eq (K : List Item) (s : St) : den prog ann 23 (.code r10 :: K) s = mreg prog ann 23 none [] (some 17) [] [
    ⟨some 47, none, .v fun s => idxArr 4 1 (s.get 6) (.int .i64 0)⟩,
    ⟨some 48, none, .v fun s => loadF false 1 (s.get 47)⟩,
    ⟨some 49, none, .v fun s => convInt .i64 (s.get 48)⟩,
    ⟨some 50, none, .v fun s => fieldA 0 (s.get 3)⟩,
    ⟨some 51, none, .v fun s => loadA false 1 s.m (s.get 50)⟩,
    ⟨some 52, none, .v fun s => lenSl (s.get 51)⟩,
    ⟨some 53, none, .v fun s => binA prog .rem 3 (s.get 49) (s.get 52)⟩,
    ⟨some 54, none, .v fun s => idxArr 4 1 (s.get 6) (.int .i64 2)⟩,
    ⟨some 55, none, .v fun s => loadF false 1 (s.get 54)⟩,
    ⟨some 56, none, .v fun s => convInt .i64 (s.get 55)⟩,
    ⟨some 57, none, .v fun s => fieldA 0 (s.get 3)⟩,
    ⟨some 58, none, .v fun s => loadA false 1 s.m (s.get 57)⟩,
    ⟨some 59, none, .v fun s => lenSl (s.get 58)⟩,
    ⟨some 60, none, .v fun s => binA prog .rem 3 (s.get 56) (s.get 59)⟩,
    ⟨some 61, none, .v fun s => bldA (plc [(0, 1), (1, 1), (2, 1), (3, 1)]) [.int .i64 0, .int .i64 0, .int .i64 0, .int .i64 0] [(0, (s.get 53)), (2, (s.get 60))]⟩,
    ⟨some 7, none, .w false (some 15) fun s => newPtr s.m [.int .i64 0, .int .i64 0, .int .i64 0, .int .i64 0]⟩,
    ⟨none, none, .w false (some 16) fun s => stA true 4 s.m (s.get 7) (s.get 61)⟩] K s := (den_regD hf r10_draw K s).trans (by kernel_rfl)
theorem r11_eq (K : List Item) (s : St) : den prog ann 23 (.code r11 :: K) s = mreg prog ann 23 none [] none [] [
    ⟨some 62, none, .v fun s => fieldA 0 (s.get 7)⟩,
    ⟨some 63, none, .v fun s => loadA false 1 s.m (s.get 62)⟩,
    ⟨some 64, none, .v fun s => fieldA 2 (s.get 7)⟩,
    ⟨some 65, none, .v fun s => loadA false 1 s.m (s.get 64)⟩,
    ⟨some 66, none, .v fun s => binA prog .eql 3 (s.get 63) (s.get 65)⟩,
    ⟨some 67, none, .v fun s => some (s.get 66)⟩,
    ⟨some 68, some (67, false), .v fun s => fieldA 0 (s.get 3)⟩,
    ⟨some 69, some (67, false), .v fun s => loadA false 1 s.m (s.get 68)⟩,
    ⟨some 70, some (67, false), .v fun s => fieldA 0 (s.get 7)⟩,
    ⟨some 71, some (67, false), .v fun s => loadA false 1 s.m (s.get 70)⟩,
    ⟨some 72, some (67, false), .v fun s => idxSl 1 (s.get 69) (s.get 71)⟩,
    ⟨some 73, some (67, false), .v fun s => loadA false 1 s.m (s.get 72)⟩,
    ⟨some 74, some (67, false), .v fun s => binA prog .eql 3 (s.get 73) (.int .i64 0)⟩,
    ⟨some 75, none, .v fun s => pickA (s.get 67) (.bool true) (s.get 74)⟩,
    ⟨some 76, none, .v fun s => some (s.get 75)⟩,
    ⟨some 77, some (76, false), .v fun s => fieldA 0 (s.get 3)⟩,
    ⟨some 78, some (76, false), .v fun s => loadA false 1 s.m (s.get 77)⟩,
    ⟨some 79, some (76, false), .v fun s => fieldA 2 (s.get 7)⟩,
    ⟨some 80, some (76, false), .v fun s => loadA false 1 s.m (s.get 79)⟩,
    ⟨some 81, some (76, false), .v fun s => idxSl 1 (s.get 78) (s.get 80)⟩,
    ⟨some 82, some (76, false), .v fun s => loadA false 1 s.m (s.get 81)⟩,
    ⟨some 83, some (76, false), .v fun s => binA prog .eql 3 (s.get 82) (.int .i64 0)⟩,
    ⟨some 84, none, .v fun s => pickA (s.get 76) (.bool true) (s.get 83)⟩] K s := (den_reg hf _ K s).trans (by kernel_rfl)
theorem i2_eq (K : List Item) (s : St) : den prog ann 23 (.code i2 :: K) s = ifV prog ann 23 84 i2t i2e K s (s.get 84) := den_if hf (by kernel_rfl) K s
theorem i2t_eq (K : List Item) (s : St) : den prog ann 23 (.code i2t :: K) s = den prog ann 23 (.code (.exit 3) :: K) s := den_flat hf (l := [(.exit 3)]) (by kernel_rfl) K s
theorem i2e_eq (K : List Item) (s : St) : den prog ann 23 (.code i2e :: K) s = den prog ann 23 (K) s := den_flat hf (l := []) (by kernel_rfl) K s
theorem r12_draw : drawOk (fun g => (ann g).pure) (modeOf (ann 23) (idOf r12)) (frzOf (ann 23) (idOf r12)) (opsOf r12) = true := drawOk_of (an := [0, 1, 3, 0, 8, 0, 32, 120, 248, 511, 1023, 0, 2048, 6144, 0, 16384, 0, 65536, 245760, 507904, 1046528, 2095104, 198655, 4392959, 16777215, 33554431]) (by kernel_rfl) (by kernel_rfl)
theorem r12_eq (K : List Item) (s : St) : den prog ann 23 (.code r12 :: K) s = mreg prog ann 23 none [] (some 26) [1099107, 1103107] [
    ⟨some 85, none, .v fun s => idxArr 4 1 (s.get 6) (.int .i64 1)⟩,
    ⟨some 86, none, .v fun s => loadF false 1 (s.get 85)⟩,
    ⟨some 87, none, .v fun s => convInt .i64 (s.get 86)⟩,
    ⟨some 88, none, .v fun s => fieldA 0 (s.get 3)⟩,
    ⟨some 89, none, .v fun s => loadA false 1 s.m (s.get 88)⟩,
    ⟨some 90, none, .v fun s => fieldA 0 (s.get 7)⟩,
    ⟨some 91, none, .v fun s => loadA false 1 s.m (s.get 90)⟩,
    ⟨some 92, none, .v fun s => idxSl 1 (s.get 89) (s.get 91)⟩,
    ⟨some 93, none, .v fun s => loadA false 1 s.m (s.get 92)⟩,
    ⟨some 94, none, .v fun s => binA prog .rem 3 (s.get 87) (s.get 93)⟩,
    ⟨some 95, none, .v fun s => binA prog .add 3 (s.get 94) (.int .i64 1)⟩,
    ⟨some 96, none, .v fun s => idxArr 4 1 (s.get 6) (.int .i64 3)⟩,
    ⟨some 97, none, .v fun s => loadF false 1 (s.get 96)⟩,
    ⟨some 98, none, .v fun s => convInt .i64 (s.get 97)⟩,
    ⟨some 99, none, .v fun s => fieldA 0 (s.get 3)⟩,
    ⟨some 100, none, .v fun s => loadA false 1 s.m (s.get 99)⟩,
    ⟨some 101, none, .v fun s => fieldA 2 (s.get 7)⟩,
    ⟨some 102, none, .v fun s => loadA false 1 s.m (s.get 101)⟩,
    ⟨some 103, none, .v fun s => idxSl 1 (s.get 100) (s.get 102)⟩,
    ⟨some 104, none, .v fun s => loadA false 1 s.m (s.get 103)⟩,
    ⟨some 105, none, .v fun s => binA prog .rem 3 (s.get 98) (s.get 104)⟩,
    ⟨some 106, none, .v fun s => binA prog .add 3 (s.get 105) (.int .i64 1)⟩,
    ⟨some 107, none, .v fun s => fieldA 1 (s.get 7)⟩,
    ⟨none, none, .w false (some 23) fun s => stA false 1 s.m (s.get 107) (s.get 95)⟩,
    ⟨some 108, none, .v fun s => fieldA 3 (s.get 7)⟩,
    ⟨none, none, .w false (some 25) fun s => stA false 1 s.m (s.get 108) (s.get 106)⟩] K s := (den_regD hf r12_draw K s).trans (by kernel_rfl)
theorem r13_draw : drawOk (fun g => (ann g).pure) (modeOf (ann 23) (idOf r13)) (frzOf (ann 23) (idOf r13)) (opsOf r13) = true := drawOk_of (an := [0, 1, 0, 0, 8, 28, 0, 64, 252, 511, 0, 2047]) (by kernel_rfl) (by kernel_rfl)
theorem r13_eq (K : List Item) (s : St) : den prog ann 23 (.code r13 :: K) s = mreg prog ann 23 none [] (some 12) [1109111, 1109114, 1007111, 2008, 8] [
    ⟨some 109, none, .v fun s => fieldA 0 (s.get 3)⟩,
    ⟨some 110, none, .v fun s => loadA false 1 s.m (s.get 109)⟩,
    ⟨some 111, none, .w false (some 2) fun s => bslM s.m 0 (bslA 4 0 [.int .i64 0, .int .i64 0, .int .i64 0, .int .i64 0] [])⟩,
    ⟨some 112, none, .v fun s => fieldA 1 (s.get 3)⟩,
    ⟨some 113, none, .v fun s => loadA false 1 s.m (s.get 112)⟩,
    ⟨some 114, none, .w false (some 5) fun s => appendA 4 32 s.m (s.get 111) (s.get 113)⟩,
    ⟨some 115, none, .v fun s => loadA true 4 s.m (s.get 7)⟩,
    ⟨some 116, none, .v fun s => bslF 1 (bslA 4 1 [.int .i64 0, .int .i64 0, .int .i64 0, .int .i64 0] [(0, (s.get 115))])⟩,
    ⟨some 117, none, .w false (some 8) fun s => appendA 4 32 s.m (s.get 114) (s.get 116)⟩,
    ⟨some 118, none, .v fun s => bldA (plc [(0, 1), (1, 1)]) [.nils, .nils] [(0, (s.get 110)), (1, (s.get 117))]⟩,
    ⟨some 8, none, .w false (some 10) fun s => newPtr s.m [.nils, .nils]⟩,
    ⟨none, none, .w false (some 11) fun s => stA true 2 s.m (s.get 8) (s.get 118)⟩] K s := (den_regD hf r13_draw K s).trans (by kernel_rfl)
theorem r14_eq (K : List Item) (s : St) : den prog ann 23 (.code r14 :: K) s = mreg prog ann 23 none [] none [] [
    ⟨some 119, none, .v fun s => loadF true 2 (s.get 8)⟩,
    ⟨some 120, none, .c 0 (fun s => (.fn 19 [] [])) fun s => [(s.get 119)]⟩] K s := (den_reg hf _ K s).trans (by kernel_rfl)
theorem i3_eq (K : List Item) (s : St) : den prog ann 23 (.code i3 :: K) s = ifV prog ann 23 120 i3t i3e K s (s.get 120) := den_if hf (by kernel_rfl) K s
theorem i3t_eq (K : List Item) (s : St) : den prog ann 23 (.code i3t :: K) s = den prog ann 23 (.code r15 :: K) s := den_flat hf (l := [r15]) (by kernel_rfl) K s
theorem r15_eq (K : List Item) (s : St) : den prog ann 23 (.code r15 :: K) s = mreg prog ann 23 none [] none [] [
    ⟨some 121, none, .v fun s => loadF true 2 (s.get 8)⟩,
    ⟨none, none, .w false none fun s => stA true 2 s.m (s.get 3) (s.get 121)⟩] K s := (den_reg hf _ K s).trans (by kernel_rfl)
theorem i3e_eq (K : List Item) (s : St) : den prog ann 23 (.code i3e :: K) s = den prog ann 23 (K) s := den_flat hf (l := []) (by kernel_rfl) K s
theorem r8_eq (K : List Item) (s : St) : den prog ann 23 (.code r8 :: K) s = mreg prog ann 23 (some [1, 2, 3, 5]) [] none [] [
    ⟨some 40, none, .v fun s => some (s.get 5)⟩,
    ⟨some 41, none, .v fun s => binA prog .add 3 (s.get 40) (.int .i64 1)⟩,
    ⟨some 5, none, .v fun s => some (s.get 41)⟩] K s := (den_reg hf _ K s).trans (by kernel_rfl)
theorem r16_eq (K : List Item) (s : St) : den prog ann 23 (.code r16 :: K) s = mreg prog ann 23 (some [2, 3]) [] none [] [
    ⟨some 122, none, .v fun s => loadA true 2 s.m (s.get 3)⟩,
    ⟨none, none, .w false none fun s => stA true 2 s.m (s.get 2) (s.get 122)⟩] K s := (den_reg hf _ K s).trans (by kernel_rfl)
theorem ret_eq (K : List Item) (s : St) : den prog ann 23 (.code .ret :: K) s = finM true [fun s => loadA true 2 s.m (s.get 2)] s := (den_ret hf K s).trans (by kernel_rfl)
theorem nil_eq (s : St) : den prog ann 23 [] s = finM true [fun s => loadA true 2 s.m (s.get 2)] s := (den_nil hf s).trans (by kernel_rfl)
theorem inBlock_eq (id : Nat) (K : List Item) (s : St) : den prog ann 23 (.inBlock id :: K) s = den prog ann 23 K s := den_inBlock hf id K s
theorem exit_eq (id : Nat) (K : List Item) (s : St) : den prog ann 23 (.code (.exit id) :: K) s = exitV prog ann 23 (exitTo id K) s := den_exitV hf id K s
theorem call_eq (v0 : AV) (m : Mem) (h : closedL [v0] = true) : denC prog ann 23 [v0] m = (den prog ann 23 [.code b] ⟨[(0, v0)], 123, Mem.empty⟩).bind fun r => some (r.1, m) := (denC_pure hf (b := b) (by kernel_rfl) (by kernel_rfl) (by kernel_rfl) h m).trans (by kernel_rfl)
theorem pure_eq : (ann 23).pure = true := by kernel_rfl
attribute [simp] b_eq r0_eq r1_eq r2_eq k0_eq l0_eq r3_eq i0_eq i0t_eq i0e_eq k1_eq r5_eq r4_eq r6_eq k2_eq l2_eq r7_eq i1_eq i1t_eq i1e_eq k3_eq r9_eq r10_eq r11_eq i2_eq i2t_eq i2e_eq r12_eq r13_eq r14_eq i3_eq i3t_eq r15_eq i3e_eq r8_eq r16_eq ret_eq nil_eq inBlock_eq exit_eq pure_eq
end l09_Tale_made
end Go.Proofs.Ytdkmepjedjclkaa

/-
  A STORY MADE OF ARBITRARY NUMBERS (1): the deeds. Conditions: none.
-/
namespace Go.Proofs.Ytdkmepjedjclkaa
open Go.AM
open Go.Proofs.Try (prog)
set_option linter.all false
set_option maxRecDepth 100000

def u8s (l : List Int) : List AV := l.map (.int .u8)
@[simp] theorem u8s_len (l : List Int) : (u8s l).length = l.length := by simp [u8s]
@[simp] theorem u8s_nil : u8s [] = [] := rfl
@[simp] theorem u8s_cons (a : Int) (l : List Int) : u8s (a :: l) = .int .u8 a :: u8s l := rfl
@[simp] theorem u8s_oneL (l : List Int) : oneL (u8s l) = true := by induction l <;> simp_all
@[simp] theorem u8s_closedL (l : List Int) : closedL (u8s l) = true := by induction l <;> simp_all
def Byte (n : Int) : Prop := 0 ≤ n ∧ n ≤ 255
theorem wrap_byte {n : Int} (h : Byte n) : IntKind.wrap .i64 n = n := wrap_id (by have := h.1; omega) (by have := h.2; omega)

/-- The numbers that a story is made of. -/
structure IsTaleN (a : AV) (hh : Int) (ds : List Int) (vT : AV) (T : List (List Int)) : Prop where
  eq : a = .agg (.int .u8 hh :: (u8s ds ++ [vT]))
  hB : Byte hh
  d4 : ds.length = 4
  dB : ∀ i, Byte (nth ds i)
  vT : IsSl u8s vT T
  t4 : ∀ x ∈ T, x.length = 4
  tB : ∀ x ∈ T, ∀ i, Byte (nth x i)
  tl : (T.length : Int) ≤ 9223372036854775807

/-- The story so far, in memory. -/
structure SM (m : Mem) (D : List Int) (vN : AV) : Prop where
  r : m.h 0 = some (.cells [.nils, .nils])
  nx : 2 ≤ m.nx
  s : (D = [] ∧ m.h 1 = some (.cells [.nils, vN])) ∨ ∃ id, D ≠ [] ∧ m.h 1 = some (.cells [.sl id 1 0 D.length D.length, vN]) ∧ m.h id = some (.cells (ints D)) ∧ 2 ≤ id ∧ id < m.nx

theorem made_deeds {a vT : AV} {hh : Int} {ds : List Int} {T : List (List Int)} (t : IsTaleN a hh ds vT T) : ∀ (k h : Nat) (D : List Int) (m : Mem), (h : Int) + k = hh.tmod 4 + 1 → D.length = h → SM m D .nils → (∀ g, 0 ≤ nth D g ∧ nth D g ≤ 6) →
    ∃ D' m', ((D'.length : Nat) : Int) = hh.tmod 4 + 1 ∧ SM m' D' .nils ∧ (∀ g, 0 ≤ nth D' g ∧ nth D' g ≤ 6) ∧
      l09_Tale_made.L0 (.fptr (.int .u8 hh :: (u8s ds ++ [vT]))) (.ptr 0 0 2) (.ptr 1 0 2) (.int .i64 h) m [.code l09_Tale_made.r6, .code l09_Tale_made.k2, .code l09_Tale_made.r16, .code .ret] = l09_Tale_made.L2 (.fptr (.int .u8 hh :: (u8s ds ++ [vT]))) (.ptr 0 0 2) (.ptr 1 0 2) (.int .i64 0) m' [.code l09_Tale_made.r16, .code .ret] := by
  intro k
  induction k with
  | zero =>
    intro h D m h1 h2 s hD
    refine ⟨D, m, by omega, s, hD, ?_⟩
    have hw0 := wrap_byte t.hB
    have h3 : ¬ (h : Int) ≤ hh.tmod 4 := by omega
    rw [l09_Tale_made.L0_eq]
    simp [hw0, h3]
    done
  | succ k ih =>
    intro h D m h1 h2 s hD
    have hb := t.hB
    have hw0 := wrap_byte t.hB
    have h3 : (h : Int) ≤ hh.tmod 4 := by omega
    have h5 : hh.tmod 4 < 4 := by rw [Int.tmod_eq_emod_of_nonneg hb.1]; omega
    have h4 : h < 4 := by omega
    have h4' : (h : Int) < 4 := by omega
    have hd4 := t.d4
    have hld : (u8s ds ++ [vT])[h]? = some (.int .u8 (nth ds h)) := by
      rw [List.getElem?_append_left (by simp; omega)]
      simp [u8s, nth_eq (show h < ds.length by omega)]
    have hw1 := wrap_byte (t.dB h)
    have hB := t.dB h
    have hm7 : 0 ≤ (nth ds h).tmod 7 ∧ (nth ds h).tmod 7 ≤ 6 := by rw [Int.tmod_eq_emod_of_nonneg hB.1]; omega
    have hw2 : IntKind.wrap .i64 ((nth ds h).tmod 7) = (nth ds h).tmod 7 := wrap_id (by omega) (by omega)
    have hwh : IntKind.wrap .i64 (hh.tmod 4) = hh.tmod 4 := wrap_id (by have := Int.tmod_nonneg 4 hb.1; omega) (by omega)
    have hwi : IntKind.wrap .i64 ((h : Int) + 1) = (h : Int) + 1 := wrap_id (by omega) (by omega)
    have hD' : ∀ g, 0 ≤ nth (D ++ [(nth ds h).tmod 7]) g ∧ nth (D ++ [(nth ds h).tmod 7]) g ≤ 6 := fun g => by
      simp only [nth, List.getD]
      rcases Nat.lt_or_ge g D.length with h1 | h1
      · rw [List.getElem?_append_left h1]; exact hD g
      · rw [List.getElem?_append_right h1]
        cases g - D.length with
        | zero => show 0 ≤ (nth ds h).tmod 7 ∧ (nth ds h).tmod 7 ≤ 6; exact hm7
        | succ n => simp
    rw [l09_Tale_made.L0_eq]
    rcases s.s with ⟨rfl, s1⟩ | ⟨id, hne, s1, s2, s3, s4⟩
    · simp at h2
      subst h2
      obtain ⟨D', m', i1, i2, i3, i4⟩ := ih 1 [(nth ds 0).tmod 7] ⟨upd (upd m.h (m.nx + 9) (some (.cells (ints [(nth ds 0).tmod 7])))) 1 (some (.cells [.sl (m.nx + 9) 1 0 1 1, .nils])), m.nx + 12⟩ (by omega) rfl ⟨by have : (0 == m.nx + 9) = false := (by simp); simp [this, s.r], by have := s.nx; show 2 ≤ m.nx + 12; omega, .inr ⟨m.nx + 9, by simp, by simp, by have := s.nx; have : (m.nx + 9 == 1) = false := (by simp); simp [this], by have := s.nx; omega, by show m.nx + 9 < m.nx + 12; omega⟩⟩ (by simpa using hD')
      refine ⟨D', m', i1, i2, i3, ?_⟩
      rw [← i4]
      have hds : (u8s ds).head?.getD vT = .int .u8 (nth ds 0) := by
        match ds, hd4 with
        | a :: l, _ => rfl
      have e1 : (1 == m.nx + 9) = false := by simp
      simp at hld hw1 hw2 hwi h3
      simp [hw0, h3, hwh, hld, hw1, hw2, s1, hds, e1]
      done
    · have e0 : (id == 0) = false := by simp; omega
      have e1 : (id == 1) = false := by simp; omega
      have e2 : (0 == id) = false := by simp; omega
      have e3 : (1 == id) = false := by simp; omega
      have hDl : D.length ≤ 4 := by omega
      have hr : ints D ++ [.int .i64 ((nth ds h).tmod 7)] = ints (D ++ [(nth ds h).tmod 7]) := by simp [ints]
      obtain ⟨D', m', i1, i2, i3, i4⟩ := ih (h + 1) (D ++ [(nth ds h).tmod 7]) ⟨upd (upd m.h id (some (.cells (ints (D ++ [(nth ds h).tmod 7]))))) 1 (some (.cells [.sl id 1 0 (D.length + 1) (D.length + 1), .nils])), m.nx + 12⟩ (by omega) (by simp [h2]) ⟨by simp [e2, s.r], by have := s.nx; show 2 ≤ m.nx + 12; omega, .inr ⟨id, by simp, by simp, by simp [e1], s3, by show id < m.nx + 12; omega⟩⟩ hD'
      refine ⟨D', m', i1, i2, i3, ?_⟩
      simp only [Int.natCast_add, Int.cast_ofNat_Int] at i4
      rw [← i4]
      simp [hw0, h3, hwh, hld, hw1, hw2, hwi, s1, s2, h4, h4', hr, e0, e1, e2, e3, show D.length ≤ 4611686018427387903 by omega, show (D.length + 1) * 8 ≤ 70368744177664 by omega]
      done
end Go.Proofs.Ytdkmepjedjclkaa
