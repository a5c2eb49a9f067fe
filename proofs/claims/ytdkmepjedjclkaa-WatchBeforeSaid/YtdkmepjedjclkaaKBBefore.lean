/-
  BODIES OF FUNCTIONS OF THE PROGRAM AS SMALL OPERATIONS (written by gen.py; checked by the kernel against the program). Conditions: none.
-/
import Derived.Test.YtdkmepjedjclkaaKAmH
set_option linter.all false
namespace Go.Proofs.Ytdkmepjedjclkaa
open Go.AM
open Go.Proofs.Try (prog)
set_option maxRecDepth 100000
set_option linter.all false

namespace watch_Before
/-- pommel/watch.Before -/
noncomputable def b : Code := (Try.f32.body).getD .skip
theorem hf : prog.funcs[32]? = some Try.f32 := by kernel_rfl
noncomputable def r0 : Code := findReg b 0
noncomputable def r1 : Code := findReg b 1
noncomputable def r2 : Code := findReg b 2
noncomputable def i0 : Code := findCond b 0
noncomputable def i0t : Code := thenOf i0
noncomputable def i0e : Code := elseOf i0
noncomputable def r3 : Code := findReg b 3
noncomputable def r4 : Code := findReg b 4
noncomputable def k0 : Code := findBlk b 0
noncomputable def l0 : Code := loopOf k0
noncomputable def L0 (x4 x5 x8 x21 x22 x23 : AV) (m : Mem) (K : List Item) : Option Res := den prog ann 32 (.code l0 :: .inLoop l0 :: .inBlock 0 :: K) ⟨[(4, x4), (5, x5), (8, x8), (21, x21), (22, x22), (23, x23)], 80, m⟩
noncomputable def r5 : Code := findReg b 5
noncomputable def i1 : Code := findCond b 1
noncomputable def i1t : Code := thenOf i1
noncomputable def i1e : Code := elseOf i1
noncomputable def k1 : Code := findBlk b 1
noncomputable def r6 : Code := findReg b 6
noncomputable def r7 : Code := findReg b 7
noncomputable def i2 : Code := findCond b 2
noncomputable def i2t : Code := thenOf i2
noncomputable def i2e : Code := elseOf i2
noncomputable def r8 : Code := findReg b 8
noncomputable def r9 : Code := findReg b 9
noncomputable def r10 : Code := findReg b 10
theorem b_eq (K : List Item) (s : St) : den prog ann 32 (.code b :: K) s = den prog ann 32 (.code r0 :: .code r1 :: .code r2 :: .code i0 :: .code r4 :: .code k0 :: .code r10 :: .code .ret :: K) s := den_flat hf (l := [r0, r1, r2, i0, r4, k0, r10, .ret]) (by kernel_rfl) K s
theorem r0_eq (K : List Item) (s : St) : den prog ann 32 (.code r0 :: K) s = mreg prog ann 32 none [] none [] [
    ⟨some 3, none, .v fun s => frozenPtr (s.get 0)⟩,
    ⟨some 4, none, .v fun s => frozenPtr (s.get 1)⟩,
    ⟨some 5, none, .v fun s => frozenPtr (s.get 2)⟩,
    ⟨some 6, none, .v fun s => some (.bool false)⟩,
    ⟨some 7, none, .v fun s => some (.int .i64 0)⟩] K s := (den_reg hf _ K s).trans (by kernel_rfl)
theorem r1_eq (K : List Item) (s : St) : den prog ann 32 (.code r1 :: K) s = mreg prog ann 32 none [] none [] [
    ⟨some 13, none, .v fun s => loadF true 2 (s.get 3)⟩,
    ⟨some 14, none, .c 0 (fun s => (.fn 61 [] [])) fun s => [(s.get 13)]⟩,
    ⟨some 12, none, .v fun s => some (s.get 14)⟩,
    ⟨some 15, none, .v fun s => extA (s.get 12) 0⟩,
    ⟨some 16, none, .v fun s => extA (s.get 12) 1⟩,
    ⟨some 8, none, .v fun s => some (s.get 15)⟩,
    ⟨some 9, none, .v fun s => some (s.get 16)⟩] K s := (den_reg hf _ K s).trans (by kernel_rfl)
theorem r2_eq (K : List Item) (s : St) : den prog ann 32 (.code r2 :: K) s = mreg prog ann 32 none [] none [] [
    ⟨some 17, none, .v fun s => some (s.get 9)⟩,
    ⟨some 18, none, .v fun s => unA .not (s.get 17)⟩] K s := (den_reg hf _ K s).trans (by kernel_rfl)
theorem i0_eq (K : List Item) (s : St) : den prog ann 32 (.code i0 :: K) s = ifV prog ann 32 18 i0t i0e K s (s.get 18) := den_if hf (by kernel_rfl) K s
theorem i0t_eq (K : List Item) (s : St) : den prog ann 32 (.code i0t :: K) s = den prog ann 32 (.code r3 :: .code .ret :: K) s := den_flat hf (l := [r3, .ret]) (by kernel_rfl) K s
theorem r3_eq (K : List Item) (s : St) : den prog ann 32 (.code r3 :: K) s = mreg prog ann 32 none [] none [] [
    ⟨some 6, none, .v fun s => some (.bool false)⟩,
    ⟨some 7, none, .v fun s => some (.int .i64 1)⟩] K s := (den_reg hf _ K s).trans (by kernel_rfl)
theorem i0e_eq (K : List Item) (s : St) : den prog ann 32 (.code i0e :: K) s = den prog ann 32 (K) s := den_flat hf (l := []) (by kernel_rfl) K s
theorem r4_eq (K : List Item) (s : St) : den prog ann 32 (.code r4 :: K) s = mreg prog ann 32 none [] none [] [
    ⟨some 19, none, .v fun s => loadF true 2 (s.get 4)⟩,
    ⟨some 20, none, .v fun s => loadF true 2 (s.get 5)⟩,
    ⟨some 21, none, .v fun s => bslF 2 (bslA 2 2 [.int .i64 0, .int .i64 0] [(0, (s.get 19)), (1, (s.get 20))])⟩,
    ⟨some 22, none, .v fun s => lenSl (s.get 21)⟩,
    ⟨some 23, none, .v fun s => some (.int .i64 0)⟩] K s := (den_reg hf _ K s).trans (by kernel_rfl)
theorem k0_eq (K : List Item) (t : List (Nat × AV)) (m : Mem) : den prog ann 32 (.code k0 :: K) ⟨t, 80, m⟩ = L0 (get t 4) (get t 5) (get t 8) (get t 21) (get t 22) (get t 23) m K := den_loop_enter hf (b := l0) (id := 5) (l := [4, 5, 8, 21, 22, 23]) (by kernel_rfl) (by kernel_rfl) (by kernel_rfl) K _
theorem l0_eq (K : List Item) (t : List (Nat × AV)) (m : Mem) : den prog ann 32 (.inLoop l0 :: .inBlock 0 :: K) ⟨t, 80, m⟩ = L0 (get t 4) (get t 5) (get t 8) (get t 21) (get t 22) (get t 23) m K := den_loop_again hf (id := 5) (l := [4, 5, 8, 21, 22, 23]) (by kernel_rfl) (by kernel_rfl) (.inBlock 0 :: K) _
theorem L0_eq (x4 x5 x8 x21 x22 x23 : AV) (m : Mem) (K : List Item) : L0 x4 x5 x8 x21 x22 x23 m K = den prog ann 32 (.code r5 :: .code i1 :: .code k1 :: .code r9 :: .inLoop l0 :: .inBlock 0 :: K) ⟨[(4, x4), (5, x5), (8, x8), (21, x21), (22, x22), (23, x23)], 80, m⟩ := den_flat hf (l := [r5, i1, k1, r9]) (by kernel_rfl) _ _
theorem r5_eq (K : List Item) (s : St) : den prog ann 32 (.code r5 :: K) s = mreg prog ann 32 (some [4, 5, 8, 21, 22, 23]) [] none [] [
    ⟨some 24, none, .v fun s => binA prog .lss 3 (s.get 23) (s.get 22)⟩] K s := (den_reg hf _ K s).trans (by kernel_rfl)
theorem i1_eq (K : List Item) (s : St) : den prog ann 32 (.code i1 :: K) s = ifV prog ann 32 24 i1t i1e K s (s.get 24) := den_if hf (by kernel_rfl) K s
theorem i1t_eq (K : List Item) (s : St) : den prog ann 32 (.code i1t :: K) s = den prog ann 32 (K) s := den_flat hf (l := []) (by kernel_rfl) K s
theorem i1e_eq (K : List Item) (s : St) : den prog ann 32 (.code i1e :: K) s = den prog ann 32 (.code (.exit 0) :: K) s := den_flat hf (l := [(.exit 0)]) (by kernel_rfl) K s
theorem k1_eq (K : List Item) (s : St) : den prog ann 32 (.code k1 :: K) s = den prog ann 32 (.code r6 :: .code r7 :: .code i2 :: .inBlock 1 :: K) s := den_blk hf (b := blkOf k1) (l := [r6, r7, i2]) (by kernel_rfl) (by kernel_rfl) K s
theorem r6_eq (K : List Item) (s : St) : den prog ann 32 (.code r6 :: K) s = mreg prog ann 32 none [] none [11] [
    ⟨some 25, none, .v fun s => idxSl 2 (s.get 21) (s.get 23)⟩,
    ⟨some 26, none, .v fun s => loadA true 2 s.m (s.get 25)⟩,
    ⟨some 11, none, .w false none fun s => newPtr s.m [.int .i64 0, .int .i64 0]⟩,
    ⟨none, none, .w false none fun s => stA true 2 s.m (s.get 11) (s.get 26)⟩] K s := (den_reg hf _ K s).trans (by kernel_rfl)
theorem r7_draw : drawOk (fun g => (ann g).pure) (modeOf (ann 32) (idOf r7)) (frzOf (ann 32) (idOf r7)) (opsOf r7) = true := drawOk_of (an := [0, 1, 3, 7, 15, 31, 15, 79, 207, 463, 1023, 2047, 4095, 8191, 16383, 32767, 65535, 131071, 262143, 524287, 262143, 262143, 2359295, 1310719, 9699327, 32767999, 66322431, 134217727, 268435455]) (by kernel_rfl) (by kernel_rfl)
theorem r7_eq (K : List Item) (s : St) : den prog ann 32 (.code r7 :: K) s = mreg prog ann 32 none [] (some 29) [] [
    ⟨some 27, none, .v fun s => fieldA 0 (s.get 11)⟩,
    ⟨some 28, none, .v fun s => loadF false 1 (s.get 27)⟩,
    ⟨some 29, none, .v fun s => binA prog .lss 3 (s.get 28) (.int .i64 0)⟩,
    ⟨some 30, none, .v fun s => some (s.get 29)⟩,
    ⟨some 31, some (30, false), .v fun s => fieldA 0 (s.get 11)⟩,
    ⟨some 32, some (30, false), .v fun s => loadF false 1 (s.get 31)⟩,
    ⟨some 33, some (30, false), .v fun s => some (s.get 8)⟩,
    ⟨some 34, some (30, false), .v fun s => nilA (s.get 33)⟩,
    ⟨some 35, some (30, false), .v fun s => fieldA 0 (s.get 34)⟩,
    ⟨some 36, some (30, false), .v fun s => loadF false 1 (s.get 35)⟩,
    ⟨some 37, some (30, false), .v fun s => binA prog .geq 3 (s.get 32) (s.get 36)⟩,
    ⟨some 38, none, .v fun s => pickA (s.get 30) (.bool true) (s.get 37)⟩,
    ⟨some 39, none, .v fun s => some (s.get 38)⟩,
    ⟨some 40, some (39, false), .v fun s => fieldA 1 (s.get 11)⟩,
    ⟨some 41, some (39, false), .v fun s => loadF false 1 (s.get 40)⟩,
    ⟨some 42, some (39, false), .v fun s => binA prog .lss 3 (s.get 41) (.int .i64 1)⟩,
    ⟨some 43, none, .v fun s => pickA (s.get 39) (.bool true) (s.get 42)⟩,
    ⟨some 44, none, .v fun s => some (s.get 43)⟩,
    ⟨some 45, some (44, false), .v fun s => fieldA 1 (s.get 11)⟩,
    ⟨some 46, some (44, false), .v fun s => loadF false 1 (s.get 45)⟩,
    ⟨some 47, some (44, false), .v fun s => some (s.get 8)⟩,
    ⟨some 48, some (44, false), .v fun s => fieldA 0 (s.get 11)⟩,
    ⟨some 49, some (44, false), .v fun s => loadF false 1 (s.get 48)⟩,
    ⟨some 50, some (44, false), .v fun s => nilA (s.get 47)⟩,
    ⟨some 51, some (44, false), .v fun s => fieldA 1 (s.get 50)⟩,
    ⟨some 52, some (44, false), .v fun s => idxArr 4 1 (s.get 51) (s.get 49)⟩,
    ⟨some 53, some (44, false), .v fun s => loadF false 1 (s.get 52)⟩,
    ⟨some 54, some (44, false), .v fun s => binA prog .gtr 3 (s.get 46) (s.get 53)⟩,
    ⟨some 55, none, .v fun s => pickA (s.get 44) (.bool true) (s.get 54)⟩] K s := (den_regD hf r7_draw K s).trans (by kernel_rfl)
theorem i2_eq (K : List Item) (s : St) : den prog ann 32 (.code i2 :: K) s = ifV prog ann 32 55 i2t i2e K s (s.get 55) := den_if hf (by kernel_rfl) K s
theorem i2t_eq (K : List Item) (s : St) : den prog ann 32 (.code i2t :: K) s = den prog ann 32 (.code r8 :: .code .ret :: K) s := den_flat hf (l := [r8, .ret]) (by kernel_rfl) K s
theorem r8_eq (K : List Item) (s : St) : den prog ann 32 (.code r8 :: K) s = mreg prog ann 32 none [] none [] [
    ⟨some 6, none, .v fun s => some (.bool false)⟩,
    ⟨some 7, none, .v fun s => some (.int .i64 2)⟩] K s := (den_reg hf _ K s).trans (by kernel_rfl)
theorem i2e_eq (K : List Item) (s : St) : den prog ann 32 (.code i2e :: K) s = den prog ann 32 (K) s := den_flat hf (l := []) (by kernel_rfl) K s
theorem r9_eq (K : List Item) (s : St) : den prog ann 32 (.code r9 :: K) s = mreg prog ann 32 (some [4, 5, 8, 21, 22, 23]) [] none [] [
    ⟨some 56, none, .v fun s => binA prog .add 3 (s.get 23) (.int .i64 1)⟩,
    ⟨some 23, none, .v fun s => some (s.get 56)⟩] K s := (den_reg hf _ K s).trans (by kernel_rfl)
theorem r10_draw : drawOk (fun g => (ann g).pure) (modeOf (ann 32) (idOf r10)) (frzOf (ann 32) (idOf r10)) (opsOf r10) = true := drawOk_of (an := [0, 0, 3, 7, 15, 15, 47, 31, 159, 511, 1023, 15, 2063, 6159, 15, 16399, 16383, 131071, 262143, 15, 524303, 2097151, 4194303, 8388607, 16777215]) (by kernel_rfl) (by kernel_rfl)
theorem r10_eq (K : List Item) (s : St) : den prog ann 32 (.code r10 :: K) s = mreg prog ann 32 (some [4, 5, 8]) [] (some 25) [] [
    ⟨some 57, none, .v fun s => loadF true 2 (s.get 4)⟩,
    ⟨some 58, none, .v fun s => loadF true 2 (s.get 5)⟩,
    ⟨some 59, none, .v fun s => binA prog .neq 50 (s.get 57) (s.get 58)⟩,
    ⟨some 60, none, .v fun s => some (s.get 59)⟩,
    ⟨some 61, some (60, true), .v fun s => some (s.get 8)⟩,
    ⟨some 62, some (60, true), .v fun s => fieldA 0 (s.get 5)⟩,
    ⟨some 63, some (60, true), .v fun s => loadF false 1 (s.get 62)⟩,
    ⟨some 64, some (60, true), .v fun s => nilA (s.get 61)⟩,
    ⟨some 65, some (60, true), .v fun s => fieldA 5 (s.get 64)⟩,
    ⟨some 66, some (60, true), .v fun s => idxArr 4 1 (s.get 65) (s.get 63)⟩,
    ⟨some 67, some (60, true), .v fun s => loadF false 1 (s.get 66)⟩,
    ⟨some 68, some (60, true), .v fun s => fieldA 1 (s.get 5)⟩,
    ⟨some 69, some (60, true), .v fun s => loadF false 1 (s.get 68)⟩,
    ⟨some 70, some (60, true), .v fun s => binA prog .sub 3 (s.get 69) (.int .i64 1)⟩,
    ⟨some 71, some (60, true), .v fun s => fieldA 0 (s.get 4)⟩,
    ⟨some 72, some (60, true), .v fun s => loadF false 1 (s.get 71)⟩,
    ⟨some 73, some (60, true), .v fun s => idxSl 4 (s.get 67) (s.get 70)⟩,
    ⟨some 74, some (60, true), .v fun s => idxArr 4 1 (s.get 73) (s.get 72)⟩,
    ⟨some 75, some (60, true), .v fun s => loadF false 1 (s.get 74)⟩,
    ⟨some 76, some (60, true), .v fun s => fieldA 1 (s.get 4)⟩,
    ⟨some 77, some (60, true), .v fun s => loadF false 1 (s.get 76)⟩,
    ⟨some 78, some (60, true), .v fun s => binA prog .geq 3 (s.get 75) (s.get 77)⟩,
    ⟨some 79, none, .v fun s => pickA (s.get 60) (s.get 78) (.bool false)⟩,
    ⟨some 6, none, .v fun s => some (s.get 79)⟩,
    ⟨some 7, none, .v fun s => some (.int .i64 0)⟩] K s := (den_regD hf r10_draw K s).trans (by kernel_rfl)
theorem ret_eq (K : List Item) (s : St) : den prog ann 32 (.code .ret :: K) s = finM true [fun s => some (s.get 6), fun s => some (s.get 7)] s := (den_ret hf K s).trans (by kernel_rfl)
theorem nil_eq (s : St) : den prog ann 32 [] s = finM true [fun s => some (s.get 6), fun s => some (s.get 7)] s := (den_nil hf s).trans (by kernel_rfl)
theorem inBlock_eq (id : Nat) (K : List Item) (s : St) : den prog ann 32 (.inBlock id :: K) s = den prog ann 32 K s := den_inBlock hf id K s
theorem exit_eq (id : Nat) (K : List Item) (s : St) : den prog ann 32 (.code (.exit id) :: K) s = exitV prog ann 32 (exitTo id K) s := den_exitV hf id K s
theorem call_eq (v0 v1 v2 : AV) (m : Mem) (h : closedL [v0, v1, v2] = true) : denC prog ann 32 [v0, v1, v2] m = (den prog ann 32 [.code b] ⟨[(0, v0), (1, v1), (2, v2)], 80, Mem.empty⟩).bind fun r => some (r.1, m) := (denC_pure hf (b := b) (by kernel_rfl) (by kernel_rfl) (by kernel_rfl) h m).trans (by kernel_rfl)
theorem pure_eq : (ann 32).pure = true := by kernel_rfl
attribute [simp] b_eq r0_eq r1_eq r2_eq i0_eq i0t_eq r3_eq i0e_eq r4_eq k0_eq l0_eq r5_eq i1_eq i1t_eq i1e_eq k1_eq r6_eq r7_eq i2_eq i2t_eq r8_eq i2e_eq r9_eq r10_eq ret_eq nil_eq inBlock_eq exit_eq pure_eq
end watch_Before

namespace l09_deed
/-- pommel/pommellaw09.deed -/
noncomputable def b : Code := (Try.f33.body).getD .skip
theorem hf : prog.funcs[33]? = some Try.f33 := by kernel_rfl
noncomputable def r0 : Code := findReg b 0
noncomputable def r1 : Code := findReg b 1
theorem b_eq (K : List Item) (s : St) : den prog ann 33 (.code b :: K) s = den prog ann 33 (.code r0 :: .code r1 :: .code .ret :: K) s := den_flat hf (l := [r0, r1, .ret]) (by kernel_rfl) K s
theorem r0_eq (K : List Item) (s : St) : den prog ann 33 (.code r0 :: K) s = mreg prog ann 33 none [] none [] [
    ⟨some 2, none, .v fun s => frozenPtr (s.get 0)⟩,
    ⟨some 3, none, .v fun s => frozenPtr (s.get 1)⟩,
    ⟨some 4, none, .v fun s => some (.bool false)⟩] K s := (den_reg hf _ K s).trans (by kernel_rfl)
theorem r1_draw : drawOk (fun g => (ann g).pure) (modeOf (ann 33) (idOf r1)) (frzOf (ann 33) (idOf r1)) (opsOf r1) = true := drawOk_of (an := [0, 1, 3, 7, 15, 31, 15, 79, 207, 511, 1023, 2047, 4095, 8191, 16383, 32767, 65535, 131071, 262143, 131071, 655359, 131071, 2228223, 7995391, 16383999, 33554431, 67108863, 134217727]) (by kernel_rfl) (by kernel_rfl)
theorem r1_eq (K : List Item) (s : St) : den prog ann 33 (.code r1 :: K) s = mreg prog ann 33 none [] (some 28) [] [
    ⟨some 5, none, .v fun s => fieldA 0 (s.get 3)⟩,
    ⟨some 6, none, .v fun s => loadF false 1 (s.get 5)⟩,
    ⟨some 7, none, .v fun s => binA prog .geq 3 (s.get 6) (.int .i64 0)⟩,
    ⟨some 8, none, .v fun s => some (s.get 7)⟩,
    ⟨some 9, some (8, true), .v fun s => fieldA 0 (s.get 3)⟩,
    ⟨some 10, some (8, true), .v fun s => loadF false 1 (s.get 9)⟩,
    ⟨some 11, some (8, true), .v fun s => fieldA 0 (s.get 2)⟩,
    ⟨some 12, some (8, true), .v fun s => loadF false 1 (s.get 11)⟩,
    ⟨some 13, some (8, true), .v fun s => lenSl (s.get 12)⟩,
    ⟨some 14, some (8, true), .v fun s => binA prog .lss 3 (s.get 10) (s.get 13)⟩,
    ⟨some 15, none, .v fun s => pickA (s.get 8) (s.get 14) (.bool false)⟩,
    ⟨some 16, none, .v fun s => some (s.get 15)⟩,
    ⟨some 17, some (16, true), .v fun s => fieldA 1 (s.get 3)⟩,
    ⟨some 18, some (16, true), .v fun s => loadF false 1 (s.get 17)⟩,
    ⟨some 19, some (16, true), .v fun s => binA prog .geq 3 (s.get 18) (.int .i64 1)⟩,
    ⟨some 20, none, .v fun s => pickA (s.get 16) (s.get 19) (.bool false)⟩,
    ⟨some 21, none, .v fun s => some (s.get 20)⟩,
    ⟨some 22, some (21, true), .v fun s => fieldA 1 (s.get 3)⟩,
    ⟨some 23, some (21, true), .v fun s => loadF false 1 (s.get 22)⟩,
    ⟨some 24, some (21, true), .v fun s => fieldA 0 (s.get 2)⟩,
    ⟨some 25, some (21, true), .v fun s => loadF false 1 (s.get 24)⟩,
    ⟨some 26, some (21, true), .v fun s => fieldA 0 (s.get 3)⟩,
    ⟨some 27, some (21, true), .v fun s => loadF false 1 (s.get 26)⟩,
    ⟨some 28, some (21, true), .v fun s => idxSl 1 (s.get 25) (s.get 27)⟩,
    ⟨some 29, some (21, true), .v fun s => loadF false 1 (s.get 28)⟩,
    ⟨some 30, some (21, true), .v fun s => binA prog .leq 3 (s.get 23) (s.get 29)⟩,
    ⟨some 31, none, .v fun s => pickA (s.get 21) (s.get 30) (.bool false)⟩,
    ⟨some 4, none, .v fun s => some (s.get 31)⟩] K s := (den_regD hf r1_draw K s).trans (by kernel_rfl)
theorem ret_eq (K : List Item) (s : St) : den prog ann 33 (.code .ret :: K) s = finM true [fun s => some (s.get 4)] s := (den_ret hf K s).trans (by kernel_rfl)
theorem nil_eq (s : St) : den prog ann 33 [] s = finM true [fun s => some (s.get 4)] s := (den_nil hf s).trans (by kernel_rfl)
theorem inBlock_eq (id : Nat) (K : List Item) (s : St) : den prog ann 33 (.inBlock id :: K) s = den prog ann 33 K s := den_inBlock hf id K s
theorem exit_eq (id : Nat) (K : List Item) (s : St) : den prog ann 33 (.code (.exit id) :: K) s = exitV prog ann 33 (exitTo id K) s := den_exitV hf id K s
theorem call_eq (v0 v1 : AV) (m : Mem) (h : closedL [v0, v1] = true) : denC prog ann 33 [v0, v1] m = (den prog ann 33 [.code b] ⟨[(0, v0), (1, v1)], 32, Mem.empty⟩).bind fun r => some (r.1, m) := (denC_pure hf (b := b) (by kernel_rfl) (by kernel_rfl) (by kernel_rfl) h m).trans (by kernel_rfl)
theorem pure_eq : (ann 33).pure = true := by kernel_rfl
attribute [simp] b_eq r0_eq r1_eq ret_eq nil_eq inBlock_eq exit_eq pure_eq
end l09_deed

namespace r09_Clocks
/-- pommel/pommelref09.Clocks -/
noncomputable def b : Code := (Try.f34.body).getD .skip
theorem hf : prog.funcs[34]? = some Try.f34 := by kernel_rfl
noncomputable def r0 : Code := findReg b 0
noncomputable def r1 : Code := findReg b 1
noncomputable def r2 : Code := findReg b 2
noncomputable def k0 : Code := findBlk b 0
noncomputable def l0 : Code := loopOf k0
noncomputable def L0 (x1 x3 x4 : AV) (m : Mem) (K : List Item) : Option Res := den prog ann 34 (.code l0 :: .inLoop l0 :: .inBlock 0 :: K) ⟨[(1, x1), (3, x3), (4, x4)], 138, m⟩
noncomputable def r3 : Code := findReg b 3
noncomputable def i0 : Code := findCond b 0
noncomputable def i0t : Code := thenOf i0
noncomputable def i0e : Code := elseOf i0
noncomputable def k1 : Code := findBlk b 1
noncomputable def r5 : Code := findReg b 5
noncomputable def r6 : Code := findReg b 6
noncomputable def k2 : Code := findBlk b 2
noncomputable def l2 : Code := loopOf k2
noncomputable def L2 (x1 x3 x4 x5 x6 : AV) (m : Mem) (K : List Item) : Option Res := den prog ann 34 (.code l2 :: .inLoop l2 :: .inBlock 2 :: K) ⟨[(1, x1), (3, x3), (4, x4), (5, x5), (6, x6)], 138, m⟩
noncomputable def r7 : Code := findReg b 7
noncomputable def i1 : Code := findCond b 1
noncomputable def i1t : Code := thenOf i1
noncomputable def i1e : Code := elseOf i1
noncomputable def k3 : Code := findBlk b 3
noncomputable def r9 : Code := findReg b 9
noncomputable def r10 : Code := findReg b 10
noncomputable def r11 : Code := findReg b 11
noncomputable def r8 : Code := findReg b 8
noncomputable def r12 : Code := findReg b 12
noncomputable def r4 : Code := findReg b 4
noncomputable def r13 : Code := findReg b 13
noncomputable def k4 : Code := findBlk b 4
noncomputable def l4 : Code := loopOf k4
noncomputable def L4 (x1 x3 x8 : AV) (m : Mem) (K : List Item) : Option Res := den prog ann 34 (.code l4 :: .inLoop l4 :: .inBlock 4 :: K) ⟨[(1, x1), (3, x3), (8, x8)], 138, m⟩
noncomputable def r14 : Code := findReg b 14
noncomputable def i2 : Code := findCond b 2
noncomputable def i2t : Code := thenOf i2
noncomputable def i2e : Code := elseOf i2
noncomputable def k5 : Code := findBlk b 5
noncomputable def r16 : Code := findReg b 16
noncomputable def k6 : Code := findBlk b 6
noncomputable def l6 : Code := loopOf k6
noncomputable def L6 (x1 x3 x8 x9 : AV) (m : Mem) (K : List Item) : Option Res := den prog ann 34 (.code l6 :: .inLoop l6 :: .inBlock 6 :: K) ⟨[(1, x1), (3, x3), (8, x8), (9, x9)], 138, m⟩
noncomputable def r17 : Code := findReg b 17
noncomputable def i3 : Code := findCond b 3
noncomputable def i3t : Code := thenOf i3
noncomputable def i3e : Code := elseOf i3
noncomputable def k7 : Code := findBlk b 7
noncomputable def r19 : Code := findReg b 19
noncomputable def k8 : Code := findBlk b 8
noncomputable def l8 : Code := loopOf k8
noncomputable def L8 (x1 x3 x8 x9 x10 : AV) (m : Mem) (K : List Item) : Option Res := den prog ann 34 (.code l8 :: .inLoop l8 :: .inBlock 8 :: K) ⟨[(1, x1), (3, x3), (8, x8), (9, x9), (10, x10)], 138, m⟩
noncomputable def r20 : Code := findReg b 20
noncomputable def i4 : Code := findCond b 4
noncomputable def i4t : Code := thenOf i4
noncomputable def i4e : Code := elseOf i4
noncomputable def k9 : Code := findBlk b 9
noncomputable def r22 : Code := findReg b 22
noncomputable def i5 : Code := findCond b 5
noncomputable def i5t : Code := thenOf i5
noncomputable def i5e : Code := elseOf i5
noncomputable def r23 : Code := findReg b 23
noncomputable def r24 : Code := findReg b 24
noncomputable def k10 : Code := findBlk b 10
noncomputable def l10 : Code := loopOf k10
noncomputable def L10 (x1 x3 x8 x9 x10 x11 : AV) (m : Mem) (K : List Item) : Option Res := den prog ann 34 (.code l10 :: .inLoop l10 :: .inBlock 10 :: K) ⟨[(1, x1), (3, x3), (8, x8), (9, x9), (10, x10), (11, x11)], 138, m⟩
noncomputable def r25 : Code := findReg b 25
noncomputable def i6 : Code := findCond b 6
noncomputable def i6t : Code := thenOf i6
noncomputable def i6e : Code := elseOf i6
noncomputable def k11 : Code := findBlk b 11
noncomputable def r27 : Code := findReg b 27
noncomputable def r28 : Code := findReg b 28
noncomputable def i7 : Code := findCond b 7
noncomputable def i7t : Code := thenOf i7
noncomputable def i7e : Code := elseOf i7
noncomputable def r29 : Code := findReg b 29
noncomputable def r26 : Code := findReg b 26
noncomputable def r21 : Code := findReg b 21
noncomputable def r18 : Code := findReg b 18
noncomputable def r15 : Code := findReg b 15
noncomputable def r30 : Code := findReg b 30
theorem b_eq (K : List Item) (s : St) : den prog ann 34 (.code b :: K) s = den prog ann 34 (.code r0 :: .code r1 :: .code r2 :: .code k0 :: .code r13 :: .code k4 :: .code r30 :: .code .ret :: K) s := den_flat hf (l := [r0, r1, r2, k0, r13, k4, r30, .ret]) (by kernel_rfl) K s
theorem r0_eq (K : List Item) (s : St) : den prog ann 34 (.code r0 :: K) s = mreg prog ann 34 none [] none [] [
    ⟨some 1, none, .v fun s => frozenPtr (s.get 0)⟩,
    ⟨some 2, none, .v fun s => some (.nils)⟩] K s := (den_reg hf _ K s).trans (by kernel_rfl)
theorem r1_eq (K : List Item) (s : St) : den prog ann 34 (.code r1 :: K) s = mreg prog ann 34 none [] none [] [
    ⟨some 13, none, .w false none fun s => bslM s.m 0 (bslA 1 0 [.nils] [])⟩,
    ⟨some 3, none, .v fun s => some (s.get 13)⟩] K s := (den_reg hf _ K s).trans (by kernel_rfl)
theorem r2_eq (K : List Item) (s : St) : den prog ann 34 (.code r2 :: K) s = mreg prog ann 34 none [] none [] [
    ⟨some 4, none, .v fun s => some (.int .i64 0)⟩] K s := (den_reg hf _ K s).trans (by kernel_rfl)
theorem k0_eq (K : List Item) (t : List (Nat × AV)) (m : Mem) : den prog ann 34 (.code k0 :: K) ⟨t, 138, m⟩ = L0 (get t 1) (get t 3) (get t 4) m K := den_loop_enter hf (b := l0) (id := 3) (l := [1, 3, 4]) (by kernel_rfl) (by kernel_rfl) (by kernel_rfl) K _
theorem l0_eq (K : List Item) (t : List (Nat × AV)) (m : Mem) : den prog ann 34 (.inLoop l0 :: .inBlock 0 :: K) ⟨t, 138, m⟩ = L0 (get t 1) (get t 3) (get t 4) m K := den_loop_again hf (id := 3) (l := [1, 3, 4]) (by kernel_rfl) (by kernel_rfl) (.inBlock 0 :: K) _
theorem L0_eq (x1 x3 x4 : AV) (m : Mem) (K : List Item) : L0 x1 x3 x4 m K = den prog ann 34 (.code r3 :: .code i0 :: .code k1 :: .code r4 :: .inLoop l0 :: .inBlock 0 :: K) ⟨[(1, x1), (3, x3), (4, x4)], 138, m⟩ := den_flat hf (l := [r3, i0, k1, r4]) (by kernel_rfl) _ _
theorem r3_eq (K : List Item) (s : St) : den prog ann 34 (.code r3 :: K) s = mreg prog ann 34 (some [1, 3, 4]) [] none [] [
    ⟨some 14, none, .v fun s => some (s.get 4)⟩,
    ⟨some 15, none, .v fun s => fieldA 0 (s.get 1)⟩,
    ⟨some 16, none, .v fun s => loadF false 1 (s.get 15)⟩,
    ⟨some 17, none, .v fun s => lenSl (s.get 16)⟩,
    ⟨some 18, none, .v fun s => binA prog .lss 3 (s.get 14) (s.get 17)⟩] K s := (den_reg hf _ K s).trans (by kernel_rfl)
theorem i0_eq (K : List Item) (s : St) : den prog ann 34 (.code i0 :: K) s = ifV prog ann 34 18 i0t i0e K s (s.get 18) := den_if hf (by kernel_rfl) K s
theorem i0t_eq (K : List Item) (s : St) : den prog ann 34 (.code i0t :: K) s = den prog ann 34 (K) s := den_flat hf (l := []) (by kernel_rfl) K s
theorem i0e_eq (K : List Item) (s : St) : den prog ann 34 (.code i0e :: K) s = den prog ann 34 (.code (.exit 0) :: K) s := den_flat hf (l := [(.exit 0)]) (by kernel_rfl) K s
theorem k1_eq (K : List Item) (s : St) : den prog ann 34 (.code k1 :: K) s = den prog ann 34 (.code r5 :: .code r6 :: .code k2 :: .code r12 :: .inBlock 1 :: K) s := den_blk hf (b := blkOf k1) (l := [r5, r6, k2, r12]) (by kernel_rfl) (by kernel_rfl) K s
theorem r5_eq (K : List Item) (s : St) : den prog ann 34 (.code r5 :: K) s = mreg prog ann 34 none [] none [] [
    ⟨some 21, none, .w false none fun s => bslM s.m 0 (bslA 1 0 [.nils] [])⟩,
    ⟨some 5, none, .v fun s => some (s.get 21)⟩] K s := (den_reg hf _ K s).trans (by kernel_rfl)
theorem r6_eq (K : List Item) (s : St) : den prog ann 34 (.code r6 :: K) s = mreg prog ann 34 none [] none [] [
    ⟨some 6, none, .v fun s => some (.int .i64 1)⟩] K s := (den_reg hf _ K s).trans (by kernel_rfl)
theorem k2_eq (K : List Item) (t : List (Nat × AV)) (m : Mem) : den prog ann 34 (.code k2 :: K) ⟨t, 138, m⟩ = L2 (get t 1) (get t 3) (get t 4) (get t 5) (get t 6) m K := den_loop_enter hf (b := l2) (id := 7) (l := [1, 3, 4, 5, 6]) (by kernel_rfl) (by kernel_rfl) (by kernel_rfl) K _
theorem l2_eq (K : List Item) (t : List (Nat × AV)) (m : Mem) : den prog ann 34 (.inLoop l2 :: .inBlock 2 :: K) ⟨t, 138, m⟩ = L2 (get t 1) (get t 3) (get t 4) (get t 5) (get t 6) m K := den_loop_again hf (id := 7) (l := [1, 3, 4, 5, 6]) (by kernel_rfl) (by kernel_rfl) (.inBlock 2 :: K) _
theorem L2_eq (x1 x3 x4 x5 x6 : AV) (m : Mem) (K : List Item) : L2 x1 x3 x4 x5 x6 m K = den prog ann 34 (.code r7 :: .code i1 :: .code k3 :: .code r8 :: .inLoop l2 :: .inBlock 2 :: K) ⟨[(1, x1), (3, x3), (4, x4), (5, x5), (6, x6)], 138, m⟩ := den_flat hf (l := [r7, i1, k3, r8]) (by kernel_rfl) _ _
theorem r7_eq (K : List Item) (s : St) : den prog ann 34 (.code r7 :: K) s = mreg prog ann 34 (some [1, 3, 4, 5, 6]) [] none [] [
    ⟨some 22, none, .v fun s => some (s.get 6)⟩,
    ⟨some 23, none, .v fun s => fieldA 0 (s.get 1)⟩,
    ⟨some 24, none, .v fun s => loadF false 1 (s.get 23)⟩,
    ⟨some 25, none, .v fun s => some (s.get 4)⟩,
    ⟨some 26, none, .v fun s => idxSl 1 (s.get 24) (s.get 25)⟩,
    ⟨some 27, none, .v fun s => loadF false 1 (s.get 26)⟩,
    ⟨some 28, none, .v fun s => binA prog .leq 3 (s.get 22) (s.get 27)⟩] K s := (den_reg hf _ K s).trans (by kernel_rfl)
theorem i1_eq (K : List Item) (s : St) : den prog ann 34 (.code i1 :: K) s = ifV prog ann 34 28 i1t i1e K s (s.get 28) := den_if hf (by kernel_rfl) K s
theorem i1t_eq (K : List Item) (s : St) : den prog ann 34 (.code i1t :: K) s = den prog ann 34 (K) s := den_flat hf (l := []) (by kernel_rfl) K s
theorem i1e_eq (K : List Item) (s : St) : den prog ann 34 (.code i1e :: K) s = den prog ann 34 (.code (.exit 2) :: K) s := den_flat hf (l := [(.exit 2)]) (by kernel_rfl) K s
theorem k3_eq (K : List Item) (s : St) : den prog ann 34 (.code k3 :: K) s = den prog ann 34 (.code r9 :: .code r10 :: .code r11 :: .inBlock 3 :: K) s := den_blk hf (b := blkOf k3) (l := [r9, r10, r11]) (by kernel_rfl) (by kernel_rfl) K s
theorem r9_eq (K : List Item) (s : St) : den prog ann 34 (.code r9 :: K) s = mreg prog ann 34 none [] none [] [
    ⟨some 31, none, .v fun s => fieldA 0 (s.get 1)⟩,
    ⟨some 32, none, .v fun s => loadF false 1 (s.get 31)⟩,
    ⟨some 33, none, .v fun s => lenSl (s.get 32)⟩,
    ⟨some 34, none, .w false none fun s => makeA 1 8 (.int .i64 0) s.m (s.get 33) (s.get 33)⟩,
    ⟨some 7, none, .v fun s => some (s.get 34)⟩] K s := (den_reg hf _ K s).trans (by kernel_rfl)
theorem r10_eq (K : List Item) (s : St) : den prog ann 34 (.code r10 :: K) s = mreg prog ann 34 none [] none [] [
    ⟨some 35, none, .v fun s => some (s.get 7)⟩,
    ⟨some 36, none, .v fun s => some (s.get 4)⟩,
    ⟨some 37, none, .v fun s => some (s.get 6)⟩,
    ⟨some 38, none, .v fun s => idxSl 1 (s.get 35) (s.get 36)⟩,
    ⟨none, none, .w false none fun s => stA false 1 s.m (s.get 38) (s.get 37)⟩] K s := (den_reg hf _ K s).trans (by kernel_rfl)
theorem r11_eq (K : List Item) (s : St) : den prog ann 34 (.code r11 :: K) s = mreg prog ann 34 none [7] none [] [
    ⟨some 39, none, .v fun s => some (s.get 5)⟩,
    ⟨some 40, none, .v fun s => some (s.get 7)⟩,
    ⟨some 41, none, .v fun s => bslF 1 (bslA 1 1 [.nils] [(0, (s.get 40))])⟩,
    ⟨some 42, none, .w false none fun s => appendA 1 24 s.m (s.get 39) (s.get 41)⟩,
    ⟨some 5, none, .v fun s => some (s.get 42)⟩] K s := (den_reg hf _ K s).trans (by kernel_rfl)
theorem r8_eq (K : List Item) (s : St) : den prog ann 34 (.code r8 :: K) s = mreg prog ann 34 (some [1, 3, 4, 5, 6]) [] none [] [
    ⟨some 29, none, .v fun s => some (s.get 6)⟩,
    ⟨some 30, none, .v fun s => binA prog .add 3 (s.get 29) (.int .i64 1)⟩,
    ⟨some 6, none, .v fun s => some (s.get 30)⟩] K s := (den_reg hf _ K s).trans (by kernel_rfl)
theorem r12_eq (K : List Item) (s : St) : den prog ann 34 (.code r12 :: K) s = mreg prog ann 34 (some [1, 3, 4, 5]) [] none [] [
    ⟨some 43, none, .v fun s => some (s.get 3)⟩,
    ⟨some 44, none, .v fun s => some (s.get 5)⟩,
    ⟨some 45, none, .w false none fun s => bslM s.m 1 (bslA 1 1 [.nils] [(0, (s.get 44))])⟩,
    ⟨some 46, none, .w false none fun s => appendA 1 24 s.m (s.get 43) (s.get 45)⟩,
    ⟨some 3, none, .v fun s => some (s.get 46)⟩] K s := (den_reg hf _ K s).trans (by kernel_rfl)
theorem r4_eq (K : List Item) (s : St) : den prog ann 34 (.code r4 :: K) s = mreg prog ann 34 (some [1, 3, 4]) [] none [] [
    ⟨some 19, none, .v fun s => some (s.get 4)⟩,
    ⟨some 20, none, .v fun s => binA prog .add 3 (s.get 19) (.int .i64 1)⟩,
    ⟨some 4, none, .v fun s => some (s.get 20)⟩] K s := (den_reg hf _ K s).trans (by kernel_rfl)
theorem r13_eq (K : List Item) (s : St) : den prog ann 34 (.code r13 :: K) s = mreg prog ann 34 (some [1, 3]) [] none [] [
    ⟨some 8, none, .v fun s => some (.int .i64 0)⟩] K s := (den_reg hf _ K s).trans (by kernel_rfl)
theorem k4_eq (K : List Item) (t : List (Nat × AV)) (m : Mem) : den prog ann 34 (.code k4 :: K) ⟨t, 138, m⟩ = L4 (get t 1) (get t 3) (get t 8) m K := den_loop_enter hf (b := l4) (id := 14) (l := [1, 3, 8]) (by kernel_rfl) (by kernel_rfl) (by kernel_rfl) K _
theorem l4_eq (K : List Item) (t : List (Nat × AV)) (m : Mem) : den prog ann 34 (.inLoop l4 :: .inBlock 4 :: K) ⟨t, 138, m⟩ = L4 (get t 1) (get t 3) (get t 8) m K := den_loop_again hf (id := 14) (l := [1, 3, 8]) (by kernel_rfl) (by kernel_rfl) (.inBlock 4 :: K) _
theorem L4_eq (x1 x3 x8 : AV) (m : Mem) (K : List Item) : L4 x1 x3 x8 m K = den prog ann 34 (.code r14 :: .code i2 :: .code k5 :: .code r15 :: .inLoop l4 :: .inBlock 4 :: K) ⟨[(1, x1), (3, x3), (8, x8)], 138, m⟩ := den_flat hf (l := [r14, i2, k5, r15]) (by kernel_rfl) _ _
theorem r14_eq (K : List Item) (s : St) : den prog ann 34 (.code r14 :: K) s = mreg prog ann 34 (some [1, 3, 8]) [] none [] [
    ⟨some 47, none, .v fun s => some (s.get 8)⟩,
    ⟨some 48, none, .v fun s => binA prog .lss 3 (s.get 47) (.int .i64 24)⟩] K s := (den_reg hf _ K s).trans (by kernel_rfl)
theorem i2_eq (K : List Item) (s : St) : den prog ann 34 (.code i2 :: K) s = ifV prog ann 34 48 i2t i2e K s (s.get 48) := den_if hf (by kernel_rfl) K s
theorem i2t_eq (K : List Item) (s : St) : den prog ann 34 (.code i2t :: K) s = den prog ann 34 (K) s := den_flat hf (l := []) (by kernel_rfl) K s
theorem i2e_eq (K : List Item) (s : St) : den prog ann 34 (.code i2e :: K) s = den prog ann 34 (.code (.exit 4) :: K) s := den_flat hf (l := [(.exit 4)]) (by kernel_rfl) K s
theorem k5_eq (K : List Item) (s : St) : den prog ann 34 (.code k5 :: K) s = den prog ann 34 (.code r16 :: .code k6 :: .inBlock 5 :: K) s := den_blk hf (b := blkOf k5) (l := [r16, k6]) (by kernel_rfl) (by kernel_rfl) K s
theorem r16_eq (K : List Item) (s : St) : den prog ann 34 (.code r16 :: K) s = mreg prog ann 34 none [] none [] [
    ⟨some 9, none, .v fun s => some (.int .i64 0)⟩] K s := (den_reg hf _ K s).trans (by kernel_rfl)
theorem k6_eq (K : List Item) (t : List (Nat × AV)) (m : Mem) : den prog ann 34 (.code k6 :: K) ⟨t, 138, m⟩ = L6 (get t 1) (get t 3) (get t 8) (get t 9) m K := den_loop_enter hf (b := l6) (id := 17) (l := [1, 3, 8, 9]) (by kernel_rfl) (by kernel_rfl) (by kernel_rfl) K _
theorem l6_eq (K : List Item) (t : List (Nat × AV)) (m : Mem) : den prog ann 34 (.inLoop l6 :: .inBlock 6 :: K) ⟨t, 138, m⟩ = L6 (get t 1) (get t 3) (get t 8) (get t 9) m K := den_loop_again hf (id := 17) (l := [1, 3, 8, 9]) (by kernel_rfl) (by kernel_rfl) (.inBlock 6 :: K) _
theorem L6_eq (x1 x3 x8 x9 : AV) (m : Mem) (K : List Item) : L6 x1 x3 x8 x9 m K = den prog ann 34 (.code r17 :: .code i3 :: .code k7 :: .code r18 :: .inLoop l6 :: .inBlock 6 :: K) ⟨[(1, x1), (3, x3), (8, x8), (9, x9)], 138, m⟩ := den_flat hf (l := [r17, i3, k7, r18]) (by kernel_rfl) _ _
theorem r17_eq (K : List Item) (s : St) : den prog ann 34 (.code r17 :: K) s = mreg prog ann 34 (some [1, 3, 8, 9]) [] none [] [
    ⟨some 51, none, .v fun s => some (s.get 9)⟩,
    ⟨some 52, none, .v fun s => some (s.get 3)⟩,
    ⟨some 53, none, .v fun s => lenSl (s.get 52)⟩,
    ⟨some 54, none, .v fun s => binA prog .lss 3 (s.get 51) (s.get 53)⟩] K s := (den_reg hf _ K s).trans (by kernel_rfl)
theorem i3_eq (K : List Item) (s : St) : den prog ann 34 (.code i3 :: K) s = ifV prog ann 34 54 i3t i3e K s (s.get 54) := den_if hf (by kernel_rfl) K s
theorem i3t_eq (K : List Item) (s : St) : den prog ann 34 (.code i3t :: K) s = den prog ann 34 (K) s := den_flat hf (l := []) (by kernel_rfl) K s
theorem i3e_eq (K : List Item) (s : St) : den prog ann 34 (.code i3e :: K) s = den prog ann 34 (.code (.exit 6) :: K) s := den_flat hf (l := [(.exit 6)]) (by kernel_rfl) K s
theorem k7_eq (K : List Item) (s : St) : den prog ann 34 (.code k7 :: K) s = den prog ann 34 (.code r19 :: .code k8 :: .inBlock 7 :: K) s := den_blk hf (b := blkOf k7) (l := [r19, k8]) (by kernel_rfl) (by kernel_rfl) K s
theorem r19_eq (K : List Item) (s : St) : den prog ann 34 (.code r19 :: K) s = mreg prog ann 34 none [] none [] [
    ⟨some 10, none, .v fun s => some (.int .i64 0)⟩] K s := (den_reg hf _ K s).trans (by kernel_rfl)
theorem k8_eq (K : List Item) (t : List (Nat × AV)) (m : Mem) : den prog ann 34 (.code k8 :: K) ⟨t, 138, m⟩ = L8 (get t 1) (get t 3) (get t 8) (get t 9) (get t 10) m K := den_loop_enter hf (b := l8) (id := 20) (l := [1, 3, 8, 9, 10]) (by kernel_rfl) (by kernel_rfl) (by kernel_rfl) K _
theorem l8_eq (K : List Item) (t : List (Nat × AV)) (m : Mem) : den prog ann 34 (.inLoop l8 :: .inBlock 8 :: K) ⟨t, 138, m⟩ = L8 (get t 1) (get t 3) (get t 8) (get t 9) (get t 10) m K := den_loop_again hf (id := 20) (l := [1, 3, 8, 9, 10]) (by kernel_rfl) (by kernel_rfl) (.inBlock 8 :: K) _
theorem L8_eq (x1 x3 x8 x9 x10 : AV) (m : Mem) (K : List Item) : L8 x1 x3 x8 x9 x10 m K = den prog ann 34 (.code r20 :: .code i4 :: .code k9 :: .code r21 :: .inLoop l8 :: .inBlock 8 :: K) ⟨[(1, x1), (3, x3), (8, x8), (9, x9), (10, x10)], 138, m⟩ := den_flat hf (l := [r20, i4, k9, r21]) (by kernel_rfl) _ _
theorem r20_eq (K : List Item) (s : St) : den prog ann 34 (.code r20 :: K) s = mreg prog ann 34 (some [1, 3, 8, 9, 10]) [] none [] [
    ⟨some 57, none, .v fun s => some (s.get 10)⟩,
    ⟨some 58, none, .v fun s => some (s.get 3)⟩,
    ⟨some 59, none, .v fun s => some (s.get 9)⟩,
    ⟨some 60, none, .v fun s => idxSl 1 (s.get 58) (s.get 59)⟩,
    ⟨some 61, none, .v fun s => loadA false 1 s.m (s.get 60)⟩,
    ⟨some 62, none, .v fun s => lenSl (s.get 61)⟩,
    ⟨some 63, none, .v fun s => binA prog .lss 3 (s.get 57) (s.get 62)⟩] K s := (den_reg hf _ K s).trans (by kernel_rfl)
theorem i4_eq (K : List Item) (s : St) : den prog ann 34 (.code i4 :: K) s = ifV prog ann 34 63 i4t i4e K s (s.get 63) := den_if hf (by kernel_rfl) K s
theorem i4t_eq (K : List Item) (s : St) : den prog ann 34 (.code i4t :: K) s = den prog ann 34 (K) s := den_flat hf (l := []) (by kernel_rfl) K s
theorem i4e_eq (K : List Item) (s : St) : den prog ann 34 (.code i4e :: K) s = den prog ann 34 (.code (.exit 8) :: K) s := den_flat hf (l := [(.exit 8)]) (by kernel_rfl) K s
theorem k9_eq (K : List Item) (s : St) : den prog ann 34 (.code k9 :: K) s = den prog ann 34 (.code r22 :: .code i5 :: .code r24 :: .code k10 :: .inBlock 9 :: K) s := den_blk hf (b := blkOf k9) (l := [r22, i5, r24, k10]) (by kernel_rfl) (by kernel_rfl) K s
theorem r22_eq (K : List Item) (s : St) : den prog ann 34 (.code r22 :: K) s = mreg prog ann 34 none [] none [] [
    ⟨some 66, none, .v fun s => some (s.get 10)⟩,
    ⟨some 67, none, .v fun s => binA prog .gtr 3 (s.get 66) (.int .i64 0)⟩] K s := (den_reg hf _ K s).trans (by kernel_rfl)
theorem i5_eq (K : List Item) (s : St) : den prog ann 34 (.code i5 :: K) s = ifV prog ann 34 67 i5t i5e K s (s.get 67) := den_if hf (by kernel_rfl) K s
theorem i5t_eq (K : List Item) (s : St) : den prog ann 34 (.code i5t :: K) s = den prog ann 34 (.code r23 :: K) s := den_flat hf (l := [r23]) (by kernel_rfl) K s
theorem r23_draw : drawOk (fun g => (ann g).pure) (modeOf (ann 34) (idOf r23)) (frzOf (ann 34) (idOf r23)) (opsOf r23) = true := drawOk_of (an := [0, 0, 3, 7, 0, 0, 0, 96, 224, 0, 992, 2016, 0, 0, 12288, 28672, 0, 65536, 258048, 520192, 1048544, 2097151, 4194303]) (by kernel_rfl) (by kernel_rfl)
theorem r23_eq (K : List Item) (s : St) : den prog ann 34 (.code r23 :: K) s = mreg prog ann 34 none [] (some 23) [] [
    ⟨some 68, none, .v fun s => some (s.get 3)⟩,
    ⟨some 69, none, .v fun s => some (s.get 9)⟩,
    ⟨some 70, none, .v fun s => idxSl 1 (s.get 68) (s.get 69)⟩,
    ⟨some 71, none, .v fun s => loadA false 1 s.m (s.get 70)⟩,
    ⟨some 72, none, .v fun s => some (s.get 10)⟩,
    ⟨some 73, none, .v fun s => some (s.get 3)⟩,
    ⟨some 74, none, .v fun s => some (s.get 9)⟩,
    ⟨some 75, none, .v fun s => idxSl 1 (s.get 73) (s.get 74)⟩,
    ⟨some 76, none, .v fun s => loadA false 1 s.m (s.get 75)⟩,
    ⟨some 77, none, .v fun s => some (s.get 10)⟩,
    ⟨some 78, none, .v fun s => idxSl 1 (s.get 76) (s.get 77)⟩,
    ⟨some 79, none, .v fun s => loadA false 1 s.m (s.get 78)⟩,
    ⟨some 80, none, .v fun s => some (s.get 3)⟩,
    ⟨some 81, none, .v fun s => some (s.get 9)⟩,
    ⟨some 82, none, .v fun s => idxSl 1 (s.get 80) (s.get 81)⟩,
    ⟨some 83, none, .v fun s => loadA false 1 s.m (s.get 82)⟩,
    ⟨some 84, none, .v fun s => some (s.get 10)⟩,
    ⟨some 85, none, .v fun s => binA prog .sub 3 (s.get 84) (.int .i64 1)⟩,
    ⟨some 86, none, .v fun s => idxSl 1 (s.get 83) (s.get 85)⟩,
    ⟨some 87, none, .v fun s => loadA false 1 s.m (s.get 86)⟩,
    ⟨some 88, none, .c 0 (fun s => (.fn 29 [] [])) fun s => [(s.get 79), (s.get 87)]⟩,
    ⟨some 89, none, .v fun s => idxSl 1 (s.get 71) (s.get 72)⟩,
    ⟨none, none, .w false (some 22) fun s => stA false 1 s.m (s.get 89) (s.get 88)⟩] K s := (den_regD hf r23_draw K s).trans (by kernel_rfl)
theorem i5e_eq (K : List Item) (s : St) : den prog ann 34 (.code i5e :: K) s = den prog ann 34 (K) s := den_flat hf (l := []) (by kernel_rfl) K s
theorem r24_eq (K : List Item) (s : St) : den prog ann 34 (.code r24 :: K) s = mreg prog ann 34 (some [1, 3, 8, 9, 10]) [] none [] [
    ⟨some 11, none, .v fun s => some (.int .i64 0)⟩] K s := (den_reg hf _ K s).trans (by kernel_rfl)
theorem k10_eq (K : List Item) (t : List (Nat × AV)) (m : Mem) : den prog ann 34 (.code k10 :: K) ⟨t, 138, m⟩ = L10 (get t 1) (get t 3) (get t 8) (get t 9) (get t 10) (get t 11) m K := den_loop_enter hf (b := l10) (id := 25) (l := [1, 3, 8, 9, 10, 11]) (by kernel_rfl) (by kernel_rfl) (by kernel_rfl) K _
theorem l10_eq (K : List Item) (t : List (Nat × AV)) (m : Mem) : den prog ann 34 (.inLoop l10 :: .inBlock 10 :: K) ⟨t, 138, m⟩ = L10 (get t 1) (get t 3) (get t 8) (get t 9) (get t 10) (get t 11) m K := den_loop_again hf (id := 25) (l := [1, 3, 8, 9, 10, 11]) (by kernel_rfl) (by kernel_rfl) (.inBlock 10 :: K) _
theorem L10_eq (x1 x3 x8 x9 x10 x11 : AV) (m : Mem) (K : List Item) : L10 x1 x3 x8 x9 x10 x11 m K = den prog ann 34 (.code r25 :: .code i6 :: .code k11 :: .code r26 :: .inLoop l10 :: .inBlock 10 :: K) ⟨[(1, x1), (3, x3), (8, x8), (9, x9), (10, x10), (11, x11)], 138, m⟩ := den_flat hf (l := [r25, i6, k11, r26]) (by kernel_rfl) _ _
theorem r25_eq (K : List Item) (s : St) : den prog ann 34 (.code r25 :: K) s = mreg prog ann 34 (some [1, 3, 8, 9, 10, 11]) [] none [] [
    ⟨some 90, none, .v fun s => some (s.get 11)⟩,
    ⟨some 91, none, .v fun s => fieldA 1 (s.get 1)⟩,
    ⟨some 92, none, .v fun s => loadF false 1 (s.get 91)⟩,
    ⟨some 93, none, .v fun s => lenSl (s.get 92)⟩,
    ⟨some 94, none, .v fun s => binA prog .lss 3 (s.get 90) (s.get 93)⟩] K s := (den_reg hf _ K s).trans (by kernel_rfl)
theorem i6_eq (K : List Item) (s : St) : den prog ann 34 (.code i6 :: K) s = ifV prog ann 34 94 i6t i6e K s (s.get 94) := den_if hf (by kernel_rfl) K s
theorem i6t_eq (K : List Item) (s : St) : den prog ann 34 (.code i6t :: K) s = den prog ann 34 (K) s := den_flat hf (l := []) (by kernel_rfl) K s
theorem i6e_eq (K : List Item) (s : St) : den prog ann 34 (.code i6e :: K) s = den prog ann 34 (.code (.exit 10) :: K) s := den_flat hf (l := [(.exit 10)]) (by kernel_rfl) K s
theorem k11_eq (K : List Item) (s : St) : den prog ann 34 (.code k11 :: K) s = den prog ann 34 (.code r27 :: .code r28 :: .code i7 :: .inBlock 11 :: K) s := den_blk hf (b := blkOf k11) (l := [r27, r28, i7]) (by kernel_rfl) (by kernel_rfl) K s
theorem r27_eq (K : List Item) (s : St) : den prog ann 34 (.code r27 :: K) s = mreg prog ann 34 none [] none [12] [
    ⟨some 97, none, .v fun s => fieldA 1 (s.get 1)⟩,
    ⟨some 98, none, .v fun s => loadF false 1 (s.get 97)⟩,
    ⟨some 99, none, .v fun s => some (s.get 11)⟩,
    ⟨some 100, none, .v fun s => idxSl 4 (s.get 98) (s.get 99)⟩,
    ⟨some 101, none, .v fun s => loadF true 4 (s.get 100)⟩,
    ⟨some 12, none, .w false none fun s => newPtr s.m [.int .i64 0, .int .i64 0, .int .i64 0, .int .i64 0]⟩,
    ⟨none, none, .w false none fun s => stA true 4 s.m (s.get 12) (s.get 101)⟩] K s := (den_reg hf _ K s).trans (by kernel_rfl)
theorem r28_eq (K : List Item) (s : St) : den prog ann 34 (.code r28 :: K) s = mreg prog ann 34 none [] none [] [
    ⟨some 102, none, .v fun s => fieldA 2 (s.get 12)⟩,
    ⟨some 103, none, .v fun s => loadF false 1 (s.get 102)⟩,
    ⟨some 104, none, .v fun s => some (s.get 9)⟩,
    ⟨some 105, none, .v fun s => binA prog .eql 3 (s.get 103) (s.get 104)⟩,
    ⟨some 106, none, .v fun s => some (s.get 105)⟩,
    ⟨some 107, some (106, true), .v fun s => fieldA 3 (s.get 12)⟩,
    ⟨some 108, some (106, true), .v fun s => loadF false 1 (s.get 107)⟩,
    ⟨some 109, some (106, true), .v fun s => some (s.get 10)⟩,
    ⟨some 110, some (106, true), .v fun s => binA prog .add 3 (s.get 109) (.int .i64 1)⟩,
    ⟨some 111, some (106, true), .v fun s => binA prog .eql 3 (s.get 108) (s.get 110)⟩,
    ⟨some 112, none, .v fun s => pickA (s.get 106) (s.get 111) (.bool false)⟩] K s := (den_reg hf _ K s).trans (by kernel_rfl)
theorem i7_eq (K : List Item) (s : St) : den prog ann 34 (.code i7 :: K) s = ifV prog ann 34 112 i7t i7e K s (s.get 112) := den_if hf (by kernel_rfl) K s
theorem i7t_eq (K : List Item) (s : St) : den prog ann 34 (.code i7t :: K) s = den prog ann 34 (.code r29 :: K) s := den_flat hf (l := [r29]) (by kernel_rfl) K s
theorem r29_draw : drawOk (fun g => (ann g).pure) (modeOf (ann 34) (idOf r29)) (frzOf (ann 34) (idOf r29)) (opsOf r29) = true := drawOk_of (an := [0, 0, 3, 7, 0, 0, 0, 96, 224, 0, 992, 2016, 0, 0, 8192, 28672, 61440, 0, 131072, 393216, 1044480, 2093056, 4194272, 8388607, 16777215]) (by kernel_rfl) (by kernel_rfl)
theorem r29_eq (K : List Item) (s : St) : den prog ann 34 (.code r29 :: K) s = mreg prog ann 34 none [] (some 25) [] [
    ⟨some 113, none, .v fun s => some (s.get 3)⟩,
    ⟨some 114, none, .v fun s => some (s.get 9)⟩,
    ⟨some 115, none, .v fun s => idxSl 1 (s.get 113) (s.get 114)⟩,
    ⟨some 116, none, .v fun s => loadA false 1 s.m (s.get 115)⟩,
    ⟨some 117, none, .v fun s => some (s.get 10)⟩,
    ⟨some 118, none, .v fun s => some (s.get 3)⟩,
    ⟨some 119, none, .v fun s => some (s.get 9)⟩,
    ⟨some 120, none, .v fun s => idxSl 1 (s.get 118) (s.get 119)⟩,
    ⟨some 121, none, .v fun s => loadA false 1 s.m (s.get 120)⟩,
    ⟨some 122, none, .v fun s => some (s.get 10)⟩,
    ⟨some 123, none, .v fun s => idxSl 1 (s.get 121) (s.get 122)⟩,
    ⟨some 124, none, .v fun s => loadA false 1 s.m (s.get 123)⟩,
    ⟨some 125, none, .v fun s => some (s.get 3)⟩,
    ⟨some 126, none, .v fun s => fieldA 0 (s.get 12)⟩,
    ⟨some 127, none, .v fun s => loadF false 1 (s.get 126)⟩,
    ⟨some 128, none, .v fun s => idxSl 1 (s.get 125) (s.get 127)⟩,
    ⟨some 129, none, .v fun s => loadA false 1 s.m (s.get 128)⟩,
    ⟨some 130, none, .v fun s => fieldA 1 (s.get 12)⟩,
    ⟨some 131, none, .v fun s => loadF false 1 (s.get 130)⟩,
    ⟨some 132, none, .v fun s => binA prog .sub 3 (s.get 131) (.int .i64 1)⟩,
    ⟨some 133, none, .v fun s => idxSl 1 (s.get 129) (s.get 132)⟩,
    ⟨some 134, none, .v fun s => loadA false 1 s.m (s.get 133)⟩,
    ⟨some 135, none, .c 0 (fun s => (.fn 29 [] [])) fun s => [(s.get 124), (s.get 134)]⟩,
    ⟨some 136, none, .v fun s => idxSl 1 (s.get 116) (s.get 117)⟩,
    ⟨none, none, .w false (some 24) fun s => stA false 1 s.m (s.get 136) (s.get 135)⟩] K s := (den_regD hf r29_draw K s).trans (by kernel_rfl)
theorem i7e_eq (K : List Item) (s : St) : den prog ann 34 (.code i7e :: K) s = den prog ann 34 (K) s := den_flat hf (l := []) (by kernel_rfl) K s
theorem r26_eq (K : List Item) (s : St) : den prog ann 34 (.code r26 :: K) s = mreg prog ann 34 (some [1, 3, 8, 9, 10, 11]) [] none [] [
    ⟨some 95, none, .v fun s => some (s.get 11)⟩,
    ⟨some 96, none, .v fun s => binA prog .add 3 (s.get 95) (.int .i64 1)⟩,
    ⟨some 11, none, .v fun s => some (s.get 96)⟩] K s := (den_reg hf _ K s).trans (by kernel_rfl)
theorem r21_eq (K : List Item) (s : St) : den prog ann 34 (.code r21 :: K) s = mreg prog ann 34 (some [1, 3, 8, 9, 10]) [] none [] [
    ⟨some 64, none, .v fun s => some (s.get 10)⟩,
    ⟨some 65, none, .v fun s => binA prog .add 3 (s.get 64) (.int .i64 1)⟩,
    ⟨some 10, none, .v fun s => some (s.get 65)⟩] K s := (den_reg hf _ K s).trans (by kernel_rfl)
theorem r18_eq (K : List Item) (s : St) : den prog ann 34 (.code r18 :: K) s = mreg prog ann 34 (some [1, 3, 8, 9]) [] none [] [
    ⟨some 55, none, .v fun s => some (s.get 9)⟩,
    ⟨some 56, none, .v fun s => binA prog .add 3 (s.get 55) (.int .i64 1)⟩,
    ⟨some 9, none, .v fun s => some (s.get 56)⟩] K s := (den_reg hf _ K s).trans (by kernel_rfl)
theorem r15_eq (K : List Item) (s : St) : den prog ann 34 (.code r15 :: K) s = mreg prog ann 34 (some [1, 3, 8]) [] none [] [
    ⟨some 49, none, .v fun s => some (s.get 8)⟩,
    ⟨some 50, none, .v fun s => binA prog .add 3 (s.get 49) (.int .i64 1)⟩,
    ⟨some 8, none, .v fun s => some (s.get 50)⟩] K s := (den_reg hf _ K s).trans (by kernel_rfl)
theorem r30_eq (K : List Item) (s : St) : den prog ann 34 (.code r30 :: K) s = mreg prog ann 34 (some [3]) [] none [] [
    ⟨some 137, none, .v fun s => some (s.get 3)⟩,
    ⟨some 2, none, .v fun s => some (s.get 137)⟩] K s := (den_reg hf _ K s).trans (by kernel_rfl)
theorem ret_eq (K : List Item) (s : St) : den prog ann 34 (.code .ret :: K) s = finM true [fun s => some (s.get 2)] s := (den_ret hf K s).trans (by kernel_rfl)
theorem nil_eq (s : St) : den prog ann 34 [] s = finM true [fun s => some (s.get 2)] s := (den_nil hf s).trans (by kernel_rfl)
theorem inBlock_eq (id : Nat) (K : List Item) (s : St) : den prog ann 34 (.inBlock id :: K) s = den prog ann 34 K s := den_inBlock hf id K s
theorem exit_eq (id : Nat) (K : List Item) (s : St) : den prog ann 34 (.code (.exit id) :: K) s = exitV prog ann 34 (exitTo id K) s := den_exitV hf id K s
theorem call_eq (v0 : AV) (m : Mem) (h : closedL [v0] = true) : denC prog ann 34 [v0] m = (den prog ann 34 [.code b] ⟨[(0, v0)], 138, Mem.empty⟩).bind fun r => some (r.1, m) := (denC_pure hf (b := b) (by kernel_rfl) (by kernel_rfl) (by kernel_rfl) h m).trans (by kernel_rfl)
theorem pure_eq : (ann 34).pure = true := by kernel_rfl
attribute [simp] b_eq r0_eq r1_eq r2_eq k0_eq l0_eq r3_eq i0_eq i0t_eq i0e_eq k1_eq r5_eq r6_eq k2_eq l2_eq r7_eq i1_eq i1t_eq i1e_eq k3_eq r9_eq r10_eq r11_eq r8_eq r12_eq r4_eq r13_eq k4_eq l4_eq r14_eq i2_eq i2t_eq i2e_eq k5_eq r16_eq k6_eq l6_eq r17_eq i3_eq i3t_eq i3e_eq k7_eq r19_eq k8_eq l8_eq r20_eq i4_eq i4t_eq i4e_eq k9_eq r22_eq i5_eq i5t_eq r23_eq i5e_eq r24_eq k10_eq l10_eq r25_eq i6_eq i6t_eq i6e_eq k11_eq r27_eq r28_eq i7_eq i7t_eq r29_eq i7e_eq r26_eq r21_eq r18_eq r15_eq r30_eq ret_eq nil_eq inBlock_eq exit_eq pure_eq
end r09_Clocks

namespace watch_Clocks
/-- pommel/watch.Clocks -/
noncomputable def b : Code := (Try.f43.body).getD .skip
theorem hf : prog.funcs[43]? = some Try.f43 := by kernel_rfl
noncomputable def r0 : Code := findReg b 0
noncomputable def r1 : Code := findReg b 1
noncomputable def r2 : Code := findReg b 2
noncomputable def i0 : Code := findCond b 0
noncomputable def i0t : Code := thenOf i0
noncomputable def i0e : Code := elseOf i0
noncomputable def r3 : Code := findReg b 3
noncomputable def r4 : Code := findReg b 4
noncomputable def r5 : Code := findReg b 5
noncomputable def k0 : Code := findBlk b 0
noncomputable def l0 : Code := loopOf k0
noncomputable def L0 (x4 x6 x25 x26 : AV) (m : Mem) (K : List Item) : Option Res := den prog ann 43 (.code l0 :: .inLoop l0 :: .inBlock 0 :: K) ⟨[(4, x4), (6, x6), (25, x25), (26, x26)], 55, m⟩
noncomputable def r6 : Code := findReg b 6
noncomputable def i1 : Code := findCond b 1
noncomputable def i1t : Code := thenOf i1
noncomputable def i1e : Code := elseOf i1
noncomputable def k1 : Code := findBlk b 1
noncomputable def r7 : Code := findReg b 7
noncomputable def r8 : Code := findReg b 8
noncomputable def k2 : Code := findBlk b 2
noncomputable def l2 : Code := loopOf k2
noncomputable def L2 (x4 x6 x7 x25 x26 x34 x35 x36 : AV) (m : Mem) (K : List Item) : Option Res := den prog ann 43 (.code l2 :: .inLoop l2 :: .inBlock 2 :: K) ⟨[(4, x4), (6, x6), (7, x7), (25, x25), (26, x26), (34, x34), (35, x35), (36, x36)], 55, m⟩
noncomputable def r9 : Code := findReg b 9
noncomputable def i2 : Code := findCond b 2
noncomputable def i2t : Code := thenOf i2
noncomputable def i2e : Code := elseOf i2
noncomputable def k3 : Code := findBlk b 3
noncomputable def r10 : Code := findReg b 10
noncomputable def r11 : Code := findReg b 11
noncomputable def r12 : Code := findReg b 12
noncomputable def r13 : Code := findReg b 13
noncomputable def r14 : Code := findReg b 14
theorem b_eq (K : List Item) (s : St) : den prog ann 43 (.code b :: K) s = den prog ann 43 (.code r0 :: .code r1 :: .code r2 :: .code i0 :: .code r4 :: .code r5 :: .code k0 :: .code r14 :: .code .ret :: K) s := den_flat hf (l := [r0, r1, r2, i0, r4, r5, k0, r14, .ret]) (by kernel_rfl) K s
theorem r0_eq (K : List Item) (s : St) : den prog ann 43 (.code r0 :: K) s = mreg prog ann 43 none [] none [] [
    ⟨some 1, none, .v fun s => frozenPtr (s.get 0)⟩,
    ⟨some 2, none, .v fun s => some (.nils)⟩,
    ⟨some 3, none, .v fun s => some (.int .i64 0)⟩] K s := (den_reg hf _ K s).trans (by kernel_rfl)
theorem r1_eq (K : List Item) (s : St) : den prog ann 43 (.code r1 :: K) s = mreg prog ann 43 none [] none [] [
    ⟨some 11, none, .v fun s => loadF true 2 (s.get 1)⟩,
    ⟨some 12, none, .c 0 (fun s => (.fn 61 [] [])) fun s => [(s.get 11)]⟩,
    ⟨some 10, none, .v fun s => some (s.get 12)⟩,
    ⟨some 13, none, .v fun s => extA (s.get 10) 0⟩,
    ⟨some 14, none, .v fun s => extA (s.get 10) 1⟩,
    ⟨some 4, none, .v fun s => some (s.get 13)⟩,
    ⟨some 5, none, .v fun s => some (s.get 14)⟩] K s := (den_reg hf _ K s).trans (by kernel_rfl)
theorem r2_eq (K : List Item) (s : St) : den prog ann 43 (.code r2 :: K) s = mreg prog ann 43 none [] none [] [
    ⟨some 15, none, .v fun s => some (s.get 5)⟩,
    ⟨some 16, none, .v fun s => unA .not (s.get 15)⟩] K s := (den_reg hf _ K s).trans (by kernel_rfl)
theorem i0_eq (K : List Item) (s : St) : den prog ann 43 (.code i0 :: K) s = ifV prog ann 43 16 i0t i0e K s (s.get 16) := den_if hf (by kernel_rfl) K s
theorem i0t_eq (K : List Item) (s : St) : den prog ann 43 (.code i0t :: K) s = den prog ann 43 (.code r3 :: .code .ret :: K) s := den_flat hf (l := [r3, .ret]) (by kernel_rfl) K s
theorem r3_eq (K : List Item) (s : St) : den prog ann 43 (.code r3 :: K) s = mreg prog ann 43 none [] none [] [
    ⟨some 2, none, .v fun s => some (.nils)⟩,
    ⟨some 3, none, .v fun s => some (.int .i64 1)⟩] K s := (den_reg hf _ K s).trans (by kernel_rfl)
theorem i0e_eq (K : List Item) (s : St) : den prog ann 43 (.code i0e :: K) s = den prog ann 43 (K) s := den_flat hf (l := []) (by kernel_rfl) K s
theorem r4_eq (K : List Item) (s : St) : den prog ann 43 (.code r4 :: K) s = mreg prog ann 43 none [] none [] [
    ⟨some 17, none, .v fun s => some (s.get 4)⟩,
    ⟨some 18, none, .v fun s => nilA (s.get 17)⟩,
    ⟨some 19, none, .v fun s => fieldA 0 (s.get 18)⟩,
    ⟨some 20, none, .v fun s => loadF false 1 (s.get 19)⟩,
    ⟨some 21, none, .w false none fun s => makeA 1 24 (.nils) s.m (s.get 20) (s.get 20)⟩,
    ⟨some 6, none, .v fun s => some (s.get 21)⟩] K s := (den_reg hf _ K s).trans (by kernel_rfl)
theorem r5_eq (K : List Item) (s : St) : den prog ann 43 (.code r5 :: K) s = mreg prog ann 43 none [] none [] [
    ⟨some 22, none, .v fun s => some (s.get 4)⟩,
    ⟨some 23, none, .v fun s => nilA (s.get 22)⟩,
    ⟨some 24, none, .v fun s => fieldA 0 (s.get 23)⟩,
    ⟨some 25, none, .v fun s => loadF false 1 (s.get 24)⟩,
    ⟨some 26, none, .v fun s => some (.int .i64 0)⟩] K s := (den_reg hf _ K s).trans (by kernel_rfl)
theorem k0_eq (K : List Item) (t : List (Nat × AV)) (m : Mem) : den prog ann 43 (.code k0 :: K) ⟨t, 55, m⟩ = L0 (get t 4) (get t 6) (get t 25) (get t 26) m K := den_loop_enter hf (b := l0) (id := 6) (l := [4, 6, 25, 26]) (by kernel_rfl) (by kernel_rfl) (by kernel_rfl) K _
theorem l0_eq (K : List Item) (t : List (Nat × AV)) (m : Mem) : den prog ann 43 (.inLoop l0 :: .inBlock 0 :: K) ⟨t, 55, m⟩ = L0 (get t 4) (get t 6) (get t 25) (get t 26) m K := den_loop_again hf (id := 6) (l := [4, 6, 25, 26]) (by kernel_rfl) (by kernel_rfl) (.inBlock 0 :: K) _
theorem L0_eq (x4 x6 x25 x26 : AV) (m : Mem) (K : List Item) : L0 x4 x6 x25 x26 m K = den prog ann 43 (.code r6 :: .code i1 :: .code k1 :: .code r13 :: .inLoop l0 :: .inBlock 0 :: K) ⟨[(4, x4), (6, x6), (25, x25), (26, x26)], 55, m⟩ := den_flat hf (l := [r6, i1, k1, r13]) (by kernel_rfl) _ _
theorem r6_eq (K : List Item) (s : St) : den prog ann 43 (.code r6 :: K) s = mreg prog ann 43 (some [4, 6, 25, 26]) [] none [] [
    ⟨some 27, none, .v fun s => binA prog .lss 3 (s.get 26) (s.get 25)⟩] K s := (den_reg hf _ K s).trans (by kernel_rfl)
theorem i1_eq (K : List Item) (s : St) : den prog ann 43 (.code i1 :: K) s = ifV prog ann 43 27 i1t i1e K s (s.get 27) := den_if hf (by kernel_rfl) K s
theorem i1t_eq (K : List Item) (s : St) : den prog ann 43 (.code i1t :: K) s = den prog ann 43 (K) s := den_flat hf (l := []) (by kernel_rfl) K s
theorem i1e_eq (K : List Item) (s : St) : den prog ann 43 (.code i1e :: K) s = den prog ann 43 (.code (.exit 0) :: K) s := den_flat hf (l := [(.exit 0)]) (by kernel_rfl) K s
theorem k1_eq (K : List Item) (s : St) : den prog ann 43 (.code k1 :: K) s = den prog ann 43 (.code r7 :: .code r8 :: .code k2 :: .inBlock 1 :: K) s := den_blk hf (b := blkOf k1) (l := [r7, r8, k2]) (by kernel_rfl) (by kernel_rfl) K s
theorem r7_eq (K : List Item) (s : St) : den prog ann 43 (.code r7 :: K) s = mreg prog ann 43 none [] none [] [
    ⟨some 28, none, .v fun s => some (s.get 26)⟩,
    ⟨some 7, none, .v fun s => some (s.get 28)⟩] K s := (den_reg hf _ K s).trans (by kernel_rfl)
theorem r8_eq (K : List Item) (s : St) : den prog ann 43 (.code r8 :: K) s = mreg prog ann 43 none [] none [] [
    ⟨some 29, none, .v fun s => some (s.get 4)⟩,
    ⟨some 30, none, .v fun s => some (s.get 7)⟩,
    ⟨some 31, none, .v fun s => nilA (s.get 29)⟩,
    ⟨some 32, none, .v fun s => fieldA 5 (s.get 31)⟩,
    ⟨some 33, none, .v fun s => idxArr 4 1 (s.get 32) (s.get 30)⟩,
    ⟨some 34, none, .v fun s => loadF false 1 (s.get 33)⟩,
    ⟨some 35, none, .v fun s => lenSl (s.get 34)⟩,
    ⟨some 36, none, .v fun s => some (.int .i64 0)⟩] K s := (den_reg hf _ K s).trans (by kernel_rfl)
theorem k2_eq (K : List Item) (t : List (Nat × AV)) (m : Mem) : den prog ann 43 (.code k2 :: K) ⟨t, 55, m⟩ = L2 (get t 4) (get t 6) (get t 7) (get t 25) (get t 26) (get t 34) (get t 35) (get t 36) m K := den_loop_enter hf (b := l2) (id := 9) (l := [4, 6, 7, 25, 26, 34, 35, 36]) (by kernel_rfl) (by kernel_rfl) (by kernel_rfl) K _
theorem l2_eq (K : List Item) (t : List (Nat × AV)) (m : Mem) : den prog ann 43 (.inLoop l2 :: .inBlock 2 :: K) ⟨t, 55, m⟩ = L2 (get t 4) (get t 6) (get t 7) (get t 25) (get t 26) (get t 34) (get t 35) (get t 36) m K := den_loop_again hf (id := 9) (l := [4, 6, 7, 25, 26, 34, 35, 36]) (by kernel_rfl) (by kernel_rfl) (.inBlock 2 :: K) _
theorem L2_eq (x4 x6 x7 x25 x26 x34 x35 x36 : AV) (m : Mem) (K : List Item) : L2 x4 x6 x7 x25 x26 x34 x35 x36 m K = den prog ann 43 (.code r9 :: .code i2 :: .code k3 :: .code r12 :: .inLoop l2 :: .inBlock 2 :: K) ⟨[(4, x4), (6, x6), (7, x7), (25, x25), (26, x26), (34, x34), (35, x35), (36, x36)], 55, m⟩ := den_flat hf (l := [r9, i2, k3, r12]) (by kernel_rfl) _ _
theorem r9_eq (K : List Item) (s : St) : den prog ann 43 (.code r9 :: K) s = mreg prog ann 43 (some [4, 6, 7, 25, 26, 34, 35, 36]) [] none [] [
    ⟨some 37, none, .v fun s => binA prog .lss 3 (s.get 36) (s.get 35)⟩] K s := (den_reg hf _ K s).trans (by kernel_rfl)
theorem i2_eq (K : List Item) (s : St) : den prog ann 43 (.code i2 :: K) s = ifV prog ann 43 37 i2t i2e K s (s.get 37) := den_if hf (by kernel_rfl) K s
theorem i2t_eq (K : List Item) (s : St) : den prog ann 43 (.code i2t :: K) s = den prog ann 43 (K) s := den_flat hf (l := []) (by kernel_rfl) K s
theorem i2e_eq (K : List Item) (s : St) : den prog ann 43 (.code i2e :: K) s = den prog ann 43 (.code (.exit 2) :: K) s := den_flat hf (l := [(.exit 2)]) (by kernel_rfl) K s
theorem k3_eq (K : List Item) (s : St) : den prog ann 43 (.code k3 :: K) s = den prog ann 43 (.code r10 :: .code r11 :: .inBlock 3 :: K) s := den_blk hf (b := blkOf k3) (l := [r10, r11]) (by kernel_rfl) (by kernel_rfl) K s
theorem r10_eq (K : List Item) (s : St) : den prog ann 43 (.code r10 :: K) s = mreg prog ann 43 none [] none [9] [
    ⟨some 38, none, .v fun s => idxSl 4 (s.get 34) (s.get 36)⟩,
    ⟨some 39, none, .v fun s => loadF true 4 (s.get 38)⟩,
    ⟨some 9, none, .w false none fun s => newPtr s.m [.int .i64 0, .int .i64 0, .int .i64 0, .int .i64 0]⟩,
    ⟨none, none, .w false none fun s => stA true 4 s.m (s.get 9) (s.get 39)⟩] K s := (den_reg hf _ K s).trans (by kernel_rfl)
theorem r11_draw : drawOk (fun g => (ann g).pure) (modeOf (ann 43) (idOf r11)) (frzOf (ann 43) (idOf r11)) (opsOf r11) = true := drawOk_of (an := [0, 0, 0, 0, 12, 28, 0, 0, 192, 448, 1020, 2047, 4095]) (by kernel_rfl) (by kernel_rfl)
theorem r11_eq (K : List Item) (s : St) : den prog ann 43 (.code r11 :: K) s = mreg prog ann 43 none [] (some 13) [] [
    ⟨some 40, none, .v fun s => some (s.get 6)⟩,
    ⟨some 41, none, .v fun s => some (s.get 7)⟩,
    ⟨some 42, none, .v fun s => some (s.get 6)⟩,
    ⟨some 43, none, .v fun s => some (s.get 7)⟩,
    ⟨some 44, none, .v fun s => idxSl 1 (s.get 42) (s.get 43)⟩,
    ⟨some 45, none, .v fun s => loadA false 1 s.m (s.get 44)⟩,
    ⟨some 46, none, .v fun s => some (s.get 4)⟩,
    ⟨some 47, none, .v fun s => loadF true 4 (s.get 9)⟩,
    ⟨some 48, none, .c 0 (fun s => (.fn 63 [] [])) fun s => [(s.get 46), (s.get 47)]⟩,
    ⟨some 49, none, .v fun s => bslF 1 (bslA 1 1 [.nils] [(0, (s.get 48))])⟩,
    ⟨some 50, none, .w false (some 10) fun s => appendA 1 24 s.m (s.get 45) (s.get 49)⟩,
    ⟨some 51, none, .v fun s => idxSl 1 (s.get 40) (s.get 41)⟩,
    ⟨none, none, .w false (some 12) fun s => stA false 1 s.m (s.get 51) (s.get 50)⟩] K s := (den_regD hf r11_draw K s).trans (by kernel_rfl)
theorem r12_eq (K : List Item) (s : St) : den prog ann 43 (.code r12 :: K) s = mreg prog ann 43 (some [4, 6, 7, 25, 26, 34, 35, 36]) [] none [] [
    ⟨some 52, none, .v fun s => binA prog .add 3 (s.get 36) (.int .i64 1)⟩,
    ⟨some 36, none, .v fun s => some (s.get 52)⟩] K s := (den_reg hf _ K s).trans (by kernel_rfl)
theorem r13_eq (K : List Item) (s : St) : den prog ann 43 (.code r13 :: K) s = mreg prog ann 43 (some [4, 6, 25, 26]) [] none [] [
    ⟨some 53, none, .v fun s => binA prog .add 3 (s.get 26) (.int .i64 1)⟩,
    ⟨some 26, none, .v fun s => some (s.get 53)⟩] K s := (den_reg hf _ K s).trans (by kernel_rfl)
theorem r14_eq (K : List Item) (s : St) : den prog ann 43 (.code r14 :: K) s = mreg prog ann 43 (some [6]) [] none [] [
    ⟨some 54, none, .v fun s => some (s.get 6)⟩,
    ⟨some 2, none, .v fun s => some (s.get 54)⟩,
    ⟨some 3, none, .v fun s => some (.int .i64 0)⟩] K s := (den_reg hf _ K s).trans (by kernel_rfl)
theorem ret_eq (K : List Item) (s : St) : den prog ann 43 (.code .ret :: K) s = finM true [fun s => some (s.get 2), fun s => some (s.get 3)] s := (den_ret hf K s).trans (by kernel_rfl)
theorem nil_eq (s : St) : den prog ann 43 [] s = finM true [fun s => some (s.get 2), fun s => some (s.get 3)] s := (den_nil hf s).trans (by kernel_rfl)
theorem inBlock_eq (id : Nat) (K : List Item) (s : St) : den prog ann 43 (.inBlock id :: K) s = den prog ann 43 K s := den_inBlock hf id K s
theorem exit_eq (id : Nat) (K : List Item) (s : St) : den prog ann 43 (.code (.exit id) :: K) s = exitV prog ann 43 (exitTo id K) s := den_exitV hf id K s
theorem call_eq (v0 : AV) (m : Mem) (h : closedL [v0] = true) : denC prog ann 43 [v0] m = (den prog ann 43 [.code b] ⟨[(0, v0)], 55, Mem.empty⟩).bind fun r => some (r.1, m) := (denC_pure hf (b := b) (by kernel_rfl) (by kernel_rfl) (by kernel_rfl) h m).trans (by kernel_rfl)
theorem pure_eq : (ann 43).pure = true := by kernel_rfl
attribute [simp] b_eq r0_eq r1_eq r2_eq i0_eq i0t_eq r3_eq i0e_eq r4_eq r5_eq k0_eq l0_eq r6_eq i1_eq i1t_eq i1e_eq k1_eq r7_eq r8_eq k2_eq l2_eq r9_eq i2_eq i2t_eq i2e_eq k3_eq r10_eq r11_eq r12_eq r13_eq r14_eq ret_eq nil_eq inBlock_eq exit_eq pure_eq
end watch_Clocks

namespace l09_WatchBefore
/-- pommel/pommellaw09.WatchBefore -/
noncomputable def b : Code := (Try.f6.body).getD .skip
theorem hf : prog.funcs[6]? = some Try.f6 := by kernel_rfl
noncomputable def r0 : Code := findReg b 0
noncomputable def r1 : Code := findReg b 1
noncomputable def r2 : Code := findReg b 2
noncomputable def r3 : Code := findReg b 3
noncomputable def r4 : Code := findReg b 4
noncomputable def i0 : Code := findCond b 0
noncomputable def i0t : Code := thenOf i0
noncomputable def i0e : Code := elseOf i0
noncomputable def r5 : Code := findReg b 5
noncomputable def r6 : Code := findReg b 6
noncomputable def i1 : Code := findCond b 1
noncomputable def i1t : Code := thenOf i1
noncomputable def i1e : Code := elseOf i1
noncomputable def r7 : Code := findReg b 7
noncomputable def r8 : Code := findReg b 8
noncomputable def i2 : Code := findCond b 2
noncomputable def i2t : Code := thenOf i2
noncomputable def i2e : Code := elseOf i2
noncomputable def r9 : Code := findReg b 9
noncomputable def r10 : Code := findReg b 10
noncomputable def r11 : Code := findReg b 11
theorem b_eq (K : List Item) (s : St) : den prog ann 6 (.code b :: K) s = den prog ann 6 (.code r0 :: .code r1 :: .code r2 :: .code r3 :: .code r4 :: .code i0 :: .code r8 :: .code i2 :: .code r10 :: .code r11 :: .code .ret :: K) s := den_flat hf (l := [r0, r1, r2, r3, r4, i0, r8, i2, r10, r11, .ret]) (by kernel_rfl) K s
theorem r0_eq (K : List Item) (s : St) : den prog ann 6 (.code r0 :: K) s = mreg prog ann 6 none [] none [] [
    ⟨some 3, none, .v fun s => frozenPtr (s.get 0)⟩,
    ⟨some 4, none, .v fun s => frozenPtr (s.get 1)⟩,
    ⟨some 5, none, .v fun s => frozenPtr (s.get 2)⟩,
    ⟨some 6, none, .v fun s => some (.bool false)⟩] K s := (den_reg hf _ K s).trans (by kernel_rfl)
theorem r1_eq (K : List Item) (s : St) : den prog ann 6 (.code r1 :: K) s = mreg prog ann 6 none [] none [7] [
    ⟨some 12, none, .v fun s => loadF true 2 (s.get 3)⟩,
    ⟨some 13, none, .c 0 (fun s => (.fn 17 [] [])) fun s => [(s.get 12)]⟩,
    ⟨some 7, none, .w false none fun s => newPtr s.m [.nils, .nils]⟩,
    ⟨none, none, .w false none fun s => stA true 2 s.m (s.get 7) (s.get 13)⟩] K s := (den_reg hf _ K s).trans (by kernel_rfl)
theorem r2_eq (K : List Item) (s : St) : den prog ann 6 (.code r2 :: K) s = mreg prog ann 6 none [] none [] [
    ⟨some 15, none, .v fun s => loadF true 2 (s.get 7)⟩,
    ⟨some 16, none, .v fun s => loadF true 2 (s.get 4)⟩,
    ⟨some 17, none, .v fun s => loadF true 2 (s.get 5)⟩,
    ⟨some 18, none, .c 0 (fun s => (.fn 32 [] [])) fun s => [(s.get 15), (s.get 16), (s.get 17)]⟩,
    ⟨some 14, none, .v fun s => some (s.get 18)⟩,
    ⟨some 19, none, .v fun s => extA (s.get 14) 0⟩,
    ⟨some 20, none, .v fun s => extA (s.get 14) 1⟩,
    ⟨some 8, none, .v fun s => some (s.get 19)⟩,
    ⟨some 9, none, .v fun s => some (s.get 20)⟩] K s := (den_reg hf _ K s).trans (by kernel_rfl)
theorem r3_eq (K : List Item) (s : St) : den prog ann 6 (.code r3 :: K) s = mreg prog ann 6 none [] none [] [
    ⟨some 10, none, .v fun s => some (.int .i64 0)⟩] K s := (den_reg hf _ K s).trans (by kernel_rfl)
theorem r4_eq (K : List Item) (s : St) : den prog ann 6 (.code r4 :: K) s = mreg prog ann 6 none [] none [] [
    ⟨some 21, none, .v fun s => loadF true 2 (s.get 7)⟩,
    ⟨some 22, none, .c 0 (fun s => (.fn 19 [] [])) fun s => [(s.get 21)]⟩,
    ⟨some 23, none, .v fun s => unA .not (s.get 22)⟩] K s := (den_reg hf _ K s).trans (by kernel_rfl)
theorem i0_eq (K : List Item) (s : St) : den prog ann 6 (.code i0 :: K) s = ifV prog ann 6 23 i0t i0e K s (s.get 23) := den_if hf (by kernel_rfl) K s
theorem i0t_eq (K : List Item) (s : St) : den prog ann 6 (.code i0t :: K) s = den prog ann 6 (.code r5 :: K) s := den_flat hf (l := [r5]) (by kernel_rfl) K s
theorem r5_eq (K : List Item) (s : St) : den prog ann 6 (.code r5 :: K) s = mreg prog ann 6 none [] none [] [
    ⟨some 10, none, .v fun s => some (.int .i64 1)⟩] K s := (den_reg hf _ K s).trans (by kernel_rfl)
theorem i0e_eq (K : List Item) (s : St) : den prog ann 6 (.code i0e :: K) s = den prog ann 6 (.code r6 :: .code i1 :: K) s := den_flat hf (l := [r6, i1]) (by kernel_rfl) K s
theorem r6_eq (K : List Item) (s : St) : den prog ann 6 (.code r6 :: K) s = mreg prog ann 6 none [] none [] [
    ⟨some 24, none, .v fun s => loadF true 2 (s.get 7)⟩,
    ⟨some 25, none, .v fun s => loadF true 2 (s.get 4)⟩,
    ⟨some 26, none, .c 0 (fun s => (.fn 33 [] [])) fun s => [(s.get 24), (s.get 25)]⟩,
    ⟨some 27, none, .v fun s => unA .not (s.get 26)⟩,
    ⟨some 28, none, .v fun s => some (s.get 27)⟩,
    ⟨some 29, some (28, false), .v fun s => loadF true 2 (s.get 7)⟩,
    ⟨some 30, some (28, false), .v fun s => loadF true 2 (s.get 5)⟩,
    ⟨some 31, some (28, false), .c 0 (fun s => (.fn 33 [] [])) fun s => [(s.get 29), (s.get 30)]⟩,
    ⟨some 32, some (28, false), .v fun s => unA .not (s.get 31)⟩,
    ⟨some 33, none, .v fun s => pickA (s.get 28) (.bool true) (s.get 32)⟩] K s := (den_reg hf _ K s).trans (by kernel_rfl)
theorem i1_eq (K : List Item) (s : St) : den prog ann 6 (.code i1 :: K) s = ifV prog ann 6 33 i1t i1e K s (s.get 33) := den_if hf (by kernel_rfl) K s
theorem i1t_eq (K : List Item) (s : St) : den prog ann 6 (.code i1t :: K) s = den prog ann 6 (.code r7 :: K) s := den_flat hf (l := [r7]) (by kernel_rfl) K s
theorem r7_eq (K : List Item) (s : St) : den prog ann 6 (.code r7 :: K) s = mreg prog ann 6 none [] none [] [
    ⟨some 10, none, .v fun s => some (.int .i64 2)⟩] K s := (den_reg hf _ K s).trans (by kernel_rfl)
theorem i1e_eq (K : List Item) (s : St) : den prog ann 6 (.code i1e :: K) s = den prog ann 6 (K) s := den_flat hf (l := []) (by kernel_rfl) K s
theorem r8_eq (K : List Item) (s : St) : den prog ann 6 (.code r8 :: K) s = mreg prog ann 6 (some [4, 5, 7, 8, 9, 10]) [] none [] [
    ⟨some 34, none, .v fun s => some (s.get 10)⟩,
    ⟨some 35, none, .v fun s => binA prog .neq 27 (s.get 34) (.int .i64 0)⟩] K s := (den_reg hf _ K s).trans (by kernel_rfl)
theorem i2_eq (K : List Item) (s : St) : den prog ann 6 (.code i2 :: K) s = ifV prog ann 6 35 i2t i2e K s (s.get 35) := den_if hf (by kernel_rfl) K s
theorem i2t_eq (K : List Item) (s : St) : den prog ann 6 (.code i2t :: K) s = den prog ann 6 (.code r9 :: .code .ret :: K) s := den_flat hf (l := [r9, .ret]) (by kernel_rfl) K s
theorem r9_eq (K : List Item) (s : St) : den prog ann 6 (.code r9 :: K) s = mreg prog ann 6 none [] none [] [
    ⟨some 36, none, .v fun s => some (s.get 8)⟩,
    ⟨some 37, none, .v fun s => unA .not (s.get 36)⟩,
    ⟨some 38, none, .v fun s => some (s.get 37)⟩,
    ⟨some 39, some (38, true), .v fun s => some (s.get 9)⟩,
    ⟨some 40, some (38, true), .v fun s => some (s.get 10)⟩,
    ⟨some 41, some (38, true), .v fun s => binA prog .eql 27 (s.get 39) (s.get 40)⟩,
    ⟨some 42, none, .v fun s => pickA (s.get 38) (s.get 41) (.bool false)⟩,
    ⟨some 43, none, .v fun s => some (s.get 42)⟩,
    ⟨some 44, some (43, true), .c 0 (fun s => (.fn 22 [] [])) fun s => []⟩,
    ⟨some 45, none, .v fun s => pickA (s.get 43) (s.get 44) (.bool false)⟩,
    ⟨some 6, none, .v fun s => some (s.get 45)⟩] K s := (den_reg hf _ K s).trans (by kernel_rfl)
theorem i2e_eq (K : List Item) (s : St) : den prog ann 6 (.code i2e :: K) s = den prog ann 6 (K) s := den_flat hf (l := []) (by kernel_rfl) K s
theorem r10_eq (K : List Item) (s : St) : den prog ann 6 (.code r10 :: K) s = mreg prog ann 6 none [] none [] [
    ⟨some 46, none, .v fun s => loadF true 2 (s.get 7)⟩,
    ⟨some 47, none, .c 2 (fun s => (.fn 34 [] [])) fun s => [(s.get 46)]⟩,
    ⟨some 11, none, .v fun s => some (s.get 47)⟩] K s := (den_reg hf _ K s).trans (by kernel_rfl)
theorem r11_draw : drawOk (fun g => (ann g).pure) (modeOf (ann 6) (idOf r11)) (frzOf (ann 6) (idOf r11)) (opsOf r11) = true := drawOk_of (an := [0, 0, 0, 6, 14, 30, 30, 94, 254, 510, 30, 1054, 3102, 8190, 16382, 30, 32798, 131070, 262142, 30, 524318, 2097150, 4194302, 8388607, 16777215, 33554431, 67108863, 134217727, 268435455, 536870911, 1073741823, 2147483647]) (by kernel_rfl) (by kernel_rfl)
theorem r11_eq (K : List Item) (s : St) : den prog ann 6 (.code r11 :: K) s = mreg prog ann 6 none [] (some 32) [] [
    ⟨some 48, none, .v fun s => some (s.get 8)⟩,
    ⟨some 49, none, .v fun s => loadF true 2 (s.get 4)⟩,
    ⟨some 50, none, .v fun s => loadF true 2 (s.get 5)⟩,
    ⟨some 51, none, .v fun s => binA prog .neq 50 (s.get 49) (s.get 50)⟩,
    ⟨some 52, none, .v fun s => some (s.get 51)⟩,
    ⟨some 53, some (52, true), .v fun s => some (s.get 11)⟩,
    ⟨some 54, some (52, true), .v fun s => fieldA 0 (s.get 5)⟩,
    ⟨some 55, some (52, true), .v fun s => loadF false 1 (s.get 54)⟩,
    ⟨some 56, some (52, true), .v fun s => idxSl 1 (s.get 53) (s.get 55)⟩,
    ⟨some 57, some (52, true), .v fun s => loadF false 1 (s.get 56)⟩,
    ⟨some 58, some (52, true), .v fun s => fieldA 1 (s.get 5)⟩,
    ⟨some 59, some (52, true), .v fun s => loadF false 1 (s.get 58)⟩,
    ⟨some 60, some (52, true), .v fun s => binA prog .sub 3 (s.get 59) (.int .i64 1)⟩,
    ⟨some 61, some (52, true), .v fun s => idxSl 1 (s.get 57) (s.get 60)⟩,
    ⟨some 62, some (52, true), .v fun s => loadF false 1 (s.get 61)⟩,
    ⟨some 63, some (52, true), .v fun s => fieldA 0 (s.get 4)⟩,
    ⟨some 64, some (52, true), .v fun s => loadF false 1 (s.get 63)⟩,
    ⟨some 65, some (52, true), .v fun s => idxSl 1 (s.get 62) (s.get 64)⟩,
    ⟨some 66, some (52, true), .v fun s => loadF false 1 (s.get 65)⟩,
    ⟨some 67, some (52, true), .v fun s => fieldA 1 (s.get 4)⟩,
    ⟨some 68, some (52, true), .v fun s => loadF false 1 (s.get 67)⟩,
    ⟨some 69, some (52, true), .v fun s => binA prog .geq 3 (s.get 66) (s.get 68)⟩,
    ⟨some 70, none, .v fun s => pickA (s.get 52) (s.get 69) (.bool false)⟩,
    ⟨some 71, none, .v fun s => binA prog .eql 4 (s.get 48) (s.get 70)⟩,
    ⟨some 72, none, .v fun s => some (s.get 71)⟩,
    ⟨some 73, some (72, true), .v fun s => some (s.get 9)⟩,
    ⟨some 74, some (72, true), .v fun s => binA prog .eql 27 (s.get 73) (.int .i64 0)⟩,
    ⟨some 75, none, .v fun s => pickA (s.get 72) (s.get 74) (.bool false)⟩,
    ⟨some 76, none, .v fun s => some (s.get 75)⟩,
    ⟨some 77, some (76, true), .c 0 (fun s => (.fn 22 [] [])) fun s => []⟩,
    ⟨some 78, none, .v fun s => pickA (s.get 76) (s.get 77) (.bool false)⟩,
    ⟨some 6, none, .v fun s => some (s.get 78)⟩] K s := (den_regD hf r11_draw K s).trans (by kernel_rfl)
theorem ret_eq (K : List Item) (s : St) : den prog ann 6 (.code .ret :: K) s = finM true [fun s => some (s.get 6)] s := (den_ret hf K s).trans (by kernel_rfl)
theorem nil_eq (s : St) : den prog ann 6 [] s = finM true [fun s => some (s.get 6)] s := (den_nil hf s).trans (by kernel_rfl)
theorem inBlock_eq (id : Nat) (K : List Item) (s : St) : den prog ann 6 (.inBlock id :: K) s = den prog ann 6 K s := den_inBlock hf id K s
theorem exit_eq (id : Nat) (K : List Item) (s : St) : den prog ann 6 (.code (.exit id) :: K) s = exitV prog ann 6 (exitTo id K) s := den_exitV hf id K s
theorem call_eq (v0 v1 v2 : AV) (m : Mem) (h : closedL [v0, v1, v2] = true) : denC prog ann 6 [v0, v1, v2] m = (den prog ann 6 [.code b] ⟨[(0, v0), (1, v1), (2, v2)], 79, Mem.empty⟩).bind fun r => some (r.1, m) := (denC_pure hf (b := b) (by kernel_rfl) (by kernel_rfl) (by kernel_rfl) h m).trans (by kernel_rfl)
theorem pure_eq : (ann 6).pure = true := by kernel_rfl
attribute [simp] b_eq r0_eq r1_eq r2_eq r3_eq r4_eq i0_eq i0t_eq r5_eq i0e_eq r6_eq i1_eq i1t_eq r7_eq i1e_eq r8_eq i2_eq i2t_eq r9_eq i2e_eq r10_eq r11_eq ret_eq nil_eq inBlock_eq exit_eq pure_eq
end l09_WatchBefore
end Go.Proofs.Ytdkmepjedjclkaa
