/-
  BODIES OF FUNCTIONS OF THE PROGRAM AS SMALL OPERATIONS (written by gen.py; checked by the kernel against the program). Conditions: none.
-/
import Derived.Test.YtdkmepjedjclkaaKAmH
set_option linter.all false
namespace Go.Proofs.Ytdkmepjedjclkaa
open Go.AM
open Go.Proofs.Try (prog)
set_option maxRecDepth 100000
set_option linter.all false

namespace l09_WatchLattice
/-- pommel/pommellaw09.WatchLattice -/
noncomputable def b : Code := (Try.f4.body).getD .skip
theorem hf : prog.funcs[4]? = some Try.f4 := by kernel_rfl
noncomputable def r0 : Code := findReg b 0
noncomputable def r1 : Code := findReg b 1
noncomputable def r2 : Code := findReg b 2
noncomputable def r3 : Code := findReg b 3
noncomputable def r4 : Code := findReg b 4
noncomputable def i0 : Code := findCond b 0
noncomputable def i0t : Code := thenOf i0
noncomputable def i0e : Code := elseOf i0
noncomputable def r5 : Code := findReg b 5
noncomputable def r6 : Code := findReg b 6
noncomputable def k0 : Code := findBlk b 0
noncomputable def l0 : Code := loopOf k0
noncomputable def L0 (x7 x64 x65 x66 : AV) (m : Mem) (K : List Item) : Option Res := den prog ann 4 (.code l0 :: .inLoop l0 :: .inBlock 0 :: K) ⟨[(7, x7), (64, x64), (65, x65), (66, x66)], 83, m⟩
noncomputable def r7 : Code := findReg b 7
noncomputable def i1 : Code := findCond b 1
noncomputable def i1t : Code := thenOf i1
noncomputable def i1e : Code := elseOf i1
noncomputable def k1 : Code := findBlk b 1
noncomputable def r8 : Code := findReg b 8
noncomputable def r9 : Code := findReg b 9
noncomputable def r10 : Code := findReg b 10
noncomputable def i2 : Code := findCond b 2
noncomputable def i2t : Code := thenOf i2
noncomputable def i2e : Code := elseOf i2
noncomputable def r11 : Code := findReg b 11
noncomputable def r12 : Code := findReg b 12
noncomputable def r13 : Code := findReg b 13
theorem b_eq (K : List Item) (s : St) : den prog ann 4 (.code b :: K) s = den prog ann 4 (.code r0 :: .code r1 :: .code r2 :: .code r3 :: .code r4 :: .code i0 :: .code r6 :: .code k0 :: .code r13 :: .code .ret :: K) s := den_flat hf (l := [r0, r1, r2, r3, r4, i0, r6, k0, r13, .ret]) (by kernel_rfl) K s
theorem r0_eq (K : List Item) (s : St) : den prog ann 4 (.code r0 :: K) s = mreg prog ann 4 none [] none [] [
    ⟨some 3, none, .v fun s => frozenPtr (s.get 0)⟩,
    ⟨some 4, none, .v fun s => frozenPtr (s.get 1)⟩,
    ⟨some 5, none, .v fun s => frozenPtr (s.get 2)⟩,
    ⟨some 6, none, .v fun s => some (.bool false)⟩] K s := (den_reg hf _ K s).trans (by kernel_rfl)
theorem r1_eq (K : List Item) (s : St) : den prog ann 4 (.code r1 :: K) s = mreg prog ann 4 none [] none [7] [
    ⟨some 16, none, .v fun s => loadF true 6 (s.get 3)⟩,
    ⟨some 17, none, .c 0 (fun s => (.fn 23 [] [])) fun s => [(s.get 16)]⟩,
    ⟨some 7, none, .w false none fun s => newPtr s.m [.nils, .nils]⟩,
    ⟨none, none, .w false none fun s => stA true 2 s.m (s.get 7) (s.get 17)⟩] K s := (den_reg hf _ K s).trans (by kernel_rfl)
theorem r2_draw : drawOk (fun g => (ann g).pure) (modeOf (ann 4) (idOf r2)) (frzOf (ann 4) (idOf r2)) (opsOf r2) = true := drawOk_of (an := [0, 0, 0, 6, 15, 31, 63, 63, 127, 511]) (by kernel_rfl) (by kernel_rfl)
theorem r2_eq (K : List Item) (s : St) : den prog ann 4 (.code r2 :: K) s = mreg prog ann 4 none [] (some 10) [] [
    ⟨some 19, none, .v fun s => loadF true 2 (s.get 7)⟩,
    ⟨some 20, none, .v fun s => loadF true 2 (s.get 7)⟩,
    ⟨some 21, none, .v fun s => loadF true 4 (s.get 4)⟩,
    ⟨some 22, none, .c 0 (fun s => (.fn 25 [] [])) fun s => [(s.get 20), (s.get 21)]⟩,
    ⟨some 23, none, .c 0 (fun s => (.fn 24 [] [])) fun s => [(s.get 19), (s.get 22)]⟩,
    ⟨some 18, none, .v fun s => some (s.get 23)⟩,
    ⟨some 24, none, .v fun s => extA (s.get 18) 0⟩,
    ⟨some 25, none, .v fun s => extA (s.get 18) 1⟩,
    ⟨some 8, none, .v fun s => some (s.get 24)⟩,
    ⟨some 9, none, .v fun s => some (s.get 25)⟩] K s := (den_regD hf r2_draw K s).trans (by kernel_rfl)
theorem r3_draw : drawOk (fun g => (ann g).pure) (modeOf (ann 4) (idOf r3)) (frzOf (ann 4) (idOf r3)) (opsOf r3) = true := drawOk_of (an := [0, 0, 0, 6, 15, 31, 63, 63, 127, 511]) (by kernel_rfl) (by kernel_rfl)
theorem r3_eq (K : List Item) (s : St) : den prog ann 4 (.code r3 :: K) s = mreg prog ann 4 none [] (some 10) [] [
    ⟨some 27, none, .v fun s => loadF true 2 (s.get 7)⟩,
    ⟨some 28, none, .v fun s => loadF true 2 (s.get 7)⟩,
    ⟨some 29, none, .v fun s => loadF true 4 (s.get 5)⟩,
    ⟨some 30, none, .c 0 (fun s => (.fn 25 [] [])) fun s => [(s.get 28), (s.get 29)]⟩,
    ⟨some 31, none, .c 0 (fun s => (.fn 26 [] [])) fun s => [(s.get 27), (s.get 30)]⟩,
    ⟨some 26, none, .v fun s => some (s.get 31)⟩,
    ⟨some 32, none, .v fun s => extA (s.get 26) 0⟩,
    ⟨some 33, none, .v fun s => extA (s.get 26) 1⟩,
    ⟨some 10, none, .v fun s => some (s.get 32)⟩,
    ⟨some 11, none, .v fun s => some (s.get 33)⟩] K s := (den_regD hf r3_draw K s).trans (by kernel_rfl)
theorem r4_eq (K : List Item) (s : St) : den prog ann 4 (.code r4 :: K) s = mreg prog ann 4 none [] none [] [
    ⟨some 34, none, .v fun s => some (s.get 9)⟩,
    ⟨some 35, none, .v fun s => binA prog .neq 27 (s.get 34) (.int .i64 0)⟩,
    ⟨some 36, none, .v fun s => some (s.get 35)⟩,
    ⟨some 37, some (36, false), .v fun s => some (s.get 11)⟩,
    ⟨some 38, some (36, false), .v fun s => binA prog .neq 27 (s.get 37) (.int .i64 0)⟩,
    ⟨some 39, none, .v fun s => pickA (s.get 36) (.bool true) (s.get 38)⟩,
    ⟨some 40, none, .v fun s => some (s.get 39)⟩,
    ⟨some 41, some (40, false), .v fun s => loadF true 2 (s.get 7)⟩,
    ⟨some 42, some (40, false), .v fun s => some (s.get 8)⟩,
    ⟨some 43, some (40, false), .c 0 (fun s => (.fn 27 [] [])) fun s => [(s.get 41), (s.get 42)]⟩,
    ⟨some 44, some (40, false), .v fun s => unA .not (s.get 43)⟩,
    ⟨some 45, none, .v fun s => pickA (s.get 40) (.bool true) (s.get 44)⟩,
    ⟨some 46, none, .v fun s => some (s.get 45)⟩,
    ⟨some 47, some (46, false), .v fun s => loadF true 2 (s.get 7)⟩,
    ⟨some 48, some (46, false), .v fun s => some (s.get 10)⟩,
    ⟨some 49, some (46, false), .c 0 (fun s => (.fn 27 [] [])) fun s => [(s.get 47), (s.get 48)]⟩,
    ⟨some 50, some (46, false), .v fun s => unA .not (s.get 49)⟩,
    ⟨some 51, none, .v fun s => pickA (s.get 46) (.bool true) (s.get 50)⟩,
    ⟨some 52, none, .v fun s => some (s.get 51)⟩,
    ⟨some 53, some (52, false), .c 0 (fun s => (.fn 22 [] [])) fun s => []⟩,
    ⟨some 54, some (52, false), .v fun s => unA .not (s.get 53)⟩,
    ⟨some 55, none, .v fun s => pickA (s.get 52) (.bool true) (s.get 54)⟩] K s := (den_reg hf _ K s).trans (by kernel_rfl)
theorem i0_eq (K : List Item) (s : St) : den prog ann 4 (.code i0 :: K) s = ifV prog ann 4 55 i0t i0e K s (s.get 55) := den_if hf (by kernel_rfl) K s
theorem i0t_eq (K : List Item) (s : St) : den prog ann 4 (.code i0t :: K) s = den prog ann 4 (.code r5 :: .code .ret :: K) s := den_flat hf (l := [r5, .ret]) (by kernel_rfl) K s
theorem r5_eq (K : List Item) (s : St) : den prog ann 4 (.code r5 :: K) s = mreg prog ann 4 none [] none [] [
    ⟨some 6, none, .v fun s => some (.bool false)⟩] K s := (den_reg hf _ K s).trans (by kernel_rfl)
theorem i0e_eq (K : List Item) (s : St) : den prog ann 4 (.code i0e :: K) s = den prog ann 4 (K) s := den_flat hf (l := []) (by kernel_rfl) K s
theorem r6_eq (K : List Item) (s : St) : den prog ann 4 (.code r6 :: K) s = mreg prog ann 4 none [] none [] [
    ⟨some 56, none, .v fun s => some (s.get 8)⟩,
    ⟨some 57, none, .v fun s => some (s.get 10)⟩,
    ⟨some 58, none, .v fun s => some (s.get 8)⟩,
    ⟨some 59, none, .v fun s => some (s.get 10)⟩,
    ⟨some 60, none, .c 0 (fun s => (.fn 28 [] [])) fun s => [(s.get 58), (s.get 59)]⟩,
    ⟨some 61, none, .v fun s => some (s.get 8)⟩,
    ⟨some 62, none, .v fun s => some (s.get 10)⟩,
    ⟨some 63, none, .c 0 (fun s => (.fn 29 [] [])) fun s => [(s.get 61), (s.get 62)]⟩,
    ⟨some 64, none, .v fun s => bslF 4 (bslA 1 4 [.nils] [(0, (s.get 56)), (1, (s.get 57)), (2, (s.get 60)), (3, (s.get 63))])⟩,
    ⟨some 65, none, .v fun s => lenSl (s.get 64)⟩,
    ⟨some 66, none, .v fun s => some (.int .i64 0)⟩] K s := (den_reg hf _ K s).trans (by kernel_rfl)
theorem k0_eq (K : List Item) (t : List (Nat × AV)) (m : Mem) : den prog ann 4 (.code k0 :: K) ⟨t, 83, m⟩ = L0 (get t 7) (get t 64) (get t 65) (get t 66) m K := den_loop_enter hf (b := l0) (id := 7) (l := [7, 64, 65, 66]) (by kernel_rfl) (by kernel_rfl) (by kernel_rfl) K _
theorem l0_eq (K : List Item) (t : List (Nat × AV)) (m : Mem) : den prog ann 4 (.inLoop l0 :: .inBlock 0 :: K) ⟨t, 83, m⟩ = L0 (get t 7) (get t 64) (get t 65) (get t 66) m K := den_loop_again hf (id := 7) (l := [7, 64, 65, 66]) (by kernel_rfl) (by kernel_rfl) (.inBlock 0 :: K) _
theorem L0_eq (x7 x64 x65 x66 : AV) (m : Mem) (K : List Item) : L0 x7 x64 x65 x66 m K = den prog ann 4 (.code r7 :: .code i1 :: .code k1 :: .code r12 :: .inLoop l0 :: .inBlock 0 :: K) ⟨[(7, x7), (64, x64), (65, x65), (66, x66)], 83, m⟩ := den_flat hf (l := [r7, i1, k1, r12]) (by kernel_rfl) _ _
theorem r7_eq (K : List Item) (s : St) : den prog ann 4 (.code r7 :: K) s = mreg prog ann 4 (some [7, 64, 65, 66]) [] none [] [
    ⟨some 67, none, .v fun s => binA prog .lss 3 (s.get 66) (s.get 65)⟩] K s := (den_reg hf _ K s).trans (by kernel_rfl)
theorem i1_eq (K : List Item) (s : St) : den prog ann 4 (.code i1 :: K) s = ifV prog ann 4 67 i1t i1e K s (s.get 67) := den_if hf (by kernel_rfl) K s
theorem i1t_eq (K : List Item) (s : St) : den prog ann 4 (.code i1t :: K) s = den prog ann 4 (K) s := den_flat hf (l := []) (by kernel_rfl) K s
theorem i1e_eq (K : List Item) (s : St) : den prog ann 4 (.code i1e :: K) s = den prog ann 4 (.code (.exit 0) :: K) s := den_flat hf (l := [(.exit 0)]) (by kernel_rfl) K s
theorem k1_eq (K : List Item) (s : St) : den prog ann 4 (.code k1 :: K) s = den prog ann 4 (.code r8 :: .code r9 :: .code r10 :: .code i2 :: .inBlock 1 :: K) s := den_blk hf (b := blkOf k1) (l := [r8, r9, r10, i2]) (by kernel_rfl) (by kernel_rfl) K s
theorem r8_eq (K : List Item) (s : St) : den prog ann 4 (.code r8 :: K) s = mreg prog ann 4 none [] none [] [
    ⟨some 68, none, .v fun s => idxSl 1 (s.get 64) (s.get 66)⟩,
    ⟨some 69, none, .v fun s => loadA false 1 s.m (s.get 68)⟩,
    ⟨some 13, none, .v fun s => some (s.get 69)⟩] K s := (den_reg hf _ K s).trans (by kernel_rfl)
theorem r9_eq (K : List Item) (s : St) : den prog ann 4 (.code r9 :: K) s = mreg prog ann 4 none [] none [] [
    ⟨some 71, none, .v fun s => loadF true 2 (s.get 7)⟩,
    ⟨some 72, none, .v fun s => some (s.get 13)⟩,
    ⟨some 73, none, .c 0 (fun s => (.fn 30 [] [])) fun s => [(s.get 71), (s.get 72)]⟩,
    ⟨some 70, none, .v fun s => some (s.get 73)⟩,
    ⟨some 74, none, .v fun s => extA (s.get 70) 0⟩,
    ⟨some 75, none, .v fun s => extA (s.get 70) 1⟩,
    ⟨some 14, none, .v fun s => some (s.get 74)⟩,
    ⟨some 15, none, .v fun s => some (s.get 75)⟩] K s := (den_reg hf _ K s).trans (by kernel_rfl)
theorem r10_eq (K : List Item) (s : St) : den prog ann 4 (.code r10 :: K) s = mreg prog ann 4 none [] none [] [
    ⟨some 76, none, .v fun s => some (s.get 14)⟩,
    ⟨some 77, none, .v fun s => unA .not (s.get 76)⟩,
    ⟨some 78, none, .v fun s => some (s.get 77)⟩,
    ⟨some 79, some (78, false), .v fun s => some (s.get 15)⟩,
    ⟨some 80, some (78, false), .v fun s => binA prog .neq 27 (s.get 79) (.int .i64 0)⟩,
    ⟨some 81, none, .v fun s => pickA (s.get 78) (.bool true) (s.get 80)⟩] K s := (den_reg hf _ K s).trans (by kernel_rfl)
theorem i2_eq (K : List Item) (s : St) : den prog ann 4 (.code i2 :: K) s = ifV prog ann 4 81 i2t i2e K s (s.get 81) := den_if hf (by kernel_rfl) K s
theorem i2t_eq (K : List Item) (s : St) : den prog ann 4 (.code i2t :: K) s = den prog ann 4 (.code r11 :: .code .ret :: K) s := den_flat hf (l := [r11, .ret]) (by kernel_rfl) K s
theorem r11_eq (K : List Item) (s : St) : den prog ann 4 (.code r11 :: K) s = mreg prog ann 4 none [] none [] [
    ⟨some 6, none, .v fun s => some (.bool false)⟩] K s := (den_reg hf _ K s).trans (by kernel_rfl)
theorem i2e_eq (K : List Item) (s : St) : den prog ann 4 (.code i2e :: K) s = den prog ann 4 (K) s := den_flat hf (l := []) (by kernel_rfl) K s
theorem r12_eq (K : List Item) (s : St) : den prog ann 4 (.code r12 :: K) s = mreg prog ann 4 (some [7, 64, 65, 66]) [] none [] [
    ⟨some 82, none, .v fun s => binA prog .add 3 (s.get 66) (.int .i64 1)⟩,
    ⟨some 66, none, .v fun s => some (s.get 82)⟩] K s := (den_reg hf _ K s).trans (by kernel_rfl)
theorem r13_eq (K : List Item) (s : St) : den prog ann 4 (.code r13 :: K) s = mreg prog ann 4 (some []) [] none [] [
    ⟨some 6, none, .v fun s => some (.bool true)⟩] K s := (den_reg hf _ K s).trans (by kernel_rfl)
theorem ret_eq (K : List Item) (s : St) : den prog ann 4 (.code .ret :: K) s = finM true [fun s => some (s.get 6)] s := (den_ret hf K s).trans (by kernel_rfl)
theorem nil_eq (s : St) : den prog ann 4 [] s = finM true [fun s => some (s.get 6)] s := (den_nil hf s).trans (by kernel_rfl)
theorem inBlock_eq (id : Nat) (K : List Item) (s : St) : den prog ann 4 (.inBlock id :: K) s = den prog ann 4 K s := den_inBlock hf id K s
theorem exit_eq (id : Nat) (K : List Item) (s : St) : den prog ann 4 (.code (.exit id) :: K) s = exitV prog ann 4 (exitTo id K) s := den_exitV hf id K s
theorem call_eq (v0 v1 v2 : AV) (m : Mem) (h : closedL [v0, v1, v2] = true) : denC prog ann 4 [v0, v1, v2] m = (den prog ann 4 [.code b] ⟨[(0, v0), (1, v1), (2, v2)], 83, Mem.empty⟩).bind fun r => some (r.1, m) := (denC_pure hf (b := b) (by kernel_rfl) (by kernel_rfl) (by kernel_rfl) h m).trans (by kernel_rfl)
theorem pure_eq : (ann 4).pure = true := by kernel_rfl
attribute [simp] b_eq r0_eq r1_eq r2_eq r3_eq r4_eq i0_eq i0t_eq r5_eq i0e_eq r6_eq k0_eq l0_eq r7_eq i1_eq i1t_eq i1e_eq k1_eq r8_eq r9_eq r10_eq i2_eq i2t_eq r11_eq i2e_eq r12_eq r13_eq ret_eq nil_eq inBlock_eq exit_eq pure_eq
end l09_WatchLattice
end Go.Proofs.Ytdkmepjedjclkaa
