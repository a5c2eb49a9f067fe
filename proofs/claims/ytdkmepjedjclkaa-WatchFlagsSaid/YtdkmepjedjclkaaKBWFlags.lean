/-
  BODIES OF FUNCTIONS OF THE PROGRAM AS SMALL OPERATIONS (written by gen.py; checked by the kernel against the program). Conditions: none.
-/
import Derived.Test.YtdkmepjedjclkaaKAmH
set_option linter.all false
namespace Go.Proofs.Ytdkmepjedjclkaa
open Go.AM
open Go.Proofs.Try (prog)
set_option maxRecDepth 100000
set_option linter.all false

namespace l09_WatchFlags
/-- pommel/pommellaw09.WatchFlags -/
noncomputable def b : Code := (Try.f15.body).getD .skip
theorem hf : prog.funcs[15]? = some Try.f15 := by kernel_rfl
noncomputable def r0 : Code := findReg b 0
noncomputable def r1 : Code := findReg b 1
noncomputable def r2 : Code := findReg b 2
noncomputable def k0 : Code := findBlk b 0
noncomputable def l0 : Code := loopOf k0
noncomputable def L0 (x1 x5 x6 x7 : AV) (m : Mem) (K : List Item) : Option Res := den prog ann 15 (.code l0 :: .inLoop l0 :: .inBlock 0 :: K) ⟨[(1, x1), (5, x5), (6, x6), (7, x7)], 108, m⟩
noncomputable def r3 : Code := findReg b 3
noncomputable def i0 : Code := findCond b 0
noncomputable def i0t : Code := thenOf i0
noncomputable def i0e : Code := elseOf i0
noncomputable def k1 : Code := findBlk b 1
noncomputable def r5 : Code := findReg b 5
noncomputable def r4 : Code := findReg b 4
noncomputable def r6 : Code := findReg b 6
noncomputable def r7 : Code := findReg b 7
noncomputable def r8 : Code := findReg b 8
noncomputable def r9 : Code := findReg b 9
noncomputable def i1 : Code := findCond b 1
noncomputable def i1t : Code := thenOf i1
noncomputable def i1e : Code := elseOf i1
noncomputable def r10 : Code := findReg b 10
noncomputable def r11 : Code := findReg b 11
noncomputable def i2 : Code := findCond b 2
noncomputable def i2t : Code := thenOf i2
noncomputable def i2e : Code := elseOf i2
noncomputable def r12 : Code := findReg b 12
noncomputable def r13 : Code := findReg b 13
noncomputable def r14 : Code := findReg b 14
noncomputable def i3 : Code := findCond b 3
noncomputable def i3t : Code := thenOf i3
noncomputable def i3e : Code := elseOf i3
noncomputable def r15 : Code := findReg b 15
noncomputable def r16 : Code := findReg b 16
noncomputable def r17 : Code := findReg b 17
theorem b_eq (K : List Item) (s : St) : den prog ann 15 (.code b :: K) s = den prog ann 15 (.code r0 :: .code r1 :: .code r2 :: .code k0 :: .code r6 :: .code r7 :: .code r8 :: .code r9 :: .code i1 :: .code r17 :: .code .ret :: K) s := den_flat hf (l := [r0, r1, r2, k0, r6, r7, r8, r9, i1, r17, .ret]) (by kernel_rfl) K s
theorem r0_eq (K : List Item) (s : St) : den prog ann 15 (.code r0 :: K) s = mreg prog ann 15 none [] none [] [
    ⟨some 2, none, .v fun s => frozenPtr (s.get 0)⟩,
    ⟨some 4, none, .v fun s => some (.bool false)⟩] K s := (den_reg hf _ K s).trans (by kernel_rfl)
theorem r1_eq (K : List Item) (s : St) : den prog ann 15 (.code r1 :: K) s = mreg prog ann 15 none [] none [5] [
    ⟨some 14, none, .v fun s => loadF true 2 (s.get 2)⟩,
    ⟨some 15, none, .c 0 (fun s => (.fn 17 [] [])) fun s => [(s.get 14)]⟩,
    ⟨some 16, none, .w false none fun s => bslM s.m 0 (bslA 1 0 [.nils] [])⟩,
    ⟨some 5, none, .w false none fun s => newPtr s.m [.nils, .nils]⟩,
    ⟨none, none, .w false none fun s => stA true 2 s.m (s.get 5) (s.get 15)⟩,
    ⟨some 6, none, .v fun s => some (s.get 16)⟩] K s := (den_reg hf _ K s).trans (by kernel_rfl)
theorem r2_eq (K : List Item) (s : St) : den prog ann 15 (.code r2 :: K) s = mreg prog ann 15 none [] none [] [
    ⟨some 7, none, .v fun s => some (.int .i64 0)⟩] K s := (den_reg hf _ K s).trans (by kernel_rfl)
theorem k0_eq (K : List Item) (t : List (Nat × AV)) (m : Mem) : den prog ann 15 (.code k0 :: K) ⟨t, 108, m⟩ = L0 (get t 1) (get t 5) (get t 6) (get t 7) m K := den_loop_enter hf (b := l0) (id := 3) (l := [1, 5, 6, 7]) (by kernel_rfl) (by kernel_rfl) (by kernel_rfl) K _
theorem l0_eq (K : List Item) (t : List (Nat × AV)) (m : Mem) : den prog ann 15 (.inLoop l0 :: .inBlock 0 :: K) ⟨t, 108, m⟩ = L0 (get t 1) (get t 5) (get t 6) (get t 7) m K := den_loop_again hf (id := 3) (l := [1, 5, 6, 7]) (by kernel_rfl) (by kernel_rfl) (.inBlock 0 :: K) _
theorem L0_eq (x1 x5 x6 x7 : AV) (m : Mem) (K : List Item) : L0 x1 x5 x6 x7 m K = den prog ann 15 (.code r3 :: .code i0 :: .code k1 :: .code r4 :: .inLoop l0 :: .inBlock 0 :: K) ⟨[(1, x1), (5, x5), (6, x6), (7, x7)], 108, m⟩ := den_flat hf (l := [r3, i0, k1, r4]) (by kernel_rfl) _ _
theorem r3_eq (K : List Item) (s : St) : den prog ann 15 (.code r3 :: K) s = mreg prog ann 15 (some [1, 5, 6, 7]) [] none [] [
    ⟨some 17, none, .v fun s => some (s.get 7)⟩,
    ⟨some 18, none, .v fun s => some (s.get 1)⟩,
    ⟨some 19, none, .v fun s => lenSl (s.get 18)⟩,
    ⟨some 20, none, .v fun s => binA prog .lss 3 (s.get 17) (s.get 19)⟩,
    ⟨some 21, none, .v fun s => some (s.get 20)⟩,
    ⟨some 22, some (21, true), .v fun s => some (s.get 7)⟩,
    ⟨some 23, some (21, true), .v fun s => binA prog .leq 3 (s.get 22) (.int .i64 4)⟩,
    ⟨some 24, none, .v fun s => pickA (s.get 21) (s.get 23) (.bool false)⟩] K s := (den_reg hf _ K s).trans (by kernel_rfl)
theorem i0_eq (K : List Item) (s : St) : den prog ann 15 (.code i0 :: K) s = ifV prog ann 15 24 i0t i0e K s (s.get 24) := den_if hf (by kernel_rfl) K s
theorem i0t_eq (K : List Item) (s : St) : den prog ann 15 (.code i0t :: K) s = den prog ann 15 (K) s := den_flat hf (l := []) (by kernel_rfl) K s
theorem i0e_eq (K : List Item) (s : St) : den prog ann 15 (.code i0e :: K) s = den prog ann 15 (.code (.exit 0) :: K) s := den_flat hf (l := [(.exit 0)]) (by kernel_rfl) K s
theorem k1_eq (K : List Item) (s : St) : den prog ann 15 (.code k1 :: K) s = den prog ann 15 (.code r5 :: .inBlock 1 :: K) s := den_blk hf (b := blkOf k1) (l := [r5]) (by kernel_rfl) (by kernel_rfl) K s
theorem r5_draw : drawOk (fun g => (ann g).pure) (modeOf (ann 15) (idOf r5)) (frzOf (ann 15) (idOf r5)) (opsOf r5) = true := drawOk_of (an := [0, 0, 0, 0, 12, 28, 0, 0, 192, 448, 960, 1984, 4092, 8190, 16382, 32767, 65535]) (by kernel_rfl) (by kernel_rfl)
theorem r5_eq (K : List Item) (s : St) : den prog ann 15 (.code r5 :: K) s = mreg prog ann 15 none [] (some 17) [] [
    ⟨some 27, none, .v fun s => some (s.get 6)⟩,
    ⟨some 28, none, .v fun s => bslF 0 (bslA 1 0 [.bool false] [])⟩,
    ⟨some 29, none, .v fun s => some (s.get 1)⟩,
    ⟨some 30, none, .v fun s => some (s.get 7)⟩,
    ⟨some 31, none, .v fun s => idxSl 1 (s.get 29) (s.get 30)⟩,
    ⟨some 32, none, .v fun s => loadF false 1 (s.get 31)⟩,
    ⟨some 33, none, .v fun s => some (s.get 1)⟩,
    ⟨some 34, none, .v fun s => some (s.get 7)⟩,
    ⟨some 35, none, .v fun s => idxSl 1 (s.get 33) (s.get 34)⟩,
    ⟨some 36, none, .v fun s => loadF false 1 (s.get 35)⟩,
    ⟨some 37, none, .v fun s => lenSl (s.get 36)⟩,
    ⟨some 38, none, .v fun s => foldA min2A (s.get 37) [(.int .i64 8)]⟩,
    ⟨some 39, none, .v fun s => sliceSl 1 (s.get 32) none (some (s.get 38))⟩,
    ⟨some 40, none, .v fun s => appV 1 1 (s.get 28) (s.get 39)⟩,
    ⟨some 41, none, .v fun s => bslF 1 (bslA 1 1 [.nils] [(0, (s.get 40))])⟩,
    ⟨some 42, none, .w false (some 15) fun s => appendA 1 24 s.m (s.get 27) (s.get 41)⟩,
    ⟨some 6, none, .v fun s => some (s.get 42)⟩] K s := (den_regD hf r5_draw K s).trans (by kernel_rfl)
theorem r4_eq (K : List Item) (s : St) : den prog ann 15 (.code r4 :: K) s = mreg prog ann 15 (some [1, 5, 6, 7]) [] none [] [
    ⟨some 25, none, .v fun s => some (s.get 7)⟩,
    ⟨some 26, none, .v fun s => binA prog .add 3 (s.get 25) (.int .i64 1)⟩,
    ⟨some 7, none, .v fun s => some (s.get 26)⟩] K s := (den_reg hf _ K s).trans (by kernel_rfl)
theorem r6_eq (K : List Item) (s : St) : den prog ann 15 (.code r6 :: K) s = mreg prog ann 15 (some [5, 6]) [6] none [] [
    ⟨some 44, none, .v fun s => loadF true 2 (s.get 5)⟩,
    ⟨some 45, none, .v fun s => some (s.get 6)⟩,
    ⟨some 46, none, .c 2 (fun s => (.fn 55 [] [])) fun s => [(s.get 44), (s.get 45)]⟩,
    ⟨some 43, none, .v fun s => some (s.get 46)⟩,
    ⟨some 47, none, .v fun s => extA (s.get 43) 0⟩,
    ⟨some 48, none, .v fun s => extA (s.get 43) 1⟩,
    ⟨some 8, none, .v fun s => some (s.get 47)⟩,
    ⟨some 9, none, .v fun s => some (s.get 48)⟩] K s := (den_reg hf _ K s).trans (by kernel_rfl)
theorem r7_eq (K : List Item) (s : St) : den prog ann 15 (.code r7 :: K) s = mreg prog ann 15 none [] none [] [
    ⟨some 50, none, .v fun s => loadF true 2 (s.get 5)⟩,
    ⟨some 51, none, .v fun s => some (s.get 6)⟩,
    ⟨some 52, none, .c 2 (fun s => (.fn 56 [] [])) fun s => [(s.get 50), (s.get 51)]⟩,
    ⟨some 49, none, .v fun s => some (s.get 52)⟩,
    ⟨some 53, none, .v fun s => extA (s.get 49) 0⟩,
    ⟨some 54, none, .v fun s => extA (s.get 49) 1⟩,
    ⟨some 10, none, .v fun s => some (s.get 53)⟩,
    ⟨some 11, none, .v fun s => some (s.get 54)⟩] K s := (den_reg hf _ K s).trans (by kernel_rfl)
theorem r8_eq (K : List Item) (s : St) : den prog ann 15 (.code r8 :: K) s = mreg prog ann 15 none [] none [] [
    ⟨some 12, none, .v fun s => some (.int .i64 0)⟩] K s := (den_reg hf _ K s).trans (by kernel_rfl)
theorem r9_eq (K : List Item) (s : St) : den prog ann 15 (.code r9 :: K) s = mreg prog ann 15 none [] none [] [
    ⟨some 55, none, .v fun s => loadF true 2 (s.get 5)⟩,
    ⟨some 56, none, .c 0 (fun s => (.fn 19 [] [])) fun s => [(s.get 55)]⟩,
    ⟨some 57, none, .v fun s => unA .not (s.get 56)⟩] K s := (den_reg hf _ K s).trans (by kernel_rfl)
theorem i1_eq (K : List Item) (s : St) : den prog ann 15 (.code i1 :: K) s = ifV prog ann 15 57 i1t i1e K s (s.get 57) := den_if hf (by kernel_rfl) K s
theorem i1t_eq (K : List Item) (s : St) : den prog ann 15 (.code i1t :: K) s = den prog ann 15 (.code r10 :: K) s := den_flat hf (l := [r10]) (by kernel_rfl) K s
theorem r10_eq (K : List Item) (s : St) : den prog ann 15 (.code r10 :: K) s = mreg prog ann 15 none [] none [] [
    ⟨some 12, none, .v fun s => some (.int .i64 1)⟩] K s := (den_reg hf _ K s).trans (by kernel_rfl)
theorem i1e_eq (K : List Item) (s : St) : den prog ann 15 (.code i1e :: K) s = den prog ann 15 (.code r11 :: .code i2 :: K) s := den_flat hf (l := [r11, i2]) (by kernel_rfl) K s
theorem r11_eq (K : List Item) (s : St) : den prog ann 15 (.code r11 :: K) s = mreg prog ann 15 none [] none [] [
    ⟨some 58, none, .v fun s => loadF true 2 (s.get 5)⟩,
    ⟨some 59, none, .v fun s => some (s.get 6)⟩,
    ⟨some 60, none, .c 0 (fun s => (.fn 57 [] [])) fun s => [(s.get 58), (s.get 59)]⟩,
    ⟨some 61, none, .v fun s => unA .not (s.get 60)⟩] K s := (den_reg hf _ K s).trans (by kernel_rfl)
theorem i2_eq (K : List Item) (s : St) : den prog ann 15 (.code i2 :: K) s = ifV prog ann 15 61 i2t i2e K s (s.get 61) := den_if hf (by kernel_rfl) K s
theorem i2t_eq (K : List Item) (s : St) : den prog ann 15 (.code i2t :: K) s = den prog ann 15 (.code r12 :: K) s := den_flat hf (l := [r12]) (by kernel_rfl) K s
theorem r12_eq (K : List Item) (s : St) : den prog ann 15 (.code r12 :: K) s = mreg prog ann 15 none [] none [] [
    ⟨some 12, none, .v fun s => some (.int .i64 2)⟩] K s := (den_reg hf _ K s).trans (by kernel_rfl)
theorem i2e_eq (K : List Item) (s : St) : den prog ann 15 (.code i2e :: K) s = den prog ann 15 (.code r13 :: .code r14 :: .code i3 :: K) s := den_flat hf (l := [r13, r14, i3]) (by kernel_rfl) K s
theorem r13_eq (K : List Item) (s : St) : den prog ann 15 (.code r13 :: K) s = mreg prog ann 15 none [] none [] [
    ⟨some 62, none, .v fun s => loadF true 2 (s.get 5)⟩,
    ⟨some 63, none, .v fun s => some (s.get 6)⟩,
    ⟨some 64, none, .c 2 (fun s => (.fn 58 [] [])) fun s => [(s.get 62), (s.get 63)]⟩,
    ⟨some 13, none, .v fun s => some (s.get 64)⟩] K s := (den_reg hf _ K s).trans (by kernel_rfl)
theorem r14_eq (K : List Item) (s : St) : den prog ann 15 (.code r14 :: K) s = mreg prog ann 15 none [] none [] [
    ⟨some 65, none, .v fun s => some (s.get 13)⟩,
    ⟨some 66, none, .v fun s => lenSl (s.get 65)⟩,
    ⟨some 67, none, .v fun s => binA prog .gtr 3 (s.get 66) (.int .i64 0)⟩] K s := (den_reg hf _ K s).trans (by kernel_rfl)
theorem i3_eq (K : List Item) (s : St) : den prog ann 15 (.code i3 :: K) s = ifV prog ann 15 67 i3t i3e K s (s.get 67) := den_if hf (by kernel_rfl) K s
theorem i3t_eq (K : List Item) (s : St) : den prog ann 15 (.code i3t :: K) s = den prog ann 15 (.code r15 :: .code .ret :: K) s := den_flat hf (l := [r15, .ret]) (by kernel_rfl) K s
theorem r15_eq (K : List Item) (s : St) : den prog ann 15 (.code r15 :: K) s = mreg prog ann 15 none [] none [] [
    ⟨some 68, none, .v fun s => some (s.get 8)⟩,
    ⟨some 69, none, .v fun s => some (s.get 13)⟩,
    ⟨some 70, none, .c 0 (fun s => (.fn 59 [] [])) fun s => [(s.get 69)]⟩,
    ⟨some 71, none, .c 0 (fun s => (.fn 21 [] [])) fun s => [(s.get 68), (s.get 70)]⟩,
    ⟨some 72, none, .v fun s => some (s.get 71)⟩,
    ⟨some 73, some (72, true), .v fun s => some (s.get 9)⟩,
    ⟨some 74, some (72, true), .v fun s => binA prog .eql 27 (s.get 73) (.int .i64 0)⟩,
    ⟨some 75, none, .v fun s => pickA (s.get 72) (s.get 74) (.bool false)⟩,
    ⟨some 76, none, .v fun s => some (s.get 75)⟩,
    ⟨some 77, some (76, true), .v fun s => some (s.get 10)⟩,
    ⟨some 78, some (76, true), .v fun s => some (s.get 13)⟩,
    ⟨some 79, some (76, true), .c 0 (fun s => (.fn 60 [] [])) fun s => [(s.get 78)]⟩,
    ⟨some 80, some (76, true), .c 0 (fun s => (.fn 21 [] [])) fun s => [(s.get 77), (s.get 79)]⟩,
    ⟨some 81, none, .v fun s => pickA (s.get 76) (s.get 80) (.bool false)⟩,
    ⟨some 82, none, .v fun s => some (s.get 81)⟩,
    ⟨some 83, some (82, true), .v fun s => some (s.get 11)⟩,
    ⟨some 84, some (82, true), .v fun s => binA prog .eql 27 (s.get 83) (.int .i64 0)⟩,
    ⟨some 85, none, .v fun s => pickA (s.get 82) (s.get 84) (.bool false)⟩,
    ⟨some 86, none, .v fun s => some (s.get 85)⟩,
    ⟨some 87, some (86, true), .c 0 (fun s => (.fn 22 [] [])) fun s => []⟩,
    ⟨some 88, none, .v fun s => pickA (s.get 86) (s.get 87) (.bool false)⟩,
    ⟨some 4, none, .v fun s => some (s.get 88)⟩] K s := (den_reg hf _ K s).trans (by kernel_rfl)
theorem i3e_eq (K : List Item) (s : St) : den prog ann 15 (.code i3e :: K) s = den prog ann 15 (.code r16 :: K) s := den_flat hf (l := [r16]) (by kernel_rfl) K s
theorem r16_eq (K : List Item) (s : St) : den prog ann 15 (.code r16 :: K) s = mreg prog ann 15 none [] none [] [
    ⟨some 12, none, .v fun s => some (.int .i64 5)⟩] K s := (den_reg hf _ K s).trans (by kernel_rfl)
theorem r17_eq (K : List Item) (s : St) : den prog ann 15 (.code r17 :: K) s = mreg prog ann 15 (some [8, 9, 10, 11, 12]) [] none [] [
    ⟨some 89, none, .v fun s => some (s.get 8)⟩,
    ⟨some 90, none, .v fun s => lenSl (s.get 89)⟩,
    ⟨some 91, none, .v fun s => some (s.get 10)⟩,
    ⟨some 92, none, .v fun s => lenSl (s.get 91)⟩,
    ⟨some 93, none, .v fun s => binA prog .add 3 (s.get 90) (s.get 92)⟩,
    ⟨some 94, none, .v fun s => binA prog .eql 3 (s.get 93) (.int .i64 0)⟩,
    ⟨some 95, none, .v fun s => some (s.get 94)⟩,
    ⟨some 96, some (95, true), .v fun s => some (s.get 9)⟩,
    ⟨some 97, some (95, true), .v fun s => some (s.get 12)⟩,
    ⟨some 98, some (95, true), .v fun s => binA prog .eql 27 (s.get 96) (s.get 97)⟩,
    ⟨some 99, none, .v fun s => pickA (s.get 95) (s.get 98) (.bool false)⟩,
    ⟨some 100, none, .v fun s => some (s.get 99)⟩,
    ⟨some 101, some (100, true), .v fun s => some (s.get 11)⟩,
    ⟨some 102, some (100, true), .v fun s => some (s.get 12)⟩,
    ⟨some 103, some (100, true), .v fun s => binA prog .eql 27 (s.get 101) (s.get 102)⟩,
    ⟨some 104, none, .v fun s => pickA (s.get 100) (s.get 103) (.bool false)⟩,
    ⟨some 105, none, .v fun s => some (s.get 104)⟩,
    ⟨some 106, some (105, true), .c 0 (fun s => (.fn 22 [] [])) fun s => []⟩,
    ⟨some 107, none, .v fun s => pickA (s.get 105) (s.get 106) (.bool false)⟩,
    ⟨some 4, none, .v fun s => some (s.get 107)⟩] K s := (den_reg hf _ K s).trans (by kernel_rfl)
theorem ret_eq (K : List Item) (s : St) : den prog ann 15 (.code .ret :: K) s = finM true [fun s => some (s.get 4)] s := (den_ret hf K s).trans (by kernel_rfl)
theorem nil_eq (s : St) : den prog ann 15 [] s = finM true [fun s => some (s.get 4)] s := (den_nil hf s).trans (by kernel_rfl)
theorem inBlock_eq (id : Nat) (K : List Item) (s : St) : den prog ann 15 (.inBlock id :: K) s = den prog ann 15 K s := den_inBlock hf id K s
theorem exit_eq (id : Nat) (K : List Item) (s : St) : den prog ann 15 (.code (.exit id) :: K) s = exitV prog ann 15 (exitTo id K) s := den_exitV hf id K s
theorem call_eq (v0 v1 : AV) (m : Mem) (h : closedL [v0, v1] = true) : denC prog ann 15 [v0, v1] m = (den prog ann 15 [.code b] ⟨[(0, v0), (1, v1)], 108, Mem.empty⟩).bind fun r => some (r.1, m) := (denC_pure hf (b := b) (by kernel_rfl) (by kernel_rfl) (by kernel_rfl) h m).trans (by kernel_rfl)
theorem pure_eq : (ann 15).pure = true := by kernel_rfl
attribute [simp] b_eq r0_eq r1_eq r2_eq k0_eq l0_eq r3_eq i0_eq i0t_eq i0e_eq k1_eq r5_eq r4_eq r6_eq r7_eq r8_eq r9_eq i1_eq i1t_eq r10_eq i1e_eq r11_eq i2_eq i2t_eq r12_eq i2e_eq r13_eq r14_eq i3_eq i3t_eq r15_eq i3e_eq r16_eq r17_eq ret_eq nil_eq inBlock_eq exit_eq pure_eq
end l09_WatchFlags
end Go.Proofs.Ytdkmepjedjclkaa
