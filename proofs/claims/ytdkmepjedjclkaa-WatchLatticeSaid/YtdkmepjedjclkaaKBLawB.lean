/-
  BODIES OF FUNCTIONS OF THE PROGRAM AS SMALL OPERATIONS (written by gen.py; checked by the kernel against the program). Conditions: none.
-/
import Derived.Test.YtdkmepjedjclkaaKAmH
set_option linter.all false
namespace Go.Proofs.Ytdkmepjedjclkaa
open Go.AM
open Go.Proofs.Try (prog)
set_option maxRecDepth 100000
set_option linter.all false

namespace l09_cutOf
/-- pommel/pommellaw09.cutOf -/
noncomputable def b : Code := (Try.f25.body).getD .skip
theorem hf : prog.funcs[25]? = some Try.f25 := by kernel_rfl
noncomputable def r0 : Code := findReg b 0
noncomputable def r1 : Code := findReg b 1
noncomputable def r2 : Code := findReg b 2
noncomputable def k0 : Code := findBlk b 0
noncomputable def l0 : Code := loopOf k0
noncomputable def L0 (x2 x3 x5 x6 : AV) (m : Mem) (K : List Item) : Option Res := den prog ann 25 (.code l0 :: .inLoop l0 :: .inBlock 0 :: K) ⟨[(2, x2), (3, x3), (5, x5), (6, x6)], 30, m⟩
noncomputable def r3 : Code := findReg b 3
noncomputable def i0 : Code := findCond b 0
noncomputable def i0t : Code := thenOf i0
noncomputable def i0e : Code := elseOf i0
noncomputable def k1 : Code := findBlk b 1
noncomputable def r5 : Code := findReg b 5
noncomputable def r4 : Code := findReg b 4
noncomputable def r6 : Code := findReg b 6
theorem b_eq (K : List Item) (s : St) : den prog ann 25 (.code b :: K) s = den prog ann 25 (.code r0 :: .code r1 :: .code r2 :: .code k0 :: .code r6 :: .code .ret :: K) s := den_flat hf (l := [r0, r1, r2, k0, r6, .ret]) (by kernel_rfl) K s
theorem r0_eq (K : List Item) (s : St) : den prog ann 25 (.code r0 :: K) s = mreg prog ann 25 none [] none [] [
    ⟨some 2, none, .v fun s => frozenPtr (s.get 0)⟩,
    ⟨some 3, none, .v fun s => frozenPtr (s.get 1)⟩,
    ⟨some 4, none, .v fun s => some (.nils)⟩] K s := (den_reg hf _ K s).trans (by kernel_rfl)
theorem r1_eq (K : List Item) (s : St) : den prog ann 25 (.code r1 :: K) s = mreg prog ann 25 none [] none [] [
    ⟨some 7, none, .w false none fun s => bslM s.m 0 (bslA 1 0 [.int .i64 0] [])⟩,
    ⟨some 5, none, .v fun s => some (s.get 7)⟩] K s := (den_reg hf _ K s).trans (by kernel_rfl)
theorem r2_eq (K : List Item) (s : St) : den prog ann 25 (.code r2 :: K) s = mreg prog ann 25 none [] none [] [
    ⟨some 6, none, .v fun s => some (.int .i64 0)⟩] K s := (den_reg hf _ K s).trans (by kernel_rfl)
theorem k0_eq (K : List Item) (t : List (Nat × AV)) (m : Mem) : den prog ann 25 (.code k0 :: K) ⟨t, 30, m⟩ = L0 (get t 2) (get t 3) (get t 5) (get t 6) m K := den_loop_enter hf (b := l0) (id := 3) (l := [2, 3, 5, 6]) (by kernel_rfl) (by kernel_rfl) (by kernel_rfl) K _
theorem l0_eq (K : List Item) (t : List (Nat × AV)) (m : Mem) : den prog ann 25 (.inLoop l0 :: .inBlock 0 :: K) ⟨t, 30, m⟩ = L0 (get t 2) (get t 3) (get t 5) (get t 6) m K := den_loop_again hf (id := 3) (l := [2, 3, 5, 6]) (by kernel_rfl) (by kernel_rfl) (.inBlock 0 :: K) _
theorem L0_eq (x2 x3 x5 x6 : AV) (m : Mem) (K : List Item) : L0 x2 x3 x5 x6 m K = den prog ann 25 (.code r3 :: .code i0 :: .code k1 :: .code r4 :: .inLoop l0 :: .inBlock 0 :: K) ⟨[(2, x2), (3, x3), (5, x5), (6, x6)], 30, m⟩ := den_flat hf (l := [r3, i0, k1, r4]) (by kernel_rfl) _ _
theorem r3_eq (K : List Item) (s : St) : den prog ann 25 (.code r3 :: K) s = mreg prog ann 25 (some [2, 3, 5, 6]) [] none [] [
    ⟨some 8, none, .v fun s => some (s.get 6)⟩,
    ⟨some 9, none, .v fun s => fieldA 0 (s.get 2)⟩,
    ⟨some 10, none, .v fun s => loadF false 1 (s.get 9)⟩,
    ⟨some 11, none, .v fun s => lenSl (s.get 10)⟩,
    ⟨some 12, none, .v fun s => binA prog .lss 3 (s.get 8) (s.get 11)⟩] K s := (den_reg hf _ K s).trans (by kernel_rfl)
theorem i0_eq (K : List Item) (s : St) : den prog ann 25 (.code i0 :: K) s = ifV prog ann 25 12 i0t i0e K s (s.get 12) := den_if hf (by kernel_rfl) K s
theorem i0t_eq (K : List Item) (s : St) : den prog ann 25 (.code i0t :: K) s = den prog ann 25 (K) s := den_flat hf (l := []) (by kernel_rfl) K s
theorem i0e_eq (K : List Item) (s : St) : den prog ann 25 (.code i0e :: K) s = den prog ann 25 (.code (.exit 0) :: K) s := den_flat hf (l := [(.exit 0)]) (by kernel_rfl) K s
theorem k1_eq (K : List Item) (s : St) : den prog ann 25 (.code k1 :: K) s = den prog ann 25 (.code r5 :: .inBlock 1 :: K) s := den_blk hf (b := blkOf k1) (l := [r5]) (by kernel_rfl) (by kernel_rfl) K s
theorem r5_draw : drawOk (fun g => (ann g).pure) (modeOf (ann 25) (idOf r5)) (frzOf (ann 25) (idOf r5)) (opsOf r5) = true := drawOk_of (an := [0, 0, 2, 6, 14, 0, 32, 0, 224, 480, 992, 2046, 4094, 8191, 16383]) (by kernel_rfl) (by kernel_rfl)
theorem r5_eq (K : List Item) (s : St) : den prog ann 25 (.code r5 :: K) s = mreg prog ann 25 none [] (some 15) [] [
    ⟨some 15, none, .v fun s => some (s.get 5)⟩,
    ⟨some 16, none, .v fun s => some (s.get 6)⟩,
    ⟨some 17, none, .v fun s => idxArr 4 1 (s.get 3) (s.get 16)⟩,
    ⟨some 18, none, .v fun s => loadF false 1 (s.get 17)⟩,
    ⟨some 19, none, .v fun s => convInt .i64 (s.get 18)⟩,
    ⟨some 20, none, .v fun s => fieldA 0 (s.get 2)⟩,
    ⟨some 21, none, .v fun s => loadF false 1 (s.get 20)⟩,
    ⟨some 22, none, .v fun s => some (s.get 6)⟩,
    ⟨some 23, none, .v fun s => idxSl 1 (s.get 21) (s.get 22)⟩,
    ⟨some 24, none, .v fun s => loadF false 1 (s.get 23)⟩,
    ⟨some 25, none, .v fun s => binA prog .add 3 (s.get 24) (.int .i64 1)⟩,
    ⟨some 26, none, .v fun s => binA prog .rem 3 (s.get 19) (s.get 25)⟩,
    ⟨some 27, none, .v fun s => bslF 1 (bslA 1 1 [.int .i64 0] [(0, (s.get 26))])⟩,
    ⟨some 28, none, .w false (some 13) fun s => appendA 1 8 s.m (s.get 15) (s.get 27)⟩,
    ⟨some 5, none, .v fun s => some (s.get 28)⟩] K s := (den_regD hf r5_draw K s).trans (by kernel_rfl)
theorem r4_eq (K : List Item) (s : St) : den prog ann 25 (.code r4 :: K) s = mreg prog ann 25 (some [2, 3, 5, 6]) [] none [] [
    ⟨some 13, none, .v fun s => some (s.get 6)⟩,
    ⟨some 14, none, .v fun s => binA prog .add 3 (s.get 13) (.int .i64 1)⟩,
    ⟨some 6, none, .v fun s => some (s.get 14)⟩] K s := (den_reg hf _ K s).trans (by kernel_rfl)
theorem r6_eq (K : List Item) (s : St) : den prog ann 25 (.code r6 :: K) s = mreg prog ann 25 (some [5]) [] none [] [
    ⟨some 29, none, .v fun s => some (s.get 5)⟩,
    ⟨some 4, none, .v fun s => some (s.get 29)⟩] K s := (den_reg hf _ K s).trans (by kernel_rfl)
theorem ret_eq (K : List Item) (s : St) : den prog ann 25 (.code .ret :: K) s = finM true [fun s => some (s.get 4)] s := (den_ret hf K s).trans (by kernel_rfl)
theorem nil_eq (s : St) : den prog ann 25 [] s = finM true [fun s => some (s.get 4)] s := (den_nil hf s).trans (by kernel_rfl)
theorem inBlock_eq (id : Nat) (K : List Item) (s : St) : den prog ann 25 (.inBlock id :: K) s = den prog ann 25 K s := den_inBlock hf id K s
theorem exit_eq (id : Nat) (K : List Item) (s : St) : den prog ann 25 (.code (.exit id) :: K) s = exitV prog ann 25 (exitTo id K) s := den_exitV hf id K s
theorem call_eq (v0 v1 : AV) (m : Mem) (h : closedL [v0, v1] = true) : denC prog ann 25 [v0, v1] m = (den prog ann 25 [.code b] ⟨[(0, v0), (1, v1)], 30, Mem.empty⟩).bind fun r => some (r.1, m) := (denC_pure hf (b := b) (by kernel_rfl) (by kernel_rfl) (by kernel_rfl) h m).trans (by kernel_rfl)
theorem pure_eq : (ann 25).pure = true := by kernel_rfl
attribute [simp] b_eq r0_eq r1_eq r2_eq k0_eq l0_eq r3_eq i0_eq i0t_eq i0e_eq k1_eq r5_eq r4_eq r6_eq ret_eq nil_eq inBlock_eq exit_eq pure_eq
end l09_cutOf

namespace l09_WatchBack
/-- pommel/pommellaw09.WatchBack -/
noncomputable def b : Code := (Try.f5.body).getD .skip
theorem hf : prog.funcs[5]? = some Try.f5 := by kernel_rfl
noncomputable def r0 : Code := findReg b 0
noncomputable def r1 : Code := findReg b 1
noncomputable def r2 : Code := findReg b 2
noncomputable def r3 : Code := findReg b 3
noncomputable def r4 : Code := findReg b 4
noncomputable def r5 : Code := findReg b 5
noncomputable def i0 : Code := findCond b 0
noncomputable def i0t : Code := thenOf i0
noncomputable def i0e : Code := elseOf i0
noncomputable def r6 : Code := findReg b 6
noncomputable def r7 : Code := findReg b 7
noncomputable def r8 : Code := findReg b 8
noncomputable def r9 : Code := findReg b 9
noncomputable def r10 : Code := findReg b 10
theorem b_eq (K : List Item) (s : St) : den prog ann 5 (.code b :: K) s = den prog ann 5 (.code r0 :: .code r1 :: .code r2 :: .code r3 :: .code r4 :: .code r5 :: .code i0 :: .code r7 :: .code r8 :: .code r9 :: .code r10 :: .code .ret :: K) s := den_flat hf (l := [r0, r1, r2, r3, r4, r5, i0, r7, r8, r9, r10, .ret]) (by kernel_rfl) K s
theorem r0_eq (K : List Item) (s : St) : den prog ann 5 (.code r0 :: K) s = mreg prog ann 5 none [] none [] [
    ⟨some 2, none, .v fun s => frozenPtr (s.get 0)⟩,
    ⟨some 3, none, .v fun s => frozenPtr (s.get 1)⟩,
    ⟨some 4, none, .v fun s => some (.bool false)⟩] K s := (den_reg hf _ K s).trans (by kernel_rfl)
theorem r1_eq (K : List Item) (s : St) : den prog ann 5 (.code r1 :: K) s = mreg prog ann 5 none [] none [5] [
    ⟨some 17, none, .v fun s => loadF true 6 (s.get 2)⟩,
    ⟨some 18, none, .c 0 (fun s => (.fn 23 [] [])) fun s => [(s.get 17)]⟩,
    ⟨some 5, none, .w false none fun s => newPtr s.m [.nils, .nils]⟩,
    ⟨none, none, .w false none fun s => stA true 2 s.m (s.get 5) (s.get 18)⟩] K s := (den_reg hf _ K s).trans (by kernel_rfl)
theorem r2_eq (K : List Item) (s : St) : den prog ann 5 (.code r2 :: K) s = mreg prog ann 5 none [] none [] [
    ⟨some 19, none, .v fun s => loadF true 2 (s.get 5)⟩,
    ⟨some 20, none, .v fun s => loadF true 4 (s.get 3)⟩,
    ⟨some 21, none, .c 2 (fun s => (.fn 25 [] [])) fun s => [(s.get 19), (s.get 20)]⟩,
    ⟨some 6, none, .v fun s => some (s.get 21)⟩] K s := (den_reg hf _ K s).trans (by kernel_rfl)
theorem r3_eq (K : List Item) (s : St) : den prog ann 5 (.code r3 :: K) s = mreg prog ann 5 none [] none [] [
    ⟨some 23, none, .v fun s => loadF true 2 (s.get 5)⟩,
    ⟨some 24, none, .v fun s => some (s.get 6)⟩,
    ⟨some 25, none, .c 2 (fun s => (.fn 24 [] [])) fun s => [(s.get 23), (s.get 24)]⟩,
    ⟨some 22, none, .v fun s => some (s.get 25)⟩,
    ⟨some 26, none, .v fun s => extA (s.get 22) 0⟩,
    ⟨some 27, none, .v fun s => extA (s.get 22) 1⟩,
    ⟨some 7, none, .v fun s => some (s.get 26)⟩,
    ⟨some 8, none, .v fun s => some (s.get 27)⟩] K s := (den_reg hf _ K s).trans (by kernel_rfl)
theorem r4_eq (K : List Item) (s : St) : den prog ann 5 (.code r4 :: K) s = mreg prog ann 5 none [] none [] [
    ⟨some 29, none, .v fun s => loadF true 2 (s.get 5)⟩,
    ⟨some 30, none, .v fun s => some (s.get 6)⟩,
    ⟨some 31, none, .c 2 (fun s => (.fn 26 [] [])) fun s => [(s.get 29), (s.get 30)]⟩,
    ⟨some 28, none, .v fun s => some (s.get 31)⟩,
    ⟨some 32, none, .v fun s => extA (s.get 28) 0⟩,
    ⟨some 33, none, .v fun s => extA (s.get 28) 1⟩,
    ⟨some 9, none, .v fun s => some (s.get 32)⟩,
    ⟨some 10, none, .v fun s => some (s.get 33)⟩] K s := (den_reg hf _ K s).trans (by kernel_rfl)
theorem r5_eq (K : List Item) (s : St) : den prog ann 5 (.code r5 :: K) s = mreg prog ann 5 none [] none [] [
    ⟨some 34, none, .v fun s => some (s.get 8)⟩,
    ⟨some 35, none, .v fun s => binA prog .neq 27 (s.get 34) (.int .i64 0)⟩,
    ⟨some 36, none, .v fun s => some (s.get 35)⟩,
    ⟨some 37, some (36, false), .v fun s => some (s.get 10)⟩,
    ⟨some 38, some (36, false), .v fun s => binA prog .neq 27 (s.get 37) (.int .i64 0)⟩,
    ⟨some 39, none, .v fun s => pickA (s.get 36) (.bool true) (s.get 38)⟩,
    ⟨some 40, none, .v fun s => some (s.get 39)⟩,
    ⟨some 41, some (40, false), .v fun s => loadF true 2 (s.get 5)⟩,
    ⟨some 42, some (40, false), .v fun s => some (s.get 7)⟩,
    ⟨some 43, some (40, false), .c 0 (fun s => (.fn 27 [] [])) fun s => [(s.get 41), (s.get 42)]⟩,
    ⟨some 44, some (40, false), .v fun s => unA .not (s.get 43)⟩,
    ⟨some 45, none, .v fun s => pickA (s.get 40) (.bool true) (s.get 44)⟩,
    ⟨some 46, none, .v fun s => some (s.get 45)⟩,
    ⟨some 47, some (46, false), .v fun s => loadF true 2 (s.get 5)⟩,
    ⟨some 48, some (46, false), .v fun s => some (s.get 9)⟩,
    ⟨some 49, some (46, false), .c 0 (fun s => (.fn 27 [] [])) fun s => [(s.get 47), (s.get 48)]⟩,
    ⟨some 50, some (46, false), .v fun s => unA .not (s.get 49)⟩,
    ⟨some 51, none, .v fun s => pickA (s.get 46) (.bool true) (s.get 50)⟩,
    ⟨some 52, none, .v fun s => some (s.get 51)⟩,
    ⟨some 53, some (52, false), .v fun s => some (s.get 7)⟩,
    ⟨some 54, some (52, false), .v fun s => some (s.get 6)⟩,
    ⟨some 55, some (52, false), .c 0 (fun s => (.fn 31 [] [])) fun s => [(s.get 53), (s.get 54)]⟩,
    ⟨some 56, some (52, false), .v fun s => unA .not (s.get 55)⟩,
    ⟨some 57, none, .v fun s => pickA (s.get 52) (.bool true) (s.get 56)⟩,
    ⟨some 58, none, .v fun s => some (s.get 57)⟩,
    ⟨some 59, some (58, false), .v fun s => some (s.get 6)⟩,
    ⟨some 60, some (58, false), .v fun s => some (s.get 9)⟩,
    ⟨some 61, some (58, false), .c 0 (fun s => (.fn 31 [] [])) fun s => [(s.get 59), (s.get 60)]⟩,
    ⟨some 62, some (58, false), .v fun s => unA .not (s.get 61)⟩,
    ⟨some 63, none, .v fun s => pickA (s.get 58) (.bool true) (s.get 62)⟩,
    ⟨some 64, none, .v fun s => some (s.get 63)⟩,
    ⟨some 65, some (64, false), .c 0 (fun s => (.fn 22 [] [])) fun s => []⟩,
    ⟨some 66, some (64, false), .v fun s => unA .not (s.get 65)⟩,
    ⟨some 67, none, .v fun s => pickA (s.get 64) (.bool true) (s.get 66)⟩] K s := (den_reg hf _ K s).trans (by kernel_rfl)
theorem i0_eq (K : List Item) (s : St) : den prog ann 5 (.code i0 :: K) s = ifV prog ann 5 67 i0t i0e K s (s.get 67) := den_if hf (by kernel_rfl) K s
theorem i0t_eq (K : List Item) (s : St) : den prog ann 5 (.code i0t :: K) s = den prog ann 5 (.code r6 :: .code .ret :: K) s := den_flat hf (l := [r6, .ret]) (by kernel_rfl) K s
theorem r6_eq (K : List Item) (s : St) : den prog ann 5 (.code r6 :: K) s = mreg prog ann 5 none [] none [] [
    ⟨some 4, none, .v fun s => some (.bool false)⟩] K s := (den_reg hf _ K s).trans (by kernel_rfl)
theorem i0e_eq (K : List Item) (s : St) : den prog ann 5 (.code i0e :: K) s = den prog ann 5 (K) s := den_flat hf (l := []) (by kernel_rfl) K s
theorem r7_eq (K : List Item) (s : St) : den prog ann 5 (.code r7 :: K) s = mreg prog ann 5 none [] none [] [
    ⟨some 69, none, .v fun s => loadF true 2 (s.get 5)⟩,
    ⟨some 70, none, .v fun s => some (s.get 7)⟩,
    ⟨some 71, none, .c 2 (fun s => (.fn 24 [] [])) fun s => [(s.get 69), (s.get 70)]⟩,
    ⟨some 68, none, .v fun s => some (s.get 71)⟩,
    ⟨some 72, none, .v fun s => extA (s.get 68) 0⟩,
    ⟨some 73, none, .v fun s => extA (s.get 68) 1⟩,
    ⟨some 11, none, .v fun s => some (s.get 72)⟩,
    ⟨some 12, none, .v fun s => some (s.get 73)⟩] K s := (den_reg hf _ K s).trans (by kernel_rfl)
theorem r8_eq (K : List Item) (s : St) : den prog ann 5 (.code r8 :: K) s = mreg prog ann 5 none [] none [] [
    ⟨some 75, none, .v fun s => loadF true 2 (s.get 5)⟩,
    ⟨some 76, none, .v fun s => some (s.get 9)⟩,
    ⟨some 77, none, .c 2 (fun s => (.fn 26 [] [])) fun s => [(s.get 75), (s.get 76)]⟩,
    ⟨some 74, none, .v fun s => some (s.get 77)⟩,
    ⟨some 78, none, .v fun s => extA (s.get 74) 0⟩,
    ⟨some 79, none, .v fun s => extA (s.get 74) 1⟩,
    ⟨some 13, none, .v fun s => some (s.get 78)⟩,
    ⟨some 14, none, .v fun s => some (s.get 79)⟩] K s := (den_reg hf _ K s).trans (by kernel_rfl)
theorem r9_eq (K : List Item) (s : St) : den prog ann 5 (.code r9 :: K) s = mreg prog ann 5 none [] none [] [
    ⟨some 81, none, .v fun s => loadF true 2 (s.get 5)⟩,
    ⟨some 82, none, .v fun s => some (s.get 6)⟩,
    ⟨some 83, none, .c 0 (fun s => (.fn 30 [] [])) fun s => [(s.get 81), (s.get 82)]⟩,
    ⟨some 80, none, .v fun s => some (s.get 83)⟩,
    ⟨some 84, none, .v fun s => extA (s.get 80) 0⟩,
    ⟨some 85, none, .v fun s => extA (s.get 80) 1⟩,
    ⟨some 15, none, .v fun s => some (s.get 84)⟩,
    ⟨some 16, none, .v fun s => some (s.get 85)⟩] K s := (den_reg hf _ K s).trans (by kernel_rfl)
theorem r10_eq (K : List Item) (s : St) : den prog ann 5 (.code r10 :: K) s = mreg prog ann 5 none [] none [] [
    ⟨some 86, none, .v fun s => some (s.get 12)⟩,
    ⟨some 87, none, .v fun s => binA prog .eql 27 (s.get 86) (.int .i64 0)⟩,
    ⟨some 88, none, .v fun s => some (s.get 87)⟩,
    ⟨some 89, some (88, true), .v fun s => some (s.get 14)⟩,
    ⟨some 90, some (88, true), .v fun s => binA prog .eql 27 (s.get 89) (.int .i64 0)⟩,
    ⟨some 91, none, .v fun s => pickA (s.get 88) (s.get 90) (.bool false)⟩,
    ⟨some 92, none, .v fun s => some (s.get 91)⟩,
    ⟨some 93, some (92, true), .v fun s => some (s.get 16)⟩,
    ⟨some 94, some (92, true), .v fun s => binA prog .eql 27 (s.get 93) (.int .i64 0)⟩,
    ⟨some 95, none, .v fun s => pickA (s.get 92) (s.get 94) (.bool false)⟩,
    ⟨some 96, none, .v fun s => some (s.get 95)⟩,
    ⟨some 97, some (96, true), .v fun s => some (s.get 11)⟩,
    ⟨some 98, some (96, true), .v fun s => some (s.get 7)⟩,
    ⟨some 99, some (96, true), .c 0 (fun s => (.fn 21 [] [])) fun s => [(s.get 97), (s.get 98)]⟩,
    ⟨some 100, none, .v fun s => pickA (s.get 96) (s.get 99) (.bool false)⟩,
    ⟨some 101, none, .v fun s => some (s.get 100)⟩,
    ⟨some 102, some (101, true), .v fun s => some (s.get 13)⟩,
    ⟨some 103, some (101, true), .v fun s => some (s.get 9)⟩,
    ⟨some 104, some (101, true), .c 0 (fun s => (.fn 21 [] [])) fun s => [(s.get 102), (s.get 103)]⟩,
    ⟨some 105, none, .v fun s => pickA (s.get 101) (s.get 104) (.bool false)⟩,
    ⟨some 106, none, .v fun s => some (s.get 105)⟩,
    ⟨some 107, some (106, true), .v fun s => some (s.get 15)⟩,
    ⟨some 108, some (106, true), .v fun s => some (s.get 7)⟩,
    ⟨some 109, some (106, true), .v fun s => some (s.get 6)⟩,
    ⟨some 110, some (106, true), .c 0 (fun s => (.fn 21 [] [])) fun s => [(s.get 108), (s.get 109)]⟩,
    ⟨some 111, some (106, true), .v fun s => some (s.get 110)⟩,
    ⟨some 112, some (111, true), .v fun s => some (s.get 9)⟩,
    ⟨some 113, some (111, true), .v fun s => some (s.get 6)⟩,
    ⟨some 114, some (111, true), .c 0 (fun s => (.fn 21 [] [])) fun s => [(s.get 112), (s.get 113)]⟩,
    ⟨some 115, some (106, true), .v fun s => pickA (s.get 111) (s.get 114) (.bool false)⟩,
    ⟨some 116, some (106, true), .v fun s => binA prog .eql 4 (s.get 107) (s.get 115)⟩,
    ⟨some 117, none, .v fun s => pickA (s.get 106) (s.get 116) (.bool false)⟩,
    ⟨some 118, none, .v fun s => some (s.get 117)⟩,
    ⟨some 119, some (118, true), .v fun s => some (s.get 15)⟩,
    ⟨some 120, some (118, true), .v fun s => some (s.get 119)⟩,
    ⟨some 121, some (120, false), .v fun s => some (s.get 7)⟩,
    ⟨some 122, some (120, false), .v fun s => some (s.get 6)⟩,
    ⟨some 123, some (120, false), .c 0 (fun s => (.fn 21 [] [])) fun s => [(s.get 121), (s.get 122)]⟩,
    ⟨some 124, some (120, false), .v fun s => unA .not (s.get 123)⟩,
    ⟨some 125, some (120, false), .v fun s => some (s.get 124)⟩,
    ⟨some 126, some (125, true), .v fun s => some (s.get 9)⟩,
    ⟨some 127, some (125, true), .v fun s => some (s.get 6)⟩,
    ⟨some 128, some (125, true), .c 0 (fun s => (.fn 21 [] [])) fun s => [(s.get 126), (s.get 127)]⟩,
    ⟨some 129, some (125, true), .v fun s => unA .not (s.get 128)⟩,
    ⟨some 130, some (120, false), .v fun s => pickA (s.get 125) (s.get 129) (.bool false)⟩,
    ⟨some 131, some (118, true), .v fun s => pickA (s.get 120) (.bool true) (s.get 130)⟩,
    ⟨some 132, none, .v fun s => pickA (s.get 118) (s.get 131) (.bool false)⟩,
    ⟨some 4, none, .v fun s => some (s.get 132)⟩] K s := (den_reg hf _ K s).trans (by kernel_rfl)
theorem ret_eq (K : List Item) (s : St) : den prog ann 5 (.code .ret :: K) s = finM true [fun s => some (s.get 4)] s := (den_ret hf K s).trans (by kernel_rfl)
theorem nil_eq (s : St) : den prog ann 5 [] s = finM true [fun s => some (s.get 4)] s := (den_nil hf s).trans (by kernel_rfl)
theorem inBlock_eq (id : Nat) (K : List Item) (s : St) : den prog ann 5 (.inBlock id :: K) s = den prog ann 5 K s := den_inBlock hf id K s
theorem exit_eq (id : Nat) (K : List Item) (s : St) : den prog ann 5 (.code (.exit id) :: K) s = exitV prog ann 5 (exitTo id K) s := den_exitV hf id K s
theorem call_eq (v0 v1 : AV) (m : Mem) (h : closedL [v0, v1] = true) : denC prog ann 5 [v0, v1] m = (den prog ann 5 [.code b] ⟨[(0, v0), (1, v1)], 133, Mem.empty⟩).bind fun r => some (r.1, m) := (denC_pure hf (b := b) (by kernel_rfl) (by kernel_rfl) (by kernel_rfl) h m).trans (by kernel_rfl)
theorem pure_eq : (ann 5).pure = true := by kernel_rfl
attribute [simp] b_eq r0_eq r1_eq r2_eq r3_eq r4_eq r5_eq i0_eq i0t_eq r6_eq i0e_eq r7_eq r8_eq r9_eq r10_eq ret_eq nil_eq inBlock_eq exit_eq pure_eq
end l09_WatchBack
end Go.Proofs.Ytdkmepjedjclkaa
