/-
  BODIES OF FUNCTIONS OF THE PROGRAM AS SMALL OPERATIONS (written by gen.py; checked by the kernel against the program). Conditions: none.
-/
import Derived.Test.YtpghadmpegncgaaKAmH
import Derived.Test.YtpghadmpegncgaaK01
import Derived.Test.YtpghadmpegncgaaK00
import Derived.Test.YtpghadmpegncgaaKAmF
import Derived.Test.YtpghadmpegncgaaKAmE
set_option linter.all false
namespace Go.Proofs.Ytpghadmpegncgaa
open Go.AM
open Go.Proofs.Try (prog)
set_option maxRecDepth 100000
set_option linter.all false


namespace l04_cut
/-- pommel/pommellaw04.cut -/
noncomputable def b : Code := (Try.f21.body).getD .skip
theorem hf : prog.funcs[21]? = some Try.f21 := by kernel_rfl
noncomputable def r0 : Code := findReg b 0
noncomputable def r1 : Code := findReg b 1
theorem b_eq (K : List Item) (s : St) : den prog ann 21 (.code b :: K) s = den prog ann 21 (.code r0 :: .code r1 :: .code .ret :: K) s := den_flat hf (l := [r0, r1, .ret]) (by kernel_rfl) K s
theorem r0_eq (K : List Item) (s : St) : den prog ann 21 (.code r0 :: K) s = mreg prog ann 21 none [] none [] [
    ⟨some 2, none, .v fun s => some (.nils)⟩] K s := (den_reg hf _ K s).trans (by kernel_rfl)
theorem r1_eq (K : List Item) (s : St) : den prog ann 21 (.code r1 :: K) s = mreg prog ann 21 none [] none [] [
    ⟨some 3, none, .v fun s => bslF 0 (bslA 1 0 [.int .i64 0] [])⟩,
    ⟨some 4, none, .v fun s => some (s.get 0)⟩,
    ⟨some 5, none, .v fun s => some (s.get 0)⟩,
    ⟨some 6, none, .v fun s => lenSl (s.get 5)⟩,
    ⟨some 7, none, .v fun s => foldA min2A (s.get 6) [(.int .i64 41)]⟩,
    ⟨some 8, none, .v fun s => sliceSl 1 (s.get 4) none (some (s.get 7))⟩,
    ⟨some 9, none, .v fun s => appV 1 8 (s.get 3) (s.get 8)⟩,
    ⟨some 2, none, .v fun s => some (s.get 9)⟩] K s := (den_reg hf _ K s).trans (by kernel_rfl)
theorem ret_eq (K : List Item) (s : St) : den prog ann 21 (.code .ret :: K) s = finM true [fun s => some (s.get 2)] s := (den_ret hf K s).trans (by kernel_rfl)
theorem nil_eq (s : St) : den prog ann 21 [] s = finM true [fun s => some (s.get 2)] s := (den_nil hf s).trans (by kernel_rfl)
theorem inBlock_eq (id : Nat) (K : List Item) (s : St) : den prog ann 21 (.inBlock id :: K) s = den prog ann 21 K s := den_inBlock hf id K s
theorem exit_eq (id : Nat) (K : List Item) (s : St) : den prog ann 21 (.code (.exit id) :: K) s = exitV prog ann 21 (exitTo id K) s := den_exitV hf id K s
theorem call_eq (v0 : AV) (m : Mem) (h : closedL [v0] = true) : denC prog ann 21 [v0] m = (den prog ann 21 [.code b] ⟨[(0, v0)], 10, Mem.empty⟩).bind fun r => some (r.1, m) := (denC_pure hf (b := b) (by kernel_rfl) (by kernel_rfl) (by kernel_rfl) h m).trans (by kernel_rfl)
theorem pure_eq : (ann 21).pure = true := by kernel_rfl
attribute [simp] b_eq r0_eq r1_eq ret_eq nil_eq inBlock_eq exit_eq pure_eq
end l04_cut

namespace l04_many
/-- pommel/pommellaw04.many -/
noncomputable def b : Code := (Try.f28.body).getD .skip
theorem hf : prog.funcs[28]? = some Try.f28 := by kernel_rfl
noncomputable def r0 : Code := findReg b 0
noncomputable def r1 : Code := findReg b 1
noncomputable def k0 : Code := findBlk b 0
noncomputable def l0 : Code := loopOf k0
noncomputable def L0 (x0 x3 : AV) (m : Mem) (K : List Item) : Option Res := den prog ann 28 (.code l0 :: .inLoop l0 :: .inBlock 0 :: K) ⟨[(0, x0), (3, x3)], 15, m⟩
noncomputable def r2 : Code := findReg b 2
noncomputable def i0 : Code := findCond b 0
noncomputable def i0t : Code := thenOf i0
noncomputable def i0e : Code := elseOf i0
noncomputable def k1 : Code := findBlk b 1
noncomputable def r4 : Code := findReg b 4
noncomputable def i1 : Code := findCond b 1
noncomputable def i1t : Code := thenOf i1
noncomputable def i1e : Code := elseOf i1
noncomputable def r5 : Code := findReg b 5
noncomputable def r3 : Code := findReg b 3
noncomputable def r6 : Code := findReg b 6
theorem b_eq (K : List Item) (s : St) : den prog ann 28 (.code b :: K) s = den prog ann 28 (.code r0 :: .code r1 :: .code k0 :: .code r6 :: .code .ret :: K) s := den_flat hf (l := [r0, r1, k0, r6, .ret]) (by kernel_rfl) K s
theorem r0_eq (K : List Item) (s : St) : den prog ann 28 (.code r0 :: K) s = mreg prog ann 28 none [] none [] [
    ⟨some 2, none, .v fun s => some (.bool false)⟩] K s := (den_reg hf _ K s).trans (by kernel_rfl)
theorem r1_eq (K : List Item) (s : St) : den prog ann 28 (.code r1 :: K) s = mreg prog ann 28 none [] none [] [
    ⟨some 3, none, .v fun s => some (.int .i64 0)⟩] K s := (den_reg hf _ K s).trans (by kernel_rfl)
theorem k0_eq (K : List Item) (t : List (Nat × AV)) (m : Mem) : den prog ann 28 (.code k0 :: K) ⟨t, 15, m⟩ = L0 (get t 0) (get t 3) m K := den_loop_enter hf (b := l0) (id := 2) (l := [0, 3]) (by kernel_rfl) (by kernel_rfl) (by kernel_rfl) K _
theorem l0_eq (K : List Item) (t : List (Nat × AV)) (m : Mem) : den prog ann 28 (.inLoop l0 :: .inBlock 0 :: K) ⟨t, 15, m⟩ = L0 (get t 0) (get t 3) m K := den_loop_again hf (id := 2) (l := [0, 3]) (by kernel_rfl) (by kernel_rfl) (.inBlock 0 :: K) _
theorem L0_eq (x0 x3 : AV) (m : Mem) (K : List Item) : L0 x0 x3 m K = den prog ann 28 (.code r2 :: .code i0 :: .code k1 :: .code r3 :: .inLoop l0 :: .inBlock 0 :: K) ⟨[(0, x0), (3, x3)], 15, m⟩ := den_flat hf (l := [r2, i0, k1, r3]) (by kernel_rfl) _ _
theorem r2_eq (K : List Item) (s : St) : den prog ann 28 (.code r2 :: K) s = mreg prog ann 28 (some [0, 3]) [] none [] [
    ⟨some 4, none, .v fun s => some (s.get 3)⟩,
    ⟨some 5, none, .v fun s => some (s.get 0)⟩,
    ⟨some 6, none, .v fun s => lenSl (s.get 5)⟩,
    ⟨some 7, none, .v fun s => binA prog .lss 3 (s.get 4) (s.get 6)⟩] K s := (den_reg hf _ K s).trans (by kernel_rfl)
theorem i0_eq (K : List Item) (s : St) : den prog ann 28 (.code i0 :: K) s = ifV prog ann 28 7 i0t i0e K s (s.get 7) := den_if hf (by kernel_rfl) K s
theorem i0t_eq (K : List Item) (s : St) : den prog ann 28 (.code i0t :: K) s = den prog ann 28 (K) s := den_flat hf (l := []) (by kernel_rfl) K s
theorem i0e_eq (K : List Item) (s : St) : den prog ann 28 (.code i0e :: K) s = den prog ann 28 (.code (.exit 0) :: K) s := den_flat hf (l := [(.exit 0)]) (by kernel_rfl) K s
theorem k1_eq (K : List Item) (s : St) : den prog ann 28 (.code k1 :: K) s = den prog ann 28 (.code r4 :: .code i1 :: .inBlock 1 :: K) s := den_blk hf (b := blkOf k1) (l := [r4, i1]) (by kernel_rfl) (by kernel_rfl) K s
theorem r4_eq (K : List Item) (s : St) : den prog ann 28 (.code r4 :: K) s = mreg prog ann 28 none [] none [] [
    ⟨some 10, none, .v fun s => some (s.get 0)⟩,
    ⟨some 11, none, .v fun s => some (s.get 3)⟩,
    ⟨some 12, none, .v fun s => idxSl 1 (s.get 10) (s.get 11)⟩,
    ⟨some 13, none, .v fun s => loadF false 1 (s.get 12)⟩,
    ⟨some 14, none, .v fun s => binA prog .gtr 3 (s.get 13) (.int .i64 1)⟩] K s := (den_reg hf _ K s).trans (by kernel_rfl)
theorem i1_eq (K : List Item) (s : St) : den prog ann 28 (.code i1 :: K) s = ifV prog ann 28 14 i1t i1e K s (s.get 14) := den_if hf (by kernel_rfl) K s
theorem i1t_eq (K : List Item) (s : St) : den prog ann 28 (.code i1t :: K) s = den prog ann 28 (.code r5 :: .code .ret :: K) s := den_flat hf (l := [r5, .ret]) (by kernel_rfl) K s
theorem r5_eq (K : List Item) (s : St) : den prog ann 28 (.code r5 :: K) s = mreg prog ann 28 none [] none [] [
    ⟨some 2, none, .v fun s => some (.bool true)⟩] K s := (den_reg hf _ K s).trans (by kernel_rfl)
theorem i1e_eq (K : List Item) (s : St) : den prog ann 28 (.code i1e :: K) s = den prog ann 28 (K) s := den_flat hf (l := []) (by kernel_rfl) K s
theorem r3_eq (K : List Item) (s : St) : den prog ann 28 (.code r3 :: K) s = mreg prog ann 28 (some [0, 3]) [] none [] [
    ⟨some 8, none, .v fun s => some (s.get 3)⟩,
    ⟨some 9, none, .v fun s => binA prog .add 3 (s.get 8) (.int .i64 1)⟩,
    ⟨some 3, none, .v fun s => some (s.get 9)⟩] K s := (den_reg hf _ K s).trans (by kernel_rfl)
theorem r6_eq (K : List Item) (s : St) : den prog ann 28 (.code r6 :: K) s = mreg prog ann 28 (some []) [] none [] [
    ⟨some 2, none, .v fun s => some (.bool false)⟩] K s := (den_reg hf _ K s).trans (by kernel_rfl)
theorem ret_eq (K : List Item) (s : St) : den prog ann 28 (.code .ret :: K) s = finM true [fun s => some (s.get 2)] s := (den_ret hf K s).trans (by kernel_rfl)
theorem nil_eq (s : St) : den prog ann 28 [] s = finM true [fun s => some (s.get 2)] s := (den_nil hf s).trans (by kernel_rfl)
theorem inBlock_eq (id : Nat) (K : List Item) (s : St) : den prog ann 28 (.inBlock id :: K) s = den prog ann 28 K s := den_inBlock hf id K s
theorem exit_eq (id : Nat) (K : List Item) (s : St) : den prog ann 28 (.code (.exit id) :: K) s = exitV prog ann 28 (exitTo id K) s := den_exitV hf id K s
theorem call_eq (v0 : AV) (m : Mem) (h : closedL [v0] = true) : denC prog ann 28 [v0] m = (den prog ann 28 [.code b] ⟨[(0, v0)], 15, Mem.empty⟩).bind fun r => some (r.1, m) := (denC_pure hf (b := b) (by kernel_rfl) (by kernel_rfl) (by kernel_rfl) h m).trans (by kernel_rfl)
theorem pure_eq : (ann 28).pure = true := by kernel_rfl
attribute [simp] b_eq r0_eq r1_eq k0_eq l0_eq r2_eq i0_eq i0t_eq i0e_eq k1_eq r4_eq i1_eq i1t_eq r5_eq i1e_eq r3_eq r6_eq ret_eq nil_eq inBlock_eq exit_eq pure_eq
end l04_many

namespace l04_StrapDistances
/-- pommel/pommellaw04.StrapDistances -/
noncomputable def b : Code := (Try.f6.body).getD .skip
theorem hf : prog.funcs[6]? = some Try.f6 := by kernel_rfl
noncomputable def r0 : Code := findReg b 0
noncomputable def r1 : Code := findReg b 1
noncomputable def r2 : Code := findReg b 2
noncomputable def r3 : Code := findReg b 3
noncomputable def r4 : Code := findReg b 4
noncomputable def r5 : Code := findReg b 5
noncomputable def r6 : Code := findReg b 6
noncomputable def i0 : Code := findCond b 0
noncomputable def i0t : Code := thenOf i0
noncomputable def i0e : Code := elseOf i0
noncomputable def r7 : Code := findReg b 7
noncomputable def r8 : Code := findReg b 8
noncomputable def i1 : Code := findCond b 1
noncomputable def i1t : Code := thenOf i1
noncomputable def i1e : Code := elseOf i1
noncomputable def r9 : Code := findReg b 9
noncomputable def r10 : Code := findReg b 10
noncomputable def i2 : Code := findCond b 2
noncomputable def i2t : Code := thenOf i2
noncomputable def i2e : Code := elseOf i2
noncomputable def r11 : Code := findReg b 11
noncomputable def r12 : Code := findReg b 12
noncomputable def r13 : Code := findReg b 13
theorem b_eq (K : List Item) (s : St) : den prog ann 6 (.code b :: K) s = den prog ann 6 (.code r0 :: .code r1 :: .code r2 :: .code r3 :: .code r4 :: .code r5 :: .code r6 :: .code i0 :: .code r8 :: .code i1 :: .code r10 :: .code i2 :: .code r12 :: .code r13 :: .code .ret :: K) s := den_flat hf (l := [r0, r1, r2, r3, r4, r5, r6, i0, r8, i1, r10, i2, r12, r13, .ret]) (by kernel_rfl) K s
theorem r0_eq (K : List Item) (s : St) : den prog ann 6 (.code r0 :: K) s = mreg prog ann 6 none [] none [] [
    ⟨some 2, none, .v fun s => some (.bool false)⟩] K s := (den_reg hf _ K s).trans (by kernel_rfl)
theorem r1_eq (K : List Item) (s : St) : den prog ann 6 (.code r1 :: K) s = mreg prog ann 6 none [] none [] [
    ⟨some 12, none, .v fun s => some (s.get 0)⟩,
    ⟨some 13, none, .c 0 (fun s => (.fn 21 [] [])) fun s => [(s.get 12)]⟩,
    ⟨some 3, none, .v fun s => some (s.get 13)⟩] K s := (den_reg hf _ K s).trans (by kernel_rfl)
theorem r2_eq (K : List Item) (s : St) : den prog ann 6 (.code r2 :: K) s = mreg prog ann 6 none [] none [] [
    ⟨some 15, none, .v fun s => some (s.get 3)⟩,
    ⟨some 16, none, .c 0 (fun s => (.fn 22 [] [])) fun s => [(s.get 15)]⟩,
    ⟨some 14, none, .v fun s => some (s.get 16)⟩,
    ⟨some 17, none, .v fun s => extA (s.get 14) 0⟩,
    ⟨some 18, none, .v fun s => extA (s.get 14) 1⟩,
    ⟨some 4, none, .v fun s => some (s.get 17)⟩,
    ⟨some 5, none, .v fun s => some (s.get 18)⟩] K s := (den_reg hf _ K s).trans (by kernel_rfl)
theorem r3_eq (K : List Item) (s : St) : den prog ann 6 (.code r3 :: K) s = mreg prog ann 6 none [] none [] [
    ⟨some 20, none, .v fun s => some (s.get 3)⟩,
    ⟨some 21, none, .c 0 (fun s => (.fn 23 [] [])) fun s => [(s.get 20)]⟩,
    ⟨some 19, none, .v fun s => some (s.get 21)⟩,
    ⟨some 22, none, .v fun s => extA (s.get 19) 0⟩,
    ⟨some 23, none, .v fun s => extA (s.get 19) 1⟩,
    ⟨some 6, none, .v fun s => some (s.get 22)⟩,
    ⟨some 7, none, .v fun s => some (s.get 23)⟩] K s := (den_reg hf _ K s).trans (by kernel_rfl)
theorem r4_eq (K : List Item) (s : St) : den prog ann 6 (.code r4 :: K) s = mreg prog ann 6 none [] none [] [
    ⟨some 25, none, .v fun s => some (s.get 3)⟩,
    ⟨some 26, none, .c 0 (fun s => (.fn 24 [] [])) fun s => [(s.get 25)]⟩,
    ⟨some 24, none, .v fun s => some (s.get 26)⟩,
    ⟨some 27, none, .v fun s => extA (s.get 24) 0⟩,
    ⟨some 28, none, .v fun s => extA (s.get 24) 1⟩,
    ⟨some 8, none, .v fun s => some (s.get 27)⟩,
    ⟨some 9, none, .v fun s => some (s.get 28)⟩] K s := (den_reg hf _ K s).trans (by kernel_rfl)
theorem r5_eq (K : List Item) (s : St) : den prog ann 6 (.code r5 :: K) s = mreg prog ann 6 none [] none [] [
    ⟨some 29, none, .v fun s => some (s.get 3)⟩,
    ⟨some 30, none, .c 0 (fun s => (.fn 25 [] [])) fun s => [(s.get 29)]⟩,
    ⟨some 10, none, .v fun s => some (s.get 30)⟩] K s := (den_reg hf _ K s).trans (by kernel_rfl)
theorem r6_eq (K : List Item) (s : St) : den prog ann 6 (.code r6 :: K) s = mreg prog ann 6 none [] none [] [
    ⟨some 31, none, .v fun s => some (s.get 10)⟩,
    ⟨some 32, none, .v fun s => binA prog .neq 23 (s.get 31) (.int .i64 0)⟩] K s := (den_reg hf _ K s).trans (by kernel_rfl)
theorem i0_eq (K : List Item) (s : St) : den prog ann 6 (.code i0 :: K) s = ifV prog ann 6 32 i0t i0e K s (s.get 32) := den_if hf (by kernel_rfl) K s
theorem i0t_eq (K : List Item) (s : St) : den prog ann 6 (.code i0t :: K) s = den prog ann 6 (.code r7 :: .code .ret :: K) s := den_flat hf (l := [r7, .ret]) (by kernel_rfl) K s
theorem r7_eq (K : List Item) (s : St) : den prog ann 6 (.code r7 :: K) s = mreg prog ann 6 none [] none [] [
    ⟨some 33, none, .v fun s => some (s.get 4)⟩,
    ⟨some 34, none, .v fun s => lenSl (s.get 33)⟩,
    ⟨some 35, none, .v fun s => some (s.get 6)⟩,
    ⟨some 36, none, .v fun s => lenSl (s.get 35)⟩,
    ⟨some 37, none, .v fun s => binA prog .add 3 (s.get 34) (s.get 36)⟩,
    ⟨some 38, none, .v fun s => some (s.get 8)⟩,
    ⟨some 39, none, .v fun s => lenSl (s.get 38)⟩,
    ⟨some 40, none, .v fun s => binA prog .add 3 (s.get 37) (s.get 39)⟩,
    ⟨some 41, none, .v fun s => binA prog .eql 3 (s.get 40) (.int .i64 0)⟩,
    ⟨some 42, none, .v fun s => some (s.get 41)⟩,
    ⟨some 43, some (42, true), .v fun s => some (s.get 5)⟩,
    ⟨some 44, some (42, true), .v fun s => some (s.get 10)⟩,
    ⟨some 45, some (42, true), .v fun s => binA prog .eql 23 (s.get 43) (s.get 44)⟩,
    ⟨some 46, none, .v fun s => pickA (s.get 42) (s.get 45) (.bool false)⟩,
    ⟨some 47, none, .v fun s => some (s.get 46)⟩,
    ⟨some 48, some (47, true), .v fun s => some (s.get 7)⟩,
    ⟨some 49, some (47, true), .v fun s => some (s.get 10)⟩,
    ⟨some 50, some (47, true), .v fun s => binA prog .eql 23 (s.get 48) (s.get 49)⟩,
    ⟨some 51, none, .v fun s => pickA (s.get 47) (s.get 50) (.bool false)⟩,
    ⟨some 52, none, .v fun s => some (s.get 51)⟩,
    ⟨some 53, some (52, true), .v fun s => some (s.get 9)⟩,
    ⟨some 54, some (52, true), .v fun s => some (s.get 10)⟩,
    ⟨some 55, some (52, true), .v fun s => binA prog .eql 23 (s.get 53) (s.get 54)⟩,
    ⟨some 56, none, .v fun s => pickA (s.get 52) (s.get 55) (.bool false)⟩,
    ⟨some 57, none, .v fun s => some (s.get 56)⟩,
    ⟨some 58, some (57, true), .c 0 (fun s => (.fn 14 [] [])) fun s => []⟩,
    ⟨some 59, none, .v fun s => pickA (s.get 57) (s.get 58) (.bool false)⟩,
    ⟨some 2, none, .v fun s => some (s.get 59)⟩] K s := (den_reg hf _ K s).trans (by kernel_rfl)
theorem i0e_eq (K : List Item) (s : St) : den prog ann 6 (.code i0e :: K) s = den prog ann 6 (K) s := den_flat hf (l := []) (by kernel_rfl) K s
theorem r8_eq (K : List Item) (s : St) : den prog ann 6 (.code r8 :: K) s = mreg prog ann 6 none [] none [] [
    ⟨some 60, none, .v fun s => some (s.get 4)⟩,
    ⟨some 61, none, .v fun s => some (s.get 3)⟩,
    ⟨some 62, none, .c 0 (fun s => (.fn 26 [] [])) fun s => [(s.get 61)]⟩,
    ⟨some 63, none, .c 0 (fun s => (.fn 15 [] [])) fun s => [(s.get 60), (s.get 62)]⟩,
    ⟨some 64, none, .v fun s => unA .not (s.get 63)⟩,
    ⟨some 65, none, .v fun s => some (s.get 64)⟩,
    ⟨some 66, some (65, false), .v fun s => some (s.get 5)⟩,
    ⟨some 67, some (65, false), .v fun s => binA prog .neq 23 (s.get 66) (.int .i64 0)⟩,
    ⟨some 68, none, .v fun s => pickA (s.get 65) (.bool true) (s.get 67)⟩,
    ⟨some 69, none, .v fun s => some (s.get 68)⟩,
    ⟨some 70, some (69, false), .v fun s => some (s.get 6)⟩,
    ⟨some 71, some (69, false), .v fun s => some (s.get 3)⟩,
    ⟨some 72, some (69, false), .c 0 (fun s => (.fn 27 [] [])) fun s => [(s.get 71)]⟩,
    ⟨some 73, some (69, false), .c 0 (fun s => (.fn 15 [] [])) fun s => [(s.get 70), (s.get 72)]⟩,
    ⟨some 74, some (69, false), .v fun s => unA .not (s.get 73)⟩,
    ⟨some 75, none, .v fun s => pickA (s.get 69) (.bool true) (s.get 74)⟩,
    ⟨some 76, none, .v fun s => some (s.get 75)⟩,
    ⟨some 77, some (76, false), .v fun s => some (s.get 7)⟩,
    ⟨some 78, some (76, false), .v fun s => binA prog .neq 23 (s.get 77) (.int .i64 0)⟩,
    ⟨some 79, none, .v fun s => pickA (s.get 76) (.bool true) (s.get 78)⟩,
    ⟨some 80, none, .v fun s => some (s.get 79)⟩,
    ⟨some 81, some (80, false), .c 0 (fun s => (.fn 14 [] [])) fun s => []⟩,
    ⟨some 82, some (80, false), .v fun s => unA .not (s.get 81)⟩,
    ⟨some 83, none, .v fun s => pickA (s.get 80) (.bool true) (s.get 82)⟩] K s := (den_reg hf _ K s).trans (by kernel_rfl)
theorem i1_eq (K : List Item) (s : St) : den prog ann 6 (.code i1 :: K) s = ifV prog ann 6 83 i1t i1e K s (s.get 83) := den_if hf (by kernel_rfl) K s
theorem i1t_eq (K : List Item) (s : St) : den prog ann 6 (.code i1t :: K) s = den prog ann 6 (.code r9 :: .code .ret :: K) s := den_flat hf (l := [r9, .ret]) (by kernel_rfl) K s
theorem r9_eq (K : List Item) (s : St) : den prog ann 6 (.code r9 :: K) s = mreg prog ann 6 none [] none [] [
    ⟨some 2, none, .v fun s => some (.bool false)⟩] K s := (den_reg hf _ K s).trans (by kernel_rfl)
theorem i1e_eq (K : List Item) (s : St) : den prog ann 6 (.code i1e :: K) s = den prog ann 6 (K) s := den_flat hf (l := []) (by kernel_rfl) K s
theorem r10_eq (K : List Item) (s : St) : den prog ann 6 (.code r10 :: K) s = mreg prog ann 6 none [] none [] [
    ⟨some 84, none, .v fun s => some (s.get 3)⟩,
    ⟨some 85, none, .v fun s => lenSl (s.get 84)⟩,
    ⟨some 86, none, .v fun s => binA prog .gtr 3 (s.get 85) (.int .i64 14)⟩] K s := (den_reg hf _ K s).trans (by kernel_rfl)
theorem i2_eq (K : List Item) (s : St) : den prog ann 6 (.code i2 :: K) s = ifV prog ann 6 86 i2t i2e K s (s.get 86) := den_if hf (by kernel_rfl) K s
theorem i2t_eq (K : List Item) (s : St) : den prog ann 6 (.code i2t :: K) s = den prog ann 6 (.code r11 :: .code .ret :: K) s := den_flat hf (l := [r11, .ret]) (by kernel_rfl) K s
theorem r11_eq (K : List Item) (s : St) : den prog ann 6 (.code r11 :: K) s = mreg prog ann 6 none [] none [] [
    ⟨some 87, none, .v fun s => some (s.get 9)⟩,
    ⟨some 88, none, .v fun s => binA prog .eql 23 (s.get 87) (.int .i64 0)⟩,
    ⟨some 89, none, .v fun s => some (s.get 4)⟩,
    ⟨some 90, none, .c 0 (fun s => (.fn 28 [] [])) fun s => [(s.get 89)]⟩,
    ⟨some 91, none, .v fun s => binA prog .eql 4 (s.get 88) (s.get 90)⟩,
    ⟨some 2, none, .v fun s => some (s.get 91)⟩] K s := (den_reg hf _ K s).trans (by kernel_rfl)
theorem i2e_eq (K : List Item) (s : St) : den prog ann 6 (.code i2e :: K) s = den prog ann 6 (K) s := den_flat hf (l := []) (by kernel_rfl) K s
theorem r12_eq (K : List Item) (s : St) : den prog ann 6 (.code r12 :: K) s = mreg prog ann 6 none [] none [] [
    ⟨some 92, none, .v fun s => some (s.get 3)⟩,
    ⟨some 93, none, .c 0 (fun s => (.fn 29 [] [])) fun s => [(s.get 92)]⟩,
    ⟨some 11, none, .v fun s => some (s.get 93)⟩] K s := (den_reg hf _ K s).trans (by kernel_rfl)
theorem r13_eq (K : List Item) (s : St) : den prog ann 6 (.code r13 :: K) s = mreg prog ann 6 none [] none [] [
    ⟨some 94, none, .v fun s => some (s.get 8)⟩,
    ⟨some 95, none, .v fun s => some (s.get 11)⟩,
    ⟨some 96, none, .c 0 (fun s => (.fn 15 [] [])) fun s => [(s.get 94), (s.get 95)]⟩,
    ⟨some 97, none, .v fun s => some (s.get 96)⟩,
    ⟨some 98, some (97, true), .v fun s => some (s.get 9)⟩,
    ⟨some 99, some (97, true), .v fun s => binA prog .eql 23 (s.get 98) (.int .i64 0)⟩,
    ⟨some 100, some (97, true), .v fun s => some (s.get 11)⟩,
    ⟨some 101, some (97, true), .v fun s => binA prog .neq 22 (s.get 100) (.nils)⟩,
    ⟨some 102, some (97, true), .v fun s => binA prog .eql 4 (s.get 99) (s.get 101)⟩,
    ⟨some 103, none, .v fun s => pickA (s.get 97) (s.get 102) (.bool false)⟩,
    ⟨some 104, none, .v fun s => some (s.get 103)⟩,
    ⟨some 105, some (104, true), .v fun s => some (s.get 11)⟩,
    ⟨some 106, some (104, true), .v fun s => binA prog .neq 22 (s.get 105) (.nils)⟩,
    ⟨some 107, some (104, true), .v fun s => some (s.get 106)⟩,
    ⟨some 108, some (107, false), .v fun s => some (s.get 9)⟩,
    ⟨some 109, some (107, false), .v fun s => binA prog .eql 23 (s.get 108) (.int .i64 5)⟩,
    ⟨some 110, some (104, true), .v fun s => pickA (s.get 107) (.bool true) (s.get 109)⟩,
    ⟨some 111, none, .v fun s => pickA (s.get 104) (s.get 110) (.bool false)⟩,
    ⟨some 2, none, .v fun s => some (s.get 111)⟩] K s := (den_reg hf _ K s).trans (by kernel_rfl)
theorem ret_eq (K : List Item) (s : St) : den prog ann 6 (.code .ret :: K) s = finM true [fun s => some (s.get 2)] s := (den_ret hf K s).trans (by kernel_rfl)
theorem nil_eq (s : St) : den prog ann 6 [] s = finM true [fun s => some (s.get 2)] s := (den_nil hf s).trans (by kernel_rfl)
theorem inBlock_eq (id : Nat) (K : List Item) (s : St) : den prog ann 6 (.inBlock id :: K) s = den prog ann 6 K s := den_inBlock hf id K s
theorem exit_eq (id : Nat) (K : List Item) (s : St) : den prog ann 6 (.code (.exit id) :: K) s = exitV prog ann 6 (exitTo id K) s := den_exitV hf id K s
theorem call_eq (v0 : AV) (m : Mem) (h : closedL [v0] = true) : denC prog ann 6 [v0] m = (den prog ann 6 [.code b] ⟨[(0, v0)], 112, Mem.empty⟩).bind fun r => some (r.1, m) := (denC_pure hf (b := b) (by kernel_rfl) (by kernel_rfl) (by kernel_rfl) h m).trans (by kernel_rfl)
theorem pure_eq : (ann 6).pure = true := by kernel_rfl
attribute [simp] b_eq r0_eq r1_eq r2_eq r3_eq r4_eq r5_eq r6_eq i0_eq i0t_eq r7_eq i0e_eq r8_eq i1_eq i1t_eq r9_eq i1e_eq r10_eq i2_eq i2t_eq r11_eq i2e_eq r12_eq r13_eq ret_eq nil_eq inBlock_eq exit_eq pure_eq
end l04_StrapDistances
end Go.Proofs.Ytpghadmpegncgaa

/-
  STRAPS (4): the first distance that comes twice. Conditions: none.
-/
namespace Go.Proofs.Ytpghadmpegncgaa
open Go.AM
open Go.Proofs.Try (prog)
set_option linter.all false
set_option maxRecDepth 100000
set_option maxHeartbeats 4000000

def fstL (p : Nat → Bool) (k i : Nat) : Int := match (List.range' i k).find? p with | some d => (d : Int) | none => -1
theorem fstL_succ (p : Nat → Bool) (k i : Nat) : fstL p (k + 1) i = if p i = true then (i : Int) else fstL p k (i + 1) := by
  unfold fstL
  rw [List.range'_succ, List.find?_cons]
  cases h : p i <;> simp
def moreP (c : List Int) (d : Nat) : Bool := decide (1 < nth c d)
theorem more_spec (x : Int) (m : Mem) : denC prog ann 54 [.int .i64 x] m = some (.bool (decide (1 < x)), m) := by
  rw [strap_Twice_1.call_eq _ _ rfl]
  simp
  done
theorem ix_loop {w : AV} {c : List Int} (hw0 : IsInts w c) (hcl : c.length ≤ 1001) (m : Mem) : ∀ (k i : Nat), i + k = c.length →
    slices_IndexFunc_int.L0 w (.fn 54 [] []) (.int .i64 c.length) (.int .i64 i) m [.code slices_IndexFunc_int.r7, .code .ret] = some (.int .i64 (fstL (moreP c) k i), m) := by
  intro k
  induction k with
  | zero =>
    intro i h1
    have e : i = c.length := by omega
    subst e
    rw [slices_IndexFunc_int.L0_eq]
    simp [fstL]
    done
  | succ k ih =>
    intro i h1
    have hi : i < c.length := by omega
    have hw : IntKind.wrap .i64 ((i : Int) + 1) = (i : Int) + 1 := wrap_id (by omega) (by omega)
    have hst := ih (i + 1) (by omega)
    simp only [Int.natCast_add, Int.cast_ofNat_Int] at hst
    rw [fstL_succ, slices_IndexFunc_int.L0_eq]
    by_cases q : 1 < nth c i
    · rw [moreP, decide_eq_true q, if_pos rfl]
      simp [hi, hw0.idx hi, ints_head hi, more_spec, q]
      done
    · rw [moreP, decide_eq_false q, if_neg (by decide)]
      simp [hi, hw0.idx hi, ints_head hi, more_spec, q, hw, hst]
      done
theorem ix_spec {w : AV} {c : List Int} (hw0 : IsInts w c) (hcl : c.length ≤ 1001) (m : Mem) : denC prog ann 53 [w, .fn 54 [] []] m = some (.int .i64 (fstL (moreP c) c.length 0), m) := by
  have lp := ix_loop hw0 hcl m c.length 0 (by omega)
  simp only [Int.ofNat_zero, Int.cast_ofNat_Int] at lp
  rw [slices_IndexFunc_int.call_eq]
  simp [hw0.len, lp]
  done
theorem id_loop {w : AV} {c : List Int} (hw0 : IsInts w c) (hcl : c.length ≤ 1001) (x : Int) (m : Mem) : ∀ (k i : Nat), i + k = c.length →
    slices_Index_int.L0 w (.int .i64 x) (.int .i64 c.length) (.int .i64 i) m [.code slices_Index_int.r7, .code .ret] = some (.int .i64 (fstL (fun i => decide (x = nth c i)) k i), Mem.empty) := by
  intro k
  induction k with
  | zero =>
    intro i h1
    have e : i = c.length := by omega
    subst e
    rw [slices_Index_int.L0_eq]
    simp [fstL]
    done
  | succ k ih =>
    intro i h1
    have hi : i < c.length := by omega
    have hw : IntKind.wrap .i64 ((i : Int) + 1) = (i : Int) + 1 := wrap_id (by omega) (by omega)
    have hst := ih (i + 1) (by omega)
    simp only [Int.natCast_add, Int.cast_ofNat_Int] at hst
    rw [fstL_succ, slices_Index_int.L0_eq]
    by_cases q : x = nth c i
    · rw [decide_eq_true q, if_pos rfl]
      simp [hi, hw0.idx hi, ints_head hi, q]
      done
    · rw [decide_eq_false q, if_neg (by decide)]
      simp [hi, hw0.idx hi, ints_head hi, q, hw, hst]
      done
theorem fstL_mem (c : List Int) (x : Int) : decide (0 ≤ fstL (fun i => decide (x = nth c i)) c.length 0) = decide (x ∈ c) := by
  unfold fstL
  cases h : (List.range' 0 c.length).find? (fun i => decide (x = nth c i)) with
  | some d =>
    have h1 := List.find?_some h
    have h2 := List.mem_of_find?_eq_some h
    simp [List.mem_range'_1] at h1 h2
    have : x ∈ c := by rw [h1, ← nth_get h2]; exact List.getElem_mem h2
    simp [this]
  | none =>
    have h1 := List.find?_eq_none.1 h
    have : ¬ x ∈ c := fun hx => by
      obtain ⟨i, hi, e⟩ := List.getElem_of_mem hx
      rw [nth_get hi] at e
      exact h1 i (by simp [List.mem_range'_1, hi]) (by simp [e])
    simp [this]
theorem has_spec {w : AV} {c : List Int} (hw0 : IsInts w c) (hcl : c.length ≤ 1001) (x : Int) (m : Mem) : denC prog ann 49 [w, .int .i64 x] m = some (.bool (decide (x ∈ c)), m) := by
  have hcl2 : closedL [w, .int .i64 x] = true := by simp [hw0.closed]
  have lp := id_loop hw0 hcl x Mem.empty c.length 0 (by omega)
  simp only [Int.ofNat_zero, Int.cast_ofNat_Int] at lp
  have h67 : ∀ m, denC prog ann 67 [w, .int .i64 x] m = some (.int .i64 (fstL (fun i => decide (x = nth c i)) c.length 0), m) := fun m => by
    rw [slices_Index_int.call_eq _ _ _ hcl2]
    simp [hw0.len, lp]
    done
  rw [slices_Contains_int.call_eq _ _ _ hcl2]
  simp [hw0.closed, h67, fstL_mem]
  done

def twStep (l : List Int) (d : Nat) (acc : List Int) (a : Int) : List Int := if acc.length < 4 ∧ a + (d : Int) ∈ l then acc ++ [a, a + (d : Int)] else acc
theorem tw_loop {v : AV} {l : List Int} (hv : IsInts v l) (s : StrapOk l) (d : Nat) (hd : d ≤ 1001) : ∀ (k i oid : Nat) (acc : List Int) (m : Mem), i + k = l.length → OutI m oid acc → acc.length ≤ 2 * i →
    strap_Twice.L0 v (.int .i64 d) (outI oid acc) v (.int .i64 l.length) (.int .i64 i) m [.code strap_Twice.r14, .code .ret] = some (.tup [intsV ((l.drop i).foldl (twStep l d) acc), .int .i64 0], Mem.empty) := by
  have hfew := s.few
  intro k
  induction k with
  | zero =>
    intro i oid acc m h1 ho ha
    have e : i = l.length := by omega
    subst e
    have hd := outI_deep ho
    rw [strap_Twice.L0_eq]
    simp [hd]
    done
  | succ k ih =>
    intro i oid acc m h1 ho ha
    have hi : i < l.length := by omega
    have hw : IntKind.wrap .i64 ((i : Int) + 1) = (i : Int) + 1 := wrap_id (by omega) (by omega)
    have a1 := s.nonneg hi
    have a2 := s.most hi
    have hwd : IntKind.wrap .i64 (nth l i + (d : Int)) = nth l i + (d : Int) := wrap_id (by omega) (by omega)
    have hlen : lenSl (outI oid acc) = some (.int .i64 acc.length) := by
      by_cases e : acc = []
      · simp [outI, e]
      · simp [outI, e]
    have hh := fun m => has_spec hv (by omega) (nth l i + (d : Int)) m
    rw [drop_nth hi, List.foldl_cons]
    by_cases q1 : acc.length < 4
    · have q1' : (acc.length : Int) < 4 := by omega
      by_cases q2 : nth l i + (d : Int) ∈ l
      · obtain ⟨oid', m', g1, g2, g3⟩ := outI_app2 ho (by omega) (nth l i) (nth l i + (d : Int))
        have hst := ih (i + 1) oid' (acc ++ [nth l i, nth l i + (d : Int)]) m' (by omega) g2 (by simp; omega)
        simp only [Int.natCast_add, Int.cast_ofNat_Int] at hst
        rw [twStep, if_pos ⟨q1, q2⟩, strap_Twice.L0_eq]
        simp [hi, hv.idx hi, ints_head hi, hlen, q1', hwd, hv.closed, hh, q2, g1, hw, hst]
        done
      · have hst := ih (i + 1) oid acc m (by omega) ho (by omega)
        simp only [Int.natCast_add, Int.cast_ofNat_Int] at hst
        rw [twStep, if_neg (fun h => q2 h.2), strap_Twice.L0_eq]
        simp [hi, hv.idx hi, ints_head hi, hlen, q1', hwd, hv.closed, hh, q2, hw, hst]
        done
    · have q1' : ¬ (acc.length : Int) < 4 := by omega
      have hst := ih (i + 1) oid acc m (by omega) ho (by omega)
      simp only [Int.natCast_add, Int.cast_ofNat_Int] at hst
      rw [twStep, if_neg (fun h => q1 h.1), strap_Twice.L0_eq]
      simp [hi, hv.idx hi, ints_head hi, hlen, q1', hw, hst]
      done

/-- What Twice hands back. -/
inductive TwRes (l : List Int) : AV → Int → Int → Prop where
  | bad {e : Int} (h : e ≠ 0) : TwRes l .nils e e
  | none (s : StrapOk l) (h : fstL (moreP (counts l)) (counts l).length 0 < 0) : TwRes l .nils 0 5
  | ok {w : AV} {d : Nat} (s : StrapOk l) (h : fstL (moreP (counts l)) (counts l).length 0 = d) (i : IsInts w (l.foldl (twStep l d) [])) : TwRes l w 0 0
theorem fstL_lt (p : Nat → Bool) (n : Nat) : fstL p n 0 < n := by
  unfold fstL
  cases h : (List.range' 0 n).find? p with
  | some d =>
    have h2 := List.mem_of_find?_eq_some h
    simp [List.mem_range'_1] at h2
    show (d : Int) < n
    omega
  | none => show (-1 : Int) < n; omega
theorem tw_spec {v : AV} {l : List Int} (hv : IsInts v l) {e : Int} (he : StrapErr l e) (hc : ∀ m, denC prog ann 52 [v] m = some (.int .i64 e, m)) : ∃ w g, TwRes l w e g ∧ ∀ m, denC prog ann 24 [v] m = some (.tup [w, .int .i64 g], m) := by
  have hcl : closedL [v] = true := by simp [hv.closed]
  by_cases q : e = 0
  · have s : StrapOk l := by cases he <;> first | assumption | (exact absurd q (by decide))
    subst q
    have hw0 := intsV_is (counts l)
    have hix := fun m => ix_spec hw0 (counts_few s) m
    have hlt := fstL_lt (moreP (counts l)) (counts l).length
    have hfew := counts_few s
    by_cases q2 : fstL (moreP (counts l)) (counts l).length 0 < 0
    · refine ⟨_, _, .none s q2, fun m => ?_⟩
      rw [strap_Twice.call_eq _ _ hcl]
      simp [hc, hv.closed, counts_spec hv s, hix, q2]
      done
    · obtain ⟨d, hd⟩ : ∃ d : Nat, fstL (moreP (counts l)) (counts l).length 0 = d := ⟨(fstL (moreP (counts l)) (counts l).length 0).toNat, by omega⟩
      have lp := fun m => tw_loop hv s d (by omega) l.length 0 0 [] m (by omega) (fun h => absurd rfl h) (Nat.le_refl _)
      simp only [Int.ofNat_zero, Int.cast_ofNat_Int, List.drop_zero] at lp
      rw [show outI 0 [] = .nils from rfl] at lp
      refine ⟨_, _, .ok s hd (intsV_is _), fun m => ?_⟩
      rw [strap_Twice.call_eq _ _ hcl]
      simp [hc, hv.closed, counts_spec hv s, hix, hd, hv.len, lp]
      done
  · refine ⟨_, _, .bad q, fun m => ?_⟩
    rw [strap_Twice.call_eq _ _ hcl]
    simp [hc, q, hv.closed]
    done

/-! ### The law's own helpers -/
theorem many_loop {w : AV} {c : List Int} (hw0 : IsInts w c) (hcl : c.length ≤ 1001) (m : Mem) : ∀ (k i : Nat), i + k = c.length →
    l04_many.L0 w (.int .i64 i) m [.code l04_many.r6, .code .ret] = some (.bool (decide (0 ≤ fstL (moreP c) k i)), Mem.empty) := by
  intro k
  induction k with
  | zero =>
    intro i h1
    have e : i = c.length := by omega
    subst e
    rw [l04_many.L0_eq]
    simp [hw0.len, fstL]
    done
  | succ k ih =>
    intro i h1
    have hi : i < c.length := by omega
    have hw : IntKind.wrap .i64 ((i : Int) + 1) = (i : Int) + 1 := wrap_id (by omega) (by omega)
    have hst := ih (i + 1) (by omega)
    simp only [Int.natCast_add, Int.cast_ofNat_Int] at hst
    rw [fstL_succ, l04_many.L0_eq]
    by_cases q : 1 < nth c i
    · rw [moreP, decide_eq_true q, if_pos rfl]
      simp [hi, hw0.len, hw0.idx hi, ints_head hi, q]
      done
    · rw [moreP, decide_eq_false q, if_neg (by decide)]
      simp [hi, hw0.len, hw0.idx hi, ints_head hi, q, hw, hst]
      done
theorem many_spec {w : AV} {c : List Int} (hw0 : IsInts w c) (hcl : c.length ≤ 1001) (m : Mem) : denC prog ann 28 [w] m = some (.bool (decide (0 ≤ fstL (moreP c) c.length 0)), m) := by
  have lp := many_loop hw0 hcl Mem.empty c.length 0 (by omega)
  simp only [Int.ofNat_zero, Int.cast_ofNat_Int] at lp
  rw [l04_many.call_eq _ _ (by simp [hw0.closed])]
  simp [lp]
  done
theorem cut_spec {v : AV} {l : List Int} (hv : IsInts v l) : ∃ w, IsInts w (l.take 41) ∧ ∀ m, denC prog ann 21 [v] m = some (w, m) := by
  have hcl : closedL [v] = true := by simp [hv.closed]
  obtain ⟨w1, h1, h2⟩ := slice_ints hv (j := min (l.length : Int) 41) (by omega) (by omega)
  rw [show (min (l.length : Int) 41).toNat = (min (l.length : Int) (41 : Nat)).toNat from rfl, take_min] at h2
  obtain ⟨w2, h3, h4⟩ := app_ints h2 (by simp; omega)
  refine ⟨w2, h4, fun m => ?_⟩
  rw [l04_cut.call_eq _ _ hcl]
  simp [hv.len, h1, h3, h4.deep]
  done
end Go.Proofs.Ytpghadmpegncgaa

/-
  WHAT AN INPUT'S VALUE IS; equality of lists with nothing, and of truth values. Conditions: none.
-/
namespace Go.Proofs.Ytpghadmpegncgaa
open Go.AM
open Go.Proofs.Try (prog)
set_option linter.all false
set_option maxRecDepth 100000
theorem u3 : prog.underlying 3 = some (.int .i64) := by kernel_rfl
theorem u4 : prog.underlying 4 = some .bool := by kernel_rfl
theorem u22 : prog.underlying 22 = some (.slice 3) := by kernel_rfl
@[simp] theorem eql_nils : binA prog .eql 22 .nils .nils = some (.bool true) := by simp [binA, eqT, eqA, u22]
@[simp] theorem neq_nils : binA prog .neq 22 .nils .nils = some (.bool false) := by simp [binA, eqT, eqA, u22]
@[simp] theorem eql_fsl (ex : Bool) (n : Nat) (cs : List AV) : binA prog .eql 22 (.fsl ex n cs) .nils = some (.bool false) := by simp [binA, eqT, eqA, u22]
@[simp] theorem neq_fsl (ex : Bool) (n : Nat) (cs : List AV) : binA prog .neq 22 (.fsl ex n cs) .nils = some (.bool true) := by simp [binA, eqT, eqA, u22]
@[simp] theorem eql_bool (a b : Bool) : binA prog .eql 4 (.bool a) (.bool b) = some (.bool (a == b)) := by simp [binA, eqT, eqA, u4]

theorem dat3 {d : Nat} {cs : List AV} (h : Dat prog (d + 1) 3 cs) : ∃ n, cs = [.int .i64 n] ∧ I64 n := by
  simp only [Dat, u3] at h
  obtain ⟨n, rfl, hw⟩ := h
  refine ⟨n, rfl, ?_⟩
  simp only [Lit.wf, Bool.and_eq_true, decide_eq_true_eq] at hw
  have e1 : IntKind.min .i64 = -9223372036854775808 := by decide
  have e2 : IntKind.max .i64 = 9223372036854775807 := by decide
  rw [e1, e2] at hw
  exact hw

theorem parts_list {α : Type} (f : α → List AV) (R : List AV → Prop) (hR : ∀ p, R p → ∃ a, p = f a) : ∀ (parts : List (List AV)), (∀ p ∈ parts, R p) → ∃ l : List α, l.length = parts.length ∧ parts.flatten = flatC f l
  | [], _ => ⟨[], rfl, rfl⟩
  | p :: ps, h => by
    obtain ⟨a, e⟩ := hR p (h p (by simp))
    obtain ⟨l, h1, h2⟩ := parts_list f R hR ps (fun q hq => h q (by simp [hq]))
    exact ⟨a :: l, by simp [h1], by rw [List.flatten_cons, flatC_cons, e, h2]⟩

theorem flatC_ints : ∀ l : List Int, flatC (fun n => [AV.int .i64 n]) l = ints l
  | [] => rfl
  | a :: l => by rw [flatC_cons, flatC_ints l]; rfl

theorem dat22 {d : Nat} {cs : List AV} (h : Dat prog (d + 2) 22 cs) : ∃ v l, cs = [v] ∧ IsInts v l ∧ (l.length : Int) ≤ 9223372036854775807 := by
  rw [Dat] at h
  simp only [u22] at h
  rcases h with rfl | ⟨parts, rfl, hl, hp⟩
  · exact ⟨.nils, [], rfl, .inl ⟨rfl, rfl⟩, by simp⟩
  · obtain ⟨l, h1, h2⟩ := parts_list (fun n : Int => [AV.int .i64 n]) (fun p => ∃ n, p = [.int .i64 n]) (fun p h => h) parts (fun p hq => by obtain ⟨n, e, _⟩ := dat3 (hp p hq).2; exact ⟨n, e⟩)
    rw [flatC_ints] at h2
    refine ⟨_, l, rfl, .inr ⟨false, by rw [h1, h2]⟩, ?_⟩
    have : maxLen = 9223372036854775807 := by decide
    omega

theorem datV22 {d : Nat} {a : AV} (h : DatV prog (d + 2) 22 a) : ∃ l, IsInts a l ∧ (l.length : Int) ≤ 9223372036854775807 := by
  simp only [DatV, u22] at h
  obtain ⟨v, l, e, hn⟩ := dat22 h
  simp at e; subst e
  exact ⟨l, hn⟩
end Go.Proofs.Ytpghadmpegncgaa

/-
  STRAPS (5): the specification's four loops. Conditions: none.
-/
namespace Go.Proofs.Ytpghadmpegncgaa
open Go.AM
open Go.Proofs.Try (prog)
set_option linter.all false
set_option maxRecDepth 100000
set_option maxHeartbeats 8000000

/-- The best four so far: none, or four. -/
def bestV (b : List Int) : AV := if b = [] then .nils else .fsl true b.length (ints b)
def twC (b q : List Int) : Bool := decide (b = []) || (decide (nth q 1 - nth q 0 < nth b 1 - nth b 0) || (decide (nth q 1 - nth q 0 = nth b 1 - nth b 0) && lexLt [nth q 0, nth q 2] [nth b 0, nth b 2]))
def twQ (l : List Int) (i j m n : Nat) : List Int := [nth l i, nth l j, nth l m, nth l n]
def tw7 (l : List Int) (i j m n : Nat) (b : List Int) : List Int := if nth l j - nth l i = nth l n - nth l m then (if twC b (twQ l i j m n) = true then twQ l i j m n else b) else b
def tw6 (l : List Int) (i j m k n : Nat) (b : List Int) : List Int := (List.range' n k).foldl (fun b n => tw7 l i j m n b) b
def tw4 (l : List Int) (i j k m : Nat) (b : List Int) : List Int := (List.range' m k).foldl (fun b m => tw6 l i j m (l.length - (m + 1)) (m + 1) b) b
def tw2 (l : List Int) (i k j : Nat) (b : List Int) : List Int := (List.range' j k).foldl (fun b j => tw4 l i j (l.length - (i + 1)) (i + 1) b) b
def tw0 (l : List Int) (k i : Nat) (b : List Int) : List Int := (List.range' i k).foldl (fun b i => tw2 l i (l.length - (i + 1)) (i + 1) b) b
theorem tw6_succ (l : List Int) (i j m k n : Nat) (b : List Int) : tw6 l i j m (k + 1) n b = tw6 l i j m k (n + 1) (tw7 l i j m n b) := by simp [tw6, List.range'_succ]
theorem tw4_succ (l : List Int) (i j k m : Nat) (b : List Int) : tw4 l i j (k + 1) m b = tw4 l i j k (m + 1) (tw6 l i j m (l.length - (m + 1)) (m + 1) b) := by simp [tw4, List.range'_succ]
theorem tw2_succ (l : List Int) (i k j : Nat) (b : List Int) : tw2 l i (k + 1) j b = tw2 l i k (j + 1) (tw4 l i j (l.length - (i + 1)) (i + 1) b) := by simp [tw2, List.range'_succ]
theorem tw0_succ (l : List Int) (k i : Nat) (b : List Int) : tw0 l (k + 1) i b = tw0 l k (i + 1) (tw2 l i (l.length - (i + 1)) (i + 1) b) := by simp [tw0, List.range'_succ]
/-- The best is none, or four holes. -/
def Fit (b : List Int) : Prop := b = [] ∨ ∃ p q r t : Int, b = [p, q, r, t] ∧ (0 ≤ p ∧ p ≤ 1000) ∧ (0 ≤ q ∧ q ≤ 1000) ∧ 0 ≤ r ∧ r ≤ 1000
theorem Fit.step {l : List Int} (s : StrapOk l) {b : List Int} (h : Fit b) {i j m n : Nat} (hi : i < l.length) (hj : j < l.length) (hm : m < l.length) : Fit (tw7 l i j m n b) := by
  unfold tw7
  split
  · split
    · exact .inr ⟨_, _, _, _, rfl, ⟨s.nonneg hi, s.most hi⟩, ⟨s.nonneg hj, s.most hj⟩, s.nonneg hm, s.most hm⟩
    · exact h
  · exact h
theorem Fit.six {l : List Int} (s : StrapOk l) {i j m : Nat} (hi : i < l.length) (hj : j < l.length) (hm : m < l.length) : ∀ {k n : Nat} {b : List Int}, Fit b → Fit (tw6 l i j m k n b)
  | 0, _, _, h => h
  | k + 1, n, b, h => by rw [tw6_succ]; exact (h.step s hi hj hm).six s hi hj hm
theorem Fit.four {l : List Int} (s : StrapOk l) {i j : Nat} (hi : i < l.length) (hj : j < l.length) : ∀ {k m : Nat} {b : List Int}, m + k ≤ l.length → Fit b → Fit (tw4 l i j k m b)
  | 0, _, _, _, h => h
  | k + 1, m, b, hk, h => by rw [tw4_succ]; exact (h.six s hi hj (by omega)).four s hi hj (by omega)
theorem Fit.two {l : List Int} (s : StrapOk l) {i : Nat} (hi : i < l.length) : ∀ {k j : Nat} {b : List Int}, j + k ≤ l.length → Fit b → Fit (tw2 l i k j b)
  | 0, _, _, _, h => h
  | k + 1, j, b, hk, h => by rw [tw2_succ]; exact (h.four s hi (by omega) (by omega)).two s hi (by omega)

theorem tw_in {v : AV} {l : List Int} (hv : IsInts v l) (s : StrapOk l) {i j m : Nat} (hi : i < l.length) (hj : j < l.length) (hm : m < l.length) (K : List Item) : ∀ (k n : Nat) (b : List Int) (mem : Mem), n + k = l.length → Fit b →
    ∃ mem', r04_Twice.L6 v (bestV b) (.int .i64 i) (.int .i64 j) (.int .i64 m) (.int .i64 n) mem (.inBlock 5 :: .code r04_Twice.r10 :: .inLoop r04_Twice.l4 :: .inBlock 4 :: K) = r04_Twice.L4 v (bestV (tw6 l i j m k n b)) (.int .i64 i) (.int .i64 j) (.int .i64 ((m : Int) + 1)) mem' K := by
  intro k
  have hfew := s.few
  have hwm : IntKind.wrap .i64 ((m : Int) + 1) = (m : Int) + 1 := wrap_id (by omega) (by omega)
  have bi := s.nonneg hi
  have bi2 := s.most hi
  have bj := s.nonneg hj
  have bj2 := s.most hj
  have bm := s.nonneg hm
  have bm2 := s.most hm
  induction k with
  | zero =>
    intro n b mem h1 hf
    have e : n = l.length := by omega
    subst e
    refine ⟨mem, ?_⟩
    rw [r04_Twice.L6_eq]
    simp [hv.len, hwm, tw6]
    done
  | succ k ih =>
    intro n b mem h1 hf
    have hn : n < l.length := by omega
    have bn := s.nonneg hn
    have bn2 := s.most hn
    have hw : IntKind.wrap .i64 ((n : Int) + 1) = (n : Int) + 1 := wrap_id (by omega) (by omega)
    have w1 : IntKind.wrap .i64 (nth l j - nth l i) = nth l j - nth l i := wrap_id (by omega) (by omega)
    have w2 : IntKind.wrap .i64 (nth l n - nth l m) = nth l n - nth l m := wrap_id (by omega) (by omega)
    have hst := fun mem => ih (n + 1) (tw7 l i j m n b) mem (by omega) (hf.step s hi hj hm)
    simp only [Int.natCast_add, Int.cast_ofNat_Int] at hst
    rw [tw6_succ]
    generalize tw6 l i j m k (n + 1) (tw7 l i j m n b) = R at hst ⊢
    have i1 := hv.idx hi .i64
    have i2 := ints_head hi
    have j1 := hv.idx hj .i64
    have j2 := ints_head hj
    have m1 := hv.idx hm .i64
    have m2 := ints_head hm
    have n1 := hv.idx hn .i64
    have n2 := ints_head hn
    unfold tw7 twQ at hst
    generalize nth l i = a at *
    generalize nth l j = b' at *
    generalize nth l m = c at *
    generalize nth l n = d at *
    by_cases q : b' - a = d - c
    · rw [if_pos q] at hst
      rcases hf with rfl | ⟨p0, p1, p2, p3, rfl, ⟨f1, f2⟩, ⟨f3, f4⟩, f5, f6⟩
      · rw [show twC [] [a, b', c, d] = true from rfl, if_pos rfl] at hst
        obtain ⟨mem', g⟩ := hst ⟨mem.h, mem.nx + 19 + 18 + 53⟩
        refine ⟨mem', ?_⟩
        rw [← g, r04_Twice.L6_eq]
        simp [hv.len, hn, i1, i2, j1, j2, m1, m2, n1, n2, w1, w2, q, hw, bestV]
        done
      · have w3 : IntKind.wrap .i64 (p1 - p0) = p1 - p0 := wrap_id (by omega) (by omega)
        rw [q] at w1
        have hbf := fun m => before_spec (va := .fsl true 2 [.int .i64 a, .int .i64 c]) (vb := .fsl true 2 [.int .i64 p0, .int .i64 p2]) (a := [a, c]) (b := [p0, p2]) (.inr ⟨true, rfl⟩) (.inr ⟨true, rfl⟩) (by simp) m
        have hC : twC [p0, p1, p2, p3] [a, b', c, d] = (decide (b' - a < p1 - p0) || (decide (b' - a = p1 - p0) && lexLt [a, c] [p0, p2])) := rfl
        rw [hC, q] at hst
        by_cases q1 : d - c < p1 - p0
        · rw [decide_eq_true q1, Bool.true_or, if_pos rfl] at hst
          obtain ⟨mem', g⟩ := hst ⟨mem.h, mem.nx + 19 + 18 + 53⟩
          refine ⟨mem', ?_⟩
          rw [← g, r04_Twice.L6_eq]
          simp [hv.len, hn, i1, i2, j1, j2, m1, m2, n1, n2, w1, w2, w3, q, q1, hw, bestV]
          done
        · rw [decide_eq_false q1, Bool.false_or] at hst
          by_cases q2 : d - c = p1 - p0
          · rw [decide_eq_true q2, Bool.true_and] at hst
            rw [q2] at w1 w2
            cases q3 : lexLt [a, c] [p0, p2] with
            | true =>
              rw [q3, if_pos rfl] at hst
              rw [q3] at hbf
              obtain ⟨mem', g⟩ := hst ⟨mem.h, mem.nx + 19 + 18 + 53⟩
              refine ⟨mem', ?_⟩
              rw [← g, r04_Twice.L6_eq]
              simp [hv.len, hn, i1, i2, j1, j2, m1, m2, n1, n2, w1, w2, w3, q, q1, q2, hw, bestV, hbf]
              done
            | false =>
              rw [q3, if_neg (by decide)] at hst
              rw [q3] at hbf
              obtain ⟨mem', g⟩ := hst ⟨mem.h, mem.nx + 19 + 18 + 53⟩
              refine ⟨mem', ?_⟩
              rw [← g, r04_Twice.L6_eq]
              simp [hv.len, hn, i1, i2, j1, j2, m1, m2, n1, n2, w1, w2, w3, q, q1, q2, hw, bestV, hbf]
              done
          · rw [decide_eq_false q2, Bool.false_and, if_neg (by decide)] at hst
            obtain ⟨mem', g⟩ := hst ⟨mem.h, mem.nx + 19 + 18 + 53⟩
            refine ⟨mem', ?_⟩
            rw [← g, r04_Twice.L6_eq]
            simp [hv.len, hn, i1, i2, j1, j2, m1, m2, n1, n2, w1, w2, w3, q, q1, q2, hw, bestV]
            done
    · rw [if_neg q] at hst
      obtain ⟨mem', g⟩ := hst ⟨mem.h, mem.nx + 19⟩
      refine ⟨mem', ?_⟩
      rw [← g, r04_Twice.L6_eq]
      simp [hv.len, hn, i1, i2, j1, j2, m1, m2, n1, n2, w1, w2, q, hw]
      done
theorem tw_mid {v : AV} {l : List Int} (hv : IsInts v l) (s : StrapOk l) {i j : Nat} (hi : i < l.length) (hj : j < l.length) (K : List Item) : ∀ (k m : Nat) (b : List Int) (mem : Mem), m + k = l.length → Fit b →
    ∃ mem', r04_Twice.L4 v (bestV b) (.int .i64 i) (.int .i64 j) (.int .i64 m) mem (.inBlock 3 :: .code r04_Twice.r7 :: .inLoop r04_Twice.l2 :: .inBlock 2 :: K) = r04_Twice.L2 v (bestV (tw4 l i j k m b)) (.int .i64 i) (.int .i64 ((j : Int) + 1)) mem' K := by
  intro k
  have hfew := s.few
  have hwy : IntKind.wrap .i64 ((j : Int) + 1) = (j : Int) + 1 := wrap_id (by omega) (by omega)
  induction k with
  | zero =>
    intro m b mem h1 hf
    have e : m = l.length := by omega
    subst e
    refine ⟨mem, ?_⟩
    rw [r04_Twice.L4_eq]
    simp [hv.len, hwy, tw4]
    done
  | succ k ih =>
    intro m b mem h1 hf
    have hx : m < l.length := by omega
    have hw : IntKind.wrap .i64 ((m : Int) + 1) = (m : Int) + 1 := wrap_id (by omega) (by omega)
    obtain ⟨mem1, g1⟩ := tw_in hv s hi hj hx (.inBlock 3 :: .code r04_Twice.r7 :: .inLoop r04_Twice.l2 :: .inBlock 2 :: K) (l.length - (m + 1)) (m + 1) b mem (by omega) hf
    simp only [Int.natCast_add, Int.cast_ofNat_Int] at g1
    obtain ⟨mem2, g2⟩ := ih (m + 1) _ mem1 (by omega) (hf.six s hi hj hx)
    simp only [Int.natCast_add, Int.cast_ofNat_Int] at g2
    refine ⟨mem2, ?_⟩
    rw [tw4_succ, ← g2, ← g1, r04_Twice.L4_eq]
    simp [hv.len, hx, hw, hwy]
    done
theorem tw_out {v : AV} {l : List Int} (hv : IsInts v l) (s : StrapOk l) {i : Nat} (hi : i < l.length) (K : List Item) : ∀ (k j : Nat) (b : List Int) (mem : Mem), j + k = l.length → Fit b →
    ∃ mem', r04_Twice.L2 v (bestV b) (.int .i64 i) (.int .i64 j) mem (.inBlock 1 :: .code r04_Twice.r4 :: .inLoop r04_Twice.l0 :: .inBlock 0 :: K) = r04_Twice.L0 v (bestV (tw2 l i k j b)) (.int .i64 ((i : Int) + 1)) mem' K := by
  intro k
  have hfew := s.few
  have hwy : IntKind.wrap .i64 ((i : Int) + 1) = (i : Int) + 1 := wrap_id (by omega) (by omega)
  induction k with
  | zero =>
    intro j b mem h1 hf
    have e : j = l.length := by omega
    subst e
    refine ⟨mem, ?_⟩
    rw [r04_Twice.L2_eq]
    simp [hv.len, hwy, tw2]
    done
  | succ k ih =>
    intro j b mem h1 hf
    have hx : j < l.length := by omega
    have hw : IntKind.wrap .i64 ((j : Int) + 1) = (j : Int) + 1 := wrap_id (by omega) (by omega)
    obtain ⟨mem1, g1⟩ := tw_mid hv s hi hx (.inBlock 1 :: .code r04_Twice.r4 :: .inLoop r04_Twice.l0 :: .inBlock 0 :: K) (l.length - (i + 1)) (i + 1) b mem (by omega) hf
    simp only [Int.natCast_add, Int.cast_ofNat_Int] at g1
    obtain ⟨mem2, g2⟩ := ih (j + 1) _ mem1 (by omega) (hf.four s hi hx (k := l.length - (i + 1)) (m := i + 1) (by omega))
    simp only [Int.natCast_add, Int.cast_ofNat_Int] at g2
    refine ⟨mem2, ?_⟩
    rw [tw2_succ, ← g2, ← g1, r04_Twice.L2_eq]
    simp [hv.len, hx, hw, hwy]
    done
theorem tw_all {v : AV} {l : List Int} (hv : IsInts v l) (s : StrapOk l) : ∀ (k i : Nat) (b : List Int) (mem : Mem), i + k = l.length → Fit b →
    r04_Twice.L0 v (bestV b) (.int .i64 i) mem [.code r04_Twice.r18, .code .ret] = some (bestV (tw0 l k i b), Mem.empty) := by
  intro k
  have hfew := s.few
  induction k with
  | zero =>
    intro i b mem h1 hf
    have e : i = l.length := by omega
    subst e
    rw [r04_Twice.L0_eq]
    have hd : ∀ d, deep mem.h (d + 1) (bestV b) = some (bestV b) := fun d => by unfold bestV; split <;> simp
    simp [hv.len, tw0, hd]
    done
  | succ k ih =>
    intro i b mem h1 hf
    have hx : i < l.length := by omega
    have hw : IntKind.wrap .i64 ((i : Int) + 1) = (i : Int) + 1 := wrap_id (by omega) (by omega)
    obtain ⟨mem1, g1⟩ := tw_out hv s hx [.code r04_Twice.r18, .code .ret] (l.length - (i + 1)) (i + 1) b mem (by omega) hf
    simp only [Int.natCast_add, Int.cast_ofNat_Int] at g1
    have g2 := ih (i + 1) _ mem1 (by omega) (hf.two s hx (k := l.length - (i + 1)) (j := i + 1) (by omega))
    simp only [Int.natCast_add, Int.cast_ofNat_Int] at g2
    rw [tw0_succ, ← g2, ← g1, r04_Twice.L0_eq]
    simp [hv.len, hx, hw]
    done
theorem rtw_spec {v : AV} {l : List Int} (hv : IsInts v l) (s : StrapOk l) (m : Mem) : denC prog ann 29 [v] m = some (bestV (tw0 l l.length 0 []), m) := by
  have hcl : closedL [v] = true := by simp [hv.closed]
  have lp := tw_all hv s l.length 0 [] Mem.empty (by omega) (.inl rfl)
  simp only [Int.ofNat_zero, Int.cast_ofNat_Int] at lp
  rw [show bestV [] = .nils from rfl] at lp
  rw [r04_Twice.call_eq _ _ hcl]
  simp [lp]
  done
end Go.Proofs.Ytpghadmpegncgaa

/-
  STRAPS (6): how often each distance comes, in plain terms. Conditions: none.
-/
namespace Go.Proofs.Ytpghadmpegncgaa
open Go.AM
set_option linter.all false
set_option maxRecDepth 10000
set_option maxHeartbeats 2000000

theorem cntF_nth {l : List Int} {x : Int} : ∀ {k j : Nat} {c : List Int}, (∀ q, j ≤ q → q < j + k → 0 ≤ x - nth l q ∧ x - nth l q < c.length) → ∀ g : Nat, nth (cntF l x k j c) g = nth c g + ((List.range' j k).countP fun q => decide (nth l q = x - g) : Nat)
  | 0, j, c, _, g => by simp [cntF]
  | k + 1, j, c, h, g => by
    have h0 := h j (by omega) (by omega)
    have hb : (x - nth l j).toNat < c.length := by omega
    rw [cntF_succ, cntF_nth (fun q h1 h2 => by rw [bump_len]; exact h q (by omega) (by omega)) g, nth_bump hb, List.range'_succ, List.countP_cons]
    by_cases e : g = (x - nth l j).toNat
    · have e2 : nth l j = x - (g : Int) := by omega
      have e3 := e.symm
      simp only [if_pos e, e3, decide_eq_true e2, if_true, Int.natCast_add, Int.cast_ofNat_Int]
      omega
    · have e2 : ¬ nth l j = x - (g : Int) := by omega
      simp only [if_neg e, decide_eq_false e2, Bool.false_eq_true, if_false, Nat.add_zero]
def hit (l : List Int) (g i : Nat) : Bool := (List.range' 0 i).any fun q => decide (nth l q = nth l i - g)
theorem count_one {l : List Int} (s : StrapOk l) (y : Int) : ∀ (k j : Nat), j + k ≤ l.length → ((List.range' j k).countP fun q => decide (nth l q = y)) = if ((List.range' j k).any fun q => decide (nth l q = y)) = true then 1 else 0
  | 0, _, _ => rfl
  | k + 1, j, h => by
    have ih := count_one s y k (j + 1) (by omega)
    rw [List.range'_succ, List.countP_cons, List.any_cons]
    by_cases e : nth l j = y
    · have z : ((List.range' (j + 1) k).countP fun q => decide (nth l q = y)) = 0 := by
        rw [List.countP_eq_zero]
        intro q hq
        simp [List.mem_range'_1] at hq ⊢
        have := s.lt (show j < q by omega) (by omega)
        omega
      simp [e, z]
    · rw [ih, decide_eq_false e, Bool.false_or]; simp only [Bool.false_eq_true, if_false, Nat.add_zero]
theorem cntO_nth {l : List Int} (s : StrapOk l) : ∀ {k i : Nat} {c : List Int}, i + k ≤ l.length → c.length = (top l + 1).toNat → ∀ g : Nat, nth (cntO l k i c) g = nth c g + ((List.range' i k).countP (hit l g) : Nat)
  | 0, i, c, _, _, g => by simp [cntO]
  | k + 1, i, c, h, hc, g => by
    have hi : i < l.length := by omega
    rw [cntO_succ, cntO_nth s (by omega) (by rw [cntF_len, hc]) g, cntF_nth (fun q _ h2 => by
      have a := s.lt (show q < i by omega) hi
      have b := s.nonneg (i := q) (by omega)
      have d := s.le (show i ≤ l.length - 1 by omega) (by omega)
      unfold top at hc
      omega) g, count_one s _ i 0 (by omega), List.range'_succ, List.countP_cons]
    show _ = nth c g + ((_ + if hit l g i = true then 1 else 0 : Nat) : Int)
    unfold hit
    split <;> simp <;> omega
theorem counts_nth {l : List Int} (s : StrapOk l) (g : Nat) : nth (counts l) g = ((List.range' 0 l.length).countP (hit l g) : Nat) := by
  have := s.nonneg (i := l.length - 1) (by have := s.pos; omega)
  rw [counts, cntO_nth s (by omega) (by simp) g, nth_zero']; simp
theorem hit_zero {l : List Int} (s : StrapOk l) {i : Nat} (hi : i < l.length) : hit l 0 i = false := by
  unfold hit
  rw [List.any_eq_false]
  intro q hq
  simp [List.mem_range'_1] at hq ⊢
  have := s.lt hq hi
  omega
theorem hit_mem {l : List Int} (s : StrapOk l) {i : Nat} (hi : i < l.length) {g : Nat} (hg : 0 < g) : hit l g i = decide (nth l i - (g : Int) ∈ l) := by
  unfold hit
  rw [Bool.eq_iff_iff, List.any_eq_true, decide_eq_true_eq]
  constructor
  · rintro ⟨q, h1, h2⟩
    simp [List.mem_range'_1] at h1 h2
    rw [← h2, ← nth_get (show q < l.length by omega)]; exact List.getElem_mem _
  · intro h
    obtain ⟨q, h1, h2⟩ := List.getElem_of_mem h
    rw [nth_get h1] at h2
    refine ⟨q, ?_, by simpa using h2⟩
    simp [List.mem_range'_1]
    rcases Nat.lt_or_ge q i with h3 | h3
    · exact h3
    · have := s.le h3 h1; omega
theorem map_nth (l : List Int) : (List.range' 0 l.length).map (nth l) = l := by
  refine List.ext_getElem (by simp) fun i h1 h2 => ?_
  simp [nth_get h2]
def D (l : List Int) (g : Nat) : Nat := l.countP fun a => decide (a - (g : Int) ∈ l)
def U (l : List Int) (g : Nat) : Nat := l.countP fun a => decide (a + (g : Int) ∈ l)
theorem counts_zero {l : List Int} (s : StrapOk l) : nth (counts l) 0 = 0 := by
  rw [counts_nth s]
  have : (List.range' 0 l.length).countP (hit l 0) = 0 := by
    rw [List.countP_eq_zero]
    intro q hq
    simp [List.mem_range'_1] at hq
    rw [hit_zero s hq]; simp
  rw [this]; rfl
theorem counts_D {l : List Int} (s : StrapOk l) {g : Nat} (hg : 0 < g) : nth (counts l) g = D l g := by
  rw [counts_nth s, D]
  conv => rhs; rw [← map_nth l]
  rw [List.countP_map]
  refine congrArg _ (List.countP_congr fun i hi => ?_)
  simp [List.mem_range'_1] at hi
  rw [hit_mem s hi hg]
  simp [map_nth l]
theorem StrapOk.sorted {l : List Int} (s : StrapOk l) : l.Pairwise (· < ·) := by
  rw [List.pairwise_iff_getElem]
  intro i j h1 h2 h
  rw [nth_get h1, nth_get h2]
  exact s.lt h h2
theorem lt_nodup {l : List Int} (h : l.Pairwise (· < ·)) : l.Nodup := h.imp fun h => by omega
theorem D_U {l : List Int} (s : StrapOk l) (g : Nat) : D l g = U l g := by
  rw [D, U, List.countP_eq_length_filter, List.countP_eq_length_filter, ← List.length_map (f := fun a => a - (g : Int))]
  refine List.Perm.length_eq ((List.perm_ext_iff_of_nodup (lt_nodup ?_) (lt_nodup (s.sorted.filter _))).2 fun a => ?_)
  · exact (s.sorted.filter _).map _ fun a b h => by show a - (g : Int) < b - (g : Int); omega
  · simp only [List.mem_map, List.mem_filter, decide_eq_true_eq]
    constructor
    · rintro ⟨x, ⟨h1, h2⟩, rfl⟩
      exact ⟨h2, by rwa [show x - (g : Int) + g = x by omega]⟩
    · rintro ⟨h1, h2⟩
      exact ⟨a + g, ⟨h2, by rwa [show a + (g : Int) - g = a by omega]⟩, by omega⟩
theorem counts_U {l : List Int} (s : StrapOk l) {g : Nat} (hg : 0 < g) : nth (counts l) g = U l g := by rw [counts_D s hg, D_U s]
end Go.Proofs.Ytpghadmpegncgaa

/-
  STRAPS (7): the first four holes with one distance are those that the four loops find. Conditions: none.
-/
namespace Go.Proofs.Ytpghadmpegncgaa
open Go.AM
set_option linter.all false
set_option maxRecDepth 10000
set_option maxHeartbeats 2000000

def key (q : List Int) : List Int := [nth q 1 - nth q 0, nth q 0, nth q 2]
def Val (l : List Int) (i j m n : Nat) : Prop := nth l j - nth l i = nth l n - nth l m
theorem twC_key (b q : List Int) : twC b q = (decide (b = []) || lexLt (key q) (key b)) := by
  simp only [twC, key, lexLt]
  by_cases h : nth q 1 - nth q 0 = nth b 1 - nth b 0
  · simp [h]
  · simp [h]
/-- The best of what was seen. -/
def BestOk (l : List Int) (S : Nat → Nat → Nat → Nat → Prop) (b : List Int) : Prop :=
  (b = [] ∨ ∃ i j m n, S i j m n ∧ Val l i j m n ∧ b = twQ l i j m n) ∧ ∀ i j m n, S i j m n → Val l i j m n → b ≠ [] ∧ lexLt (key (twQ l i j m n)) (key b) = false
theorem BestOk.congr {l : List Int} {S S' : Nat → Nat → Nat → Nat → Prop} {b : List Int} (h : BestOk l S b) (e : ∀ i j m n, S i j m n ↔ S' i j m n) : BestOk l S' b := by
  have : S = S' := by funext i j m n; exact propext (e i j m n)
  rwa [← this]
theorem lexLt_total {a b : List Int} (h : lexLt a b = false) (h2 : lexLt b a = false) : a = b := by
  have := lexLt_same a b
  rw [h, h2] at this
  simpa using this
theorem BestOk.step {l : List Int} {S : Nat → Nat → Nat → Nat → Prop} {b : List Int} (h : BestOk l S b) (i j m n : Nat) : BestOk l (fun i' j' m' n' => S i' j' m' n' ∨ (i' = i ∧ j' = j ∧ m' = m ∧ n' = n)) (tw7 l i j m n b) := by
  unfold tw7
  by_cases v : nth l j - nth l i = nth l n - nth l m
  · rw [if_pos v, twC_key]
    cases t : (decide (b = []) || lexLt (key (twQ l i j m n)) (key b)) with
    | true =>
      rw [if_pos rfl]
      refine ⟨.inr ⟨i, j, m, n, .inr ⟨rfl, rfl, rfl, rfl⟩, v, rfl⟩, ?_⟩
      rintro i' j' m' n' (hs | ⟨rfl, rfl, rfl, rfl⟩) v'
      · refine ⟨by simp [twQ], ?_⟩
        obtain ⟨h1, h2⟩ := h.2 i' j' m' n' hs v'
        rw [decide_eq_false h1, Bool.false_or] at t
        cases q : lexLt (key (twQ l i' j' m' n')) (key (twQ l i j m n)) with
        | false => rfl
        | true => rw [lex_trans q t] at h2; cases h2
      · exact ⟨by simp [twQ], lexLt_irr _⟩
    | false =>
      rw [if_neg (by decide)]
      simp only [Bool.or_eq_false_iff, decide_eq_false_iff_not] at t
      refine ⟨h.1.imp id (fun ⟨i', j', m', n', a, b⟩ => ⟨i', j', m', n', .inl a, b⟩), ?_⟩
      rintro i' j' m' n' (hs | ⟨rfl, rfl, rfl, rfl⟩) v'
      · exact h.2 i' j' m' n' hs v'
      · exact t
  · rw [if_neg v]
    refine ⟨h.1.imp id (fun ⟨i', j', m', n', a, b⟩ => ⟨i', j', m', n', .inl a, b⟩), ?_⟩
    rintro i' j' m' n' (hs | ⟨rfl, rfl, rfl, rfl⟩) v'
    · exact h.2 i' j' m' n' hs v'
    · exact absurd v' v
theorem BestOk.six {l : List Int} (i j m : Nat) : ∀ (k n : Nat) {S : Nat → Nat → Nat → Nat → Prop} {b : List Int}, BestOk l S b → BestOk l (fun i' j' m' n' => S i' j' m' n' ∨ (i' = i ∧ j' = j ∧ m' = m ∧ n ≤ n' ∧ n' < n + k)) (tw6 l i j m k n b)
  | 0, n, S, b, h => h.congr fun i' j' m' n' => ⟨.inl, fun h => h.elim id fun h => by omega⟩
  | k + 1, n, S, b, h => by
    rw [tw6_succ]
    refine ((h.step i j m n).six i j m k (n + 1)).congr fun i' j' m' n' => ⟨?_, ?_⟩
    · rintro ((h | h) | h)
      · exact .inl h
      · exact .inr (by omega)
      · exact .inr (by omega)
    · rintro (h | h)
      · exact .inl (.inl h)
      · by_cases e : n' = n
        · exact .inl (.inr (by omega))
        · exact .inr (by omega)
theorem BestOk.four {l : List Int} (i j : Nat) : ∀ (k m : Nat) {S : Nat → Nat → Nat → Nat → Prop} {b : List Int}, m + k ≤ l.length → BestOk l S b → BestOk l (fun i' j' m' n' => S i' j' m' n' ∨ (i' = i ∧ j' = j ∧ (m ≤ m' ∧ m' < m + k) ∧ m' < n' ∧ n' < l.length)) (tw4 l i j k m b)
  | 0, m, S, b, _, h => h.congr fun i' j' m' n' => ⟨.inl, fun h => h.elim id fun h => by omega⟩
  | k + 1, m, S, b, hk, h => by
    rw [tw4_succ]
    refine (BestOk.four i j k (m + 1) (by omega) (h.six i j m (l.length - (m + 1)) (m + 1))).congr fun i' j' m' n' => ⟨?_, ?_⟩
    · rintro ((h | h) | h)
      · exact .inl h
      · exact .inr (by omega)
      · exact .inr (by omega)
    · rintro (h | h)
      · exact .inl (.inl h)
      · by_cases e : m' = m
        · exact .inl (.inr (by omega))
        · exact .inr (by omega)
theorem BestOk.two {l : List Int} (i : Nat) (hi : i < l.length) : ∀ (k j : Nat) {S : Nat → Nat → Nat → Nat → Prop} {b : List Int}, j + k ≤ l.length → BestOk l S b → BestOk l (fun i' j' m' n' => S i' j' m' n' ∨ (i' = i ∧ (j ≤ j' ∧ j' < j + k) ∧ i < m' ∧ m' < n' ∧ n' < l.length)) (tw2 l i k j b)
  | 0, j, S, b, _, h => h.congr fun i' j' m' n' => ⟨.inl, fun h => h.elim id fun h => by omega⟩
  | k + 1, j, S, b, hk, h => by
    rw [tw2_succ]
    refine (BestOk.two i hi k (j + 1) (by omega) (h.four i j (l.length - (i + 1)) (i + 1) (by omega))).congr fun i' j' m' n' => ⟨?_, ?_⟩
    · rintro ((h | h) | h)
      · exact .inl h
      · exact .inr (by omega)
      · exact .inr (by omega)
    · rintro (h | h)
      · exact .inl (.inl h)
      · by_cases e : j' = j
        · exact .inl (.inr (by omega))
        · exact .inr (by omega)
theorem BestOk.zero {l : List Int} : ∀ (k i : Nat) {S : Nat → Nat → Nat → Nat → Prop} {b : List Int}, i + k ≤ l.length → BestOk l S b → BestOk l (fun i' j' m' n' => S i' j' m' n' ∨ ((i ≤ i' ∧ i' < i + k) ∧ (i' < j' ∧ j' < l.length) ∧ i' < m' ∧ m' < n' ∧ n' < l.length)) (tw0 l k i b)
  | 0, i, S, b, _, h => h.congr fun i' j' m' n' => ⟨.inl, fun h => h.elim id fun h => by omega⟩
  | k + 1, i, S, b, hk, h => by
    rw [tw0_succ]
    refine (BestOk.zero k (i + 1) (by omega) (h.two i (by omega) (l.length - (i + 1)) (i + 1) (by omega))).congr fun i' j' m' n' => ⟨?_, ?_⟩
    · rintro ((h | h) | h)
      · exact .inl h
      · exact .inr (by omega)
      · exact .inr (by omega)
    · rintro (h | h)
      · exact .inl (.inl h)
      · by_cases e : i' = i
        · exact .inl (.inr (by omega))
        · exact .inr (by omega)
def Quad (l : List Int) (i j m n : Nat) : Prop := (i < j ∧ j < l.length) ∧ i < m ∧ m < n ∧ n < l.length
theorem best_all (l : List Int) : BestOk l (Quad l) (tw0 l l.length 0 []) :=
  (BestOk.zero l.length 0 (by omega) (show BestOk l (fun _ _ _ _ => False) [] from ⟨.inl rfl, fun _ _ _ _ h => h.elim⟩)).congr fun i j m n => ⟨fun h => h.elim (fun h => h.elim) fun h => h.2, fun h => .inr ⟨by unfold Quad at h; omega, h⟩⟩

/-! ### What Twice finds -/
theorem twS {l : List Int} {d : Nat} : ∀ (L : List Int) (acc : List Int), (acc.length = 0 ∨ acc.length = 2 ∨ acc.length = 4) → L.foldl (twStep l d) acc = acc ++ ((L.filter fun a => decide (a + (d : Int) ∈ l)).take ((4 - acc.length) / 2)).flatMap fun a => [a, a + (d : Int)]
  | [], acc, _ => by simp
  | a :: L, acc, h => by
    have hlen : acc.length ≤ 4 := by omega
    rw [List.foldl_cons, twStep, List.filter_cons]
    by_cases q : a + (d : Int) ∈ l
    · rw [decide_eq_true q, if_pos rfl]
      by_cases q2 : acc.length < 4
      · rw [if_pos ⟨q2, q⟩, twS L _ (by rw [List.length_append]; show acc.length + 2 = 0 ∨ acc.length + 2 = 2 ∨ acc.length + 2 = 4; omega)]
        obtain ⟨r, hr⟩ : ∃ r, (4 - acc.length) / 2 = r + 1 := ⟨(4 - acc.length) / 2 - 1, by omega⟩
        have hr2 : (4 - (acc ++ [a, a + (d : Int)]).length) / 2 = r := by rw [List.length_append]; show (4 - (acc.length + 2)) / 2 = r; omega
        rw [hr, hr2, List.take_succ_cons, List.flatMap_cons]
        simp
      · rw [if_neg (fun h => q2 h.1), twS L _ h]
        have : (4 - acc.length) / 2 = 0 := by omega
        rw [this]; simp
    · rw [decide_eq_false q, if_neg (fun h => q h.2), twS L _ h]
      simp
theorem nth_mem {l : List Int} {i : Nat} (h : i < l.length) : nth l i ∈ l := by rw [← nth_get h]; exact List.getElem_mem h
theorem two_of {l : List Int} {p : Int → Bool} (s : StrapOk l) {a c : Int} (h1 : a ∈ l) (h2 : c ∈ l) (h3 : a < c) (pa : p a = true) (pc : p c = true) : ∃ a1 a2 F, l.filter p = a1 :: a2 :: F ∧ a1 < a2 ∧ a1 ≤ a ∧ (a1 = a → a2 ≤ c) := by
  have hs := s.sorted.filter p
  have m1 : a ∈ l.filter p := List.mem_filter.2 ⟨h1, pa⟩
  have m2 : c ∈ l.filter p := List.mem_filter.2 ⟨h2, pc⟩
  generalize l.filter p = F at *
  match F, hs, m1, m2 with
  | [], _, h, _ => simp at h
  | [x], _, h, h' => simp at h h'; omega
  | a1 :: a2 :: F, hs, h, h' =>
    simp only [List.pairwise_cons, List.mem_cons] at hs h h'
    refine ⟨a1, a2, F, rfl, hs.1 a2 (.inl rfl), ?_, fun e => ?_⟩
    · rcases h with rfl | h
      · exact Int.le_refl _
      · exact Int.le_of_lt (hs.1 a h)
    · rcases h' with rfl | rfl | h'
      · omega
      · exact Int.le_refl _
      · exact Int.le_of_lt (hs.2.1 c h')
theorem U_two {l : List Int} {g : Nat} (h : 2 ≤ U l g) : ∃ a1 a2 F, (l.filter fun a => decide (a + (g : Int) ∈ l)) = a1 :: a2 :: F := by
  rw [U, List.countP_eq_length_filter] at h
  match hF : (l.filter fun a => decide (a + (g : Int) ∈ l)), h with
  | [], h => simp at h
  | [x], h => simp at h
  | a1 :: a2 :: F, _ => exact ⟨a1, a2, F, rfl⟩
/-- A quad with one distance is a distance that comes twice. -/
theorem quad_more {l : List Int} (s : StrapOk l) {i j m n : Nat} (q : Quad l i j m n) (v : Val l i j m n) : ∃ g : Nat, nth l j - nth l i = g ∧ 0 < g ∧ g < (counts l).length ∧ moreP (counts l) g = true ∧ ∃ a1 a2 F, (l.filter fun a => decide (a + (g : Int) ∈ l)) = a1 :: a2 :: F ∧ a1 < a2 ∧ a1 ≤ nth l i ∧ (a1 = nth l i → a2 ≤ nth l m) := by
  obtain ⟨⟨h1, h2⟩, h3, h4, h5⟩ := q
  unfold Val at v
  have a := s.lt h1 h2
  have b := s.nonneg (i := i) (by omega)
  have c := s.le (show j ≤ l.length - 1 by omega) (by omega)
  obtain ⟨g, hg⟩ : ∃ g : Nat, nth l j - nth l i = g := ⟨(nth l j - nth l i).toNat, by omega⟩
  have hij : nth l i + (g : Int) = nth l j := by omega
  have hmn : nth l m + (g : Int) = nth l n := by omega
  obtain ⟨a1, a2, F, e1, e2, e3, e4⟩ := two_of (p := fun a => decide (a + (g : Int) ∈ l)) s (nth_mem (show i < l.length by omega)) (nth_mem (show m < l.length by omega)) (s.lt h3 (by omega)) (by simpa [hij] using nth_mem h2) (by simpa [hmn] using nth_mem h5)
  refine ⟨g, hg, by omega, by rw [counts_len]; unfold top; omega, ?_, a1, a2, F, e1, e2, e3, e4⟩
  rw [moreP, counts_U s (by omega), U, List.countP_eq_length_filter, e1]
  simp
  omega
theorem fstL_none {p : Nat → Bool} {n : Nat} (h : fstL p n 0 < 0) : ∀ i, i < n → p i = false := by
  unfold fstL at h
  cases e : (List.range' 0 n).find? p with
  | some d => rw [e] at h; exact absurd h (by show ¬ (d : Int) < 0; omega)
  | none =>
    intro i hi
    have := List.find?_eq_none.1 e i (by simp [List.mem_range'_1, hi])
    simpa using this
theorem fstL_some {p : Nat → Bool} : ∀ {n i d : Nat}, fstL p n i = d → i ≤ d ∧ d < i + n ∧ p d = true ∧ ∀ j, i ≤ j → j < d → p j = false
  | 0, i, d, h => by have : (-1 : Int) = d := h; omega
  | n + 1, i, d, h => by
    rw [fstL_succ] at h
    by_cases q : p i = true
    · rw [if_pos q] at h
      have : i = d := by omega
      subst this
      exact ⟨by omega, by omega, q, fun j h1 h2 => by omega⟩
    · rw [if_neg q] at h
      obtain ⟨h1, h2, h3, h4⟩ := fstL_some h
      refine ⟨by omega, by omega, h3, fun j h5 h6 => ?_⟩
      by_cases e : j = i
      · subst e; simpa using q
      · exact h4 j (by omega) h6
theorem tw_none {l : List Int} (s : StrapOk l) (h : fstL (moreP (counts l)) (counts l).length 0 < 0) : tw0 l l.length 0 [] = [] := by
  rcases (best_all l).1 with e | ⟨i, j, m, n, q, v, _⟩
  · exact e
  · obtain ⟨g, _, _, h1, h2, _⟩ := quad_more s q v
    rw [fstL_none h g h1] at h2; cases h2
theorem tw_some {l : List Int} (s : StrapOk l) {d : Nat} (h : fstL (moreP (counts l)) (counts l).length 0 = d) : l.foldl (twStep l d) [] = tw0 l l.length 0 [] ∧ tw0 l l.length 0 [] ≠ [] := by
  obtain ⟨_, h1, h2, h3⟩ := fstL_some h
  have hd : 0 < d := by
    rcases Nat.eq_zero_or_pos d with e | e
    · subst e; rw [moreP, counts_zero s] at h2; exact absurd h2 (by decide)
    · exact e
  rw [moreP, counts_U s hd, decide_eq_true_eq] at h2
  obtain ⟨a1, a2, F, hF⟩ := U_two (l := l) (g := d) (by omega)
  have hout : l.foldl (twStep l d) [] = [a1, a1 + (d : Int), a2, a2 + (d : Int)] := by
    rw [twS l [] (.inl rfl), hF]; rfl
  have m1 : a1 ∈ l.filter fun a => decide (a + (d : Int) ∈ l) := by rw [hF]; simp
  have m2 : a2 ∈ l.filter fun a => decide (a + (d : Int) ∈ l) := by rw [hF]; simp
  have hlt : a1 < a2 := by
    have := s.sorted.filter fun a => decide (a + (d : Int) ∈ l)
    rw [hF] at this
    exact (List.pairwise_cons.1 this).1 a2 (by simp)
  simp only [List.mem_filter, decide_eq_true_eq] at m1 m2
  obtain ⟨i, hi, ei⟩ := List.getElem_of_mem m1.1
  obtain ⟨j, hj, ej⟩ := List.getElem_of_mem m1.2
  obtain ⟨m, hm, em⟩ := List.getElem_of_mem m2.1
  obtain ⟨n, hn, en⟩ := List.getElem_of_mem m2.2
  rw [nth_get hi] at ei
  rw [nth_get hj] at ej
  rw [nth_get hm] at em
  rw [nth_get hn] at en
  have lt' : ∀ {i j : Nat}, i < l.length → j < l.length → nth l i < nth l j → i < j := fun {i j} h1 h2 h => by
    rcases Nat.lt_or_ge i j with h3 | h3
    · exact h3
    · have := s.le h3 h1; omega
  have hq : Quad l i j m n := ⟨⟨lt' hi hj (by omega), hj⟩, lt' hi hm (by omega), lt' hm hn (by omega), hn⟩
  have hv : Val l i j m n := by unfold Val; omega
  have htq : twQ l i j m n = [a1, a1 + (d : Int), a2, a2 + (d : Int)] := by rw [twQ, ei, ej, em, en]
  obtain ⟨b1, b2⟩ := best_all l
  obtain ⟨ne, le⟩ := b2 i j m n hq hv
  rcases b1 with e | ⟨i', j', m', n', q', v', e⟩
  · exact absurd e ne
  · refine ⟨?_, ne⟩
    obtain ⟨g, g1, g2, g3, g4, c1, c2, F', f1, f2, f3, f4⟩ := quad_more s q' v'
    unfold Val at v'
    have hge : d ≤ g := by
      rcases Nat.lt_or_ge g d with h5 | h5
      · rw [h3 g (by omega) h5] at g4; cases g4
      · exact h5
    have k1 : lexLt (key (tw0 l l.length 0 [])) (key (twQ l i j m n)) = false := by
      rw [e, htq]
      simp only [key, twQ, lexLt, nth, List.getD, List.getElem?_cons_zero, List.getElem?_cons_succ, Option.getD_some]
      simp only [← show ∀ i, nth l i = (l[i]?).getD 0 from fun _ => rfl]
      rcases Nat.lt_or_ge d g with h5 | h5
      · rw [if_neg (by omega), decide_eq_false (by omega)]
      · have : g = d := by omega
        subst this
        rw [hF] at f1
        injection f1 with x1 x2
        injection x2 with x2 x3
        subst x1 x2
        rw [if_pos (by omega)]
        by_cases h6 : nth l i' = a1
        · rw [if_pos h6]
          have := f4 h6.symm
          by_cases h7 : nth l m' = a2
          · rw [if_pos h7]
          · rw [if_neg h7, decide_eq_false (by omega)]
        · rw [if_neg h6, decide_eq_false (by omega)]
    have k2 := lexLt_total k1 le
    rw [hout, e]
    rw [e, htq] at k2
    simp only [key, twQ, nth, List.getD, List.getElem?_cons_zero, List.getElem?_cons_succ, Option.getD_some] at k2
    simp only [← show ∀ i, nth l i = (l[i]?).getD 0 from fun _ => rfl] at k2
    injection k2 with x1 x2
    injection x2 with x2 x3
    injection x3 with x3 _
    rw [twQ, ← x2, ← x3, show nth l i' + (d : Int) = nth l j' by omega, show nth l m' + (d : Int) = nth l n' by omega]
end Go.Proofs.Ytpghadmpegncgaa

/-
  THE LAWS' EXAMPLES HOLD. Conditions: none.
-/
namespace Go.Proofs.Ytpghadmpegncgaa
open Go.AM
open Go.Proofs.Try (prog)
set_option linter.all false
set_option maxRecDepth 1000000

def isT (r : Option Res) : Bool := match r with
  | some (.bool b, _) => b
  | _ => false
theorem lives_run : isT (callN prog ann 3000 14 [] Mem.empty) = true := by kernel_rfl
@[simp] theorem lives_pure : (ann 14).pure = true := by kernel_rfl
theorem f14_at : prog.funcs[14]? = some Try.f14 := by kernel_rfl
theorem f14_some : Try.f14.body.isSome = true := by kernel_rfl
theorem lives_spec (m : Mem) : denC prog ann 14 [] m = some (.bool true, m) := by
  have hb : Try.f14.body = some (Try.f14.body.getD .skip) := by
    cases h : Try.f14.body with
    | none => have := f14_some; rw [h] at this; cases this
    | some b => rfl
  have e := fun m => denC_pure (P := prog) (A := ann) (f := 14) f14_at hb (by kernel_rfl) (by kernel_rfl) (show closedL [] = true from rfl) m
  have h := lives_run
  cases hr : callN prog ann 3000 14 [] Mem.empty with
  | none => rw [hr] at h; cases h
  | some r =>
    rw [hr] at h
    have h2 := denC_of_callN hr
    rw [e] at h2 ⊢
    obtain ⟨q, h3, h4⟩ := Option.bind_eq_some_iff.1 h2
    rw [h3]
    simp at h4
    subst h4
    match q, h with
    | (.bool true, _), _ => rfl
end Go.Proofs.Ytpghadmpegncgaa

/-
  StrapDistances: the law answers true. Conditions: none.
-/
namespace Go.Proofs.Ytpghadmpegncgaa
open Go.AM
open Go.Proofs.Try (prog)
set_option linter.all false
set_option maxRecDepth 100000
set_option maxHeartbeats 8000000

theorem bestV_is {b : List Int} : IsInts (bestV b) b := by
  unfold bestV
  split
  · exact .inl ⟨rfl, by assumption⟩
  · exact .inr ⟨true, rfl⟩
theorem dist_runs {d : Nat} (a0 : AV) (h0 : DatV prog (d + 4) 22 a0) : ∃ m', denC prog ann 6 [a0] Mem.empty = some (.bool true, m') := by
  obtain ⟨l0, hl0, kl⟩ := datV22 h0
  obtain ⟨v, hv, hcut⟩ := cut_spec hl0
  have hlen : (l0.take 41).length ≤ 41 := by simp; omega
  generalize l0.take 41 = l at *
  obtain ⟨e, he, hc, hrf⟩ := check_ref hv (by omega)
  obtain ⟨w1, x1, y1, e1⟩ := dist_spec hv he hc
  obtain ⟨w2, x2, y2, e2⟩ := miss_spec hv he hc
  obtain ⟨w3, g, x3, e3⟩ := tw_spec hv he hc
  have hcl : closedL [a0] = true := by simp [hl0.closed]
  refine ⟨Mem.empty, ?_⟩
  rw [l04_StrapDistances.call_eq _ _ hcl]
  by_cases q : e = 0
  · subst q
    have s : StrapOk l := by cases he; assumption
    have i1 := x1 rfl
    have i2 := x2 rfl
    obtain ⟨w4, i4, e4⟩ := rmiss_spec hv s
    have i5 := intsV_is (counts l)
    have hcl := counts_few s
    have hml : (misses l).length ≤ 1001 := by
      have := List.length_filter_le (fun d => decide (0 < d) && decide (nth (counts l) d = 0)) (List.range' 0 (counts l).length)
      simp only [misses, missL, List.length_map]; simp at this; omega
    have h1 := fun m => same_spec i1 i5 (by omega) (by omega) m
    have h2 := fun m => same_spec i2 i4 (by omega) (by omega) m
    have hmn := fun m => many_spec i1 hcl m
    have hrt := fun m => rtw_spec hv s m
    rw [decide_eq_true rfl] at h1 h2
    by_cases q2 : (14 : Int) < l.length
    · cases x3 with
      | bad h => exact absurd rfl h
      | none _ h =>
        rw [decide_eq_false (by omega)] at hmn
        simp [hl0.closed, hcut, hv.closed, e1, e2, e3, hrf, rdist_spec hv s, i1.closed, i5.closed, h1, e4, i2.closed, i4.closed, h2, lives_spec, hv.len, q2, hmn]
        done
      | ok _ h i3 =>
        rw [decide_eq_true (by omega)] at hmn
        simp [hl0.closed, hcut, hv.closed, e1, e2, e3, hrf, rdist_spec hv s, i1.closed, i5.closed, h1, e4, i2.closed, i4.closed, h2, lives_spec, hv.len, q2, hmn]
        done
    · cases x3 with
      | bad h => exact absurd rfl h
      | none _ h =>
        rw [tw_none s h, show bestV [] = .nils from rfl] at hrt
        have h3 := fun m => same_spec (va := .nils) (vb := .nils) (a := []) (b := []) (.inl ⟨rfl, rfl⟩) (.inl ⟨rfl, rfl⟩) (by simp) (by simp) m
        rw [decide_eq_true rfl] at h3
        simp [hl0.closed, hcut, hv.closed, e1, e2, e3, hrf, rdist_spec hv s, i1.closed, i5.closed, h1, e4, i2.closed, i4.closed, h2, lives_spec, hv.len, q2, hrt, h3]
        done
      | ok _ h i3 =>
        obtain ⟨k1, k2⟩ := tw_some s h
        rw [k1] at i3
        have hbl : (tw0 l l.length 0 []).length < 4611686018427387904 := by
          rcases (best_all l).1 with e | ⟨i, j, m, n, _, _, e⟩
          · rw [e]; simp
          · rw [e]; simp [twQ]
        have h3 := fun m => same_spec i3 (bestV_is (b := tw0 l l.length 0 [])) hbl hbl m
        rw [decide_eq_true rfl] at h3
        rw [bestV, if_neg k2] at h3
        rw [bestV, if_neg k2] at hrt
        generalize tw0 l l.length 0 [] = b at *
        simp [hl0.closed, hcut, hv.closed, e1, e2, e3, hrf, rdist_spec hv s, i1.closed, i5.closed, h1, e4, i2.closed, i4.closed, h2, lives_spec, hv.len, q2, hrt, i3.closed, h3]
        done
  · have z1 := y1 q
    have z2 := y2 q
    subst z1 z2
    cases x3 with
    | none s h => exact absurd rfl q
    | ok s h => exact absurd rfl q
    | bad h =>
      simp [hl0.closed, hcut, hv.closed, e1, e2, e3, hrf, q, lives_spec]
      done
end Go.Proofs.Ytpghadmpegncgaa
