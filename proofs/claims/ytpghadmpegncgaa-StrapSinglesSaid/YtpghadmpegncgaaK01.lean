/-
  BODIES OF FUNCTIONS OF THE PROGRAM AS SMALL OPERATIONS (written by gen.py; checked by the kernel against the program). Conditions: none.
-/
import Derived.Test.YtpghadmpegncgaaKAmH
import Derived.Test.YtpghadmpegncgaaK00
import Derived.Test.YtpghadmpegncgaaKAmE
set_option linter.all false
namespace Go.Proofs.Ytpghadmpegncgaa
open Go.AM
open Go.Proofs.Try (prog)
set_option maxRecDepth 100000
set_option linter.all false

namespace strap_Single
/-- pommel/strap.Single -/
noncomputable def b : Code := (Try.f13.body).getD .skip
theorem hf : prog.funcs[13]? = some Try.f13 := by kernel_rfl
noncomputable def r0 : Code := findReg b 0
noncomputable def r1 : Code := findReg b 1
noncomputable def i0 : Code := findCond b 0
noncomputable def i0t : Code := thenOf i0
noncomputable def i0e : Code := elseOf i0
noncomputable def r2 : Code := findReg b 2
noncomputable def r3 : Code := findReg b 3
noncomputable def k0 : Code := findBlk b 0
noncomputable def l0 : Code := loopOf k0
noncomputable def L0 (x0 x4 : AV) (m : Mem) (K : List Item) : Option Res := den prog ann 13 (.code l0 :: .inLoop l0 :: .inBlock 0 :: K) ⟨[(0, x0), (4, x4)], 31, m⟩
noncomputable def k1 : Code := findBlk b 1
noncomputable def r5 : Code := findReg b 5
noncomputable def r6 : Code := findReg b 6
noncomputable def r7 : Code := findReg b 7
noncomputable def i1 : Code := findCond b 1
noncomputable def i1t : Code := thenOf i1
noncomputable def i1e : Code := elseOf i1
noncomputable def r8 : Code := findReg b 8
noncomputable def r9 : Code := findReg b 9
noncomputable def r10 : Code := findReg b 10
noncomputable def r4 : Code := findReg b 4
theorem b_eq (K : List Item) (s : St) : den prog ann 13 (.code b :: K) s = den prog ann 13 (.code r0 :: .code r1 :: .code i0 :: .code r3 :: .code k0 :: K) s := den_flat hf (l := [r0, r1, i0, r3, k0]) (by kernel_rfl) K s
theorem r0_eq (K : List Item) (s : St) : den prog ann 13 (.code r0 :: K) s = mreg prog ann 13 none [] none [] [
    ⟨some 2, none, .v fun s => some (.nils)⟩,
    ⟨some 3, none, .v fun s => some (.int .i64 0)⟩] K s := (den_reg hf _ K s).trans (by kernel_rfl)
theorem r1_eq (K : List Item) (s : St) : den prog ann 13 (.code r1 :: K) s = mreg prog ann 13 none [] none [] [
    ⟨some 7, none, .v fun s => some (s.get 0)⟩,
    ⟨some 8, none, .v fun s => binA prog .lss 3 (s.get 7) (.int .i64 1)⟩,
    ⟨some 9, none, .v fun s => some (s.get 8)⟩,
    ⟨some 10, some (9, false), .v fun s => some (s.get 0)⟩,
    ⟨some 11, some (9, false), .v fun s => binA prog .gtr 3 (s.get 10) (.int .i64 7)⟩,
    ⟨some 12, none, .v fun s => pickA (s.get 9) (.bool true) (s.get 11)⟩] K s := (den_reg hf _ K s).trans (by kernel_rfl)
theorem i0_eq (K : List Item) (s : St) : den prog ann 13 (.code i0 :: K) s = ifV prog ann 13 12 i0t i0e K s (s.get 12) := den_if hf (by kernel_rfl) K s
theorem i0t_eq (K : List Item) (s : St) : den prog ann 13 (.code i0t :: K) s = den prog ann 13 (.code r2 :: .code .ret :: K) s := den_flat hf (l := [r2, .ret]) (by kernel_rfl) K s
theorem r2_eq (K : List Item) (s : St) : den prog ann 13 (.code r2 :: K) s = mreg prog ann 13 none [] none [] [
    ⟨some 2, none, .v fun s => some (.nils)⟩,
    ⟨some 3, none, .v fun s => some (.int .i64 1)⟩] K s := (den_reg hf _ K s).trans (by kernel_rfl)
theorem i0e_eq (K : List Item) (s : St) : den prog ann 13 (.code i0e :: K) s = den prog ann 13 (K) s := den_flat hf (l := []) (by kernel_rfl) K s
theorem r3_eq (K : List Item) (s : St) : den prog ann 13 (.code r3 :: K) s = mreg prog ann 13 none [] none [] [
    ⟨some 13, none, .v fun s => some (s.get 0)⟩,
    ⟨some 14, none, .v fun s => some (s.get 0)⟩,
    ⟨some 15, none, .v fun s => binA prog .sub 3 (s.get 14) (.int .i64 1)⟩,
    ⟨some 16, none, .v fun s => binA prog .mul 3 (s.get 13) (s.get 15)⟩,
    ⟨some 17, none, .v fun s => binA prog .quo 3 (s.get 16) (.int .i64 2)⟩,
    ⟨some 4, none, .w false none fun s => newPtr s.m [.int .i64 0]⟩,
    ⟨none, none, .w false none fun s => stA false 1 s.m (s.get 4) (s.get 17)⟩] K s := (den_reg hf _ K s).trans (by kernel_rfl)
theorem k0_eq (K : List Item) (t : List (Nat × AV)) (m : Mem) : den prog ann 13 (.code k0 :: K) ⟨t, 31, m⟩ = L0 (get t 0) (get t 4) m K := den_loop_enter hf (b := l0) (id := 5) (l := [0, 4]) (by kernel_rfl) (by kernel_rfl) (by kernel_rfl) K _
theorem l0_eq (K : List Item) (t : List (Nat × AV)) (m : Mem) : den prog ann 13 (.inLoop l0 :: .inBlock 0 :: K) ⟨t, 31, m⟩ = L0 (get t 0) (get t 4) m K := den_loop_again hf (id := 5) (l := [0, 4]) (by kernel_rfl) (by kernel_rfl) (.inBlock 0 :: K) _
theorem L0_eq (x0 x4 : AV) (m : Mem) (K : List Item) : L0 x0 x4 m K = den prog ann 13 (.code k1 :: .code r9 :: .code r10 :: .code r4 :: .inLoop l0 :: .inBlock 0 :: K) ⟨[(0, x0), (4, x4)], 31, m⟩ := den_flat hf (l := [k1, r9, r10, r4]) (by kernel_rfl) _ _
theorem k1_eq (K : List Item) (s : St) : den prog ann 13 (.code k1 :: K) s = den prog ann 13 (.code r5 :: .code r6 :: .code r7 :: .code i1 :: .inBlock 1 :: K) s := den_blk hf (b := blkOf k1) (l := [r5, r6, r7, i1]) (by kernel_rfl) (by kernel_rfl) K s
theorem r5_eq (K : List Item) (s : St) : den prog ann 13 (.code r5 :: K) s = mreg prog ann 13 (some [0, 4]) [4] none [] [
    ⟨some 20, none, .v fun s => some (.fn 41 [] [(s.get 4)])⟩,
    ⟨some 5, none, .v fun s => some (s.get 20)⟩] K s := (den_reg hf _ K s).trans (by kernel_rfl)
theorem r6_eq (K : List Item) (s : St) : den prog ann 13 (.code r6 :: K) s = mreg prog ann 13 none [] none [] [
    ⟨some 21, none, .v fun s => some (s.get 0)⟩,
    ⟨some 22, none, .v fun s => loadA false 1 s.m (s.get 4)⟩,
    ⟨some 23, none, .v fun s => some (s.get 5)⟩,
    ⟨some 24, none, .v fun s => bldA (plc [(0, 1), (1, 1), (2, 1), (3, 1)]) [.int .i64 0, .int .i64 0, .nilf, .nilf] [(0, (s.get 21)), (1, (s.get 22)), (2, (.fn 42 [] [])), (3, (s.get 23))]⟩,
    ⟨some 25, none, .v fun s => bslF 1 (bslA 1 1 [.int .i64 0] [(0, (.int .i64 0))])⟩,
    ⟨some 26, none, .c 2 (fun s => (.fn 43 [] [])) fun s => [(s.get 24), (s.get 25)]⟩,
    ⟨some 6, none, .v fun s => some (s.get 26)⟩] K s := (den_reg hf _ K s).trans (by kernel_rfl)
theorem r7_eq (K : List Item) (s : St) : den prog ann 13 (.code r7 :: K) s = mreg prog ann 13 none [] none [] [
    ⟨some 27, none, .v fun s => some (s.get 6)⟩,
    ⟨some 28, none, .v fun s => binA prog .neq 22 (s.get 27) (.nils)⟩] K s := (den_reg hf _ K s).trans (by kernel_rfl)
theorem i1_eq (K : List Item) (s : St) : den prog ann 13 (.code i1 :: K) s = ifV prog ann 13 28 i1t i1e K s (s.get 28) := den_if hf (by kernel_rfl) K s
theorem i1t_eq (K : List Item) (s : St) : den prog ann 13 (.code i1t :: K) s = den prog ann 13 (.code r8 :: .code .ret :: K) s := den_flat hf (l := [r8, .ret]) (by kernel_rfl) K s
theorem r8_eq (K : List Item) (s : St) : den prog ann 13 (.code r8 :: K) s = mreg prog ann 13 none [] none [] [
    ⟨some 29, none, .v fun s => some (s.get 6)⟩,
    ⟨some 2, none, .v fun s => some (s.get 29)⟩,
    ⟨some 3, none, .v fun s => some (.int .i64 0)⟩] K s := (den_reg hf _ K s).trans (by kernel_rfl)
theorem i1e_eq (K : List Item) (s : St) : den prog ann 13 (.code i1e :: K) s = den prog ann 13 (K) s := den_flat hf (l := []) (by kernel_rfl) K s
theorem r9_eq (K : List Item) (s : St) : den prog ann 13 (.code r9 :: K) s = mreg prog ann 13 (some [0, 4]) [] none [] [
    ⟨some 30, none, .v fun s => loadA false 1 s.m (s.get 4)⟩] K s := (den_reg hf _ K s).trans (by kernel_rfl)
theorem r10_eq (K : List Item) (s : St) : den prog ann 13 (.code r10 :: K) s = mreg prog ann 13 none [] none [] [
    ⟨some 4, none, .w false none fun s => newPtr s.m [.int .i64 0]⟩,
    ⟨none, none, .w false none fun s => stA false 1 s.m (s.get 4) (s.get 30)⟩] K s := (den_reg hf _ K s).trans (by kernel_rfl)
theorem r4_eq (K : List Item) (s : St) : den prog ann 13 (.code r4 :: K) s = mreg prog ann 13 none [] none [] [
    ⟨some 18, none, .v fun s => loadA false 1 s.m (s.get 4)⟩,
    ⟨some 19, none, .v fun s => binA prog .add 3 (s.get 18) (.int .i64 1)⟩,
    ⟨none, none, .w false none fun s => stA false 1 s.m (s.get 4) (s.get 19)⟩] K s := (den_reg hf _ K s).trans (by kernel_rfl)
theorem ret_eq (K : List Item) (s : St) : den prog ann 13 (.code .ret :: K) s = finM true [fun s => some (s.get 2), fun s => some (s.get 3)] s := (den_ret hf K s).trans (by kernel_rfl)
theorem nil_eq (s : St) : den prog ann 13 [] s = finM true [fun s => some (s.get 2), fun s => some (s.get 3)] s := (den_nil hf s).trans (by kernel_rfl)
theorem inBlock_eq (id : Nat) (K : List Item) (s : St) : den prog ann 13 (.inBlock id :: K) s = den prog ann 13 K s := den_inBlock hf id K s
theorem exit_eq (id : Nat) (K : List Item) (s : St) : den prog ann 13 (.code (.exit id) :: K) s = exitV prog ann 13 (exitTo id K) s := den_exitV hf id K s
theorem call_eq (v0 : AV) (m : Mem) (h : closedL [v0] = true) : denC prog ann 13 [v0] m = (den prog ann 13 [.code b] ⟨[(0, v0)], 31, Mem.empty⟩).bind fun r => some (r.1, m) := (denC_pure hf (b := b) (by kernel_rfl) (by kernel_rfl) (by kernel_rfl) h m).trans (by kernel_rfl)
theorem pure_eq : (ann 13).pure = true := by kernel_rfl
attribute [simp] b_eq r0_eq r1_eq i0_eq i0t_eq r2_eq i0e_eq r3_eq k0_eq l0_eq k1_eq r5_eq r6_eq r7_eq i1_eq i1t_eq r8_eq i1e_eq r9_eq r10_eq r4_eq ret_eq nil_eq inBlock_eq exit_eq pure_eq
end strap_Single

namespace strap_search_find
/-- (pommel/strap.search).find -/
noncomputable def b : Code := (Try.f43.body).getD .skip
theorem hf : prog.funcs[43]? = some Try.f43 := by kernel_rfl
noncomputable def r0 : Code := findReg b 0
noncomputable def k0 : Code := findBlk b 0
noncomputable def r1 : Code := findReg b 1
noncomputable def i0 : Code := findCond b 0
noncomputable def i0t : Code := thenOf i0
noncomputable def i0e : Code := elseOf i0
noncomputable def r2 : Code := findReg b 2
noncomputable def r3 : Code := findReg b 3
noncomputable def i1 : Code := findCond b 1
noncomputable def i1t : Code := thenOf i1
noncomputable def i1e : Code := elseOf i1
noncomputable def r4 : Code := findReg b 4
noncomputable def i2 : Code := findCond b 2
noncomputable def i2t : Code := thenOf i2
noncomputable def i2e : Code := elseOf i2
noncomputable def r5 : Code := findReg b 5
noncomputable def r6 : Code := findReg b 6
noncomputable def r7 : Code := findReg b 7
noncomputable def k1 : Code := findBlk b 1
noncomputable def l1 : Code := loopOf k1
noncomputable def L1 (x1 x2 x5 : AV) (m : Mem) (K : List Item) : Option Res := den prog ann 43 (.code l1 :: .inLoop l1 :: .inBlock 1 :: K) ⟨[(1, x1), (2, x2), (5, x5)], 54, m⟩
noncomputable def r8 : Code := findReg b 8
noncomputable def i3 : Code := findCond b 3
noncomputable def i3t : Code := thenOf i3
noncomputable def i3e : Code := elseOf i3
noncomputable def k2 : Code := findBlk b 2
noncomputable def r10 : Code := findReg b 10
noncomputable def r11 : Code := findReg b 11
noncomputable def i4 : Code := findCond b 4
noncomputable def i4t : Code := thenOf i4
noncomputable def i4e : Code := elseOf i4
noncomputable def r12 : Code := findReg b 12
noncomputable def r9 : Code := findReg b 9
noncomputable def r13 : Code := findReg b 13
theorem b_eq (K : List Item) (s : St) : den prog ann 43 (.code b :: K) s = den prog ann 43 (.code r0 :: .code k0 :: .code r7 :: .code k1 :: .code r13 :: .code .ret :: K) s := den_flat hf (l := [r0, k0, r7, k1, r13, .ret]) (by kernel_rfl) K s
theorem r0_eq (K : List Item) (s : St) : den prog ann 43 (.code r0 :: K) s = mreg prog ann 43 none [] none [] [
    ⟨some 2, none, .v fun s => frozenPtr (s.get 0)⟩,
    ⟨some 4, none, .v fun s => some (.nils)⟩] K s := (den_reg hf _ K s).trans (by kernel_rfl)
theorem k0_eq (K : List Item) (s : St) : den prog ann 43 (.code k0 :: K) s = den prog ann 43 (.code r1 :: .code i0 :: .inBlock 0 :: K) s := den_blk hf (b := blkOf k0) (l := [r1, i0]) (by kernel_rfl) (by kernel_rfl) K s
theorem r1_eq (K : List Item) (s : St) : den prog ann 43 (.code r1 :: K) s = mreg prog ann 43 none [] none [] [
    ⟨some 8, none, .v fun s => fieldA 2 (s.get 2)⟩,
    ⟨some 9, none, .v fun s => loadF false 1 (s.get 8)⟩,
    ⟨some 10, none, .v fun s => some (s.get 1)⟩,
    ⟨some 11, none, .c 0 (fun s => (s.get 9)) fun s => [(s.get 10)]⟩,
    ⟨some 12, none, .v fun s => unA .not (s.get 11)⟩,
    ⟨some 7, none, .v fun s => some (s.get 12)⟩] K s := (den_reg hf _ K s).trans (by kernel_rfl)
theorem i0_eq (K : List Item) (s : St) : den prog ann 43 (.code i0 :: K) s = ifV prog ann 43 7 i0t i0e K s (s.get 7) := den_if hf (by kernel_rfl) K s
theorem i0t_eq (K : List Item) (s : St) : den prog ann 43 (.code i0t :: K) s = den prog ann 43 (.code r2 :: .code .ret :: K) s := den_flat hf (l := [r2, .ret]) (by kernel_rfl) K s
theorem r2_eq (K : List Item) (s : St) : den prog ann 43 (.code r2 :: K) s = mreg prog ann 43 none [] none [] [
    ⟨some 4, none, .v fun s => some (.nils)⟩] K s := (den_reg hf _ K s).trans (by kernel_rfl)
theorem i0e_eq (K : List Item) (s : St) : den prog ann 43 (.code i0e :: K) s = den prog ann 43 (.code r3 :: .code i1 :: K) s := den_flat hf (l := [r3, i1]) (by kernel_rfl) K s
theorem r3_eq (K : List Item) (s : St) : den prog ann 43 (.code r3 :: K) s = mreg prog ann 43 none [] none [] [
    ⟨some 14, none, .v fun s => some (s.get 1)⟩,
    ⟨some 15, none, .v fun s => lenSl (s.get 14)⟩,
    ⟨some 16, none, .v fun s => fieldA 0 (s.get 2)⟩,
    ⟨some 17, none, .v fun s => loadF false 1 (s.get 16)⟩,
    ⟨some 18, none, .v fun s => binA prog .eql 3 (s.get 15) (s.get 17)⟩,
    ⟨some 13, none, .v fun s => some (s.get 18)⟩] K s := (den_reg hf _ K s).trans (by kernel_rfl)
theorem i1_eq (K : List Item) (s : St) : den prog ann 43 (.code i1 :: K) s = ifV prog ann 43 13 i1t i1e K s (s.get 13) := den_if hf (by kernel_rfl) K s
theorem i1t_eq (K : List Item) (s : St) : den prog ann 43 (.code i1t :: K) s = den prog ann 43 (.code r4 :: .code i2 :: .code r6 :: .code .ret :: K) s := den_flat hf (l := [r4, i2, r6, .ret]) (by kernel_rfl) K s
theorem r4_eq (K : List Item) (s : St) : den prog ann 43 (.code r4 :: K) s = mreg prog ann 43 none [] none [] [
    ⟨some 19, none, .v fun s => fieldA 3 (s.get 2)⟩,
    ⟨some 20, none, .v fun s => loadF false 1 (s.get 19)⟩,
    ⟨some 21, none, .v fun s => some (s.get 1)⟩,
    ⟨some 22, none, .c 0 (fun s => (s.get 20)) fun s => [(s.get 21)]⟩] K s := (den_reg hf _ K s).trans (by kernel_rfl)
theorem i2_eq (K : List Item) (s : St) : den prog ann 43 (.code i2 :: K) s = ifV prog ann 43 22 i2t i2e K s (s.get 22) := den_if hf (by kernel_rfl) K s
theorem i2t_eq (K : List Item) (s : St) : den prog ann 43 (.code i2t :: K) s = den prog ann 43 (.code r5 :: .code .ret :: K) s := den_flat hf (l := [r5, .ret]) (by kernel_rfl) K s
theorem r5_eq (K : List Item) (s : St) : den prog ann 43 (.code r5 :: K) s = mreg prog ann 43 none [] none [] [
    ⟨some 23, none, .v fun s => some (s.get 1)⟩,
    ⟨some 4, none, .v fun s => some (s.get 23)⟩] K s := (den_reg hf _ K s).trans (by kernel_rfl)
theorem i2e_eq (K : List Item) (s : St) : den prog ann 43 (.code i2e :: K) s = den prog ann 43 (K) s := den_flat hf (l := []) (by kernel_rfl) K s
theorem r6_eq (K : List Item) (s : St) : den prog ann 43 (.code r6 :: K) s = mreg prog ann 43 none [] none [] [
    ⟨some 4, none, .v fun s => some (.nils)⟩] K s := (den_reg hf _ K s).trans (by kernel_rfl)
theorem i1e_eq (K : List Item) (s : St) : den prog ann 43 (.code i1e :: K) s = den prog ann 43 (K) s := den_flat hf (l := []) (by kernel_rfl) K s
theorem r7_eq (K : List Item) (s : St) : den prog ann 43 (.code r7 :: K) s = mreg prog ann 43 (some [1, 2]) [] none [] [
    ⟨some 24, none, .v fun s => some (s.get 1)⟩,
    ⟨some 25, none, .v fun s => some (s.get 1)⟩,
    ⟨some 26, none, .v fun s => lenSl (s.get 25)⟩,
    ⟨some 27, none, .v fun s => binA prog .sub 3 (s.get 26) (.int .i64 1)⟩,
    ⟨some 28, none, .v fun s => idxSl 1 (s.get 24) (s.get 27)⟩,
    ⟨some 29, none, .v fun s => loadF false 1 (s.get 28)⟩,
    ⟨some 30, none, .v fun s => binA prog .add 3 (s.get 29) (.int .i64 1)⟩,
    ⟨some 5, none, .v fun s => some (s.get 30)⟩] K s := (den_reg hf _ K s).trans (by kernel_rfl)
theorem k1_eq (K : List Item) (t : List (Nat × AV)) (m : Mem) : den prog ann 43 (.code k1 :: K) ⟨t, 54, m⟩ = L1 (get t 1) (get t 2) (get t 5) m K := den_loop_enter hf (b := l1) (id := 8) (l := [1, 2, 5]) (by kernel_rfl) (by kernel_rfl) (by kernel_rfl) K _
theorem l1_eq (K : List Item) (t : List (Nat × AV)) (m : Mem) : den prog ann 43 (.inLoop l1 :: .inBlock 1 :: K) ⟨t, 54, m⟩ = L1 (get t 1) (get t 2) (get t 5) m K := den_loop_again hf (id := 8) (l := [1, 2, 5]) (by kernel_rfl) (by kernel_rfl) (.inBlock 1 :: K) _
theorem L1_eq (x1 x2 x5 : AV) (m : Mem) (K : List Item) : L1 x1 x2 x5 m K = den prog ann 43 (.code r8 :: .code i3 :: .code k2 :: .code r9 :: .inLoop l1 :: .inBlock 1 :: K) ⟨[(1, x1), (2, x2), (5, x5)], 54, m⟩ := den_flat hf (l := [r8, i3, k2, r9]) (by kernel_rfl) _ _
theorem r8_eq (K : List Item) (s : St) : den prog ann 43 (.code r8 :: K) s = mreg prog ann 43 (some [1, 2, 5]) [] none [] [
    ⟨some 31, none, .v fun s => some (s.get 5)⟩,
    ⟨some 32, none, .v fun s => fieldA 1 (s.get 2)⟩,
    ⟨some 33, none, .v fun s => loadF false 1 (s.get 32)⟩,
    ⟨some 34, none, .v fun s => fieldA 0 (s.get 2)⟩,
    ⟨some 35, none, .v fun s => loadF false 1 (s.get 34)⟩,
    ⟨some 36, none, .v fun s => some (s.get 1)⟩,
    ⟨some 37, none, .v fun s => lenSl (s.get 36)⟩,
    ⟨some 38, none, .v fun s => binA prog .sub 3 (s.get 35) (s.get 37)⟩,
    ⟨some 39, none, .v fun s => binA prog .sub 3 (s.get 38) (.int .i64 1)⟩,
    ⟨some 40, none, .v fun s => binA prog .sub 3 (s.get 33) (s.get 39)⟩,
    ⟨some 41, none, .v fun s => binA prog .leq 3 (s.get 31) (s.get 40)⟩] K s := (den_reg hf _ K s).trans (by kernel_rfl)
theorem i3_eq (K : List Item) (s : St) : den prog ann 43 (.code i3 :: K) s = ifV prog ann 43 41 i3t i3e K s (s.get 41) := den_if hf (by kernel_rfl) K s
theorem i3t_eq (K : List Item) (s : St) : den prog ann 43 (.code i3t :: K) s = den prog ann 43 (K) s := den_flat hf (l := []) (by kernel_rfl) K s
theorem i3e_eq (K : List Item) (s : St) : den prog ann 43 (.code i3e :: K) s = den prog ann 43 (.code (.exit 1) :: K) s := den_flat hf (l := [(.exit 1)]) (by kernel_rfl) K s
theorem k2_eq (K : List Item) (s : St) : den prog ann 43 (.code k2 :: K) s = den prog ann 43 (.code r10 :: .code r11 :: .code i4 :: .inBlock 2 :: K) s := den_blk hf (b := blkOf k2) (l := [r10, r11, i4]) (by kernel_rfl) (by kernel_rfl) K s
theorem r10_draw : drawOk (fun g => (ann g).pure) (modeOf (ann 43) (idOf r10)) (frzOf (ann 43) (idOf r10)) (opsOf r10) = true := drawOk_of (an := [0, 0, 2, 0, 8, 30, 63, 127]) (by kernel_rfl) (by kernel_rfl)
theorem r10_eq (K : List Item) (s : St) : den prog ann 43 (.code r10 :: K) s = mreg prog ann 43 none [] (some 8) [] [
    ⟨some 44, none, .v fun s => loadF true 4 (s.get 2)⟩,
    ⟨some 45, none, .v fun s => some (s.get 1)⟩,
    ⟨some 46, none, .c 0 (fun s => (.fn 64 [] [])) fun s => [(s.get 45)]⟩,
    ⟨some 47, none, .v fun s => some (s.get 5)⟩,
    ⟨some 48, none, .v fun s => bslF 1 (bslA 1 1 [.int .i64 0] [(0, (s.get 47))])⟩,
    ⟨some 49, none, .w false (some 5) fun s => appendA 1 8 s.m (s.get 46) (s.get 48)⟩,
    ⟨some 50, none, .c 2 (fun s => (.fn 43 [] [])) fun s => [(s.get 44), (s.get 49)]⟩,
    ⟨some 6, none, .v fun s => some (s.get 50)⟩] K s := (den_regD hf r10_draw K s).trans (by kernel_rfl)
theorem r11_eq (K : List Item) (s : St) : den prog ann 43 (.code r11 :: K) s = mreg prog ann 43 none [] none [] [
    ⟨some 51, none, .v fun s => some (s.get 6)⟩,
    ⟨some 52, none, .v fun s => binA prog .neq 22 (s.get 51) (.nils)⟩] K s := (den_reg hf _ K s).trans (by kernel_rfl)
theorem i4_eq (K : List Item) (s : St) : den prog ann 43 (.code i4 :: K) s = ifV prog ann 43 52 i4t i4e K s (s.get 52) := den_if hf (by kernel_rfl) K s
theorem i4t_eq (K : List Item) (s : St) : den prog ann 43 (.code i4t :: K) s = den prog ann 43 (.code r12 :: .code .ret :: K) s := den_flat hf (l := [r12, .ret]) (by kernel_rfl) K s
theorem r12_eq (K : List Item) (s : St) : den prog ann 43 (.code r12 :: K) s = mreg prog ann 43 none [] none [] [
    ⟨some 53, none, .v fun s => some (s.get 6)⟩,
    ⟨some 4, none, .v fun s => some (s.get 53)⟩] K s := (den_reg hf _ K s).trans (by kernel_rfl)
theorem i4e_eq (K : List Item) (s : St) : den prog ann 43 (.code i4e :: K) s = den prog ann 43 (K) s := den_flat hf (l := []) (by kernel_rfl) K s
theorem r9_eq (K : List Item) (s : St) : den prog ann 43 (.code r9 :: K) s = mreg prog ann 43 (some [1, 2, 5]) [] none [] [
    ⟨some 42, none, .v fun s => some (s.get 5)⟩,
    ⟨some 43, none, .v fun s => binA prog .add 3 (s.get 42) (.int .i64 1)⟩,
    ⟨some 5, none, .v fun s => some (s.get 43)⟩] K s := (den_reg hf _ K s).trans (by kernel_rfl)
theorem r13_eq (K : List Item) (s : St) : den prog ann 43 (.code r13 :: K) s = mreg prog ann 43 (some []) [] none [] [
    ⟨some 4, none, .v fun s => some (.nils)⟩] K s := (den_reg hf _ K s).trans (by kernel_rfl)
theorem ret_eq (K : List Item) (s : St) : den prog ann 43 (.code .ret :: K) s = finM true [fun s => some (s.get 4)] s := (den_ret hf K s).trans (by kernel_rfl)
theorem nil_eq (s : St) : den prog ann 43 [] s = finM true [fun s => some (s.get 4)] s := (den_nil hf s).trans (by kernel_rfl)
theorem inBlock_eq (id : Nat) (K : List Item) (s : St) : den prog ann 43 (.inBlock id :: K) s = den prog ann 43 K s := den_inBlock hf id K s
theorem exit_eq (id : Nat) (K : List Item) (s : St) : den prog ann 43 (.code (.exit id) :: K) s = exitV prog ann 43 (exitTo id K) s := den_exitV hf id K s
theorem call_eq (v0 v1 : AV) (m : Mem) (h : closedL [v0, v1] = true) : denC prog ann 43 [v0, v1] m = (den prog ann 43 [.code b] ⟨[(0, v0), (1, v1)], 54, Mem.empty⟩).bind fun r => some (r.1, m) := (denC_pure hf (b := b) (by kernel_rfl) (by kernel_rfl) (by kernel_rfl) h m).trans (by kernel_rfl)
theorem pure_eq : (ann 43).pure = true := by kernel_rfl
attribute [simp] b_eq r0_eq k0_eq r1_eq i0_eq i0t_eq r2_eq i0e_eq r3_eq i1_eq i1t_eq r4_eq i2_eq i2t_eq r5_eq i2e_eq r6_eq i1e_eq r7_eq k1_eq l1_eq r8_eq i3_eq i3t_eq i3e_eq k2_eq r10_eq r11_eq i4_eq i4t_eq r12_eq i4e_eq r9_eq r13_eq ret_eq nil_eq inBlock_eq exit_eq pure_eq
end strap_search_find

namespace strap_single
/-- pommel/strap.single -/
noncomputable def b : Code := (Try.f42.body).getD .skip
theorem hf : prog.funcs[42]? = some Try.f42 := by kernel_rfl
noncomputable def r0 : Code := findReg b 0
noncomputable def r1 : Code := findReg b 1
theorem b_eq (K : List Item) (s : St) : den prog ann 42 (.code b :: K) s = den prog ann 42 (.code r0 :: .code r1 :: .code .ret :: K) s := den_flat hf (l := [r0, r1, .ret]) (by kernel_rfl) K s
theorem r0_eq (K : List Item) (s : St) : den prog ann 42 (.code r0 :: K) s = mreg prog ann 42 none [] none [] [
    ⟨some 2, none, .v fun s => some (.bool false)⟩] K s := (den_reg hf _ K s).trans (by kernel_rfl)
theorem r1_eq (K : List Item) (s : St) : den prog ann 42 (.code r1 :: K) s = mreg prog ann 42 none [] none [] [
    ⟨some 3, none, .v fun s => some (s.get 0)⟩,
    ⟨some 4, none, .c 0 (fun s => (.fn 50 [] [])) fun s => [(s.get 3)]⟩,
    ⟨some 5, none, .c 0 (fun s => (.fn 58 [] [])) fun s => [(s.get 4)]⟩,
    ⟨some 6, none, .v fun s => binA prog .leq 3 (s.get 5) (.int .i64 1)⟩,
    ⟨some 2, none, .v fun s => some (s.get 6)⟩] K s := (den_reg hf _ K s).trans (by kernel_rfl)
theorem ret_eq (K : List Item) (s : St) : den prog ann 42 (.code .ret :: K) s = finM true [fun s => some (s.get 2)] s := (den_ret hf K s).trans (by kernel_rfl)
theorem nil_eq (s : St) : den prog ann 42 [] s = finM true [fun s => some (s.get 2)] s := (den_nil hf s).trans (by kernel_rfl)
theorem inBlock_eq (id : Nat) (K : List Item) (s : St) : den prog ann 42 (.inBlock id :: K) s = den prog ann 42 K s := den_inBlock hf id K s
theorem exit_eq (id : Nat) (K : List Item) (s : St) : den prog ann 42 (.code (.exit id) :: K) s = exitV prog ann 42 (exitTo id K) s := den_exitV hf id K s
theorem call_eq (v0 : AV) (m : Mem) (h : closedL [v0] = true) : denC prog ann 42 [v0] m = (den prog ann 42 [.code b] ⟨[(0, v0)], 7, Mem.empty⟩).bind fun r => some (r.1, m) := (denC_pure hf (b := b) (by kernel_rfl) (by kernel_rfl) (by kernel_rfl) h m).trans (by kernel_rfl)
theorem pure_eq : (ann 42).pure = true := by kernel_rfl
attribute [simp] b_eq r0_eq r1_eq ret_eq nil_eq inBlock_eq exit_eq pure_eq
end strap_single

namespace strap_Single_1
/-- pommel/strap.Single$1 -/
noncomputable def b : Code := (Try.f41.body).getD .skip
theorem hf : prog.funcs[41]? = some Try.f41 := by kernel_rfl
noncomputable def r0 : Code := findReg b 0
noncomputable def r1 : Code := findReg b 1
theorem b_eq (K : List Item) (s : St) : den prog ann 41 (.code b :: K) s = den prog ann 41 (.code r0 :: .code r1 :: .code .ret :: K) s := den_flat hf (l := [r0, r1, .ret]) (by kernel_rfl) K s
theorem r0_eq (K : List Item) (s : St) : den prog ann 41 (.code r0 :: K) s = mreg prog ann 41 none [] none [] [
    ⟨some 3, none, .v fun s => some (.bool false)⟩] K s := (den_reg hf _ K s).trans (by kernel_rfl)
theorem r1_draw : drawOk (fun g => (ann g).pure) (modeOf (ann 41) (idOf r1)) (frzOf (ann 41) (idOf r1)) (opsOf r1) = true := drawOk_of (an := [0, 0, 2, 6, 15, 31, 0, 127, 255]) (by kernel_rfl) (by kernel_rfl)
theorem r1_eq (K : List Item) (s : St) : den prog ann 41 (.code r1 :: K) s = mreg prog ann 41 none [] (some 9) [] [
    ⟨some 4, none, .v fun s => some (s.get 0)⟩,
    ⟨some 5, none, .v fun s => some (s.get 0)⟩,
    ⟨some 6, none, .v fun s => lenSl (s.get 5)⟩,
    ⟨some 7, none, .v fun s => binA prog .sub 3 (s.get 6) (.int .i64 1)⟩,
    ⟨some 8, none, .v fun s => idxSl 1 (s.get 4) (s.get 7)⟩,
    ⟨some 9, none, .v fun s => loadA false 1 s.m (s.get 8)⟩,
    ⟨some 10, none, .v fun s => loadA false 1 s.m (s.get 1)⟩,
    ⟨some 11, none, .v fun s => binA prog .eql 3 (s.get 9) (s.get 10)⟩,
    ⟨some 3, none, .v fun s => some (s.get 11)⟩] K s := (den_regD hf r1_draw K s).trans (by kernel_rfl)
theorem ret_eq (K : List Item) (s : St) : den prog ann 41 (.code .ret :: K) s = finM false [fun s => some (s.get 3)] s := (den_ret hf K s).trans (by kernel_rfl)
theorem nil_eq (s : St) : den prog ann 41 [] s = finM false [fun s => some (s.get 3)] s := (den_nil hf s).trans (by kernel_rfl)
theorem inBlock_eq (id : Nat) (K : List Item) (s : St) : den prog ann 41 (.inBlock id :: K) s = den prog ann 41 K s := den_inBlock hf id K s
theorem exit_eq (id : Nat) (K : List Item) (s : St) : den prog ann 41 (.code (.exit id) :: K) s = exitV prog ann 41 (exitTo id K) s := den_exitV hf id K s
theorem call_eq (v0 v1 : AV) (m : Mem) : denC prog ann 41 [v0, v1] m = den prog ann 41 [.code b] ⟨[(0, v0), (1, v1)], 12, m⟩ := (denC_impure hf (b := b) (by kernel_rfl) (by kernel_rfl) (by kernel_rfl) m).trans (by kernel_rfl)
theorem pure_eq : (ann 41).pure = false := by kernel_rfl
attribute [simp] b_eq r0_eq r1_eq ret_eq nil_eq inBlock_eq exit_eq pure_eq
end strap_Single_1

namespace slices_Max_int
/-- slices.Maxintint -/
noncomputable def b : Code := (Try.f58.body).getD .skip
theorem hf : prog.funcs[58]? = some Try.f58 := by kernel_rfl
noncomputable def r0 : Code := findReg b 0
noncomputable def r1 : Code := findReg b 1
noncomputable def i0 : Code := findCond b 0
noncomputable def i0t : Code := thenOf i0
noncomputable def i0e : Code := elseOf i0
noncomputable def r2 : Code := findReg b 2
noncomputable def r3 : Code := findReg b 3
noncomputable def r4 : Code := findReg b 4
noncomputable def k0 : Code := findBlk b 0
noncomputable def l0 : Code := loopOf k0
noncomputable def L0 (x0 x3 x4 : AV) (m : Mem) (K : List Item) : Option Res := den prog ann 58 (.code l0 :: .inLoop l0 :: .inBlock 0 :: K) ⟨[(0, x0), (3, x3), (4, x4)], 25, m⟩
noncomputable def r5 : Code := findReg b 5
noncomputable def i1 : Code := findCond b 1
noncomputable def i1t : Code := thenOf i1
noncomputable def i1e : Code := elseOf i1
noncomputable def k1 : Code := findBlk b 1
noncomputable def r7 : Code := findReg b 7
noncomputable def r6 : Code := findReg b 6
noncomputable def r8 : Code := findReg b 8
theorem b_eq (K : List Item) (s : St) : den prog ann 58 (.code b :: K) s = den prog ann 58 (.code r0 :: .code r1 :: .code i0 :: .code r3 :: .code r4 :: .code k0 :: .code r8 :: .code .ret :: K) s := den_flat hf (l := [r0, r1, i0, r3, r4, k0, r8, .ret]) (by kernel_rfl) K s
theorem r0_eq (K : List Item) (s : St) : den prog ann 58 (.code r0 :: K) s = mreg prog ann 58 none [] none [] [
    ⟨some 2, none, .v fun s => some (.int .i64 0)⟩] K s := (den_reg hf _ K s).trans (by kernel_rfl)
theorem r1_eq (K : List Item) (s : St) : den prog ann 58 (.code r1 :: K) s = mreg prog ann 58 none [] none [] [
    ⟨some 5, none, .v fun s => some (s.get 0)⟩,
    ⟨some 6, none, .v fun s => lenSl (s.get 5)⟩,
    ⟨some 7, none, .v fun s => binA prog .lss 3 (s.get 6) (.int .i64 1)⟩] K s := (den_reg hf _ K s).trans (by kernel_rfl)
theorem i0_eq (K : List Item) (s : St) : den prog ann 58 (.code i0 :: K) s = ifV prog ann 58 7 i0t i0e K s (s.get 7) := den_if hf (by kernel_rfl) K s
theorem i0t_eq (K : List Item) (s : St) : den prog ann 58 (.code i0t :: K) s = den prog ann 58 (.code r2 :: K) s := den_flat hf (l := [r2]) (by kernel_rfl) K s
-- not covered: r2, operation 1
theorem i0e_eq (K : List Item) (s : St) : den prog ann 58 (.code i0e :: K) s = den prog ann 58 (K) s := den_flat hf (l := []) (by kernel_rfl) K s
theorem r3_eq (K : List Item) (s : St) : den prog ann 58 (.code r3 :: K) s = mreg prog ann 58 (some [0]) [] none [] [
    ⟨some 9, none, .v fun s => some (s.get 0)⟩,
    ⟨some 10, none, .v fun s => idxSl 1 (s.get 9) (.int .i64 0)⟩,
    ⟨some 11, none, .v fun s => loadF false 1 (s.get 10)⟩,
    ⟨some 3, none, .v fun s => some (s.get 11)⟩] K s := (den_reg hf _ K s).trans (by kernel_rfl)
theorem r4_eq (K : List Item) (s : St) : den prog ann 58 (.code r4 :: K) s = mreg prog ann 58 none [] none [] [
    ⟨some 4, none, .v fun s => some (.int .i64 1)⟩] K s := (den_reg hf _ K s).trans (by kernel_rfl)
theorem k0_eq (K : List Item) (t : List (Nat × AV)) (m : Mem) : den prog ann 58 (.code k0 :: K) ⟨t, 25, m⟩ = L0 (get t 0) (get t 3) (get t 4) m K := den_loop_enter hf (b := l0) (id := 5) (l := [0, 3, 4]) (by kernel_rfl) (by kernel_rfl) (by kernel_rfl) K _
theorem l0_eq (K : List Item) (t : List (Nat × AV)) (m : Mem) : den prog ann 58 (.inLoop l0 :: .inBlock 0 :: K) ⟨t, 25, m⟩ = L0 (get t 0) (get t 3) (get t 4) m K := den_loop_again hf (id := 5) (l := [0, 3, 4]) (by kernel_rfl) (by kernel_rfl) (.inBlock 0 :: K) _
theorem L0_eq (x0 x3 x4 : AV) (m : Mem) (K : List Item) : L0 x0 x3 x4 m K = den prog ann 58 (.code r5 :: .code i1 :: .code k1 :: .code r6 :: .inLoop l0 :: .inBlock 0 :: K) ⟨[(0, x0), (3, x3), (4, x4)], 25, m⟩ := den_flat hf (l := [r5, i1, k1, r6]) (by kernel_rfl) _ _
theorem r5_eq (K : List Item) (s : St) : den prog ann 58 (.code r5 :: K) s = mreg prog ann 58 (some [0, 3, 4]) [] none [] [
    ⟨some 12, none, .v fun s => some (s.get 4)⟩,
    ⟨some 13, none, .v fun s => some (s.get 0)⟩,
    ⟨some 14, none, .v fun s => lenSl (s.get 13)⟩,
    ⟨some 15, none, .v fun s => binA prog .lss 3 (s.get 12) (s.get 14)⟩] K s := (den_reg hf _ K s).trans (by kernel_rfl)
theorem i1_eq (K : List Item) (s : St) : den prog ann 58 (.code i1 :: K) s = ifV prog ann 58 15 i1t i1e K s (s.get 15) := den_if hf (by kernel_rfl) K s
theorem i1t_eq (K : List Item) (s : St) : den prog ann 58 (.code i1t :: K) s = den prog ann 58 (K) s := den_flat hf (l := []) (by kernel_rfl) K s
theorem i1e_eq (K : List Item) (s : St) : den prog ann 58 (.code i1e :: K) s = den prog ann 58 (.code (.exit 0) :: K) s := den_flat hf (l := [(.exit 0)]) (by kernel_rfl) K s
theorem k1_eq (K : List Item) (s : St) : den prog ann 58 (.code k1 :: K) s = den prog ann 58 (.code r7 :: .inBlock 1 :: K) s := den_blk hf (b := blkOf k1) (l := [r7]) (by kernel_rfl) (by kernel_rfl) K s
theorem r7_eq (K : List Item) (s : St) : den prog ann 58 (.code r7 :: K) s = mreg prog ann 58 none [] none [] [
    ⟨some 18, none, .v fun s => some (s.get 3)⟩,
    ⟨some 19, none, .v fun s => some (s.get 0)⟩,
    ⟨some 20, none, .v fun s => some (s.get 4)⟩,
    ⟨some 21, none, .v fun s => idxSl 1 (s.get 19) (s.get 20)⟩,
    ⟨some 22, none, .v fun s => loadF false 1 (s.get 21)⟩,
    ⟨some 23, none, .v fun s => foldA max2A (s.get 18) [(s.get 22)]⟩,
    ⟨some 3, none, .v fun s => some (s.get 23)⟩] K s := (den_reg hf _ K s).trans (by kernel_rfl)
theorem r6_eq (K : List Item) (s : St) : den prog ann 58 (.code r6 :: K) s = mreg prog ann 58 (some [0, 3, 4]) [] none [] [
    ⟨some 16, none, .v fun s => some (s.get 4)⟩,
    ⟨some 17, none, .v fun s => binA prog .add 3 (s.get 16) (.int .i64 1)⟩,
    ⟨some 4, none, .v fun s => some (s.get 17)⟩] K s := (den_reg hf _ K s).trans (by kernel_rfl)
theorem r8_eq (K : List Item) (s : St) : den prog ann 58 (.code r8 :: K) s = mreg prog ann 58 (some [3]) [] none [] [
    ⟨some 24, none, .v fun s => some (s.get 3)⟩,
    ⟨some 2, none, .v fun s => some (s.get 24)⟩] K s := (den_reg hf _ K s).trans (by kernel_rfl)
theorem ret_eq (K : List Item) (s : St) : den prog ann 58 (.code .ret :: K) s = finM true [fun s => some (s.get 2)] s := (den_ret hf K s).trans (by kernel_rfl)
theorem nil_eq (s : St) : den prog ann 58 [] s = finM true [fun s => some (s.get 2)] s := (den_nil hf s).trans (by kernel_rfl)
theorem inBlock_eq (id : Nat) (K : List Item) (s : St) : den prog ann 58 (.inBlock id :: K) s = den prog ann 58 K s := den_inBlock hf id K s
theorem exit_eq (id : Nat) (K : List Item) (s : St) : den prog ann 58 (.code (.exit id) :: K) s = exitV prog ann 58 (exitTo id K) s := den_exitV hf id K s
theorem call_eq (v0 : AV) (m : Mem) (h : closedL [v0] = true) : denC prog ann 58 [v0] m = (den prog ann 58 [.code b] ⟨[(0, v0)], 25, Mem.empty⟩).bind fun r => some (r.1, m) := (denC_pure hf (b := b) (by kernel_rfl) (by kernel_rfl) (by kernel_rfl) h m).trans (by kernel_rfl)
theorem pure_eq : (ann 58).pure = true := by kernel_rfl
attribute [simp] b_eq r0_eq r1_eq i0_eq i0t_eq i0e_eq r3_eq r4_eq k0_eq l0_eq r5_eq i1_eq i1t_eq i1e_eq k1_eq r7_eq r6_eq r8_eq ret_eq nil_eq inBlock_eq exit_eq pure_eq
end slices_Max_int
end Go.Proofs.Ytpghadmpegncgaa

/-
  BODIES OF FUNCTIONS OF THE PROGRAM AS SMALL OPERATIONS (written by gen.py; checked by the kernel against the program). Conditions: none.
-/
namespace Go.Proofs.Ytpghadmpegncgaa
open Go.AM
open Go.Proofs.Try (prog)
set_option maxRecDepth 100000
set_option linter.all false

namespace slices_Clone_int
/-- slices.Cloneintint -/
noncomputable def b : Code := (Try.f64.body).getD .skip
theorem hf : prog.funcs[64]? = some Try.f64 := by kernel_rfl
noncomputable def r0 : Code := findReg b 0
noncomputable def r1 : Code := findReg b 1
noncomputable def i0 : Code := findCond b 0
noncomputable def i0t : Code := thenOf i0
noncomputable def i0e : Code := elseOf i0
noncomputable def r2 : Code := findReg b 2
noncomputable def r3 : Code := findReg b 3
theorem b_eq (K : List Item) (s : St) : den prog ann 64 (.code b :: K) s = den prog ann 64 (.code r0 :: .code r1 :: .code i0 :: .code r3 :: .code .ret :: K) s := den_flat hf (l := [r0, r1, i0, r3, .ret]) (by kernel_rfl) K s
theorem r0_eq (K : List Item) (s : St) : den prog ann 64 (.code r0 :: K) s = mreg prog ann 64 none [] none [] [
    ⟨some 2, none, .v fun s => some (.nils)⟩] K s := (den_reg hf _ K s).trans (by kernel_rfl)
theorem r1_eq (K : List Item) (s : St) : den prog ann 64 (.code r1 :: K) s = mreg prog ann 64 none [] none [] [
    ⟨some 3, none, .v fun s => some (s.get 0)⟩,
    ⟨some 4, none, .v fun s => binA prog .eql 22 (s.get 3) (.nils)⟩] K s := (den_reg hf _ K s).trans (by kernel_rfl)
theorem i0_eq (K : List Item) (s : St) : den prog ann 64 (.code i0 :: K) s = ifV prog ann 64 4 i0t i0e K s (s.get 4) := den_if hf (by kernel_rfl) K s
theorem i0t_eq (K : List Item) (s : St) : den prog ann 64 (.code i0t :: K) s = den prog ann 64 (.code r2 :: .code .ret :: K) s := den_flat hf (l := [r2, .ret]) (by kernel_rfl) K s
theorem r2_eq (K : List Item) (s : St) : den prog ann 64 (.code r2 :: K) s = mreg prog ann 64 none [] none [] [
    ⟨some 2, none, .v fun s => some (.nils)⟩] K s := (den_reg hf _ K s).trans (by kernel_rfl)
theorem i0e_eq (K : List Item) (s : St) : den prog ann 64 (.code i0e :: K) s = den prog ann 64 (K) s := den_flat hf (l := []) (by kernel_rfl) K s
theorem r3_eq (K : List Item) (s : St) : den prog ann 64 (.code r3 :: K) s = mreg prog ann 64 none [] none [] [
    ⟨some 5, none, .w false none fun s => bslM s.m 0 (bslA 1 0 [.int .i64 0] [])⟩,
    ⟨some 6, none, .v fun s => some (s.get 0)⟩,
    ⟨some 7, none, .w false none fun s => appendA 1 8 s.m (s.get 5) (s.get 6)⟩,
    ⟨some 2, none, .v fun s => some (s.get 7)⟩] K s := (den_reg hf _ K s).trans (by kernel_rfl)
theorem ret_eq (K : List Item) (s : St) : den prog ann 64 (.code .ret :: K) s = finM false [fun s => some (s.get 2)] s := (den_ret hf K s).trans (by kernel_rfl)
theorem nil_eq (s : St) : den prog ann 64 [] s = finM false [fun s => some (s.get 2)] s := (den_nil hf s).trans (by kernel_rfl)
theorem inBlock_eq (id : Nat) (K : List Item) (s : St) : den prog ann 64 (.inBlock id :: K) s = den prog ann 64 K s := den_inBlock hf id K s
theorem exit_eq (id : Nat) (K : List Item) (s : St) : den prog ann 64 (.code (.exit id) :: K) s = exitV prog ann 64 (exitTo id K) s := den_exitV hf id K s
theorem call_eq (v0 : AV) (m : Mem) : denC prog ann 64 [v0] m = den prog ann 64 [.code b] ⟨[(0, v0)], 8, m⟩ := (denC_impure hf (b := b) (by kernel_rfl) (by kernel_rfl) (by kernel_rfl) m).trans (by kernel_rfl)
theorem pure_eq : (ann 64).pure = false := by kernel_rfl
attribute [simp] b_eq r0_eq r1_eq i0_eq i0t_eq r2_eq i0e_eq r3_eq ret_eq nil_eq inBlock_eq exit_eq pure_eq
end slices_Clone_int

namespace r04_Single
/-- pommel/pommelref04.Single -/
noncomputable def b : Code := (Try.f16.body).getD .skip
theorem hf : prog.funcs[16]? = some Try.f16 := by kernel_rfl
noncomputable def r0 : Code := findReg b 0
noncomputable def r1 : Code := findReg b 1
noncomputable def k0 : Code := findBlk b 0
noncomputable def l0 : Code := loopOf k0
noncomputable def L0 (x0 x3 : AV) (m : Mem) (K : List Item) : Option Res := den prog ann 16 (.code l0 :: .inLoop l0 :: .inBlock 0 :: K) ⟨[(0, x0), (3, x3)], 14, m⟩
noncomputable def k1 : Code := findBlk b 1
noncomputable def r3 : Code := findReg b 3
noncomputable def r4 : Code := findReg b 4
noncomputable def i0 : Code := findCond b 0
noncomputable def i0t : Code := thenOf i0
noncomputable def i0e : Code := elseOf i0
noncomputable def r5 : Code := findReg b 5
noncomputable def r2 : Code := findReg b 2
theorem b_eq (K : List Item) (s : St) : den prog ann 16 (.code b :: K) s = den prog ann 16 (.code r0 :: .code r1 :: .code k0 :: K) s := den_flat hf (l := [r0, r1, k0]) (by kernel_rfl) K s
theorem r0_eq (K : List Item) (s : St) : den prog ann 16 (.code r0 :: K) s = mreg prog ann 16 none [] none [] [
    ⟨some 2, none, .v fun s => some (.nils)⟩] K s := (den_reg hf _ K s).trans (by kernel_rfl)
theorem r1_eq (K : List Item) (s : St) : den prog ann 16 (.code r1 :: K) s = mreg prog ann 16 none [] none [] [
    ⟨some 3, none, .v fun s => some (.int .i64 0)⟩] K s := (den_reg hf _ K s).trans (by kernel_rfl)
theorem k0_eq (K : List Item) (t : List (Nat × AV)) (m : Mem) : den prog ann 16 (.code k0 :: K) ⟨t, 14, m⟩ = L0 (get t 0) (get t 3) m K := den_loop_enter hf (b := l0) (id := 3) (l := [0, 3]) (by kernel_rfl) (by kernel_rfl) (by kernel_rfl) K _
theorem l0_eq (K : List Item) (t : List (Nat × AV)) (m : Mem) : den prog ann 16 (.inLoop l0 :: .inBlock 0 :: K) ⟨t, 14, m⟩ = L0 (get t 0) (get t 3) m K := den_loop_again hf (id := 3) (l := [0, 3]) (by kernel_rfl) (by kernel_rfl) (.inBlock 0 :: K) _
theorem L0_eq (x0 x3 : AV) (m : Mem) (K : List Item) : L0 x0 x3 m K = den prog ann 16 (.code k1 :: .code r2 :: .inLoop l0 :: .inBlock 0 :: K) ⟨[(0, x0), (3, x3)], 14, m⟩ := den_flat hf (l := [k1, r2]) (by kernel_rfl) _ _
theorem k1_eq (K : List Item) (s : St) : den prog ann 16 (.code k1 :: K) s = den prog ann 16 (.code r3 :: .code r4 :: .code i0 :: .inBlock 1 :: K) s := den_blk hf (b := blkOf k1) (l := [r3, r4, i0]) (by kernel_rfl) (by kernel_rfl) K s
theorem r3_eq (K : List Item) (s : St) : den prog ann 16 (.code r3 :: K) s = mreg prog ann 16 (some [0, 3]) [] none [] [
    ⟨some 7, none, .v fun s => bslF 1 (bslA 1 1 [.int .i64 0] [(0, (.int .i64 0))])⟩,
    ⟨some 8, none, .v fun s => some (s.get 0)⟩,
    ⟨some 9, none, .v fun s => some (s.get 3)⟩,
    ⟨some 10, none, .c 2 (fun s => (.fn 45 [] [])) fun s => [(s.get 7), (s.get 8), (s.get 9)]⟩,
    ⟨some 4, none, .v fun s => some (s.get 10)⟩] K s := (den_reg hf _ K s).trans (by kernel_rfl)
theorem r4_eq (K : List Item) (s : St) : den prog ann 16 (.code r4 :: K) s = mreg prog ann 16 none [] none [] [
    ⟨some 11, none, .v fun s => some (s.get 4)⟩,
    ⟨some 12, none, .v fun s => binA prog .neq 22 (s.get 11) (.nils)⟩] K s := (den_reg hf _ K s).trans (by kernel_rfl)
theorem i0_eq (K : List Item) (s : St) : den prog ann 16 (.code i0 :: K) s = ifV prog ann 16 12 i0t i0e K s (s.get 12) := den_if hf (by kernel_rfl) K s
theorem i0t_eq (K : List Item) (s : St) : den prog ann 16 (.code i0t :: K) s = den prog ann 16 (.code r5 :: .code .ret :: K) s := den_flat hf (l := [r5, .ret]) (by kernel_rfl) K s
theorem r5_eq (K : List Item) (s : St) : den prog ann 16 (.code r5 :: K) s = mreg prog ann 16 none [] none [] [
    ⟨some 13, none, .v fun s => some (s.get 4)⟩,
    ⟨some 2, none, .v fun s => some (s.get 13)⟩] K s := (den_reg hf _ K s).trans (by kernel_rfl)
theorem i0e_eq (K : List Item) (s : St) : den prog ann 16 (.code i0e :: K) s = den prog ann 16 (K) s := den_flat hf (l := []) (by kernel_rfl) K s
theorem r2_eq (K : List Item) (s : St) : den prog ann 16 (.code r2 :: K) s = mreg prog ann 16 (some [0, 3]) [] none [] [
    ⟨some 5, none, .v fun s => some (s.get 3)⟩,
    ⟨some 6, none, .v fun s => binA prog .add 3 (s.get 5) (.int .i64 1)⟩,
    ⟨some 3, none, .v fun s => some (s.get 6)⟩] K s := (den_reg hf _ K s).trans (by kernel_rfl)
theorem ret_eq (K : List Item) (s : St) : den prog ann 16 (.code .ret :: K) s = finM true [fun s => some (s.get 2)] s := (den_ret hf K s).trans (by kernel_rfl)
theorem nil_eq (s : St) : den prog ann 16 [] s = finM true [fun s => some (s.get 2)] s := (den_nil hf s).trans (by kernel_rfl)
theorem inBlock_eq (id : Nat) (K : List Item) (s : St) : den prog ann 16 (.inBlock id :: K) s = den prog ann 16 K s := den_inBlock hf id K s
theorem exit_eq (id : Nat) (K : List Item) (s : St) : den prog ann 16 (.code (.exit id) :: K) s = exitV prog ann 16 (exitTo id K) s := den_exitV hf id K s
theorem call_eq (v0 : AV) (m : Mem) (h : closedL [v0] = true) : denC prog ann 16 [v0] m = (den prog ann 16 [.code b] ⟨[(0, v0)], 14, Mem.empty⟩).bind fun r => some (r.1, m) := (denC_pure hf (b := b) (by kernel_rfl) (by kernel_rfl) (by kernel_rfl) h m).trans (by kernel_rfl)
theorem pure_eq : (ann 16).pure = true := by kernel_rfl
attribute [simp] b_eq r0_eq r1_eq k0_eq l0_eq k1_eq r3_eq r4_eq i0_eq i0t_eq r5_eq i0e_eq r2_eq ret_eq nil_eq inBlock_eq exit_eq pure_eq
end r04_Single

namespace r04_single
/-- pommel/pommelref04.single -/
noncomputable def b : Code := (Try.f45.body).getD .skip
theorem hf : prog.funcs[45]? = some Try.f45 := by kernel_rfl
noncomputable def r0 : Code := findReg b 0
noncomputable def r1 : Code := findReg b 1
noncomputable def i0 : Code := findCond b 0
noncomputable def i0t : Code := thenOf i0
noncomputable def i0e : Code := elseOf i0
noncomputable def r2 : Code := findReg b 2
noncomputable def r3 : Code := findReg b 3
noncomputable def i1 : Code := findCond b 1
noncomputable def i1t : Code := thenOf i1
noncomputable def i1e : Code := elseOf i1
noncomputable def r4 : Code := findReg b 4
noncomputable def i2 : Code := findCond b 2
noncomputable def i2t : Code := thenOf i2
noncomputable def i2e : Code := elseOf i2
noncomputable def r5 : Code := findReg b 5
noncomputable def r6 : Code := findReg b 6
noncomputable def r7 : Code := findReg b 7
noncomputable def k0 : Code := findBlk b 0
noncomputable def l0 : Code := loopOf k0
noncomputable def L0 (x0 x1 x2 x7 : AV) (m : Mem) (K : List Item) : Option Res := den prog ann 45 (.code l0 :: .inLoop l0 :: .inBlock 0 :: K) ⟨[(0, x0), (1, x1), (2, x2), (7, x7)], 49, m⟩
noncomputable def r8 : Code := findReg b 8
noncomputable def i3 : Code := findCond b 3
noncomputable def i3t : Code := thenOf i3
noncomputable def i3e : Code := elseOf i3
noncomputable def k1 : Code := findBlk b 1
noncomputable def r10 : Code := findReg b 10
noncomputable def r11 : Code := findReg b 11
noncomputable def i4 : Code := findCond b 4
noncomputable def i4t : Code := thenOf i4
noncomputable def i4e : Code := elseOf i4
noncomputable def r12 : Code := findReg b 12
noncomputable def r9 : Code := findReg b 9
noncomputable def r13 : Code := findReg b 13
theorem b_eq (K : List Item) (s : St) : den prog ann 45 (.code b :: K) s = den prog ann 45 (.code r0 :: .code r1 :: .code i0 :: .code r3 :: .code i1 :: .code r7 :: .code k0 :: .code r13 :: .code .ret :: K) s := den_flat hf (l := [r0, r1, i0, r3, i1, r7, k0, r13, .ret]) (by kernel_rfl) K s
theorem r0_eq (K : List Item) (s : St) : den prog ann 45 (.code r0 :: K) s = mreg prog ann 45 none [] none [] [
    ⟨some 6, none, .v fun s => some (.nils)⟩] K s := (den_reg hf _ K s).trans (by kernel_rfl)
theorem r1_eq (K : List Item) (s : St) : den prog ann 45 (.code r1 :: K) s = mreg prog ann 45 none [] none [] [
    ⟨some 9, none, .v fun s => some (s.get 0)⟩,
    ⟨some 10, none, .c 0 (fun s => (.fn 29 [] [])) fun s => [(s.get 9)]⟩,
    ⟨some 11, none, .v fun s => binA prog .neq 22 (s.get 10) (.nils)⟩] K s := (den_reg hf _ K s).trans (by kernel_rfl)
theorem i0_eq (K : List Item) (s : St) : den prog ann 45 (.code i0 :: K) s = ifV prog ann 45 11 i0t i0e K s (s.get 11) := den_if hf (by kernel_rfl) K s
theorem i0t_eq (K : List Item) (s : St) : den prog ann 45 (.code i0t :: K) s = den prog ann 45 (.code r2 :: .code .ret :: K) s := den_flat hf (l := [r2, .ret]) (by kernel_rfl) K s
theorem r2_eq (K : List Item) (s : St) : den prog ann 45 (.code r2 :: K) s = mreg prog ann 45 none [] none [] [
    ⟨some 6, none, .v fun s => some (.nils)⟩] K s := (den_reg hf _ K s).trans (by kernel_rfl)
theorem i0e_eq (K : List Item) (s : St) : den prog ann 45 (.code i0e :: K) s = den prog ann 45 (K) s := den_flat hf (l := []) (by kernel_rfl) K s
theorem r3_eq (K : List Item) (s : St) : den prog ann 45 (.code r3 :: K) s = mreg prog ann 45 none [] none [] [
    ⟨some 12, none, .v fun s => some (s.get 0)⟩,
    ⟨some 13, none, .v fun s => lenSl (s.get 12)⟩,
    ⟨some 14, none, .v fun s => some (s.get 1)⟩,
    ⟨some 15, none, .v fun s => binA prog .eql 3 (s.get 13) (s.get 14)⟩] K s := (den_reg hf _ K s).trans (by kernel_rfl)
theorem i1_eq (K : List Item) (s : St) : den prog ann 45 (.code i1 :: K) s = ifV prog ann 45 15 i1t i1e K s (s.get 15) := den_if hf (by kernel_rfl) K s
theorem i1t_eq (K : List Item) (s : St) : den prog ann 45 (.code i1t :: K) s = den prog ann 45 (.code r4 :: .code i2 :: .code r6 :: .code .ret :: K) s := den_flat hf (l := [r4, i2, r6, .ret]) (by kernel_rfl) K s
theorem r4_eq (K : List Item) (s : St) : den prog ann 45 (.code r4 :: K) s = mreg prog ann 45 none [] none [] [
    ⟨some 16, none, .v fun s => some (s.get 0)⟩,
    ⟨some 17, none, .v fun s => some (s.get 0)⟩,
    ⟨some 18, none, .v fun s => lenSl (s.get 17)⟩,
    ⟨some 19, none, .v fun s => binA prog .sub 3 (s.get 18) (.int .i64 1)⟩,
    ⟨some 20, none, .v fun s => idxSl 1 (s.get 16) (s.get 19)⟩,
    ⟨some 21, none, .v fun s => loadF false 1 (s.get 20)⟩,
    ⟨some 22, none, .v fun s => some (s.get 2)⟩,
    ⟨some 23, none, .v fun s => binA prog .eql 3 (s.get 21) (s.get 22)⟩] K s := (den_reg hf _ K s).trans (by kernel_rfl)
theorem i2_eq (K : List Item) (s : St) : den prog ann 45 (.code i2 :: K) s = ifV prog ann 45 23 i2t i2e K s (s.get 23) := den_if hf (by kernel_rfl) K s
theorem i2t_eq (K : List Item) (s : St) : den prog ann 45 (.code i2t :: K) s = den prog ann 45 (.code r5 :: .code .ret :: K) s := den_flat hf (l := [r5, .ret]) (by kernel_rfl) K s
theorem r5_eq (K : List Item) (s : St) : den prog ann 45 (.code r5 :: K) s = mreg prog ann 45 none [] none [] [
    ⟨some 24, none, .v fun s => some (s.get 0)⟩,
    ⟨some 6, none, .v fun s => some (s.get 24)⟩] K s := (den_reg hf _ K s).trans (by kernel_rfl)
theorem i2e_eq (K : List Item) (s : St) : den prog ann 45 (.code i2e :: K) s = den prog ann 45 (K) s := den_flat hf (l := []) (by kernel_rfl) K s
theorem r6_eq (K : List Item) (s : St) : den prog ann 45 (.code r6 :: K) s = mreg prog ann 45 none [] none [] [
    ⟨some 6, none, .v fun s => some (.nils)⟩] K s := (den_reg hf _ K s).trans (by kernel_rfl)
theorem i1e_eq (K : List Item) (s : St) : den prog ann 45 (.code i1e :: K) s = den prog ann 45 (K) s := den_flat hf (l := []) (by kernel_rfl) K s
theorem r7_eq (K : List Item) (s : St) : den prog ann 45 (.code r7 :: K) s = mreg prog ann 45 none [] none [] [
    ⟨some 25, none, .v fun s => some (s.get 0)⟩,
    ⟨some 26, none, .v fun s => some (s.get 0)⟩,
    ⟨some 27, none, .v fun s => lenSl (s.get 26)⟩,
    ⟨some 28, none, .v fun s => binA prog .sub 3 (s.get 27) (.int .i64 1)⟩,
    ⟨some 29, none, .v fun s => idxSl 1 (s.get 25) (s.get 28)⟩,
    ⟨some 30, none, .v fun s => loadF false 1 (s.get 29)⟩,
    ⟨some 31, none, .v fun s => binA prog .add 3 (s.get 30) (.int .i64 1)⟩,
    ⟨some 7, none, .v fun s => some (s.get 31)⟩] K s := (den_reg hf _ K s).trans (by kernel_rfl)
theorem k0_eq (K : List Item) (t : List (Nat × AV)) (m : Mem) : den prog ann 45 (.code k0 :: K) ⟨t, 49, m⟩ = L0 (get t 0) (get t 1) (get t 2) (get t 7) m K := den_loop_enter hf (b := l0) (id := 8) (l := [0, 1, 2, 7]) (by kernel_rfl) (by kernel_rfl) (by kernel_rfl) K _
theorem l0_eq (K : List Item) (t : List (Nat × AV)) (m : Mem) : den prog ann 45 (.inLoop l0 :: .inBlock 0 :: K) ⟨t, 49, m⟩ = L0 (get t 0) (get t 1) (get t 2) (get t 7) m K := den_loop_again hf (id := 8) (l := [0, 1, 2, 7]) (by kernel_rfl) (by kernel_rfl) (.inBlock 0 :: K) _
theorem L0_eq (x0 x1 x2 x7 : AV) (m : Mem) (K : List Item) : L0 x0 x1 x2 x7 m K = den prog ann 45 (.code r8 :: .code i3 :: .code k1 :: .code r9 :: .inLoop l0 :: .inBlock 0 :: K) ⟨[(0, x0), (1, x1), (2, x2), (7, x7)], 49, m⟩ := den_flat hf (l := [r8, i3, k1, r9]) (by kernel_rfl) _ _
theorem r8_eq (K : List Item) (s : St) : den prog ann 45 (.code r8 :: K) s = mreg prog ann 45 (some [0, 1, 2, 7]) [] none [] [
    ⟨some 32, none, .v fun s => some (s.get 7)⟩,
    ⟨some 33, none, .v fun s => some (s.get 2)⟩,
    ⟨some 34, none, .v fun s => binA prog .leq 3 (s.get 32) (s.get 33)⟩] K s := (den_reg hf _ K s).trans (by kernel_rfl)
theorem i3_eq (K : List Item) (s : St) : den prog ann 45 (.code i3 :: K) s = ifV prog ann 45 34 i3t i3e K s (s.get 34) := den_if hf (by kernel_rfl) K s
theorem i3t_eq (K : List Item) (s : St) : den prog ann 45 (.code i3t :: K) s = den prog ann 45 (K) s := den_flat hf (l := []) (by kernel_rfl) K s
theorem i3e_eq (K : List Item) (s : St) : den prog ann 45 (.code i3e :: K) s = den prog ann 45 (.code (.exit 0) :: K) s := den_flat hf (l := [(.exit 0)]) (by kernel_rfl) K s
theorem k1_eq (K : List Item) (s : St) : den prog ann 45 (.code k1 :: K) s = den prog ann 45 (.code r10 :: .code r11 :: .code i4 :: .inBlock 1 :: K) s := den_blk hf (b := blkOf k1) (l := [r10, r11, i4]) (by kernel_rfl) (by kernel_rfl) K s
theorem r10_eq (K : List Item) (s : St) : den prog ann 45 (.code r10 :: K) s = mreg prog ann 45 none [] none [] [
    ⟨some 37, none, .w false none fun s => bslM s.m 0 (bslA 1 0 [.int .i64 0] [])⟩,
    ⟨some 38, none, .v fun s => some (s.get 0)⟩,
    ⟨some 39, none, .w false none fun s => appendA 1 8 s.m (s.get 37) (s.get 38)⟩,
    ⟨some 40, none, .v fun s => some (s.get 7)⟩,
    ⟨some 41, none, .v fun s => bslF 1 (bslA 1 1 [.int .i64 0] [(0, (s.get 40))])⟩,
    ⟨some 42, none, .w true none fun s => appendA 1 8 s.m (s.get 39) (s.get 41)⟩,
    ⟨some 43, none, .v fun s => some (s.get 1)⟩,
    ⟨some 44, none, .v fun s => some (s.get 2)⟩,
    ⟨some 45, none, .c 2 (fun s => (.fn 45 [] [])) fun s => [(s.get 42), (s.get 43), (s.get 44)]⟩,
    ⟨some 8, none, .v fun s => some (s.get 45)⟩] K s := (den_reg hf _ K s).trans (by kernel_rfl)
theorem r11_eq (K : List Item) (s : St) : den prog ann 45 (.code r11 :: K) s = mreg prog ann 45 none [] none [] [
    ⟨some 46, none, .v fun s => some (s.get 8)⟩,
    ⟨some 47, none, .v fun s => binA prog .neq 22 (s.get 46) (.nils)⟩] K s := (den_reg hf _ K s).trans (by kernel_rfl)
theorem i4_eq (K : List Item) (s : St) : den prog ann 45 (.code i4 :: K) s = ifV prog ann 45 47 i4t i4e K s (s.get 47) := den_if hf (by kernel_rfl) K s
theorem i4t_eq (K : List Item) (s : St) : den prog ann 45 (.code i4t :: K) s = den prog ann 45 (.code r12 :: .code .ret :: K) s := den_flat hf (l := [r12, .ret]) (by kernel_rfl) K s
theorem r12_eq (K : List Item) (s : St) : den prog ann 45 (.code r12 :: K) s = mreg prog ann 45 none [] none [] [
    ⟨some 48, none, .v fun s => some (s.get 8)⟩,
    ⟨some 6, none, .v fun s => some (s.get 48)⟩] K s := (den_reg hf _ K s).trans (by kernel_rfl)
theorem i4e_eq (K : List Item) (s : St) : den prog ann 45 (.code i4e :: K) s = den prog ann 45 (K) s := den_flat hf (l := []) (by kernel_rfl) K s
theorem r9_eq (K : List Item) (s : St) : den prog ann 45 (.code r9 :: K) s = mreg prog ann 45 (some [0, 1, 2, 7]) [] none [] [
    ⟨some 35, none, .v fun s => some (s.get 7)⟩,
    ⟨some 36, none, .v fun s => binA prog .add 3 (s.get 35) (.int .i64 1)⟩,
    ⟨some 7, none, .v fun s => some (s.get 36)⟩] K s := (den_reg hf _ K s).trans (by kernel_rfl)
theorem r13_eq (K : List Item) (s : St) : den prog ann 45 (.code r13 :: K) s = mreg prog ann 45 (some []) [] none [] [
    ⟨some 6, none, .v fun s => some (.nils)⟩] K s := (den_reg hf _ K s).trans (by kernel_rfl)
theorem ret_eq (K : List Item) (s : St) : den prog ann 45 (.code .ret :: K) s = finM true [fun s => some (s.get 6)] s := (den_ret hf K s).trans (by kernel_rfl)
theorem nil_eq (s : St) : den prog ann 45 [] s = finM true [fun s => some (s.get 6)] s := (den_nil hf s).trans (by kernel_rfl)
theorem inBlock_eq (id : Nat) (K : List Item) (s : St) : den prog ann 45 (.inBlock id :: K) s = den prog ann 45 K s := den_inBlock hf id K s
theorem exit_eq (id : Nat) (K : List Item) (s : St) : den prog ann 45 (.code (.exit id) :: K) s = exitV prog ann 45 (exitTo id K) s := den_exitV hf id K s
theorem call_eq (v0 v1 v2 : AV) (m : Mem) (h : closedL [v0, v1, v2] = true) : denC prog ann 45 [v0, v1, v2] m = (den prog ann 45 [.code b] ⟨[(0, v0), (1, v1), (2, v2)], 49, Mem.empty⟩).bind fun r => some (r.1, m) := (denC_pure hf (b := b) (by kernel_rfl) (by kernel_rfl) (by kernel_rfl) h m).trans (by kernel_rfl)
theorem pure_eq : (ann 45).pure = true := by kernel_rfl
attribute [simp] b_eq r0_eq r1_eq i0_eq i0t_eq r2_eq i0e_eq r3_eq i1_eq i1t_eq r4_eq i2_eq i2t_eq r5_eq i2e_eq r6_eq i1e_eq r7_eq k0_eq l0_eq r8_eq i3_eq i3t_eq i3e_eq k1_eq r10_eq r11_eq i4_eq i4t_eq r12_eq i4e_eq r9_eq r13_eq ret_eq nil_eq inBlock_eq exit_eq pure_eq
end r04_single

namespace l04_StrapSingles
/-- pommel/pommellaw04.StrapSingles -/
noncomputable def b : Code := (Try.f3.body).getD .skip
theorem hf : prog.funcs[3]? = some Try.f3 := by kernel_rfl
noncomputable def r0 : Code := findReg b 0
noncomputable def r1 : Code := findReg b 1
noncomputable def i0 : Code := findCond b 0
noncomputable def i0t : Code := thenOf i0
noncomputable def i0e : Code := elseOf i0
noncomputable def r2 : Code := findReg b 2
noncomputable def r3 : Code := findReg b 3
noncomputable def r4 : Code := findReg b 4
noncomputable def i1 : Code := findCond b 1
noncomputable def i1t : Code := thenOf i1
noncomputable def i1e : Code := elseOf i1
noncomputable def r5 : Code := findReg b 5
noncomputable def r6 : Code := findReg b 6
theorem b_eq (K : List Item) (s : St) : den prog ann 3 (.code b :: K) s = den prog ann 3 (.code r0 :: .code r1 :: .code i0 :: .code r3 :: .code r4 :: .code i1 :: .code r6 :: .code .ret :: K) s := den_flat hf (l := [r0, r1, i0, r3, r4, i1, r6, .ret]) (by kernel_rfl) K s
theorem r0_eq (K : List Item) (s : St) : den prog ann 3 (.code r0 :: K) s = mreg prog ann 3 none [] none [] [
    ⟨some 2, none, .v fun s => some (.bool false)⟩] K s := (den_reg hf _ K s).trans (by kernel_rfl)
theorem r1_eq (K : List Item) (s : St) : den prog ann 3 (.code r1 :: K) s = mreg prog ann 3 none [] none [] [
    ⟨some 5, none, .v fun s => some (s.get 0)⟩,
    ⟨some 6, none, .v fun s => binA prog .gtr 3 (s.get 5) (.int .i64 5)⟩,
    ⟨some 7, none, .v fun s => some (s.get 6)⟩,
    ⟨some 8, some (7, true), .v fun s => some (s.get 0)⟩,
    ⟨some 9, some (7, true), .v fun s => binA prog .leq 3 (s.get 8) (.int .i64 7)⟩,
    ⟨some 10, none, .v fun s => pickA (s.get 7) (s.get 9) (.bool false)⟩] K s := (den_reg hf _ K s).trans (by kernel_rfl)
theorem i0_eq (K : List Item) (s : St) : den prog ann 3 (.code i0 :: K) s = ifV prog ann 3 10 i0t i0e K s (s.get 10) := den_if hf (by kernel_rfl) K s
theorem i0t_eq (K : List Item) (s : St) : den prog ann 3 (.code i0t :: K) s = den prog ann 3 (.code r2 :: K) s := den_flat hf (l := [r2]) (by kernel_rfl) K s
theorem r2_eq (K : List Item) (s : St) : den prog ann 3 (.code r2 :: K) s = mreg prog ann 3 none [] none [] [
    ⟨some 0, none, .v fun s => some (.int .i64 5)⟩] K s := (den_reg hf _ K s).trans (by kernel_rfl)
theorem i0e_eq (K : List Item) (s : St) : den prog ann 3 (.code i0e :: K) s = den prog ann 3 (K) s := den_flat hf (l := []) (by kernel_rfl) K s
theorem r3_eq (K : List Item) (s : St) : den prog ann 3 (.code r3 :: K) s = mreg prog ann 3 (some [0]) [] none [] [
    ⟨some 12, none, .v fun s => some (s.get 0)⟩,
    ⟨some 13, none, .c 0 (fun s => (.fn 13 [] [])) fun s => [(s.get 12)]⟩,
    ⟨some 11, none, .v fun s => some (s.get 13)⟩,
    ⟨some 14, none, .v fun s => extA (s.get 11) 0⟩,
    ⟨some 15, none, .v fun s => extA (s.get 11) 1⟩,
    ⟨some 3, none, .v fun s => some (s.get 14)⟩,
    ⟨some 4, none, .v fun s => some (s.get 15)⟩] K s := (den_reg hf _ K s).trans (by kernel_rfl)
theorem r4_eq (K : List Item) (s : St) : den prog ann 3 (.code r4 :: K) s = mreg prog ann 3 none [] none [] [
    ⟨some 16, none, .v fun s => some (s.get 0)⟩,
    ⟨some 17, none, .v fun s => binA prog .lss 3 (s.get 16) (.int .i64 1)⟩,
    ⟨some 18, none, .v fun s => some (s.get 17)⟩,
    ⟨some 19, some (18, false), .v fun s => some (s.get 0)⟩,
    ⟨some 20, some (18, false), .v fun s => binA prog .gtr 3 (s.get 19) (.int .i64 7)⟩,
    ⟨some 21, none, .v fun s => pickA (s.get 18) (.bool true) (s.get 20)⟩] K s := (den_reg hf _ K s).trans (by kernel_rfl)
theorem i1_eq (K : List Item) (s : St) : den prog ann 3 (.code i1 :: K) s = ifV prog ann 3 21 i1t i1e K s (s.get 21) := den_if hf (by kernel_rfl) K s
theorem i1t_eq (K : List Item) (s : St) : den prog ann 3 (.code i1t :: K) s = den prog ann 3 (.code r5 :: .code .ret :: K) s := den_flat hf (l := [r5, .ret]) (by kernel_rfl) K s
theorem r5_eq (K : List Item) (s : St) : den prog ann 3 (.code r5 :: K) s = mreg prog ann 3 none [] none [] [
    ⟨some 22, none, .v fun s => some (s.get 3)⟩,
    ⟨some 23, none, .v fun s => lenSl (s.get 22)⟩,
    ⟨some 24, none, .v fun s => binA prog .eql 3 (s.get 23) (.int .i64 0)⟩,
    ⟨some 25, none, .v fun s => some (s.get 24)⟩,
    ⟨some 26, some (25, true), .v fun s => some (s.get 4)⟩,
    ⟨some 27, some (25, true), .v fun s => binA prog .eql 23 (s.get 26) (.int .i64 1)⟩,
    ⟨some 28, none, .v fun s => pickA (s.get 25) (s.get 27) (.bool false)⟩,
    ⟨some 29, none, .v fun s => some (s.get 28)⟩,
    ⟨some 30, some (29, true), .c 0 (fun s => (.fn 14 [] [])) fun s => []⟩,
    ⟨some 31, none, .v fun s => pickA (s.get 29) (s.get 30) (.bool false)⟩,
    ⟨some 2, none, .v fun s => some (s.get 31)⟩] K s := (den_reg hf _ K s).trans (by kernel_rfl)
theorem i1e_eq (K : List Item) (s : St) : den prog ann 3 (.code i1e :: K) s = den prog ann 3 (K) s := den_flat hf (l := []) (by kernel_rfl) K s
theorem r6_eq (K : List Item) (s : St) : den prog ann 3 (.code r6 :: K) s = mreg prog ann 3 none [] none [] [
    ⟨some 32, none, .v fun s => some (s.get 3)⟩,
    ⟨some 33, none, .v fun s => some (s.get 0)⟩,
    ⟨some 34, none, .c 0 (fun s => (.fn 16 [] [])) fun s => [(s.get 33)]⟩,
    ⟨some 35, none, .c 0 (fun s => (.fn 15 [] [])) fun s => [(s.get 32), (s.get 34)]⟩,
    ⟨some 36, none, .v fun s => some (s.get 35)⟩,
    ⟨some 37, some (36, true), .v fun s => some (s.get 4)⟩,
    ⟨some 38, some (36, true), .v fun s => binA prog .eql 23 (s.get 37) (.int .i64 0)⟩,
    ⟨some 39, none, .v fun s => pickA (s.get 36) (s.get 38) (.bool false)⟩,
    ⟨some 40, none, .v fun s => some (s.get 39)⟩,
    ⟨some 41, some (40, true), .c 0 (fun s => (.fn 14 [] [])) fun s => []⟩,
    ⟨some 42, none, .v fun s => pickA (s.get 40) (s.get 41) (.bool false)⟩,
    ⟨some 2, none, .v fun s => some (s.get 42)⟩] K s := (den_reg hf _ K s).trans (by kernel_rfl)
theorem ret_eq (K : List Item) (s : St) : den prog ann 3 (.code .ret :: K) s = finM true [fun s => some (s.get 2)] s := (den_ret hf K s).trans (by kernel_rfl)
theorem nil_eq (s : St) : den prog ann 3 [] s = finM true [fun s => some (s.get 2)] s := (den_nil hf s).trans (by kernel_rfl)
theorem inBlock_eq (id : Nat) (K : List Item) (s : St) : den prog ann 3 (.inBlock id :: K) s = den prog ann 3 K s := den_inBlock hf id K s
theorem exit_eq (id : Nat) (K : List Item) (s : St) : den prog ann 3 (.code (.exit id) :: K) s = exitV prog ann 3 (exitTo id K) s := den_exitV hf id K s
theorem call_eq (v0 : AV) (m : Mem) (h : closedL [v0] = true) : denC prog ann 3 [v0] m = (den prog ann 3 [.code b] ⟨[(0, v0)], 43, Mem.empty⟩).bind fun r => some (r.1, m) := (denC_pure hf (b := b) (by kernel_rfl) (by kernel_rfl) (by kernel_rfl) h m).trans (by kernel_rfl)
theorem pure_eq : (ann 3).pure = true := by kernel_rfl
attribute [simp] b_eq r0_eq r1_eq i0_eq i0t_eq r2_eq i0e_eq r3_eq r4_eq i1_eq i1t_eq r5_eq i1e_eq r6_eq ret_eq nil_eq inBlock_eq exit_eq pure_eq
end l04_StrapSingles
end Go.Proofs.Ytpghadmpegncgaa

/-
  STRAPS (9): the search for the first list. Conditions: none.
-/
namespace Go.Proofs.Ytpghadmpegncgaa
open Go.AM
open Go.Proofs.Try (prog)
set_option linter.all false
set_option maxRecDepth 100000
set_option maxHeartbeats 4000000

/-! ### The greatest of a list; single lists -/
def maxL (c : List Int) : Int := (c.drop 1).foldl max (nth c 0)
theorem max_loop {w : AV} {c : List Int} (hw0 : IsInts w c) (hcl : c.length ≤ 1001) : ∀ (k i : Nat) (x : Int) (m : Mem), i + k = c.length →
    slices_Max_int.L0 w (.int .i64 x) (.int .i64 i) m [.code slices_Max_int.r8, .code .ret] = some (.int .i64 ((c.drop i).foldl max x), Mem.empty) := by
  intro k
  induction k with
  | zero =>
    intro i x m h1
    have e : i = c.length := by omega
    subst e
    rw [slices_Max_int.L0_eq]
    simp [hw0.len]
    done
  | succ k ih =>
    intro i x m h1
    have hi : i < c.length := by omega
    have hw : IntKind.wrap .i64 ((i : Int) + 1) = (i : Int) + 1 := wrap_id (by omega) (by omega)
    have hst := ih (i + 1) (max x (nth c i)) m (by omega)
    simp only [Int.natCast_add, Int.cast_ofNat_Int] at hst
    rw [drop_nth hi, List.foldl_cons, slices_Max_int.L0_eq]
    simp [hi, hw0.len, hw0.idx hi, ints_head hi, hw, hst]
    done
theorem max_spec {w : AV} {c : List Int} (hw0 : IsInts w c) (hcl : c.length ≤ 1001) (h0 : 0 < c.length) (m : Mem) : denC prog ann 58 [w] m = some (.int .i64 (maxL c), m) := by
  have lp := max_loop hw0 hcl (c.length - 1) 1 (nth c 0) Mem.empty (by omega)
  simp only [Int.cast_ofNat_Int] at lp
  have i0 := hw0.idx h0 .i64
  have i1 := ints_head h0
  simp only [Int.ofNat_zero, Int.cast_ofNat_Int, List.drop_zero] at i0 i1
  rw [slices_Max_int.call_eq _ _ (by simp [hw0.closed])]
  have hn : ¬ (c.length : Int) < 1 := by omega
  simp [hw0.len, hn, i0, i1, lp, maxL]
  done
def gSingle (l : List Int) : Bool := decide (maxL (counts l) ≤ 1)
theorem single_spec {w : AV} {l : List Int} (hv : IsInts w l) (s : StrapOk l) (m : Mem) : denC prog ann 42 [w] m = some (.bool (gSingle l), m) := by
  have hw0 := intsV_is (counts l)
  rw [strap_single.call_eq _ _ (by simp [hv.closed])]
  simp [hv.closed, counts_spec hv s, hw0.closed, max_spec hw0 (counts_few s) (counts_pos s), gSingle]
  done

/-! ### The search -/
def firstF (r : List Int → Option (List Int)) (l : List Int) : Nat → Int → Option (List Int)
  | 0, _ => none
  | n + 1, x => match r (l ++ [x]) with
    | some q => some q
    | none => firstF r l n (x + 1)
def findF (g e : List Int → Bool) (last : Int) : Nat → List Int → Option (List Int)
  | 0, l => if g l = true then (if e l = true then some l else none) else none
  | f + 1, l => if g l = true then firstF (findF g e last f) l (last - f - top l).toNat (top l + 1) else none
def ResV (r : Option (List Int)) (w : AV) : Prop := match r with
  | none => w = .nils
  | some l => ∃ ex, w = .fsl ex l.length (ints l)
/-- A function value that answers a question about straps. -/
structure Clo (gV : AV) (g : List Int → Bool) (d : Nat) : Prop where
  closed : gV.closed = true
  one : gV.one = true
  says : ∀ {w : AV} {l : List Int}, IsInts w l → StrapOk l → ∀ m, callA (fun g => (ann g).pure) (denC prog ann) 0 m gV [w] = some (.bool (g l), ⟨m.h, m.nx + d⟩)
theorem clone_spec (ex : Bool) (l : List Int) (hl : l.length ≤ 1000000) (h0 : 0 < l.length) (m : Mem) : ∃ m', m'.h m.nx = some (.cells (ints l)) ∧ m'.nx = m.nx + 1 ∧ denC prog ann 64 [.fsl ex l.length (ints l)] m = some (.sl m.nx 1 0 l.length l.length, m') := by
  refine ⟨⟨upd (upd m.h m.nx (some (.cells []))) m.nx (some (.cells (ints l))), m.nx + 1⟩, by simp, rfl, ?_⟩
  rw [slices_Clone_int.call_eq]
  have hn : (l.length == 0) = false := by simp; intro e; simp [e] at h0
  simp [Mem.set, hn, show l.length ≤ 4611686018427387904 by omega, show l.length * 8 ≤ 70368744177664 by omega]
  done
theorem find_spec {gV eV : AV} {g e : List Int → Bool} {dg de : Nat} (hg : Clo gV g dg) (he : Clo eV e de) {size : Nat} {last : Int} (hs : size ≤ 40) (h1 : 0 ≤ last ∧ last ≤ 1000) : ∀ (f : Nat) (ex : Bool) (l : List Int), StrapOk l → l.length + f = size →
    ∃ w', ResV (findF g e last f l) w' ∧ ∀ m, denC prog ann 43 [.agg [.int .i64 size, .int .i64 last, gV, eV], .fsl ex l.length (ints l)] m = some (w', m) := by
  intro f
  induction f with
  | zero =>
    intro ex l s hsz
    have hv : IsInts (.fsl ex l.length (ints l)) l := .inr ⟨ex, rfl⟩
    have hcl : closedL [.agg [.int .i64 size, .int .i64 last, gV, eV], .fsl ex l.length (ints l)] = true := by simp [hg.closed, he.closed]
    have sg := hg.says hv s
    have se := he.says hv s
    have hl : size = l.length := by omega
    subst hl
    simp only [findF]
    by_cases q : g l = true
    · rw [q] at sg
      rw [if_pos q]
      by_cases q2 : e l = true
      · rw [q2] at se
        rw [if_pos q2]
        refine ⟨_, ⟨ex, rfl⟩, fun m => ?_⟩
        rw [strap_search_find.call_eq _ _ _ hcl]
        simp [sg, se, hg.one, he.one, hg.closed, he.closed]
        done
      · rw [Bool.not_eq_true] at q2
        rw [q2] at se
        rw [q2, if_neg (by decide)]
        refine ⟨_, rfl, fun m => ?_⟩
        rw [strap_search_find.call_eq _ _ _ hcl]
        simp [sg, se, hg.one, he.one, hg.closed, he.closed]
        done
    · rw [if_neg q]
      rw [Bool.not_eq_true] at q
      rw [q] at sg
      refine ⟨_, rfl, fun m => ?_⟩
      rw [strap_search_find.call_eq _ _ _ hcl]
      simp [sg, hg.one, he.one, hg.closed, he.closed]
      done
  | succ f ih =>
    intro ex l s hsz
    have hv : IsInts (.fsl ex l.length (ints l)) l := .inr ⟨ex, rfl⟩
    have hcl : closedL [.agg [.int .i64 size, .int .i64 last, gV, eV], .fsl ex l.length (ints l)] = true := by simp [hg.closed, he.closed]
    have sg := hg.says hv s
    have hl : ¬ (l.length : Int) = (size : Int) := by omega
    have hpos := s.pos
    have hlast : l.length - 1 < l.length := by omega
    have hwl : IntKind.wrap .i64 ((l.length : Int) - 1) = ((l.length - 1 : Nat) : Int) := by rw [wrap_id (by omega) (by omega)]; omega
    have t0 := s.nonneg hlast
    have t1 := s.top
    have w1 : IntKind.wrap .i64 ((size : Int) - (l.length : Int)) = (f : Int) + 1 := by rw [wrap_id (by omega) (by omega)]; omega
    have w2 : IntKind.wrap .i64 (f : Int) = (f : Int) := wrap_id (by omega) (by omega)
    have w3 : IntKind.wrap .i64 (last - (f : Int)) = last - (f : Int) := wrap_id (by omega) (by omega)
    have w4 : IntKind.wrap .i64 (nth l (l.length - 1) + 1) = nth l (l.length - 1) + 1 := wrap_id (by omega) (by omega)
    have loop : ∀ (n : Nat) (x : Int), n = (last - f - x + 1).toNat → top l < x → x ≤ 1001 → ∃ w', ResV (firstF (findF g e last f) l n x) w' ∧ ∀ m, strap_search_find.L1 (.fsl ex l.length (ints l)) (.fptr [.int .i64 size, .int .i64 last, gV, eV]) (.int .i64 x) m [.code strap_search_find.r13, .code .ret] = some (w', Mem.empty) := by
      intro n
      induction n with
      | zero =>
        intro x hn hx hx2
        refine ⟨.nils, rfl, fun m => ?_⟩
        have hc : ¬ x ≤ last - (f : Int) := by omega
        rw [strap_search_find.L1_eq]
        simp [w1, w2, w3, hc]
        done
      | succ n ihn =>
        intro x hn hx hx2
        have hc : x ≤ last - (f : Int) := by omega
        have hw : IntKind.wrap .i64 (x + 1) = x + 1 := wrap_id (by unfold top at hx; omega) (by omega)
        have s2 : StrapOk (l ++ [x]) := s.more (by omega) hx (by omega)
        obtain ⟨w1', r1, e1⟩ := ih false (l ++ [x]) s2 (by simp; omega)
        obtain ⟨w2', r2, e2⟩ := ihn (x + 1) (by omega) (by omega) (by omega)
        have hxx : ints l ++ [AV.int .i64 x] = ints (l ++ [x]) := by simp [ints]
        have hll : (l ++ [x]).length = l.length + 1 := by simp
        have htk : (l ++ [x]).take (l.length + 1) = l ++ [x] := List.take_of_length_le (by simp)
        rw [hll] at e1
        simp only [firstF]
        cases hf : findF g e last f (l ++ [x]) with
        | some q =>
          rw [hf] at r1
          obtain ⟨ex', rfl⟩ := r1
          refine ⟨_, ⟨ex', rfl⟩, fun m => ?_⟩
          obtain ⟨m', c1, c2, c3⟩ := clone_spec ex l (by omega) hpos ⟨m.h, m.nx + 8⟩
          rw [strap_search_find.L1_eq]
          simp [w1, w2, w3, hc, c3, c1, hxx, show l.length ≤ 4611686018427387903 by omega, show (l.length + 1) * 8 ≤ 70368744177664 by omega, hg.one, he.one, hg.closed, he.closed, htk, e1]
          done
        | none =>
          rw [hf] at r1
          have r1' : w1' = .nils := r1
          subst r1'
          refine ⟨w2', r2, fun m => ?_⟩
          obtain ⟨m', c1, c2, c3⟩ := clone_spec ex l (by omega) hpos ⟨m.h, m.nx + 8⟩
          rw [strap_search_find.L1_eq]
          simp [w1, w2, w3, hc, c3, c1, hxx, show l.length ≤ 4611686018427387903 by omega, show (l.length + 1) * 8 ≤ 70368744177664 by omega, hg.one, he.one, hg.closed, he.closed, htk, e1, hw, e2]
          done
    by_cases q : g l = true
    · rw [q] at sg
      obtain ⟨w', r, ew⟩ := loop (last - f - top l).toNat (top l + 1) (by omega) (by omega) (by unfold top; omega)
      unfold top at ew
      refine ⟨w', by simp only [findF]; rw [if_pos q]; exact r, fun m => ?_⟩
      rw [strap_search_find.call_eq _ _ _ hcl]
      simp [sg, hg.one, he.one, hg.closed, he.closed, hl, hwl, hv.idx hlast, ints_head hlast, w4, ew]
      done
    · refine ⟨.nils, by simp only [findF]; rw [if_neg q]; rfl, fun m => ?_⟩
      rw [Bool.not_eq_true] at q
      rw [q] at sg
      rw [strap_search_find.call_eq _ _ _ hcl]
      simp [sg, hg.one, he.one, hg.closed, he.closed]
      done
end Go.Proofs.Ytpghadmpegncgaa

/-
  STRAPS (10): Single, and the specification's. Conditions: none.
-/
namespace Go.Proofs.Ytpghadmpegncgaa
open Go.AM
open Go.Proofs.Try (prog)
set_option linter.all false
set_option maxRecDepth 100000
set_option maxHeartbeats 4000000

def endsAt (L : Int) (l : List Int) : Bool := decide (top l = L)
theorem clo_single : Clo (.fn 42 [] []) gSingle 0 := ⟨rfl, rfl, fun {w l} hv s m => by simp [hv.closed, single_spec hv s]⟩
theorem ends_spec {w : AV} {l : List Int} (hv : IsInts w l) (s : StrapOk l) (L : Int) (m : Mem) : denC prog ann 41 [w, .fptr [.int .i64 L]] m = some (.bool (endsAt L l), ⟨m.h, m.nx + 9⟩) := by
  have hpos := s.pos
  have hfew := s.few
  have hlast : l.length - 1 < l.length := by omega
  have hwl : IntKind.wrap .i64 ((l.length : Int) - 1) = ((l.length - 1 : Nat) : Int) := by rw [wrap_id (by omega) (by omega)]; omega
  rw [strap_Single_1.call_eq]
  simp [hv.len, hwl, hv.idx hlast, ints_head hlast, endsAt, top]
  rfl
theorem clo_ends (L : Int) : Clo (.fn 41 [] [.fptr [.int .i64 L]]) (endsAt L) 9 := ⟨rfl, rfl, fun {w l} hv s m => by simp [hv.closed, ends_spec hv s, show (ann 41).pure = false by kernel_rfl]⟩
theorem one_ok : StrapOk [0] := ⟨by decide, by decide, rfl, fun i hi => by simp at hi, by decide⟩
/-- Length after length. -/
def sngS (k : Nat) : Nat → Int → Option (List Int)
  | 0, _ => none
  | n + 1, L => match findF gSingle (endsAt L) L (k - 1) [0] with
    | some r => some r
    | none => sngS k n (L + 1)
theorem sng_loop {k : Nat} (hk : 1 ≤ k ∧ k ≤ 7) : ∀ (n : Nat) (L : Int) (id : Nat) (m : Mem) (r : List Int), 0 ≤ L → L + n ≤ 1000 → m.h id = some (.cells [.int .i64 L]) → sngS k n L = some r →
    ∃ ex, strap_Single.L0 (.int .i64 k) (.ptr id 0 1) m [] = some (.tup [.fsl ex r.length (ints r), .int .i64 0], Mem.empty) := by
  intro n
  induction n with
  | zero => intro L id m r _ _ _ h; cases h
  | succ n ih =>
    intro L id m r h0 h1 hm h
    obtain ⟨w', r1, e1⟩ := find_spec clo_single (clo_ends L) (size := k) (last := L) (by omega) ⟨h0, by omega⟩ (k - 1) true [0] one_ok (by simp; omega)
    simp at e1
    simp only [sngS] at h
    have hw : IntKind.wrap .i64 (L + 1) = L + 1 := wrap_id (by omega) (by omega)
    cases hf : findF gSingle (endsAt L) L (k - 1) [0] with
    | some q =>
      rw [hf] at h r1
      obtain ⟨ex, rfl⟩ := r1
      injection h with h
      subst h
      refine ⟨ex, ?_⟩
      rw [strap_Single.L0_eq]
      simp [hm, e1]
      done
    | none =>
      rw [hf] at h r1
      have r1' : w' = .nils := r1
      subst r1'
      obtain ⟨ex, e2⟩ := ih (L + 1) m.nx ⟨upd (upd m.h id none) m.nx (some (.cells [.int .i64 (L + 1)])), m.nx + 1⟩ r (by omega) (by omega) (by simp) h
      refine ⟨ex, ?_⟩
      rw [strap_Single.L0_eq, ← e2]
      simp [hm, e1, hw]
      done
theorem sng_spec {k : Nat} (hk : 1 ≤ k ∧ k ≤ 7) {n : Nat} {L : Int} {r : List Int} (hL : IntKind.wrap .i64 ((IntKind.wrap .i64 ((k : Int) * IntKind.wrap .i64 ((k : Int) - 1))).tdiv 2) = L) (h0 : 0 ≤ L) (h1 : L + n ≤ 1000) (h : sngS k n L = some r) :
    ∃ ex, ∀ m, denC prog ann 13 [.int .i64 k] m = some (.tup [.fsl ex r.length (ints r), .int .i64 0], m) := by
  obtain ⟨ex, e⟩ := sng_loop hk n L 0 ⟨upd Mem.empty.h 0 (some (.cells [.int .i64 L])), 1⟩ r h0 h1 (by simp) h
  refine ⟨ex, fun m => ?_⟩
  have c1 : ¬ (k : Int) < 1 := by omega
  have c2 : ¬ (7 : Int) < k := by omega
  have hcl : closedL [AV.int .i64 k] = true := rfl
  rw [strap_Single.call_eq _ _ hcl]
  simp [c1, c2, hL, e]
  done
theorem sng_bad {k : Int} (hk : k < 1 ∨ 7 < k) (m : Mem) : denC prog ann 13 [.int .i64 k] m = some (.tup [.nils, .int .i64 1], m) := by
  have hcl : closedL [AV.int .i64 k] = true := rfl
  rw [strap_Single.call_eq _ _ hcl]
  by_cases c1 : k < 1
  · simp [c1]
    done
  · have c2 : (7 : Int) < k := by omega
    simp [c1, c2]
    done

/-! ### The specification's -/
def rsF (L : Int) : Nat → List Int → Option (List Int)
  | 0, l => if (tw0 l l.length 0 []).isEmpty = true then (if top l = L then some l else none) else none
  | f + 1, l => if (tw0 l l.length 0 []).isEmpty = true then firstF (rsF L f) l (L - top l).toNat (top l + 1) else none
theorem neq_best (b : List Int) : binA prog .neq 22 (bestV b) .nils = some (.bool (!b.isEmpty)) := by
  unfold bestV
  cases b with
  | nil => simp
  | cons a b => simp
theorem rs_spec {size : Nat} {L : Int} (hs : size ≤ 40) (h1 : 0 ≤ L ∧ L ≤ 1000) : ∀ (f : Nat) (ex : Bool) (l : List Int), StrapOk l → l.length + f = size →
    ∃ w', ResV (rsF L f l) w' ∧ ∀ m, denC prog ann 45 [.fsl ex l.length (ints l), .int .i64 size, .int .i64 L] m = some (w', m) := by
  intro f
  induction f with
  | zero =>
    intro ex l s hsz
    have hv : IsInts (.fsl ex l.length (ints l)) l := .inr ⟨ex, rfl⟩
    have hcl : closedL [.fsl ex l.length (ints l), .int .i64 size, .int .i64 L] = true := rfl
    have hl : size = l.length := by omega
    subst hl
    have hpos := s.pos
    have hlast : l.length - 1 < l.length := by omega
    have hwl : IntKind.wrap .i64 ((l.length : Int) - 1) = ((l.length - 1 : Nat) : Int) := by rw [wrap_id (by omega) (by omega)]; omega
    have htw := fun m => rtw_spec hv s m
    have hne := neq_best (tw0 l l.length 0 [])
    simp only [rsF]
    by_cases q : (tw0 l l.length 0 []).isEmpty = true
    · rw [if_pos q]
      rw [q] at hne
      by_cases q2 : top l = L
      · rw [if_pos q2]
        unfold top at q2
        refine ⟨_, ⟨ex, rfl⟩, fun m => ?_⟩
        rw [r04_single.call_eq _ _ _ _ hcl]
        simp [htw, hne, hwl, hv.idx hlast, ints_head hlast, q2]
        done
      · rw [if_neg q2]
        unfold top at q2
        refine ⟨_, rfl, fun m => ?_⟩
        rw [r04_single.call_eq _ _ _ _ hcl]
        simp [htw, hne, hwl, hv.idx hlast, ints_head hlast, q2]
        done
    · rw [if_neg q]
      rw [Bool.not_eq_true] at q
      rw [q] at hne
      refine ⟨_, rfl, fun m => ?_⟩
      rw [r04_single.call_eq _ _ _ _ hcl]
      simp [htw, hne]
      done
  | succ f ih =>
    intro ex l s hsz
    have hv : IsInts (.fsl ex l.length (ints l)) l := .inr ⟨ex, rfl⟩
    have hcl : closedL [.fsl ex l.length (ints l), .int .i64 size, .int .i64 L] = true := rfl
    have hl : ¬ (l.length : Int) = (size : Int) := by omega
    have hpos := s.pos
    have hlast : l.length - 1 < l.length := by omega
    have hwl : IntKind.wrap .i64 ((l.length : Int) - 1) = ((l.length - 1 : Nat) : Int) := by rw [wrap_id (by omega) (by omega)]; omega
    have t0 := s.nonneg hlast
    have t1 := s.top
    have w4 : IntKind.wrap .i64 (nth l (l.length - 1) + 1) = nth l (l.length - 1) + 1 := wrap_id (by omega) (by omega)
    have htw := fun m => rtw_spec hv s m
    have hne := neq_best (tw0 l l.length 0 [])
    have hn0 : (l.length == 0) = false := by simp; intro e; simp [e] at hpos
    have loop : ∀ (n : Nat) (x : Int), n = (L - x + 1).toNat → top l < x → x ≤ 1001 → ∃ w', ResV (firstF (rsF L f) l n x) w' ∧ ∀ m, r04_single.L0 (.fsl ex l.length (ints l)) (.int .i64 size) (.int .i64 L) (.int .i64 x) m [.code r04_single.r13, .code .ret] = some (w', Mem.empty) := by
      intro n
      induction n with
      | zero =>
        intro x hn hx hx2
        refine ⟨.nils, rfl, fun m => ?_⟩
        have hc : ¬ x ≤ L := by omega
        rw [r04_single.L0_eq]
        simp [hc]
        done
      | succ n ihn =>
        intro x hn hx hx2
        have hc : x ≤ L := by omega
        have hw : IntKind.wrap .i64 (x + 1) = x + 1 := wrap_id (by unfold top at hx; omega) (by omega)
        have s2 : StrapOk (l ++ [x]) := s.more (by omega) hx (by omega)
        obtain ⟨w1', r1, e1⟩ := ih false (l ++ [x]) s2 (by simp; omega)
        obtain ⟨w2', r2, e2⟩ := ihn (x + 1) (by omega) (by omega) (by omega)
        have hxx : ints l ++ [AV.int .i64 x] = ints (l ++ [x]) := by simp [ints]
        have hll : (l ++ [x]).length = l.length + 1 := by simp
        have htk : (l ++ [x]).take (l.length + 1) = l ++ [x] := List.take_of_length_le (by simp)
        rw [hll] at e1
        simp only [firstF]
        cases hf : rsF L f (l ++ [x]) with
        | some q =>
          rw [hf] at r1
          obtain ⟨ex', rfl⟩ := r1
          refine ⟨_, ⟨ex', rfl⟩, fun m => ?_⟩
          rw [r04_single.L0_eq]
          simp [hc, hxx, hn0, Mem.set, show l.length ≤ 4611686018427387904 by omega, show l.length * 8 ≤ 70368744177664 by omega, show l.length ≤ 4611686018427387903 by omega, show (l.length + 1) * 8 ≤ 70368744177664 by omega, htk, e1]
          done
        | none =>
          rw [hf] at r1
          have r1' : w1' = .nils := r1
          subst r1'
          refine ⟨w2', r2, fun m => ?_⟩
          rw [r04_single.L0_eq]
          simp [hc, hxx, hn0, Mem.set, show l.length ≤ 4611686018427387904 by omega, show l.length * 8 ≤ 70368744177664 by omega, show l.length ≤ 4611686018427387903 by omega, show (l.length + 1) * 8 ≤ 70368744177664 by omega, htk, e1, hw, e2]
          done
    by_cases q : (tw0 l l.length 0 []).isEmpty = true
    · rw [q] at hne
      obtain ⟨w', r, ew⟩ := loop (L - top l).toNat (top l + 1) (by omega) (by omega) (by unfold top; omega)
      unfold top at ew
      refine ⟨w', by simp only [rsF]; rw [if_pos q]; exact r, fun m => ?_⟩
      rw [r04_single.call_eq _ _ _ _ hcl]
      simp [htw, hne, hl, hwl, hv.idx hlast, ints_head hlast, w4, ew]
      done
    · refine ⟨.nils, by simp only [rsF]; rw [if_neg q]; rfl, fun m => ?_⟩
      rw [Bool.not_eq_true] at q
      rw [q] at hne
      rw [r04_single.call_eq _ _ _ _ hcl]
      simp [htw, hne]
      done
def rsS (k : Nat) : Nat → Int → Option (List Int)
  | 0, _ => none
  | n + 1, L => match rsF L (k - 1) [0] with
    | some r => some r
    | none => rsS k n (L + 1)
theorem rs_loop {k : Nat} (hk : 1 ≤ k ∧ k ≤ 40) : ∀ (n : Nat) (L : Int) (m : Mem) (r : List Int), 0 ≤ L → L + n ≤ 1000 → rsS k n L = some r →
    ∃ ex, r04_Single.L0 (.int .i64 k) (.int .i64 L) m [] = some (.fsl ex r.length (ints r), Mem.empty) := by
  intro n
  induction n with
  | zero => intro L m r _ _ h; cases h
  | succ n ih =>
    intro L m r h0 h1 h
    obtain ⟨w', r1, e1⟩ := rs_spec (size := k) (L := L) (by omega) ⟨h0, by omega⟩ (k - 1) true [0] one_ok (by simp; omega)
    simp at e1
    simp only [rsS] at h
    have hw : IntKind.wrap .i64 (L + 1) = L + 1 := wrap_id (by omega) (by omega)
    cases hf : rsF L (k - 1) [0] with
    | some q =>
      rw [hf] at h r1
      obtain ⟨ex, rfl⟩ := r1
      injection h with h
      subst h
      refine ⟨ex, ?_⟩
      rw [r04_Single.L0_eq]
      simp [e1]
      done
    | none =>
      rw [hf] at h r1
      have r1' : w' = .nils := r1
      subst r1'
      obtain ⟨ex, e2⟩ := ih (L + 1) m r (by omega) (by omega) h
      refine ⟨ex, ?_⟩
      rw [r04_Single.L0_eq, ← e2]
      simp [e1, hw]
      done
theorem rsng_spec {k : Nat} (hk : 1 ≤ k ∧ k ≤ 40) {n : Nat} {r : List Int} (hn : n ≤ 1000) (h : rsS k n 0 = some r) : ∃ ex, ∀ m, denC prog ann 16 [.int .i64 k] m = some (.fsl ex r.length (ints r), m) := by
  obtain ⟨ex, e⟩ := rs_loop hk n 0 Mem.empty r (by omega) (by omega) h
  refine ⟨ex, fun m => ?_⟩
  have hcl : closedL [AV.int .i64 k] = true := rfl
  rw [r04_Single.call_eq _ _ hcl]
  simp [e]
  done
end Go.Proofs.Ytpghadmpegncgaa

/-
  THE FIRST SHORTEST SINGLE STRAPS: the values, by the kernel. Conditions: none.
-/
namespace Go.Proofs.Ytpghadmpegncgaa
open Go.AM
set_option linter.all false
set_option maxRecDepth 100000
theorem sv1 : sngS 1 13 0 = some [0] := by kernel_rfl
theorem sv2 : sngS 2 13 1 = some [0, 1] := by kernel_rfl
theorem sv3 : sngS 3 13 3 = some [0, 1, 3] := by kernel_rfl
theorem sv4 : sngS 4 13 6 = some [0, 1, 4, 6] := by kernel_rfl
theorem sv5 : sngS 5 13 10 = some [0, 1, 4, 9, 11] := by kernel_rfl
theorem rv1 : rsS 1 13 0 = some [0] := by kernel_rfl
theorem rv2 : rsS 2 13 0 = some [0, 1] := by kernel_rfl
theorem rv3 : rsS 3 13 0 = some [0, 1, 3] := by kernel_rfl
theorem rv4 : rsS 4 13 0 = some [0, 1, 4, 6] := by kernel_rfl
theorem rv5 : rsS 5 13 0 = some [0, 1, 4, 9, 11] := by kernel_rfl
end Go.Proofs.Ytpghadmpegncgaa

/-
  THE LAWS' EXAMPLES HOLD. Conditions: none.
-/
namespace Go.Proofs.Ytpghadmpegncgaa
open Go.AM
open Go.Proofs.Try (prog)
set_option linter.all false
set_option maxRecDepth 1000000

def isT (r : Option Res) : Bool := match r with
  | some (.bool b, _) => b
  | _ => false
theorem lives_run : isT (callN prog ann 3000 14 [] Mem.empty) = true := by kernel_rfl
@[simp] theorem lives_pure : (ann 14).pure = true := by kernel_rfl
theorem f14_at : prog.funcs[14]? = some Try.f14 := by kernel_rfl
theorem f14_some : Try.f14.body.isSome = true := by kernel_rfl
theorem lives_spec (m : Mem) : denC prog ann 14 [] m = some (.bool true, m) := by
  have hb : Try.f14.body = some (Try.f14.body.getD .skip) := by
    cases h : Try.f14.body with
    | none => have := f14_some; rw [h] at this; cases this
    | some b => rfl
  have e := fun m => denC_pure (P := prog) (A := ann) (f := 14) f14_at hb (by kernel_rfl) (by kernel_rfl) (show closedL [] = true from rfl) m
  have h := lives_run
  cases hr : callN prog ann 3000 14 [] Mem.empty with
  | none => rw [hr] at h; cases h
  | some r =>
    rw [hr] at h
    have h2 := denC_of_callN hr
    rw [e] at h2 ⊢
    obtain ⟨q, h3, h4⟩ := Option.bind_eq_some_iff.1 h2
    rw [h3]
    simp at h4
    subst h4
    match q, h with
    | (.bool true, _), _ => rfl
end Go.Proofs.Ytpghadmpegncgaa

/-
  StrapSingles: the law answers true. Conditions: none.
-/
namespace Go.Proofs.Ytpghadmpegncgaa
open Go.AM
open Go.Proofs.Try (prog)
set_option linter.all false
set_option maxRecDepth 100000
set_option maxHeartbeats 4000000

theorem sng_both {k : Int} (h0 : 1 ≤ k) (h1 : k ≤ 5) : ∃ (r : List Int) (e1 e2 : Bool), r.length ≤ 5 ∧ (∀ m, denC prog ann 13 [.int .i64 k] m = some (.tup [.fsl e1 r.length (ints r), .int .i64 0], m)) ∧ ∀ m, denC prog ann 16 [.int .i64 k] m = some (.fsl e2 r.length (ints r), m) := by
  have : k = 1 ∨ k = 2 ∨ k = 3 ∨ k = 4 ∨ k = 5 := by omega
  rcases this with rfl | rfl | rfl | rfl | rfl
  · obtain ⟨e1, s1⟩ := sng_spec (k := 1) (by omega) (L := 0) (by decide) (by decide) (by decide) sv1
    obtain ⟨e2, s2⟩ := rsng_spec (k := 1) (by omega) (by omega) rv1
    exact ⟨_, e1, e2, by decide, s1, s2⟩
  · obtain ⟨e1, s1⟩ := sng_spec (k := 2) (by omega) (L := 1) (by decide) (by decide) (by decide) sv2
    obtain ⟨e2, s2⟩ := rsng_spec (k := 2) (by omega) (by omega) rv2
    exact ⟨_, e1, e2, by decide, s1, s2⟩
  · obtain ⟨e1, s1⟩ := sng_spec (k := 3) (by omega) (L := 3) (by decide) (by decide) (by decide) sv3
    obtain ⟨e2, s2⟩ := rsng_spec (k := 3) (by omega) (by omega) rv3
    exact ⟨_, e1, e2, by decide, s1, s2⟩
  · obtain ⟨e1, s1⟩ := sng_spec (k := 4) (by omega) (L := 6) (by decide) (by decide) (by decide) sv4
    obtain ⟨e2, s2⟩ := rsng_spec (k := 4) (by omega) (by omega) rv4
    exact ⟨_, e1, e2, by decide, s1, s2⟩
  · obtain ⟨e1, s1⟩ := sng_spec (k := 5) (by omega) (L := 10) (by decide) (by decide) (by decide) sv5
    obtain ⟨e2, s2⟩ := rsng_spec (k := 5) (by omega) (by omega) rv5
    exact ⟨_, e1, e2, by decide, s1, s2⟩
theorem sng_runs {d : Nat} (a0 : AV) (h0 : DatV prog (d + 4) 3 a0) : ∃ m', denC prog ann 3 [a0] Mem.empty = some (.bool true, m') := by
  obtain ⟨k, rfl, hk1, hk2⟩ := datV3 h0
  have hcl : closedL [AV.int .i64 k] = true := rfl
  refine ⟨Mem.empty, ?_⟩
  rw [l04_StrapSingles.call_eq _ _ hcl]
  by_cases q1 : 5 < k
  · by_cases q2 : k ≤ 7
    · obtain ⟨r, e1, e2, hr, s1, s2⟩ := sng_both (k := 5) (by decide) (by decide)
      have hs := fun m => same_spec (va := .fsl e1 r.length (ints r)) (vb := .fsl e2 r.length (ints r)) (.inr ⟨e1, rfl⟩) (.inr ⟨e2, rfl⟩) (by omega) (by omega) m
      rw [decide_eq_true rfl] at hs
      simp [q1, q2, s1, s2, hs, lives_spec]
      done
    · have c1 : ¬ k < 1 := by omega
      have c2 : 7 < k := by omega
      simp [q1, q2, c1, c2, sng_bad (.inr c2), lives_spec]
      done
  · by_cases c1 : k < 1
    · simp [q1, c1, sng_bad (.inl c1), lives_spec]
      done
    · obtain ⟨r, e1, e2, hr, s1, s2⟩ := sng_both (k := k) (by omega) (by omega)
      have hs := fun m => same_spec (va := .fsl e1 r.length (ints r)) (vb := .fsl e2 r.length (ints r)) (.inr ⟨e1, rfl⟩) (.inr ⟨e2, rfl⟩) (by omega) (by omega) m
      rw [decide_eq_true rfl] at hs
      have c2 : ¬ 7 < k := by omega
      simp [q1, c1, c2, s1, s2, hs, lives_spec]
      done
end Go.Proofs.Ytpghadmpegncgaa
