/-
  BODIES OF FUNCTIONS OF THE PROGRAM AS SMALL OPERATIONS (written by gen.py; checked by the kernel against the program). Conditions: none.
-/
import Derived.Test.YtpghadmpegncgaaKAmH
import Derived.Test.YtpghadmpegncgaaK01
import Derived.Test.YtpghadmpegncgaaK00
set_option linter.all false
namespace Go.Proofs.Ytpghadmpegncgaa
open Go.AM
open Go.Proofs.Try (prog)
set_option maxRecDepth 100000
set_option linter.all false

namespace strap_moved
/-- pommel/strap.moved -/
noncomputable def b : Code := (Try.f62.body).getD .skip
theorem hf : prog.funcs[62]? = some Try.f62 := by kernel_rfl
noncomputable def r0 : Code := findReg b 0
noncomputable def r1 : Code := findReg b 1
noncomputable def r2 : Code := findReg b 2
noncomputable def k0 : Code := findBlk b 0
noncomputable def l0 : Code := loopOf k0
noncomputable def L0 (x0 x1 x2 x3 x9 x13 x14 : AV) (m : Mem) (K : List Item) : Option Res := den prog ann 62 (.code l0 :: .inLoop l0 :: .inBlock 0 :: K) ⟨[(0, x0), (1, x1), (2, x2), (3, x3), (9, x9), (13, x13), (14, x14)], 41, m⟩
noncomputable def r3 : Code := findReg b 3
noncomputable def i0 : Code := findCond b 0
noncomputable def i0t : Code := thenOf i0
noncomputable def i0e : Code := elseOf i0
noncomputable def k1 : Code := findBlk b 1
noncomputable def r4 : Code := findReg b 4
noncomputable def r5 : Code := findReg b 5
noncomputable def r6 : Code := findReg b 6
noncomputable def k2 : Code := findBlk b 2
noncomputable def l2 : Code := loopOf k2
noncomputable def L2 (x0 x2 x3 x9 x20 x21 x22 : AV) (m : Mem) (K : List Item) : Option Res := den prog ann 62 (.code l2 :: .inLoop l2 :: .inBlock 2 :: K) ⟨[(0, x0), (2, x2), (3, x3), (9, x9), (20, x20), (21, x21), (22, x22)], 41, m⟩
noncomputable def r7 : Code := findReg b 7
noncomputable def i1 : Code := findCond b 1
noncomputable def i1t : Code := thenOf i1
noncomputable def i1e : Code := elseOf i1
noncomputable def k3 : Code := findBlk b 3
noncomputable def r8 : Code := findReg b 8
noncomputable def r9 : Code := findReg b 9
noncomputable def r10 : Code := findReg b 10
noncomputable def r11 : Code := findReg b 11
noncomputable def r12 : Code := findReg b 12
theorem b_eq (K : List Item) (s : St) : den prog ann 62 (.code b :: K) s = den prog ann 62 (.code r0 :: .code r1 :: .code r2 :: .code k0 :: .code r6 :: .code k2 :: .code r11 :: .code r12 :: .code .ret :: K) s := den_flat hf (l := [r0, r1, r2, k0, r6, k2, r11, r12, .ret]) (by kernel_rfl) K s
theorem r0_eq (K : List Item) (s : St) : den prog ann 62 (.code r0 :: K) s = mreg prog ann 62 none [] none [] [
    ⟨some 8, none, .v fun s => some (.nils)⟩] K s := (den_reg hf _ K s).trans (by kernel_rfl)
theorem r1_eq (K : List Item) (s : St) : den prog ann 62 (.code r1 :: K) s = mreg prog ann 62 none [] none [] [
    ⟨some 9, none, .v fun s => some (.nils)⟩] K s := (den_reg hf _ K s).trans (by kernel_rfl)
theorem r2_eq (K : List Item) (s : St) : den prog ann 62 (.code r2 :: K) s = mreg prog ann 62 none [] none [] [
    ⟨some 12, none, .v fun s => some (s.get 1)⟩,
    ⟨some 13, none, .v fun s => lenSl (s.get 12)⟩,
    ⟨some 14, none, .v fun s => some (.int .i64 0)⟩] K s := (den_reg hf _ K s).trans (by kernel_rfl)
theorem k0_eq (K : List Item) (t : List (Nat × AV)) (m : Mem) : den prog ann 62 (.code k0 :: K) ⟨t, 41, m⟩ = L0 (get t 0) (get t 1) (get t 2) (get t 3) (get t 9) (get t 13) (get t 14) m K := den_loop_enter hf (b := l0) (id := 3) (l := [0, 1, 2, 3, 9, 13, 14]) (by kernel_rfl) (by kernel_rfl) (by kernel_rfl) K _
theorem l0_eq (K : List Item) (t : List (Nat × AV)) (m : Mem) : den prog ann 62 (.inLoop l0 :: .inBlock 0 :: K) ⟨t, 41, m⟩ = L0 (get t 0) (get t 1) (get t 2) (get t 3) (get t 9) (get t 13) (get t 14) m K := den_loop_again hf (id := 3) (l := [0, 1, 2, 3, 9, 13, 14]) (by kernel_rfl) (by kernel_rfl) (.inBlock 0 :: K) _
theorem L0_eq (x0 x1 x2 x3 x9 x13 x14 : AV) (m : Mem) (K : List Item) : L0 x0 x1 x2 x3 x9 x13 x14 m K = den prog ann 62 (.code r3 :: .code i0 :: .code k1 :: .code r5 :: .inLoop l0 :: .inBlock 0 :: K) ⟨[(0, x0), (1, x1), (2, x2), (3, x3), (9, x9), (13, x13), (14, x14)], 41, m⟩ := den_flat hf (l := [r3, i0, k1, r5]) (by kernel_rfl) _ _
theorem r3_eq (K : List Item) (s : St) : den prog ann 62 (.code r3 :: K) s = mreg prog ann 62 (some [0, 1, 2, 3, 9, 13, 14]) [] none [] [
    ⟨some 15, none, .v fun s => binA prog .lss 3 (s.get 14) (s.get 13)⟩] K s := (den_reg hf _ K s).trans (by kernel_rfl)
theorem i0_eq (K : List Item) (s : St) : den prog ann 62 (.code i0 :: K) s = ifV prog ann 62 15 i0t i0e K s (s.get 15) := den_if hf (by kernel_rfl) K s
theorem i0t_eq (K : List Item) (s : St) : den prog ann 62 (.code i0t :: K) s = den prog ann 62 (K) s := den_flat hf (l := []) (by kernel_rfl) K s
theorem i0e_eq (K : List Item) (s : St) : den prog ann 62 (.code i0e :: K) s = den prog ann 62 (.code (.exit 0) :: K) s := den_flat hf (l := [(.exit 0)]) (by kernel_rfl) K s
theorem k1_eq (K : List Item) (s : St) : den prog ann 62 (.code k1 :: K) s = den prog ann 62 (.code r4 :: .inBlock 1 :: K) s := den_blk hf (b := blkOf k1) (l := [r4]) (by kernel_rfl) (by kernel_rfl) K s
theorem r4_eq (K : List Item) (s : St) : den prog ann 62 (.code r4 :: K) s = mreg prog ann 62 none [] none [] [
    ⟨some 16, none, .v fun s => some (s.get 9)⟩,
    ⟨some 17, none, .v fun s => bslF 1 (bslA 1 1 [.int .i64 0] [(0, (.int .i64 0))])⟩,
    ⟨some 18, none, .w false none fun s => appendA 1 8 s.m (s.get 16) (s.get 17)⟩,
    ⟨some 9, none, .v fun s => some (s.get 18)⟩] K s := (den_reg hf _ K s).trans (by kernel_rfl)
theorem r5_eq (K : List Item) (s : St) : den prog ann 62 (.code r5 :: K) s = mreg prog ann 62 (some [0, 1, 2, 3, 9, 13, 14]) [] none [] [
    ⟨some 19, none, .v fun s => binA prog .add 3 (s.get 14) (.int .i64 1)⟩,
    ⟨some 14, none, .v fun s => some (s.get 19)⟩] K s := (den_reg hf _ K s).trans (by kernel_rfl)
theorem r6_eq (K : List Item) (s : St) : den prog ann 62 (.code r6 :: K) s = mreg prog ann 62 (some [0, 1, 2, 3, 9]) [] none [] [
    ⟨some 20, none, .v fun s => some (s.get 1)⟩,
    ⟨some 21, none, .v fun s => lenSl (s.get 20)⟩,
    ⟨some 22, none, .v fun s => some (.int .i64 0)⟩] K s := (den_reg hf _ K s).trans (by kernel_rfl)
theorem k2_eq (K : List Item) (t : List (Nat × AV)) (m : Mem) : den prog ann 62 (.code k2 :: K) ⟨t, 41, m⟩ = L2 (get t 0) (get t 2) (get t 3) (get t 9) (get t 20) (get t 21) (get t 22) m K := den_loop_enter hf (b := l2) (id := 7) (l := [0, 2, 3, 9, 20, 21, 22]) (by kernel_rfl) (by kernel_rfl) (by kernel_rfl) K _
theorem l2_eq (K : List Item) (t : List (Nat × AV)) (m : Mem) : den prog ann 62 (.inLoop l2 :: .inBlock 2 :: K) ⟨t, 41, m⟩ = L2 (get t 0) (get t 2) (get t 3) (get t 9) (get t 20) (get t 21) (get t 22) m K := den_loop_again hf (id := 7) (l := [0, 2, 3, 9, 20, 21, 22]) (by kernel_rfl) (by kernel_rfl) (.inBlock 2 :: K) _
theorem L2_eq (x0 x2 x3 x9 x20 x21 x22 : AV) (m : Mem) (K : List Item) : L2 x0 x2 x3 x9 x20 x21 x22 m K = den prog ann 62 (.code r7 :: .code i1 :: .code k3 :: .code r10 :: .inLoop l2 :: .inBlock 2 :: K) ⟨[(0, x0), (2, x2), (3, x3), (9, x9), (20, x20), (21, x21), (22, x22)], 41, m⟩ := den_flat hf (l := [r7, i1, k3, r10]) (by kernel_rfl) _ _
theorem r7_eq (K : List Item) (s : St) : den prog ann 62 (.code r7 :: K) s = mreg prog ann 62 (some [0, 2, 3, 9, 20, 21, 22]) [] none [] [
    ⟨some 23, none, .v fun s => binA prog .lss 3 (s.get 22) (s.get 21)⟩] K s := (den_reg hf _ K s).trans (by kernel_rfl)
theorem i1_eq (K : List Item) (s : St) : den prog ann 62 (.code i1 :: K) s = ifV prog ann 62 23 i1t i1e K s (s.get 23) := den_if hf (by kernel_rfl) K s
theorem i1t_eq (K : List Item) (s : St) : den prog ann 62 (.code i1t :: K) s = den prog ann 62 (K) s := den_flat hf (l := []) (by kernel_rfl) K s
theorem i1e_eq (K : List Item) (s : St) : den prog ann 62 (.code i1e :: K) s = den prog ann 62 (.code (.exit 2) :: K) s := den_flat hf (l := [(.exit 2)]) (by kernel_rfl) K s
theorem k3_eq (K : List Item) (s : St) : den prog ann 62 (.code k3 :: K) s = den prog ann 62 (.code r8 :: .code r9 :: .inBlock 3 :: K) s := den_blk hf (b := blkOf k3) (l := [r8, r9]) (by kernel_rfl) (by kernel_rfl) K s
theorem r8_eq (K : List Item) (s : St) : den prog ann 62 (.code r8 :: K) s = mreg prog ann 62 none [] none [] [
    ⟨some 24, none, .v fun s => some (s.get 22)⟩,
    ⟨some 25, none, .v fun s => idxSl 1 (s.get 20) (s.get 22)⟩,
    ⟨some 26, none, .v fun s => loadF false 1 (s.get 25)⟩,
    ⟨some 10, none, .v fun s => some (s.get 24)⟩,
    ⟨some 11, none, .v fun s => some (s.get 26)⟩] K s := (den_reg hf _ K s).trans (by kernel_rfl)
theorem r9_eq (K : List Item) (s : St) : den prog ann 62 (.code r9 :: K) s = mreg prog ann 62 none [] none [] [
    ⟨some 27, none, .v fun s => some (s.get 9)⟩,
    ⟨some 28, none, .v fun s => some (s.get 10)⟩,
    ⟨some 29, none, .v fun s => some (s.get 11)⟩,
    ⟨some 30, none, .v fun s => some (s.get 2)⟩,
    ⟨some 31, none, .v fun s => binA prog .mul 3 (s.get 29) (s.get 30)⟩,
    ⟨some 32, none, .v fun s => some (s.get 3)⟩,
    ⟨some 33, none, .v fun s => binA prog .add 3 (s.get 31) (s.get 32)⟩,
    ⟨some 34, none, .v fun s => some (s.get 0)⟩,
    ⟨some 35, none, .v fun s => binA prog .rem 3 (s.get 33) (s.get 34)⟩,
    ⟨some 36, none, .v fun s => idxSl 1 (s.get 27) (s.get 28)⟩,
    ⟨none, none, .w false none fun s => stA false 1 s.m (s.get 36) (s.get 35)⟩] K s := (den_reg hf _ K s).trans (by kernel_rfl)
theorem r10_eq (K : List Item) (s : St) : den prog ann 62 (.code r10 :: K) s = mreg prog ann 62 (some [0, 2, 3, 9, 20, 21, 22]) [] none [] [
    ⟨some 37, none, .v fun s => binA prog .add 3 (s.get 22) (.int .i64 1)⟩,
    ⟨some 22, none, .v fun s => some (s.get 37)⟩] K s := (den_reg hf _ K s).trans (by kernel_rfl)
theorem r11_eq (K : List Item) (s : St) : den prog ann 62 (.code r11 :: K) s = mreg prog ann 62 (some [9]) [] none [] [
    ⟨some 38, none, .v fun s => some (s.get 9)⟩,
    ⟨some 39, none, .c 0 (fun s => (.fn 69 [] [])) fun s => [(s.get 38)]⟩] K s := (den_reg hf _ K s).trans (by kernel_rfl)
theorem r12_eq (K : List Item) (s : St) : den prog ann 62 (.code r12 :: K) s = mreg prog ann 62 none [] none [] [
    ⟨some 40, none, .v fun s => some (s.get 9)⟩,
    ⟨some 8, none, .v fun s => some (s.get 40)⟩] K s := (den_reg hf _ K s).trans (by kernel_rfl)
theorem ret_eq (K : List Item) (s : St) : den prog ann 62 (.code .ret :: K) s = finM true [fun s => some (s.get 8)] s := (den_ret hf K s).trans (by kernel_rfl)
theorem nil_eq (s : St) : den prog ann 62 [] s = finM true [fun s => some (s.get 8)] s := (den_nil hf s).trans (by kernel_rfl)
theorem inBlock_eq (id : Nat) (K : List Item) (s : St) : den prog ann 62 (.inBlock id :: K) s = den prog ann 62 K s := den_inBlock hf id K s
theorem exit_eq (id : Nat) (K : List Item) (s : St) : den prog ann 62 (.code (.exit id) :: K) s = exitV prog ann 62 (exitTo id K) s := den_exitV hf id K s
theorem call_eq (v0 v1 v2 v3 : AV) (m : Mem) (h : closedL [v0, v1, v2, v3] = true) : denC prog ann 62 [v0, v1, v2, v3] m = (den prog ann 62 [.code b] ⟨[(0, v0), (1, v1), (2, v2), (3, v3)], 41, Mem.empty⟩).bind fun r => some (r.1, m) := (denC_pure hf (b := b) (by kernel_rfl) (by kernel_rfl) (by kernel_rfl) h m).trans (by kernel_rfl)
theorem pure_eq : (ann 62).pure = true := by kernel_rfl
attribute [simp] b_eq r0_eq r1_eq r2_eq k0_eq l0_eq r3_eq i0_eq i0t_eq i0e_eq k1_eq r4_eq r5_eq r6_eq k2_eq l2_eq r7_eq i1_eq i1t_eq i1e_eq k3_eq r8_eq r9_eq r10_eq r11_eq r12_eq ret_eq nil_eq inBlock_eq exit_eq pure_eq
end strap_moved

namespace strap_units
/-- pommel/strap.units -/
noncomputable def b : Code := (Try.f60.body).getD .skip
theorem hf : prog.funcs[60]? = some Try.f60 := by kernel_rfl
noncomputable def r0 : Code := findReg b 0
noncomputable def r1 : Code := findReg b 1
noncomputable def r2 : Code := findReg b 2
noncomputable def k0 : Code := findBlk b 0
noncomputable def l0 : Code := loopOf k0
noncomputable def L0 (x0 x3 x5 x6 : AV) (m : Mem) (K : List Item) : Option Res := den prog ann 60 (.code l0 :: .inLoop l0 :: .inBlock 0 :: K) ⟨[(0, x0), (3, x3), (5, x5), (6, x6)], 19, m⟩
noncomputable def r3 : Code := findReg b 3
noncomputable def i0 : Code := findCond b 0
noncomputable def i0t : Code := thenOf i0
noncomputable def i0e : Code := elseOf i0
noncomputable def k1 : Code := findBlk b 1
noncomputable def r4 : Code := findReg b 4
noncomputable def r5 : Code := findReg b 5
noncomputable def i1 : Code := findCond b 1
noncomputable def i1t : Code := thenOf i1
noncomputable def i1e : Code := elseOf i1
noncomputable def r6 : Code := findReg b 6
noncomputable def r7 : Code := findReg b 7
noncomputable def r8 : Code := findReg b 8
theorem b_eq (K : List Item) (s : St) : den prog ann 60 (.code b :: K) s = den prog ann 60 (.code r0 :: .code r1 :: .code r2 :: .code k0 :: .code r8 :: .code .ret :: K) s := den_flat hf (l := [r0, r1, r2, k0, r8, .ret]) (by kernel_rfl) K s
theorem r0_eq (K : List Item) (s : St) : den prog ann 60 (.code r0 :: K) s = mreg prog ann 60 none [] none [] [
    ⟨some 2, none, .v fun s => some (.nils)⟩] K s := (den_reg hf _ K s).trans (by kernel_rfl)
theorem r1_eq (K : List Item) (s : St) : den prog ann 60 (.code r1 :: K) s = mreg prog ann 60 none [] none [] [
    ⟨some 3, none, .v fun s => some (.nils)⟩] K s := (den_reg hf _ K s).trans (by kernel_rfl)
theorem r2_eq (K : List Item) (s : St) : den prog ann 60 (.code r2 :: K) s = mreg prog ann 60 none [] none [] [
    ⟨some 5, none, .v fun s => some (s.get 0)⟩,
    ⟨some 6, none, .v fun s => some (.int .i64 0)⟩] K s := (den_reg hf _ K s).trans (by kernel_rfl)
theorem k0_eq (K : List Item) (t : List (Nat × AV)) (m : Mem) : den prog ann 60 (.code k0 :: K) ⟨t, 19, m⟩ = L0 (get t 0) (get t 3) (get t 5) (get t 6) m K := den_loop_enter hf (b := l0) (id := 3) (l := [0, 3, 5, 6]) (by kernel_rfl) (by kernel_rfl) (by kernel_rfl) K _
theorem l0_eq (K : List Item) (t : List (Nat × AV)) (m : Mem) : den prog ann 60 (.inLoop l0 :: .inBlock 0 :: K) ⟨t, 19, m⟩ = L0 (get t 0) (get t 3) (get t 5) (get t 6) m K := den_loop_again hf (id := 3) (l := [0, 3, 5, 6]) (by kernel_rfl) (by kernel_rfl) (.inBlock 0 :: K) _
theorem L0_eq (x0 x3 x5 x6 : AV) (m : Mem) (K : List Item) : L0 x0 x3 x5 x6 m K = den prog ann 60 (.code r3 :: .code i0 :: .code k1 :: .code r7 :: .inLoop l0 :: .inBlock 0 :: K) ⟨[(0, x0), (3, x3), (5, x5), (6, x6)], 19, m⟩ := den_flat hf (l := [r3, i0, k1, r7]) (by kernel_rfl) _ _
theorem r3_eq (K : List Item) (s : St) : den prog ann 60 (.code r3 :: K) s = mreg prog ann 60 (some [0, 3, 5, 6]) [] none [] [
    ⟨some 7, none, .v fun s => binA prog .lss 3 (s.get 6) (s.get 5)⟩] K s := (den_reg hf _ K s).trans (by kernel_rfl)
theorem i0_eq (K : List Item) (s : St) : den prog ann 60 (.code i0 :: K) s = ifV prog ann 60 7 i0t i0e K s (s.get 7) := den_if hf (by kernel_rfl) K s
theorem i0t_eq (K : List Item) (s : St) : den prog ann 60 (.code i0t :: K) s = den prog ann 60 (K) s := den_flat hf (l := []) (by kernel_rfl) K s
theorem i0e_eq (K : List Item) (s : St) : den prog ann 60 (.code i0e :: K) s = den prog ann 60 (.code (.exit 0) :: K) s := den_flat hf (l := [(.exit 0)]) (by kernel_rfl) K s
theorem k1_eq (K : List Item) (s : St) : den prog ann 60 (.code k1 :: K) s = den prog ann 60 (.code r4 :: .code r5 :: .code i1 :: .inBlock 1 :: K) s := den_blk hf (b := blkOf k1) (l := [r4, r5, i1]) (by kernel_rfl) (by kernel_rfl) K s
theorem r4_eq (K : List Item) (s : St) : den prog ann 60 (.code r4 :: K) s = mreg prog ann 60 none [] none [] [
    ⟨some 8, none, .v fun s => some (s.get 6)⟩,
    ⟨some 4, none, .v fun s => some (s.get 8)⟩] K s := (den_reg hf _ K s).trans (by kernel_rfl)
theorem r5_eq (K : List Item) (s : St) : den prog ann 60 (.code r5 :: K) s = mreg prog ann 60 none [] none [] [
    ⟨some 9, none, .v fun s => some (s.get 4)⟩,
    ⟨some 10, none, .v fun s => some (s.get 0)⟩,
    ⟨some 11, none, .c 0 (fun s => (.fn 68 [] [])) fun s => [(s.get 9), (s.get 10)]⟩,
    ⟨some 12, none, .v fun s => binA prog .eql 3 (s.get 11) (.int .i64 1)⟩] K s := (den_reg hf _ K s).trans (by kernel_rfl)
theorem i1_eq (K : List Item) (s : St) : den prog ann 60 (.code i1 :: K) s = ifV prog ann 60 12 i1t i1e K s (s.get 12) := den_if hf (by kernel_rfl) K s
theorem i1t_eq (K : List Item) (s : St) : den prog ann 60 (.code i1t :: K) s = den prog ann 60 (.code r6 :: K) s := den_flat hf (l := [r6]) (by kernel_rfl) K s
theorem r6_eq (K : List Item) (s : St) : den prog ann 60 (.code r6 :: K) s = mreg prog ann 60 none [] none [] [
    ⟨some 13, none, .v fun s => some (s.get 3)⟩,
    ⟨some 14, none, .v fun s => some (s.get 4)⟩,
    ⟨some 15, none, .v fun s => bslF 1 (bslA 1 1 [.int .i64 0] [(0, (s.get 14))])⟩,
    ⟨some 16, none, .w false none fun s => appendA 1 8 s.m (s.get 13) (s.get 15)⟩,
    ⟨some 3, none, .v fun s => some (s.get 16)⟩] K s := (den_reg hf _ K s).trans (by kernel_rfl)
theorem i1e_eq (K : List Item) (s : St) : den prog ann 60 (.code i1e :: K) s = den prog ann 60 (K) s := den_flat hf (l := []) (by kernel_rfl) K s
theorem r7_eq (K : List Item) (s : St) : den prog ann 60 (.code r7 :: K) s = mreg prog ann 60 (some [0, 3, 5, 6]) [] none [] [
    ⟨some 17, none, .v fun s => binA prog .add 3 (s.get 6) (.int .i64 1)⟩,
    ⟨some 6, none, .v fun s => some (s.get 17)⟩] K s := (den_reg hf _ K s).trans (by kernel_rfl)
theorem r8_eq (K : List Item) (s : St) : den prog ann 60 (.code r8 :: K) s = mreg prog ann 60 (some [3]) [] none [] [
    ⟨some 18, none, .v fun s => some (s.get 3)⟩,
    ⟨some 2, none, .v fun s => some (s.get 18)⟩] K s := (den_reg hf _ K s).trans (by kernel_rfl)
theorem ret_eq (K : List Item) (s : St) : den prog ann 60 (.code .ret :: K) s = finM true [fun s => some (s.get 2)] s := (den_ret hf K s).trans (by kernel_rfl)
theorem nil_eq (s : St) : den prog ann 60 [] s = finM true [fun s => some (s.get 2)] s := (den_nil hf s).trans (by kernel_rfl)
theorem inBlock_eq (id : Nat) (K : List Item) (s : St) : den prog ann 60 (.inBlock id :: K) s = den prog ann 60 K s := den_inBlock hf id K s
theorem exit_eq (id : Nat) (K : List Item) (s : St) : den prog ann 60 (.code (.exit id) :: K) s = exitV prog ann 60 (exitTo id K) s := den_exitV hf id K s
theorem call_eq (v0 : AV) (m : Mem) (h : closedL [v0] = true) : denC prog ann 60 [v0] m = (den prog ann 60 [.code b] ⟨[(0, v0)], 19, Mem.empty⟩).bind fun r => some (r.1, m) := (denC_pure hf (b := b) (by kernel_rfl) (by kernel_rfl) (by kernel_rfl) h m).trans (by kernel_rfl)
theorem pure_eq : (ann 60).pure = true := by kernel_rfl
attribute [simp] b_eq r0_eq r1_eq r2_eq k0_eq l0_eq r3_eq i0_eq i0t_eq i0e_eq k1_eq r4_eq r5_eq i1_eq i1t_eq r6_eq i1e_eq r7_eq r8_eq ret_eq nil_eq inBlock_eq exit_eq pure_eq
end strap_units

namespace strap_divisor
/-- pommel/strap.divisor -/
noncomputable def b : Code := (Try.f68.body).getD .skip
theorem hf : prog.funcs[68]? = some Try.f68 := by kernel_rfl
noncomputable def r0 : Code := findReg b 0
noncomputable def k0 : Code := findBlk b 0
noncomputable def l0 : Code := loopOf k0
noncomputable def L0 (x0 x1 : AV) (m : Mem) (K : List Item) : Option Res := den prog ann 68 (.code l0 :: .inLoop l0 :: .inBlock 0 :: K) ⟨[(0, x0), (1, x1)], 12, m⟩
noncomputable def r1 : Code := findReg b 1
noncomputable def i0 : Code := findCond b 0
noncomputable def i0t : Code := thenOf i0
noncomputable def i0e : Code := elseOf i0
noncomputable def k1 : Code := findBlk b 1
noncomputable def r2 : Code := findReg b 2
noncomputable def r3 : Code := findReg b 3
theorem b_eq (K : List Item) (s : St) : den prog ann 68 (.code b :: K) s = den prog ann 68 (.code r0 :: .code k0 :: .code r3 :: .code .ret :: K) s := den_flat hf (l := [r0, k0, r3, .ret]) (by kernel_rfl) K s
theorem r0_eq (K : List Item) (s : St) : den prog ann 68 (.code r0 :: K) s = mreg prog ann 68 none [] none [] [
    ⟨some 4, none, .v fun s => some (.int .i64 0)⟩] K s := (den_reg hf _ K s).trans (by kernel_rfl)
theorem k0_eq (K : List Item) (t : List (Nat × AV)) (m : Mem) : den prog ann 68 (.code k0 :: K) ⟨t, 12, m⟩ = L0 (get t 0) (get t 1) m K := den_loop_enter hf (b := l0) (id := 1) (l := [0, 1]) (by kernel_rfl) (by kernel_rfl) (by kernel_rfl) K _
theorem l0_eq (K : List Item) (t : List (Nat × AV)) (m : Mem) : den prog ann 68 (.inLoop l0 :: .inBlock 0 :: K) ⟨t, 12, m⟩ = L0 (get t 0) (get t 1) m K := den_loop_again hf (id := 1) (l := [0, 1]) (by kernel_rfl) (by kernel_rfl) (.inBlock 0 :: K) _
theorem L0_eq (x0 x1 : AV) (m : Mem) (K : List Item) : L0 x0 x1 m K = den prog ann 68 (.code r1 :: .code i0 :: .code k1 :: .inLoop l0 :: .inBlock 0 :: K) ⟨[(0, x0), (1, x1)], 12, m⟩ := den_flat hf (l := [r1, i0, k1]) (by kernel_rfl) _ _
theorem r1_eq (K : List Item) (s : St) : den prog ann 68 (.code r1 :: K) s = mreg prog ann 68 (some [0, 1]) [] none [] [
    ⟨some 5, none, .v fun s => some (s.get 1)⟩,
    ⟨some 6, none, .v fun s => binA prog .neq 3 (s.get 5) (.int .i64 0)⟩] K s := (den_reg hf _ K s).trans (by kernel_rfl)
theorem i0_eq (K : List Item) (s : St) : den prog ann 68 (.code i0 :: K) s = ifV prog ann 68 6 i0t i0e K s (s.get 6) := den_if hf (by kernel_rfl) K s
theorem i0t_eq (K : List Item) (s : St) : den prog ann 68 (.code i0t :: K) s = den prog ann 68 (K) s := den_flat hf (l := []) (by kernel_rfl) K s
theorem i0e_eq (K : List Item) (s : St) : den prog ann 68 (.code i0e :: K) s = den prog ann 68 (.code (.exit 0) :: K) s := den_flat hf (l := [(.exit 0)]) (by kernel_rfl) K s
theorem k1_eq (K : List Item) (s : St) : den prog ann 68 (.code k1 :: K) s = den prog ann 68 (.code r2 :: .inBlock 1 :: K) s := den_blk hf (b := blkOf k1) (l := [r2]) (by kernel_rfl) (by kernel_rfl) K s
theorem r2_draw : drawOk (fun g => (ann g).pure) (modeOf (ann 68) (idOf r2)) (frzOf (ann 68) (idOf r2)) (opsOf r2) = true := drawOk_of (an := [0, 0, 0, 6, 3, 31]) (by kernel_rfl) (by kernel_rfl)
theorem r2_eq (K : List Item) (s : St) : den prog ann 68 (.code r2 :: K) s = mreg prog ann 68 none [] (some 6) [] [
    ⟨some 7, none, .v fun s => some (s.get 1)⟩,
    ⟨some 8, none, .v fun s => some (s.get 0)⟩,
    ⟨some 9, none, .v fun s => some (s.get 1)⟩,
    ⟨some 10, none, .v fun s => binA prog .rem 3 (s.get 8) (s.get 9)⟩,
    ⟨some 0, none, .v fun s => some (s.get 7)⟩,
    ⟨some 1, none, .v fun s => some (s.get 10)⟩] K s := (den_regD hf r2_draw K s).trans (by kernel_rfl)
theorem r3_eq (K : List Item) (s : St) : den prog ann 68 (.code r3 :: K) s = mreg prog ann 68 (some [0]) [] none [] [
    ⟨some 11, none, .v fun s => some (s.get 0)⟩,
    ⟨some 4, none, .v fun s => some (s.get 11)⟩] K s := (den_reg hf _ K s).trans (by kernel_rfl)
theorem ret_eq (K : List Item) (s : St) : den prog ann 68 (.code .ret :: K) s = finM true [fun s => some (s.get 4)] s := (den_ret hf K s).trans (by kernel_rfl)
theorem nil_eq (s : St) : den prog ann 68 [] s = finM true [fun s => some (s.get 4)] s := (den_nil hf s).trans (by kernel_rfl)
theorem inBlock_eq (id : Nat) (K : List Item) (s : St) : den prog ann 68 (.inBlock id :: K) s = den prog ann 68 K s := den_inBlock hf id K s
theorem exit_eq (id : Nat) (K : List Item) (s : St) : den prog ann 68 (.code (.exit id) :: K) s = exitV prog ann 68 (exitTo id K) s := den_exitV hf id K s
theorem call_eq (v0 v1 : AV) (m : Mem) (h : closedL [v0, v1] = true) : denC prog ann 68 [v0, v1] m = (den prog ann 68 [.code b] ⟨[(0, v0), (1, v1)], 12, Mem.empty⟩).bind fun r => some (r.1, m) := (denC_pure hf (b := b) (by kernel_rfl) (by kernel_rfl) (by kernel_rfl) h m).trans (by kernel_rfl)
theorem pure_eq : (ann 68).pure = true := by kernel_rfl
attribute [simp] b_eq r0_eq k0_eq l0_eq r1_eq i0_eq i0t_eq i0e_eq k1_eq r2_eq r3_eq ret_eq nil_eq inBlock_eq exit_eq pure_eq
end strap_divisor




namespace r04_Gcd
/-- pommel/pommelref04.Gcd -/
noncomputable def b : Code := (Try.f38.body).getD .skip
theorem hf : prog.funcs[38]? = some Try.f38 := by kernel_rfl
noncomputable def r0 : Code := findReg b 0
noncomputable def k0 : Code := findBlk b 0
noncomputable def l0 : Code := loopOf k0
noncomputable def L0 (x0 x1 : AV) (m : Mem) (K : List Item) : Option Res := den prog ann 38 (.code l0 :: .inLoop l0 :: .inBlock 0 :: K) ⟨[(0, x0), (1, x1)], 12, m⟩
noncomputable def r1 : Code := findReg b 1
noncomputable def i0 : Code := findCond b 0
noncomputable def i0t : Code := thenOf i0
noncomputable def i0e : Code := elseOf i0
noncomputable def k1 : Code := findBlk b 1
noncomputable def r2 : Code := findReg b 2
noncomputable def r3 : Code := findReg b 3
theorem b_eq (K : List Item) (s : St) : den prog ann 38 (.code b :: K) s = den prog ann 38 (.code r0 :: .code k0 :: .code r3 :: .code .ret :: K) s := den_flat hf (l := [r0, k0, r3, .ret]) (by kernel_rfl) K s
theorem r0_eq (K : List Item) (s : St) : den prog ann 38 (.code r0 :: K) s = mreg prog ann 38 none [] none [] [
    ⟨some 4, none, .v fun s => some (.int .i64 0)⟩] K s := (den_reg hf _ K s).trans (by kernel_rfl)
theorem k0_eq (K : List Item) (t : List (Nat × AV)) (m : Mem) : den prog ann 38 (.code k0 :: K) ⟨t, 12, m⟩ = L0 (get t 0) (get t 1) m K := den_loop_enter hf (b := l0) (id := 1) (l := [0, 1]) (by kernel_rfl) (by kernel_rfl) (by kernel_rfl) K _
theorem l0_eq (K : List Item) (t : List (Nat × AV)) (m : Mem) : den prog ann 38 (.inLoop l0 :: .inBlock 0 :: K) ⟨t, 12, m⟩ = L0 (get t 0) (get t 1) m K := den_loop_again hf (id := 1) (l := [0, 1]) (by kernel_rfl) (by kernel_rfl) (.inBlock 0 :: K) _
theorem L0_eq (x0 x1 : AV) (m : Mem) (K : List Item) : L0 x0 x1 m K = den prog ann 38 (.code r1 :: .code i0 :: .code k1 :: .inLoop l0 :: .inBlock 0 :: K) ⟨[(0, x0), (1, x1)], 12, m⟩ := den_flat hf (l := [r1, i0, k1]) (by kernel_rfl) _ _
theorem r1_eq (K : List Item) (s : St) : den prog ann 38 (.code r1 :: K) s = mreg prog ann 38 (some [0, 1]) [] none [] [
    ⟨some 5, none, .v fun s => some (s.get 1)⟩,
    ⟨some 6, none, .v fun s => binA prog .gtr 3 (s.get 5) (.int .i64 0)⟩] K s := (den_reg hf _ K s).trans (by kernel_rfl)
theorem i0_eq (K : List Item) (s : St) : den prog ann 38 (.code i0 :: K) s = ifV prog ann 38 6 i0t i0e K s (s.get 6) := den_if hf (by kernel_rfl) K s
theorem i0t_eq (K : List Item) (s : St) : den prog ann 38 (.code i0t :: K) s = den prog ann 38 (K) s := den_flat hf (l := []) (by kernel_rfl) K s
theorem i0e_eq (K : List Item) (s : St) : den prog ann 38 (.code i0e :: K) s = den prog ann 38 (.code (.exit 0) :: K) s := den_flat hf (l := [(.exit 0)]) (by kernel_rfl) K s
theorem k1_eq (K : List Item) (s : St) : den prog ann 38 (.code k1 :: K) s = den prog ann 38 (.code r2 :: .inBlock 1 :: K) s := den_blk hf (b := blkOf k1) (l := [r2]) (by kernel_rfl) (by kernel_rfl) K s
theorem r2_draw : drawOk (fun g => (ann g).pure) (modeOf (ann 38) (idOf r2)) (frzOf (ann 38) (idOf r2)) (opsOf r2) = true := drawOk_of (an := [0, 0, 0, 6, 3, 31]) (by kernel_rfl) (by kernel_rfl)
theorem r2_eq (K : List Item) (s : St) : den prog ann 38 (.code r2 :: K) s = mreg prog ann 38 none [] (some 6) [] [
    ⟨some 7, none, .v fun s => some (s.get 1)⟩,
    ⟨some 8, none, .v fun s => some (s.get 0)⟩,
    ⟨some 9, none, .v fun s => some (s.get 1)⟩,
    ⟨some 10, none, .v fun s => binA prog .rem 3 (s.get 8) (s.get 9)⟩,
    ⟨some 0, none, .v fun s => some (s.get 7)⟩,
    ⟨some 1, none, .v fun s => some (s.get 10)⟩] K s := (den_regD hf r2_draw K s).trans (by kernel_rfl)
theorem r3_eq (K : List Item) (s : St) : den prog ann 38 (.code r3 :: K) s = mreg prog ann 38 (some [0]) [] none [] [
    ⟨some 11, none, .v fun s => some (s.get 0)⟩,
    ⟨some 4, none, .v fun s => some (s.get 11)⟩] K s := (den_reg hf _ K s).trans (by kernel_rfl)
theorem ret_eq (K : List Item) (s : St) : den prog ann 38 (.code .ret :: K) s = finM true [fun s => some (s.get 4)] s := (den_ret hf K s).trans (by kernel_rfl)
theorem nil_eq (s : St) : den prog ann 38 [] s = finM true [fun s => some (s.get 4)] s := (den_nil hf s).trans (by kernel_rfl)
theorem inBlock_eq (id : Nat) (K : List Item) (s : St) : den prog ann 38 (.inBlock id :: K) s = den prog ann 38 K s := den_inBlock hf id K s
theorem exit_eq (id : Nat) (K : List Item) (s : St) : den prog ann 38 (.code (.exit id) :: K) s = exitV prog ann 38 (exitTo id K) s := den_exitV hf id K s
theorem call_eq (v0 v1 : AV) (m : Mem) (h : closedL [v0, v1] = true) : denC prog ann 38 [v0, v1] m = (den prog ann 38 [.code b] ⟨[(0, v0), (1, v1)], 12, Mem.empty⟩).bind fun r => some (r.1, m) := (denC_pure hf (b := b) (by kernel_rfl) (by kernel_rfl) (by kernel_rfl) h m).trans (by kernel_rfl)
theorem pure_eq : (ann 38).pure = true := by kernel_rfl
attribute [simp] b_eq r0_eq k0_eq l0_eq r1_eq i0_eq i0t_eq i0e_eq k1_eq r2_eq r3_eq ret_eq nil_eq inBlock_eq exit_eq pure_eq
end r04_Gcd

namespace r04_Turned
/-- pommel/pommelref04.Turned -/
noncomputable def b : Code := (Try.f39.body).getD .skip
theorem hf : prog.funcs[39]? = some Try.f39 := by kernel_rfl
noncomputable def r0 : Code := findReg b 0
noncomputable def r1 : Code := findReg b 1
noncomputable def r2 : Code := findReg b 2
noncomputable def k0 : Code := findBlk b 0
noncomputable def l0 : Code := loopOf k0
noncomputable def L0 (x0 x1 x2 x3 x9 x10 x11 : AV) (m : Mem) (K : List Item) : Option Res := den prog ann 39 (.code l0 :: .inLoop l0 :: .inBlock 0 :: K) ⟨[(0, x0), (1, x1), (2, x2), (3, x3), (9, x9), (10, x10), (11, x11)], 48, m⟩
noncomputable def r3 : Code := findReg b 3
noncomputable def i0 : Code := findCond b 0
noncomputable def i0t : Code := thenOf i0
noncomputable def i0e : Code := elseOf i0
noncomputable def k1 : Code := findBlk b 1
noncomputable def r5 : Code := findReg b 5
noncomputable def r4 : Code := findReg b 4
noncomputable def r6 : Code := findReg b 6
noncomputable def k2 : Code := findBlk b 2
noncomputable def l2 : Code := loopOf k2
noncomputable def L2 (x0 x9 x10 x12 : AV) (m : Mem) (K : List Item) : Option Res := den prog ann 39 (.code l2 :: .inLoop l2 :: .inBlock 2 :: K) ⟨[(0, x0), (9, x9), (10, x10), (12, x12)], 48, m⟩
noncomputable def r7 : Code := findReg b 7
noncomputable def i1 : Code := findCond b 1
noncomputable def i1t : Code := thenOf i1
noncomputable def i1e : Code := elseOf i1
noncomputable def k3 : Code := findBlk b 3
noncomputable def r9 : Code := findReg b 9
noncomputable def i2 : Code := findCond b 2
noncomputable def i2t : Code := thenOf i2
noncomputable def i2e : Code := elseOf i2
noncomputable def r10 : Code := findReg b 10
noncomputable def r8 : Code := findReg b 8
noncomputable def r11 : Code := findReg b 11
theorem b_eq (K : List Item) (s : St) : den prog ann 39 (.code b :: K) s = den prog ann 39 (.code r0 :: .code r1 :: .code r2 :: .code k0 :: .code r6 :: .code k2 :: .code r11 :: .code .ret :: K) s := den_flat hf (l := [r0, r1, r2, k0, r6, k2, r11, .ret]) (by kernel_rfl) K s
theorem r0_eq (K : List Item) (s : St) : den prog ann 39 (.code r0 :: K) s = mreg prog ann 39 none [] none [] [
    ⟨some 8, none, .v fun s => some (.nils)⟩] K s := (den_reg hf _ K s).trans (by kernel_rfl)
theorem r1_eq (K : List Item) (s : St) : den prog ann 39 (.code r1 :: K) s = mreg prog ann 39 none [] none [] [
    ⟨some 13, none, .v fun s => some (s.get 0)⟩,
    ⟨some 14, none, .w false none fun s => makeA 1 1 (.bool false) s.m (s.get 13) (s.get 13)⟩,
    ⟨some 15, none, .w false none fun s => bslM s.m 0 (bslA 1 0 [.int .i64 0] [])⟩,
    ⟨some 9, none, .v fun s => some (s.get 14)⟩,
    ⟨some 10, none, .v fun s => some (s.get 15)⟩] K s := (den_reg hf _ K s).trans (by kernel_rfl)
theorem r2_eq (K : List Item) (s : St) : den prog ann 39 (.code r2 :: K) s = mreg prog ann 39 none [] none [] [
    ⟨some 11, none, .v fun s => some (.int .i64 0)⟩] K s := (den_reg hf _ K s).trans (by kernel_rfl)
theorem k0_eq (K : List Item) (t : List (Nat × AV)) (m : Mem) : den prog ann 39 (.code k0 :: K) ⟨t, 48, m⟩ = L0 (get t 0) (get t 1) (get t 2) (get t 3) (get t 9) (get t 10) (get t 11) m K := den_loop_enter hf (b := l0) (id := 3) (l := [0, 1, 2, 3, 9, 10, 11]) (by kernel_rfl) (by kernel_rfl) (by kernel_rfl) K _
theorem l0_eq (K : List Item) (t : List (Nat × AV)) (m : Mem) : den prog ann 39 (.inLoop l0 :: .inBlock 0 :: K) ⟨t, 48, m⟩ = L0 (get t 0) (get t 1) (get t 2) (get t 3) (get t 9) (get t 10) (get t 11) m K := den_loop_again hf (id := 3) (l := [0, 1, 2, 3, 9, 10, 11]) (by kernel_rfl) (by kernel_rfl) (.inBlock 0 :: K) _
theorem L0_eq (x0 x1 x2 x3 x9 x10 x11 : AV) (m : Mem) (K : List Item) : L0 x0 x1 x2 x3 x9 x10 x11 m K = den prog ann 39 (.code r3 :: .code i0 :: .code k1 :: .code r4 :: .inLoop l0 :: .inBlock 0 :: K) ⟨[(0, x0), (1, x1), (2, x2), (3, x3), (9, x9), (10, x10), (11, x11)], 48, m⟩ := den_flat hf (l := [r3, i0, k1, r4]) (by kernel_rfl) _ _
theorem r3_eq (K : List Item) (s : St) : den prog ann 39 (.code r3 :: K) s = mreg prog ann 39 (some [0, 1, 2, 3, 9, 10, 11]) [] none [] [
    ⟨some 16, none, .v fun s => some (s.get 11)⟩,
    ⟨some 17, none, .v fun s => some (s.get 1)⟩,
    ⟨some 18, none, .v fun s => lenSl (s.get 17)⟩,
    ⟨some 19, none, .v fun s => binA prog .lss 3 (s.get 16) (s.get 18)⟩] K s := (den_reg hf _ K s).trans (by kernel_rfl)
theorem i0_eq (K : List Item) (s : St) : den prog ann 39 (.code i0 :: K) s = ifV prog ann 39 19 i0t i0e K s (s.get 19) := den_if hf (by kernel_rfl) K s
theorem i0t_eq (K : List Item) (s : St) : den prog ann 39 (.code i0t :: K) s = den prog ann 39 (K) s := den_flat hf (l := []) (by kernel_rfl) K s
theorem i0e_eq (K : List Item) (s : St) : den prog ann 39 (.code i0e :: K) s = den prog ann 39 (.code (.exit 0) :: K) s := den_flat hf (l := [(.exit 0)]) (by kernel_rfl) K s
theorem k1_eq (K : List Item) (s : St) : den prog ann 39 (.code k1 :: K) s = den prog ann 39 (.code r5 :: .inBlock 1 :: K) s := den_blk hf (b := blkOf k1) (l := [r5]) (by kernel_rfl) (by kernel_rfl) K s
theorem r5_eq (K : List Item) (s : St) : den prog ann 39 (.code r5 :: K) s = mreg prog ann 39 none [] none [] [
    ⟨some 22, none, .v fun s => some (s.get 9)⟩,
    ⟨some 23, none, .v fun s => some (s.get 1)⟩,
    ⟨some 24, none, .v fun s => some (s.get 11)⟩,
    ⟨some 25, none, .v fun s => idxSl 1 (s.get 23) (s.get 24)⟩,
    ⟨some 26, none, .v fun s => loadF false 1 (s.get 25)⟩,
    ⟨some 27, none, .v fun s => some (s.get 2)⟩,
    ⟨some 28, none, .v fun s => binA prog .mul 3 (s.get 26) (s.get 27)⟩,
    ⟨some 29, none, .v fun s => some (s.get 3)⟩,
    ⟨some 30, none, .v fun s => binA prog .add 3 (s.get 28) (s.get 29)⟩,
    ⟨some 31, none, .v fun s => some (s.get 0)⟩,
    ⟨some 32, none, .v fun s => binA prog .rem 3 (s.get 30) (s.get 31)⟩,
    ⟨some 33, none, .v fun s => idxSl 1 (s.get 22) (s.get 32)⟩,
    ⟨none, none, .w false none fun s => stA false 1 s.m (s.get 33) (.bool true)⟩] K s := (den_reg hf _ K s).trans (by kernel_rfl)
theorem r4_eq (K : List Item) (s : St) : den prog ann 39 (.code r4 :: K) s = mreg prog ann 39 (some [0, 1, 2, 3, 9, 10, 11]) [] none [] [
    ⟨some 20, none, .v fun s => some (s.get 11)⟩,
    ⟨some 21, none, .v fun s => binA prog .add 3 (s.get 20) (.int .i64 1)⟩,
    ⟨some 11, none, .v fun s => some (s.get 21)⟩] K s := (den_reg hf _ K s).trans (by kernel_rfl)
theorem r6_eq (K : List Item) (s : St) : den prog ann 39 (.code r6 :: K) s = mreg prog ann 39 (some [0, 9, 10]) [] none [] [
    ⟨some 12, none, .v fun s => some (.int .i64 0)⟩] K s := (den_reg hf _ K s).trans (by kernel_rfl)
theorem k2_eq (K : List Item) (t : List (Nat × AV)) (m : Mem) : den prog ann 39 (.code k2 :: K) ⟨t, 48, m⟩ = L2 (get t 0) (get t 9) (get t 10) (get t 12) m K := den_loop_enter hf (b := l2) (id := 7) (l := [0, 9, 10, 12]) (by kernel_rfl) (by kernel_rfl) (by kernel_rfl) K _
theorem l2_eq (K : List Item) (t : List (Nat × AV)) (m : Mem) : den prog ann 39 (.inLoop l2 :: .inBlock 2 :: K) ⟨t, 48, m⟩ = L2 (get t 0) (get t 9) (get t 10) (get t 12) m K := den_loop_again hf (id := 7) (l := [0, 9, 10, 12]) (by kernel_rfl) (by kernel_rfl) (.inBlock 2 :: K) _
theorem L2_eq (x0 x9 x10 x12 : AV) (m : Mem) (K : List Item) : L2 x0 x9 x10 x12 m K = den prog ann 39 (.code r7 :: .code i1 :: .code k3 :: .code r8 :: .inLoop l2 :: .inBlock 2 :: K) ⟨[(0, x0), (9, x9), (10, x10), (12, x12)], 48, m⟩ := den_flat hf (l := [r7, i1, k3, r8]) (by kernel_rfl) _ _
theorem r7_eq (K : List Item) (s : St) : den prog ann 39 (.code r7 :: K) s = mreg prog ann 39 (some [0, 9, 10, 12]) [] none [] [
    ⟨some 34, none, .v fun s => some (s.get 12)⟩,
    ⟨some 35, none, .v fun s => some (s.get 0)⟩,
    ⟨some 36, none, .v fun s => binA prog .lss 3 (s.get 34) (s.get 35)⟩] K s := (den_reg hf _ K s).trans (by kernel_rfl)
theorem i1_eq (K : List Item) (s : St) : den prog ann 39 (.code i1 :: K) s = ifV prog ann 39 36 i1t i1e K s (s.get 36) := den_if hf (by kernel_rfl) K s
theorem i1t_eq (K : List Item) (s : St) : den prog ann 39 (.code i1t :: K) s = den prog ann 39 (K) s := den_flat hf (l := []) (by kernel_rfl) K s
theorem i1e_eq (K : List Item) (s : St) : den prog ann 39 (.code i1e :: K) s = den prog ann 39 (.code (.exit 2) :: K) s := den_flat hf (l := [(.exit 2)]) (by kernel_rfl) K s
theorem k3_eq (K : List Item) (s : St) : den prog ann 39 (.code k3 :: K) s = den prog ann 39 (.code r9 :: .code i2 :: .inBlock 3 :: K) s := den_blk hf (b := blkOf k3) (l := [r9, i2]) (by kernel_rfl) (by kernel_rfl) K s
theorem r9_eq (K : List Item) (s : St) : den prog ann 39 (.code r9 :: K) s = mreg prog ann 39 none [] none [] [
    ⟨some 39, none, .v fun s => some (s.get 9)⟩,
    ⟨some 40, none, .v fun s => some (s.get 12)⟩,
    ⟨some 41, none, .v fun s => idxSl 1 (s.get 39) (s.get 40)⟩,
    ⟨some 42, none, .v fun s => loadA false 1 s.m (s.get 41)⟩] K s := (den_reg hf _ K s).trans (by kernel_rfl)
theorem i2_eq (K : List Item) (s : St) : den prog ann 39 (.code i2 :: K) s = ifV prog ann 39 42 i2t i2e K s (s.get 42) := den_if hf (by kernel_rfl) K s
theorem i2t_eq (K : List Item) (s : St) : den prog ann 39 (.code i2t :: K) s = den prog ann 39 (.code r10 :: K) s := den_flat hf (l := [r10]) (by kernel_rfl) K s
theorem r10_eq (K : List Item) (s : St) : den prog ann 39 (.code r10 :: K) s = mreg prog ann 39 none [] none [] [
    ⟨some 43, none, .v fun s => some (s.get 10)⟩,
    ⟨some 44, none, .v fun s => some (s.get 12)⟩,
    ⟨some 45, none, .v fun s => bslF 1 (bslA 1 1 [.int .i64 0] [(0, (s.get 44))])⟩,
    ⟨some 46, none, .w false none fun s => appendA 1 8 s.m (s.get 43) (s.get 45)⟩,
    ⟨some 10, none, .v fun s => some (s.get 46)⟩] K s := (den_reg hf _ K s).trans (by kernel_rfl)
theorem i2e_eq (K : List Item) (s : St) : den prog ann 39 (.code i2e :: K) s = den prog ann 39 (K) s := den_flat hf (l := []) (by kernel_rfl) K s
theorem r8_eq (K : List Item) (s : St) : den prog ann 39 (.code r8 :: K) s = mreg prog ann 39 (some [0, 9, 10, 12]) [] none [] [
    ⟨some 37, none, .v fun s => some (s.get 12)⟩,
    ⟨some 38, none, .v fun s => binA prog .add 3 (s.get 37) (.int .i64 1)⟩,
    ⟨some 12, none, .v fun s => some (s.get 38)⟩] K s := (den_reg hf _ K s).trans (by kernel_rfl)
theorem r11_eq (K : List Item) (s : St) : den prog ann 39 (.code r11 :: K) s = mreg prog ann 39 (some [10]) [] none [] [
    ⟨some 47, none, .v fun s => some (s.get 10)⟩,
    ⟨some 8, none, .v fun s => some (s.get 47)⟩] K s := (den_reg hf _ K s).trans (by kernel_rfl)
theorem ret_eq (K : List Item) (s : St) : den prog ann 39 (.code .ret :: K) s = finM true [fun s => some (s.get 8)] s := (den_ret hf K s).trans (by kernel_rfl)
theorem nil_eq (s : St) : den prog ann 39 [] s = finM true [fun s => some (s.get 8)] s := (den_nil hf s).trans (by kernel_rfl)
theorem inBlock_eq (id : Nat) (K : List Item) (s : St) : den prog ann 39 (.inBlock id :: K) s = den prog ann 39 K s := den_inBlock hf id K s
theorem exit_eq (id : Nat) (K : List Item) (s : St) : den prog ann 39 (.code (.exit id) :: K) s = exitV prog ann 39 (exitTo id K) s := den_exitV hf id K s
theorem call_eq (v0 v1 v2 v3 : AV) (m : Mem) (h : closedL [v0, v1, v2, v3] = true) : denC prog ann 39 [v0, v1, v2, v3] m = (den prog ann 39 [.code b] ⟨[(0, v0), (1, v1), (2, v2), (3, v3)], 48, Mem.empty⟩).bind fun r => some (r.1, m) := (denC_pure hf (b := b) (by kernel_rfl) (by kernel_rfl) (by kernel_rfl) h m).trans (by kernel_rfl)
theorem pure_eq : (ann 39).pure = true := by kernel_rfl
attribute [simp] b_eq r0_eq r1_eq r2_eq k0_eq l0_eq r3_eq i0_eq i0t_eq i0e_eq k1_eq r5_eq r4_eq r6_eq k2_eq l2_eq r7_eq i1_eq i1t_eq i1e_eq k3_eq r9_eq i2_eq i2t_eq r10_eq i2e_eq r8_eq r11_eq ret_eq nil_eq inBlock_eq exit_eq pure_eq
end r04_Turned
end Go.Proofs.Ytpghadmpegncgaa

/-
  BODIES OF FUNCTIONS OF THE PROGRAM AS SMALL OPERATIONS (written by gen.py; checked by the kernel against the program). Conditions: none.
-/
namespace Go.Proofs.Ytpghadmpegncgaa
open Go.AM
open Go.Proofs.Try (prog)
set_option maxRecDepth 100000
set_option linter.all false


namespace strap_canon
/-- pommel/strap.canon -/
noncomputable def b : Code := (Try.f63.body).getD .skip
theorem hf : prog.funcs[63]? = some Try.f63 := by kernel_rfl
noncomputable def r0 : Code := findReg b 0
noncomputable def r1 : Code := findReg b 1
noncomputable def r2 : Code := findReg b 2
noncomputable def k0 : Code := findBlk b 0
noncomputable def l0 : Code := loopOf k0
noncomputable def L0 (x0 x1 x5 x12 x13 x14 : AV) (m : Mem) (K : List Item) : Option Res := den prog ann 63 (.code l0 :: .inLoop l0 :: .inBlock 0 :: K) ⟨[(0, x0), (1, x1), (5, x5), (12, x12), (13, x13), (14, x14)], 36, m⟩
noncomputable def r3 : Code := findReg b 3
noncomputable def i0 : Code := findCond b 0
noncomputable def i0t : Code := thenOf i0
noncomputable def i0e : Code := elseOf i0
noncomputable def k1 : Code := findBlk b 1
noncomputable def r4 : Code := findReg b 4
noncomputable def r5 : Code := findReg b 5
noncomputable def k2 : Code := findBlk b 2
noncomputable def l2 : Code := loopOf k2
noncomputable def L2 (x0 x1 x5 x7 x12 x13 x14 x18 x19 : AV) (m : Mem) (K : List Item) : Option Res := den prog ann 63 (.code l2 :: .inLoop l2 :: .inBlock 2 :: K) ⟨[(0, x0), (1, x1), (5, x5), (7, x7), (12, x12), (13, x13), (14, x14), (18, x18), (19, x19)], 36, m⟩
noncomputable def r6 : Code := findReg b 6
noncomputable def i1 : Code := findCond b 1
noncomputable def i1t : Code := thenOf i1
noncomputable def i1e : Code := elseOf i1
noncomputable def k3 : Code := findBlk b 3
noncomputable def r7 : Code := findReg b 7
noncomputable def r8 : Code := findReg b 8
noncomputable def r9 : Code := findReg b 9
noncomputable def i2 : Code := findCond b 2
noncomputable def i2t : Code := thenOf i2
noncomputable def i2e : Code := elseOf i2
noncomputable def r10 : Code := findReg b 10
noncomputable def r11 : Code := findReg b 11
noncomputable def r12 : Code := findReg b 12
noncomputable def r13 : Code := findReg b 13
theorem b_eq (K : List Item) (s : St) : den prog ann 63 (.code b :: K) s = den prog ann 63 (.code r0 :: .code r1 :: .code r2 :: .code k0 :: .code r13 :: .code .ret :: K) s := den_flat hf (l := [r0, r1, r2, k0, r13, .ret]) (by kernel_rfl) K s
theorem r0_eq (K : List Item) (s : St) : den prog ann 63 (.code r0 :: K) s = mreg prog ann 63 none [] none [] [
    ⟨some 4, none, .v fun s => some (.nils)⟩] K s := (den_reg hf _ K s).trans (by kernel_rfl)
theorem r1_eq (K : List Item) (s : St) : den prog ann 63 (.code r1 :: K) s = mreg prog ann 63 none [] none [] [
    ⟨some 10, none, .v fun s => some (s.get 1)⟩,
    ⟨some 5, none, .v fun s => some (s.get 10)⟩] K s := (den_reg hf _ K s).trans (by kernel_rfl)
theorem r2_eq (K : List Item) (s : St) : den prog ann 63 (.code r2 :: K) s = mreg prog ann 63 none [] none [] [
    ⟨some 11, none, .v fun s => some (s.get 0)⟩,
    ⟨some 12, none, .c 0 (fun s => (.fn 60 [] [])) fun s => [(s.get 11)]⟩,
    ⟨some 13, none, .v fun s => lenSl (s.get 12)⟩,
    ⟨some 14, none, .v fun s => some (.int .i64 0)⟩] K s := (den_reg hf _ K s).trans (by kernel_rfl)
theorem k0_eq (K : List Item) (t : List (Nat × AV)) (m : Mem) : den prog ann 63 (.code k0 :: K) ⟨t, 36, m⟩ = L0 (get t 0) (get t 1) (get t 5) (get t 12) (get t 13) (get t 14) m K := den_loop_enter hf (b := l0) (id := 3) (l := [0, 1, 5, 12, 13, 14]) (by kernel_rfl) (by kernel_rfl) (by kernel_rfl) K _
theorem l0_eq (K : List Item) (t : List (Nat × AV)) (m : Mem) : den prog ann 63 (.inLoop l0 :: .inBlock 0 :: K) ⟨t, 36, m⟩ = L0 (get t 0) (get t 1) (get t 5) (get t 12) (get t 13) (get t 14) m K := den_loop_again hf (id := 3) (l := [0, 1, 5, 12, 13, 14]) (by kernel_rfl) (by kernel_rfl) (.inBlock 0 :: K) _
theorem L0_eq (x0 x1 x5 x12 x13 x14 : AV) (m : Mem) (K : List Item) : L0 x0 x1 x5 x12 x13 x14 m K = den prog ann 63 (.code r3 :: .code i0 :: .code k1 :: .code r12 :: .inLoop l0 :: .inBlock 0 :: K) ⟨[(0, x0), (1, x1), (5, x5), (12, x12), (13, x13), (14, x14)], 36, m⟩ := den_flat hf (l := [r3, i0, k1, r12]) (by kernel_rfl) _ _
theorem r3_eq (K : List Item) (s : St) : den prog ann 63 (.code r3 :: K) s = mreg prog ann 63 (some [0, 1, 5, 12, 13, 14]) [] none [] [
    ⟨some 15, none, .v fun s => binA prog .lss 3 (s.get 14) (s.get 13)⟩] K s := (den_reg hf _ K s).trans (by kernel_rfl)
theorem i0_eq (K : List Item) (s : St) : den prog ann 63 (.code i0 :: K) s = ifV prog ann 63 15 i0t i0e K s (s.get 15) := den_if hf (by kernel_rfl) K s
theorem i0t_eq (K : List Item) (s : St) : den prog ann 63 (.code i0t :: K) s = den prog ann 63 (K) s := den_flat hf (l := []) (by kernel_rfl) K s
theorem i0e_eq (K : List Item) (s : St) : den prog ann 63 (.code i0e :: K) s = den prog ann 63 (.code (.exit 0) :: K) s := den_flat hf (l := [(.exit 0)]) (by kernel_rfl) K s
theorem k1_eq (K : List Item) (s : St) : den prog ann 63 (.code k1 :: K) s = den prog ann 63 (.code r4 :: .code r5 :: .code k2 :: .inBlock 1 :: K) s := den_blk hf (b := blkOf k1) (l := [r4, r5, k2]) (by kernel_rfl) (by kernel_rfl) K s
theorem r4_eq (K : List Item) (s : St) : den prog ann 63 (.code r4 :: K) s = mreg prog ann 63 none [] none [] [
    ⟨some 16, none, .v fun s => idxSl 1 (s.get 12) (s.get 14)⟩,
    ⟨some 17, none, .v fun s => loadF false 1 (s.get 16)⟩,
    ⟨some 7, none, .v fun s => some (s.get 17)⟩] K s := (den_reg hf _ K s).trans (by kernel_rfl)
theorem r5_eq (K : List Item) (s : St) : den prog ann 63 (.code r5 :: K) s = mreg prog ann 63 none [] none [] [
    ⟨some 18, none, .v fun s => some (s.get 0)⟩,
    ⟨some 19, none, .v fun s => some (.int .i64 0)⟩] K s := (den_reg hf _ K s).trans (by kernel_rfl)
theorem k2_eq (K : List Item) (t : List (Nat × AV)) (m : Mem) : den prog ann 63 (.code k2 :: K) ⟨t, 36, m⟩ = L2 (get t 0) (get t 1) (get t 5) (get t 7) (get t 12) (get t 13) (get t 14) (get t 18) (get t 19) m K := den_loop_enter hf (b := l2) (id := 6) (l := [0, 1, 5, 7, 12, 13, 14, 18, 19]) (by kernel_rfl) (by kernel_rfl) (by kernel_rfl) K _
theorem l2_eq (K : List Item) (t : List (Nat × AV)) (m : Mem) : den prog ann 63 (.inLoop l2 :: .inBlock 2 :: K) ⟨t, 36, m⟩ = L2 (get t 0) (get t 1) (get t 5) (get t 7) (get t 12) (get t 13) (get t 14) (get t 18) (get t 19) m K := den_loop_again hf (id := 6) (l := [0, 1, 5, 7, 12, 13, 14, 18, 19]) (by kernel_rfl) (by kernel_rfl) (.inBlock 2 :: K) _
theorem L2_eq (x0 x1 x5 x7 x12 x13 x14 x18 x19 : AV) (m : Mem) (K : List Item) : L2 x0 x1 x5 x7 x12 x13 x14 x18 x19 m K = den prog ann 63 (.code r6 :: .code i1 :: .code k3 :: .code r11 :: .inLoop l2 :: .inBlock 2 :: K) ⟨[(0, x0), (1, x1), (5, x5), (7, x7), (12, x12), (13, x13), (14, x14), (18, x18), (19, x19)], 36, m⟩ := den_flat hf (l := [r6, i1, k3, r11]) (by kernel_rfl) _ _
theorem r6_eq (K : List Item) (s : St) : den prog ann 63 (.code r6 :: K) s = mreg prog ann 63 (some [0, 1, 5, 7, 12, 13, 14, 18, 19]) [] none [] [
    ⟨some 20, none, .v fun s => binA prog .lss 3 (s.get 19) (s.get 18)⟩] K s := (den_reg hf _ K s).trans (by kernel_rfl)
theorem i1_eq (K : List Item) (s : St) : den prog ann 63 (.code i1 :: K) s = ifV prog ann 63 20 i1t i1e K s (s.get 20) := den_if hf (by kernel_rfl) K s
theorem i1t_eq (K : List Item) (s : St) : den prog ann 63 (.code i1t :: K) s = den prog ann 63 (K) s := den_flat hf (l := []) (by kernel_rfl) K s
theorem i1e_eq (K : List Item) (s : St) : den prog ann 63 (.code i1e :: K) s = den prog ann 63 (.code (.exit 2) :: K) s := den_flat hf (l := [(.exit 2)]) (by kernel_rfl) K s
theorem k3_eq (K : List Item) (s : St) : den prog ann 63 (.code k3 :: K) s = den prog ann 63 (.code r7 :: .code r8 :: .code r9 :: .code i2 :: .inBlock 3 :: K) s := den_blk hf (b := blkOf k3) (l := [r7, r8, r9, i2]) (by kernel_rfl) (by kernel_rfl) K s
theorem r7_eq (K : List Item) (s : St) : den prog ann 63 (.code r7 :: K) s = mreg prog ann 63 none [] none [] [
    ⟨some 21, none, .v fun s => some (s.get 19)⟩,
    ⟨some 8, none, .v fun s => some (s.get 21)⟩] K s := (den_reg hf _ K s).trans (by kernel_rfl)
theorem r8_eq (K : List Item) (s : St) : den prog ann 63 (.code r8 :: K) s = mreg prog ann 63 none [] none [] [
    ⟨some 22, none, .v fun s => some (s.get 0)⟩,
    ⟨some 23, none, .v fun s => some (s.get 1)⟩,
    ⟨some 24, none, .v fun s => some (s.get 7)⟩,
    ⟨some 25, none, .v fun s => some (s.get 8)⟩,
    ⟨some 26, none, .c 0 (fun s => (.fn 62 [] [])) fun s => [(s.get 22), (s.get 23), (s.get 24), (s.get 25)]⟩,
    ⟨some 9, none, .v fun s => some (s.get 26)⟩] K s := (den_reg hf _ K s).trans (by kernel_rfl)
theorem r9_eq (K : List Item) (s : St) : den prog ann 63 (.code r9 :: K) s = mreg prog ann 63 none [] none [] [
    ⟨some 27, none, .v fun s => some (s.get 9)⟩,
    ⟨some 28, none, .v fun s => some (s.get 5)⟩,
    ⟨some 29, none, .c 0 (fun s => (.fn 70 [] [])) fun s => [(s.get 27), (s.get 28)]⟩,
    ⟨some 30, none, .v fun s => binA prog .lss 3 (s.get 29) (.int .i64 0)⟩] K s := (den_reg hf _ K s).trans (by kernel_rfl)
theorem i2_eq (K : List Item) (s : St) : den prog ann 63 (.code i2 :: K) s = ifV prog ann 63 30 i2t i2e K s (s.get 30) := den_if hf (by kernel_rfl) K s
theorem i2t_eq (K : List Item) (s : St) : den prog ann 63 (.code i2t :: K) s = den prog ann 63 (.code r10 :: K) s := den_flat hf (l := [r10]) (by kernel_rfl) K s
theorem r10_eq (K : List Item) (s : St) : den prog ann 63 (.code r10 :: K) s = mreg prog ann 63 none [] none [] [
    ⟨some 31, none, .v fun s => some (s.get 9)⟩,
    ⟨some 5, none, .v fun s => some (s.get 31)⟩] K s := (den_reg hf _ K s).trans (by kernel_rfl)
theorem i2e_eq (K : List Item) (s : St) : den prog ann 63 (.code i2e :: K) s = den prog ann 63 (K) s := den_flat hf (l := []) (by kernel_rfl) K s
theorem r11_eq (K : List Item) (s : St) : den prog ann 63 (.code r11 :: K) s = mreg prog ann 63 (some [0, 1, 5, 7, 12, 13, 14, 18, 19]) [] none [] [
    ⟨some 32, none, .v fun s => binA prog .add 3 (s.get 19) (.int .i64 1)⟩,
    ⟨some 19, none, .v fun s => some (s.get 32)⟩] K s := (den_reg hf _ K s).trans (by kernel_rfl)
theorem r12_eq (K : List Item) (s : St) : den prog ann 63 (.code r12 :: K) s = mreg prog ann 63 (some [0, 1, 5, 12, 13, 14]) [] none [] [
    ⟨some 33, none, .v fun s => binA prog .add 3 (s.get 14) (.int .i64 1)⟩,
    ⟨some 14, none, .v fun s => some (s.get 33)⟩] K s := (den_reg hf _ K s).trans (by kernel_rfl)
theorem r13_eq (K : List Item) (s : St) : den prog ann 63 (.code r13 :: K) s = mreg prog ann 63 (some [5]) [] none [] [
    ⟨some 34, none, .v fun s => some (s.get 5)⟩,
    ⟨some 35, none, .c 0 (fun s => (.fn 64 [] [])) fun s => [(s.get 34)]⟩,
    ⟨some 4, none, .v fun s => some (s.get 35)⟩] K s := (den_reg hf _ K s).trans (by kernel_rfl)
theorem ret_eq (K : List Item) (s : St) : den prog ann 63 (.code .ret :: K) s = finM true [fun s => some (s.get 4)] s := (den_ret hf K s).trans (by kernel_rfl)
theorem nil_eq (s : St) : den prog ann 63 [] s = finM true [fun s => some (s.get 4)] s := (den_nil hf s).trans (by kernel_rfl)
theorem inBlock_eq (id : Nat) (K : List Item) (s : St) : den prog ann 63 (.inBlock id :: K) s = den prog ann 63 K s := den_inBlock hf id K s
theorem exit_eq (id : Nat) (K : List Item) (s : St) : den prog ann 63 (.code (.exit id) :: K) s = exitV prog ann 63 (exitTo id K) s := den_exitV hf id K s
theorem call_eq (v0 v1 : AV) (m : Mem) (h : closedL [v0, v1] = true) : denC prog ann 63 [v0, v1] m = (den prog ann 63 [.code b] ⟨[(0, v0), (1, v1)], 36, Mem.empty⟩).bind fun r => some (r.1, m) := (denC_pure hf (b := b) (by kernel_rfl) (by kernel_rfl) (by kernel_rfl) h m).trans (by kernel_rfl)
theorem pure_eq : (ann 63).pure = true := by kernel_rfl
attribute [simp] b_eq r0_eq r1_eq r2_eq k0_eq l0_eq r3_eq i0_eq i0t_eq i0e_eq k1_eq r4_eq r5_eq k2_eq l2_eq r6_eq i1_eq i1t_eq i1e_eq k3_eq r7_eq r8_eq r9_eq i2_eq i2t_eq r10_eq i2e_eq r11_eq r12_eq r13_eq ret_eq nil_eq inBlock_eq exit_eq pure_eq
end strap_canon

namespace slices_Compare_int
/-- slices.Compareintint -/
noncomputable def b : Code := (Try.f70.body).getD .skip
theorem hf : prog.funcs[70]? = some Try.f70 := by kernel_rfl
noncomputable def r0 : Code := findReg b 0
noncomputable def r1 : Code := findReg b 1
noncomputable def k0 : Code := findBlk b 0
noncomputable def l0 : Code := loopOf k0
noncomputable def L0 (x0 x1 x9 x10 x11 : AV) (m : Mem) (K : List Item) : Option Res := den prog ann 70 (.code l0 :: .inLoop l0 :: .inBlock 0 :: K) ⟨[(0, x0), (1, x1), (9, x9), (10, x10), (11, x11)], 36, m⟩
noncomputable def r2 : Code := findReg b 2
noncomputable def i0 : Code := findCond b 0
noncomputable def i0t : Code := thenOf i0
noncomputable def i0e : Code := elseOf i0
noncomputable def k1 : Code := findBlk b 1
noncomputable def r3 : Code := findReg b 3
noncomputable def r4 : Code := findReg b 4
noncomputable def i1 : Code := findCond b 1
noncomputable def i1t : Code := thenOf i1
noncomputable def i1e : Code := elseOf i1
noncomputable def r5 : Code := findReg b 5
noncomputable def r6 : Code := findReg b 6
noncomputable def r7 : Code := findReg b 7
noncomputable def r8 : Code := findReg b 8
noncomputable def i2 : Code := findCond b 2
noncomputable def i2t : Code := thenOf i2
noncomputable def i2e : Code := elseOf i2
noncomputable def r9 : Code := findReg b 9
noncomputable def r10 : Code := findReg b 10
noncomputable def r11 : Code := findReg b 11
noncomputable def i3 : Code := findCond b 3
noncomputable def i3t : Code := thenOf i3
noncomputable def i3e : Code := elseOf i3
noncomputable def r12 : Code := findReg b 12
noncomputable def r13 : Code := findReg b 13
theorem b_eq (K : List Item) (s : St) : den prog ann 70 (.code b :: K) s = den prog ann 70 (.code r0 :: .code r1 :: .code k0 :: .code r11 :: .code i3 :: .code r13 :: .code .ret :: K) s := den_flat hf (l := [r0, r1, k0, r11, i3, r13, .ret]) (by kernel_rfl) K s
theorem r0_eq (K : List Item) (s : St) : den prog ann 70 (.code r0 :: K) s = mreg prog ann 70 none [] none [] [
    ⟨some 4, none, .v fun s => some (.int .i64 0)⟩] K s := (den_reg hf _ K s).trans (by kernel_rfl)
theorem r1_eq (K : List Item) (s : St) : den prog ann 70 (.code r1 :: K) s = mreg prog ann 70 none [] none [] [
    ⟨some 9, none, .v fun s => some (s.get 0)⟩,
    ⟨some 10, none, .v fun s => lenSl (s.get 9)⟩,
    ⟨some 11, none, .v fun s => some (.int .i64 0)⟩] K s := (den_reg hf _ K s).trans (by kernel_rfl)
theorem k0_eq (K : List Item) (t : List (Nat × AV)) (m : Mem) : den prog ann 70 (.code k0 :: K) ⟨t, 36, m⟩ = L0 (get t 0) (get t 1) (get t 9) (get t 10) (get t 11) m K := den_loop_enter hf (b := l0) (id := 2) (l := [0, 1, 9, 10, 11]) (by kernel_rfl) (by kernel_rfl) (by kernel_rfl) K _
theorem l0_eq (K : List Item) (t : List (Nat × AV)) (m : Mem) : den prog ann 70 (.inLoop l0 :: .inBlock 0 :: K) ⟨t, 36, m⟩ = L0 (get t 0) (get t 1) (get t 9) (get t 10) (get t 11) m K := den_loop_again hf (id := 2) (l := [0, 1, 9, 10, 11]) (by kernel_rfl) (by kernel_rfl) (.inBlock 0 :: K) _
theorem L0_eq (x0 x1 x9 x10 x11 : AV) (m : Mem) (K : List Item) : L0 x0 x1 x9 x10 x11 m K = den prog ann 70 (.code r2 :: .code i0 :: .code k1 :: .code r10 :: .inLoop l0 :: .inBlock 0 :: K) ⟨[(0, x0), (1, x1), (9, x9), (10, x10), (11, x11)], 36, m⟩ := den_flat hf (l := [r2, i0, k1, r10]) (by kernel_rfl) _ _
theorem r2_eq (K : List Item) (s : St) : den prog ann 70 (.code r2 :: K) s = mreg prog ann 70 (some [0, 1, 9, 10, 11]) [] none [] [
    ⟨some 12, none, .v fun s => binA prog .lss 3 (s.get 11) (s.get 10)⟩] K s := (den_reg hf _ K s).trans (by kernel_rfl)
theorem i0_eq (K : List Item) (s : St) : den prog ann 70 (.code i0 :: K) s = ifV prog ann 70 12 i0t i0e K s (s.get 12) := den_if hf (by kernel_rfl) K s
theorem i0t_eq (K : List Item) (s : St) : den prog ann 70 (.code i0t :: K) s = den prog ann 70 (K) s := den_flat hf (l := []) (by kernel_rfl) K s
theorem i0e_eq (K : List Item) (s : St) : den prog ann 70 (.code i0e :: K) s = den prog ann 70 (.code (.exit 0) :: K) s := den_flat hf (l := [(.exit 0)]) (by kernel_rfl) K s
theorem k1_eq (K : List Item) (s : St) : den prog ann 70 (.code k1 :: K) s = den prog ann 70 (.code r3 :: .code r4 :: .code i1 :: .code r6 :: .code r7 :: .code r8 :: .code i2 :: .inBlock 1 :: K) s := den_blk hf (b := blkOf k1) (l := [r3, r4, i1, r6, r7, r8, i2]) (by kernel_rfl) (by kernel_rfl) K s
theorem r3_eq (K : List Item) (s : St) : den prog ann 70 (.code r3 :: K) s = mreg prog ann 70 none [] none [] [
    ⟨some 13, none, .v fun s => some (s.get 11)⟩,
    ⟨some 14, none, .v fun s => idxSl 1 (s.get 9) (s.get 11)⟩,
    ⟨some 15, none, .v fun s => loadF false 1 (s.get 14)⟩,
    ⟨some 5, none, .v fun s => some (s.get 13)⟩,
    ⟨some 6, none, .v fun s => some (s.get 15)⟩] K s := (den_reg hf _ K s).trans (by kernel_rfl)
theorem r4_eq (K : List Item) (s : St) : den prog ann 70 (.code r4 :: K) s = mreg prog ann 70 none [] none [] [
    ⟨some 16, none, .v fun s => some (s.get 5)⟩,
    ⟨some 17, none, .v fun s => some (s.get 1)⟩,
    ⟨some 18, none, .v fun s => lenSl (s.get 17)⟩,
    ⟨some 19, none, .v fun s => binA prog .geq 3 (s.get 16) (s.get 18)⟩] K s := (den_reg hf _ K s).trans (by kernel_rfl)
theorem i1_eq (K : List Item) (s : St) : den prog ann 70 (.code i1 :: K) s = ifV prog ann 70 19 i1t i1e K s (s.get 19) := den_if hf (by kernel_rfl) K s
theorem i1t_eq (K : List Item) (s : St) : den prog ann 70 (.code i1t :: K) s = den prog ann 70 (.code r5 :: .code .ret :: K) s := den_flat hf (l := [r5, .ret]) (by kernel_rfl) K s
theorem r5_eq (K : List Item) (s : St) : den prog ann 70 (.code r5 :: K) s = mreg prog ann 70 none [] none [] [
    ⟨some 4, none, .v fun s => some (.int .i64 1)⟩] K s := (den_reg hf _ K s).trans (by kernel_rfl)
theorem i1e_eq (K : List Item) (s : St) : den prog ann 70 (.code i1e :: K) s = den prog ann 70 (K) s := den_flat hf (l := []) (by kernel_rfl) K s
theorem r6_eq (K : List Item) (s : St) : den prog ann 70 (.code r6 :: K) s = mreg prog ann 70 none [] none [] [
    ⟨some 20, none, .v fun s => some (s.get 1)⟩,
    ⟨some 21, none, .v fun s => some (s.get 5)⟩,
    ⟨some 22, none, .v fun s => idxSl 1 (s.get 20) (s.get 21)⟩,
    ⟨some 23, none, .v fun s => loadF false 1 (s.get 22)⟩,
    ⟨some 7, none, .v fun s => some (s.get 23)⟩] K s := (den_reg hf _ K s).trans (by kernel_rfl)
theorem r7_eq (K : List Item) (s : St) : den prog ann 70 (.code r7 :: K) s = mreg prog ann 70 none [] none [] [
    ⟨some 24, none, .v fun s => some (s.get 6)⟩,
    ⟨some 25, none, .v fun s => some (s.get 7)⟩,
    ⟨some 26, none, .c 0 (fun s => (.fn 73 [] [])) fun s => [(s.get 24), (s.get 25)]⟩,
    ⟨some 8, none, .v fun s => some (s.get 26)⟩] K s := (den_reg hf _ K s).trans (by kernel_rfl)
theorem r8_eq (K : List Item) (s : St) : den prog ann 70 (.code r8 :: K) s = mreg prog ann 70 none [] none [] [
    ⟨some 27, none, .v fun s => some (s.get 8)⟩,
    ⟨some 28, none, .v fun s => binA prog .neq 3 (s.get 27) (.int .i64 0)⟩] K s := (den_reg hf _ K s).trans (by kernel_rfl)
theorem i2_eq (K : List Item) (s : St) : den prog ann 70 (.code i2 :: K) s = ifV prog ann 70 28 i2t i2e K s (s.get 28) := den_if hf (by kernel_rfl) K s
theorem i2t_eq (K : List Item) (s : St) : den prog ann 70 (.code i2t :: K) s = den prog ann 70 (.code r9 :: .code .ret :: K) s := den_flat hf (l := [r9, .ret]) (by kernel_rfl) K s
theorem r9_eq (K : List Item) (s : St) : den prog ann 70 (.code r9 :: K) s = mreg prog ann 70 none [] none [] [
    ⟨some 29, none, .v fun s => some (s.get 8)⟩,
    ⟨some 4, none, .v fun s => some (s.get 29)⟩] K s := (den_reg hf _ K s).trans (by kernel_rfl)
theorem i2e_eq (K : List Item) (s : St) : den prog ann 70 (.code i2e :: K) s = den prog ann 70 (K) s := den_flat hf (l := []) (by kernel_rfl) K s
theorem r10_eq (K : List Item) (s : St) : den prog ann 70 (.code r10 :: K) s = mreg prog ann 70 (some [0, 1, 9, 10, 11]) [] none [] [
    ⟨some 30, none, .v fun s => binA prog .add 3 (s.get 11) (.int .i64 1)⟩,
    ⟨some 11, none, .v fun s => some (s.get 30)⟩] K s := (den_reg hf _ K s).trans (by kernel_rfl)
theorem r11_eq (K : List Item) (s : St) : den prog ann 70 (.code r11 :: K) s = mreg prog ann 70 (some [0, 1]) [] none [] [
    ⟨some 31, none, .v fun s => some (s.get 0)⟩,
    ⟨some 32, none, .v fun s => lenSl (s.get 31)⟩,
    ⟨some 33, none, .v fun s => some (s.get 1)⟩,
    ⟨some 34, none, .v fun s => lenSl (s.get 33)⟩,
    ⟨some 35, none, .v fun s => binA prog .lss 3 (s.get 32) (s.get 34)⟩] K s := (den_reg hf _ K s).trans (by kernel_rfl)
theorem i3_eq (K : List Item) (s : St) : den prog ann 70 (.code i3 :: K) s = ifV prog ann 70 35 i3t i3e K s (s.get 35) := den_if hf (by kernel_rfl) K s
theorem i3t_eq (K : List Item) (s : St) : den prog ann 70 (.code i3t :: K) s = den prog ann 70 (.code r12 :: .code .ret :: K) s := den_flat hf (l := [r12, .ret]) (by kernel_rfl) K s
theorem r12_eq (K : List Item) (s : St) : den prog ann 70 (.code r12 :: K) s = mreg prog ann 70 none [] none [] [
    ⟨some 4, none, .v fun s => some (.int .i64 (-1))⟩] K s := (den_reg hf _ K s).trans (by kernel_rfl)
theorem i3e_eq (K : List Item) (s : St) : den prog ann 70 (.code i3e :: K) s = den prog ann 70 (K) s := den_flat hf (l := []) (by kernel_rfl) K s
theorem r13_eq (K : List Item) (s : St) : den prog ann 70 (.code r13 :: K) s = mreg prog ann 70 none [] none [] [
    ⟨some 4, none, .v fun s => some (.int .i64 0)⟩] K s := (den_reg hf _ K s).trans (by kernel_rfl)
theorem ret_eq (K : List Item) (s : St) : den prog ann 70 (.code .ret :: K) s = finM true [fun s => some (s.get 4)] s := (den_ret hf K s).trans (by kernel_rfl)
theorem nil_eq (s : St) : den prog ann 70 [] s = finM true [fun s => some (s.get 4)] s := (den_nil hf s).trans (by kernel_rfl)
theorem inBlock_eq (id : Nat) (K : List Item) (s : St) : den prog ann 70 (.inBlock id :: K) s = den prog ann 70 K s := den_inBlock hf id K s
theorem exit_eq (id : Nat) (K : List Item) (s : St) : den prog ann 70 (.code (.exit id) :: K) s = exitV prog ann 70 (exitTo id K) s := den_exitV hf id K s
theorem call_eq (v0 v1 : AV) (m : Mem) (h : closedL [v0, v1] = true) : denC prog ann 70 [v0, v1] m = (den prog ann 70 [.code b] ⟨[(0, v0), (1, v1)], 36, Mem.empty⟩).bind fun r => some (r.1, m) := (denC_pure hf (b := b) (by kernel_rfl) (by kernel_rfl) (by kernel_rfl) h m).trans (by kernel_rfl)
theorem pure_eq : (ann 70).pure = true := by kernel_rfl
attribute [simp] b_eq r0_eq r1_eq k0_eq l0_eq r2_eq i0_eq i0t_eq i0e_eq k1_eq r3_eq r4_eq i1_eq i1t_eq r5_eq i1e_eq r6_eq r7_eq r8_eq i2_eq i2t_eq r9_eq i2e_eq r10_eq r11_eq i3_eq i3t_eq r12_eq i3e_eq r13_eq ret_eq nil_eq inBlock_eq exit_eq pure_eq
end slices_Compare_int

namespace cmp_Compare_int
/-- cmp.Compareint -/
noncomputable def b : Code := (Try.f73.body).getD .skip
theorem hf : prog.funcs[73]? = some Try.f73 := by kernel_rfl
noncomputable def r0 : Code := findReg b 0
noncomputable def r1 : Code := findReg b 1
noncomputable def r2 : Code := findReg b 2
noncomputable def r3 : Code := findReg b 3
noncomputable def i0 : Code := findCond b 0
noncomputable def i0t : Code := thenOf i0
noncomputable def i0e : Code := elseOf i0
noncomputable def r4 : Code := findReg b 4
noncomputable def i1 : Code := findCond b 1
noncomputable def i1t : Code := thenOf i1
noncomputable def i1e : Code := elseOf i1
noncomputable def r5 : Code := findReg b 5
noncomputable def r6 : Code := findReg b 6
noncomputable def r7 : Code := findReg b 7
noncomputable def i2 : Code := findCond b 2
noncomputable def i2t : Code := thenOf i2
noncomputable def i2e : Code := elseOf i2
noncomputable def r8 : Code := findReg b 8
noncomputable def r9 : Code := findReg b 9
noncomputable def i3 : Code := findCond b 3
noncomputable def i3t : Code := thenOf i3
noncomputable def i3e : Code := elseOf i3
noncomputable def r10 : Code := findReg b 10
noncomputable def r11 : Code := findReg b 11
noncomputable def i4 : Code := findCond b 4
noncomputable def i4t : Code := thenOf i4
noncomputable def i4e : Code := elseOf i4
noncomputable def r12 : Code := findReg b 12
noncomputable def r13 : Code := findReg b 13
theorem b_eq (K : List Item) (s : St) : den prog ann 73 (.code b :: K) s = den prog ann 73 (.code r0 :: .code r1 :: .code r2 :: .code r3 :: .code i0 :: .code r7 :: .code i2 :: .code r9 :: .code i3 :: .code r11 :: .code i4 :: .code r13 :: .code .ret :: K) s := den_flat hf (l := [r0, r1, r2, r3, i0, r7, i2, r9, i3, r11, i4, r13, .ret]) (by kernel_rfl) K s
theorem r0_eq (K : List Item) (s : St) : den prog ann 73 (.code r0 :: K) s = mreg prog ann 73 none [] none [] [
    ⟨some 4, none, .v fun s => some (.int .i64 0)⟩] K s := (den_reg hf _ K s).trans (by kernel_rfl)
theorem r1_eq (K : List Item) (s : St) : den prog ann 73 (.code r1 :: K) s = mreg prog ann 73 none [] none [] [
    ⟨some 7, none, .v fun s => some (s.get 0)⟩,
    ⟨some 8, none, .c 0 (fun s => (.fn 85 [] [])) fun s => [(s.get 7)]⟩,
    ⟨some 5, none, .v fun s => some (s.get 8)⟩] K s := (den_reg hf _ K s).trans (by kernel_rfl)
theorem r2_eq (K : List Item) (s : St) : den prog ann 73 (.code r2 :: K) s = mreg prog ann 73 none [] none [] [
    ⟨some 9, none, .v fun s => some (s.get 1)⟩,
    ⟨some 10, none, .c 0 (fun s => (.fn 85 [] [])) fun s => [(s.get 9)]⟩,
    ⟨some 6, none, .v fun s => some (s.get 10)⟩] K s := (den_reg hf _ K s).trans (by kernel_rfl)
theorem r3_eq (K : List Item) (s : St) : den prog ann 73 (.code r3 :: K) s = mreg prog ann 73 none [] none [] [
    ⟨some 11, none, .v fun s => some (s.get 5)⟩] K s := (den_reg hf _ K s).trans (by kernel_rfl)
theorem i0_eq (K : List Item) (s : St) : den prog ann 73 (.code i0 :: K) s = ifV prog ann 73 11 i0t i0e K s (s.get 11) := den_if hf (by kernel_rfl) K s
theorem i0t_eq (K : List Item) (s : St) : den prog ann 73 (.code i0t :: K) s = den prog ann 73 (.code r4 :: .code i1 :: .code r6 :: .code .ret :: K) s := den_flat hf (l := [r4, i1, r6, .ret]) (by kernel_rfl) K s
theorem r4_eq (K : List Item) (s : St) : den prog ann 73 (.code r4 :: K) s = mreg prog ann 73 none [] none [] [
    ⟨some 12, none, .v fun s => some (s.get 6)⟩] K s := (den_reg hf _ K s).trans (by kernel_rfl)
theorem i1_eq (K : List Item) (s : St) : den prog ann 73 (.code i1 :: K) s = ifV prog ann 73 12 i1t i1e K s (s.get 12) := den_if hf (by kernel_rfl) K s
theorem i1t_eq (K : List Item) (s : St) : den prog ann 73 (.code i1t :: K) s = den prog ann 73 (.code r5 :: .code .ret :: K) s := den_flat hf (l := [r5, .ret]) (by kernel_rfl) K s
theorem r5_eq (K : List Item) (s : St) : den prog ann 73 (.code r5 :: K) s = mreg prog ann 73 none [] none [] [
    ⟨some 4, none, .v fun s => some (.int .i64 0)⟩] K s := (den_reg hf _ K s).trans (by kernel_rfl)
theorem i1e_eq (K : List Item) (s : St) : den prog ann 73 (.code i1e :: K) s = den prog ann 73 (K) s := den_flat hf (l := []) (by kernel_rfl) K s
theorem r6_eq (K : List Item) (s : St) : den prog ann 73 (.code r6 :: K) s = mreg prog ann 73 none [] none [] [
    ⟨some 4, none, .v fun s => some (.int .i64 (-1))⟩] K s := (den_reg hf _ K s).trans (by kernel_rfl)
theorem i0e_eq (K : List Item) (s : St) : den prog ann 73 (.code i0e :: K) s = den prog ann 73 (K) s := den_flat hf (l := []) (by kernel_rfl) K s
theorem r7_eq (K : List Item) (s : St) : den prog ann 73 (.code r7 :: K) s = mreg prog ann 73 none [] none [] [
    ⟨some 13, none, .v fun s => some (s.get 6)⟩] K s := (den_reg hf _ K s).trans (by kernel_rfl)
theorem i2_eq (K : List Item) (s : St) : den prog ann 73 (.code i2 :: K) s = ifV prog ann 73 13 i2t i2e K s (s.get 13) := den_if hf (by kernel_rfl) K s
theorem i2t_eq (K : List Item) (s : St) : den prog ann 73 (.code i2t :: K) s = den prog ann 73 (.code r8 :: .code .ret :: K) s := den_flat hf (l := [r8, .ret]) (by kernel_rfl) K s
theorem r8_eq (K : List Item) (s : St) : den prog ann 73 (.code r8 :: K) s = mreg prog ann 73 none [] none [] [
    ⟨some 4, none, .v fun s => some (.int .i64 1)⟩] K s := (den_reg hf _ K s).trans (by kernel_rfl)
theorem i2e_eq (K : List Item) (s : St) : den prog ann 73 (.code i2e :: K) s = den prog ann 73 (K) s := den_flat hf (l := []) (by kernel_rfl) K s
theorem r9_eq (K : List Item) (s : St) : den prog ann 73 (.code r9 :: K) s = mreg prog ann 73 none [] none [] [
    ⟨some 14, none, .v fun s => some (s.get 0)⟩,
    ⟨some 15, none, .v fun s => some (s.get 1)⟩,
    ⟨some 16, none, .v fun s => binA prog .lss 3 (s.get 14) (s.get 15)⟩] K s := (den_reg hf _ K s).trans (by kernel_rfl)
theorem i3_eq (K : List Item) (s : St) : den prog ann 73 (.code i3 :: K) s = ifV prog ann 73 16 i3t i3e K s (s.get 16) := den_if hf (by kernel_rfl) K s
theorem i3t_eq (K : List Item) (s : St) : den prog ann 73 (.code i3t :: K) s = den prog ann 73 (.code r10 :: .code .ret :: K) s := den_flat hf (l := [r10, .ret]) (by kernel_rfl) K s
theorem r10_eq (K : List Item) (s : St) : den prog ann 73 (.code r10 :: K) s = mreg prog ann 73 none [] none [] [
    ⟨some 4, none, .v fun s => some (.int .i64 (-1))⟩] K s := (den_reg hf _ K s).trans (by kernel_rfl)
theorem i3e_eq (K : List Item) (s : St) : den prog ann 73 (.code i3e :: K) s = den prog ann 73 (K) s := den_flat hf (l := []) (by kernel_rfl) K s
theorem r11_eq (K : List Item) (s : St) : den prog ann 73 (.code r11 :: K) s = mreg prog ann 73 none [] none [] [
    ⟨some 17, none, .v fun s => some (s.get 0)⟩,
    ⟨some 18, none, .v fun s => some (s.get 1)⟩,
    ⟨some 19, none, .v fun s => binA prog .gtr 3 (s.get 17) (s.get 18)⟩] K s := (den_reg hf _ K s).trans (by kernel_rfl)
theorem i4_eq (K : List Item) (s : St) : den prog ann 73 (.code i4 :: K) s = ifV prog ann 73 19 i4t i4e K s (s.get 19) := den_if hf (by kernel_rfl) K s
theorem i4t_eq (K : List Item) (s : St) : den prog ann 73 (.code i4t :: K) s = den prog ann 73 (.code r12 :: .code .ret :: K) s := den_flat hf (l := [r12, .ret]) (by kernel_rfl) K s
theorem r12_eq (K : List Item) (s : St) : den prog ann 73 (.code r12 :: K) s = mreg prog ann 73 none [] none [] [
    ⟨some 4, none, .v fun s => some (.int .i64 1)⟩] K s := (den_reg hf _ K s).trans (by kernel_rfl)
theorem i4e_eq (K : List Item) (s : St) : den prog ann 73 (.code i4e :: K) s = den prog ann 73 (K) s := den_flat hf (l := []) (by kernel_rfl) K s
theorem r13_eq (K : List Item) (s : St) : den prog ann 73 (.code r13 :: K) s = mreg prog ann 73 none [] none [] [
    ⟨some 4, none, .v fun s => some (.int .i64 0)⟩] K s := (den_reg hf _ K s).trans (by kernel_rfl)
theorem ret_eq (K : List Item) (s : St) : den prog ann 73 (.code .ret :: K) s = finM true [fun s => some (s.get 4)] s := (den_ret hf K s).trans (by kernel_rfl)
theorem nil_eq (s : St) : den prog ann 73 [] s = finM true [fun s => some (s.get 4)] s := (den_nil hf s).trans (by kernel_rfl)
theorem inBlock_eq (id : Nat) (K : List Item) (s : St) : den prog ann 73 (.inBlock id :: K) s = den prog ann 73 K s := den_inBlock hf id K s
theorem exit_eq (id : Nat) (K : List Item) (s : St) : den prog ann 73 (.code (.exit id) :: K) s = exitV prog ann 73 (exitTo id K) s := den_exitV hf id K s
theorem call_eq (v0 v1 : AV) (m : Mem) (h : closedL [v0, v1] = true) : denC prog ann 73 [v0, v1] m = (den prog ann 73 [.code b] ⟨[(0, v0), (1, v1)], 20, Mem.empty⟩).bind fun r => some (r.1, m) := (denC_pure hf (b := b) (by kernel_rfl) (by kernel_rfl) (by kernel_rfl) h m).trans (by kernel_rfl)
theorem pure_eq : (ann 73).pure = true := by kernel_rfl
attribute [simp] b_eq r0_eq r1_eq r2_eq r3_eq i0_eq i0t_eq r4_eq i1_eq i1t_eq r5_eq i1e_eq r6_eq i0e_eq r7_eq i2_eq i2t_eq r8_eq i2e_eq r9_eq i3_eq i3t_eq r10_eq i3e_eq r11_eq i4_eq i4t_eq r12_eq i4e_eq r13_eq ret_eq nil_eq inBlock_eq exit_eq pure_eq
end cmp_Compare_int

namespace r04_Canon
/-- pommel/pommelref04.Canon -/
noncomputable def b : Code := (Try.f37.body).getD .skip
theorem hf : prog.funcs[37]? = some Try.f37 := by kernel_rfl
noncomputable def r0 : Code := findReg b 0
noncomputable def r1 : Code := findReg b 1
noncomputable def r2 : Code := findReg b 2
noncomputable def k0 : Code := findBlk b 0
noncomputable def l0 : Code := loopOf k0
noncomputable def L0 (x0 x1 x5 x6 : AV) (m : Mem) (K : List Item) : Option Res := den prog ann 37 (.code l0 :: .inLoop l0 :: .inBlock 0 :: K) ⟨[(0, x0), (1, x1), (5, x5), (6, x6)], 38, m⟩
noncomputable def r3 : Code := findReg b 3
noncomputable def i0 : Code := findCond b 0
noncomputable def i0t : Code := thenOf i0
noncomputable def i0e : Code := elseOf i0
noncomputable def k1 : Code := findBlk b 1
noncomputable def r5 : Code := findReg b 5
noncomputable def k2 : Code := findBlk b 2
noncomputable def l2 : Code := loopOf k2
noncomputable def L2 (x0 x1 x5 x6 x7 : AV) (m : Mem) (K : List Item) : Option Res := den prog ann 37 (.code l2 :: .inLoop l2 :: .inBlock 2 :: K) ⟨[(0, x0), (1, x1), (5, x5), (6, x6), (7, x7)], 38, m⟩
noncomputable def r6 : Code := findReg b 6
noncomputable def i1 : Code := findCond b 1
noncomputable def i1t : Code := thenOf i1
noncomputable def i1e : Code := elseOf i1
noncomputable def k3 : Code := findBlk b 3
noncomputable def r8 : Code := findReg b 8
noncomputable def r9 : Code := findReg b 9
noncomputable def i2 : Code := findCond b 2
noncomputable def i2t : Code := thenOf i2
noncomputable def i2e : Code := elseOf i2
noncomputable def r10 : Code := findReg b 10
noncomputable def r7 : Code := findReg b 7
noncomputable def r4 : Code := findReg b 4
noncomputable def r11 : Code := findReg b 11
theorem b_eq (K : List Item) (s : St) : den prog ann 37 (.code b :: K) s = den prog ann 37 (.code r0 :: .code r1 :: .code r2 :: .code k0 :: .code r11 :: .code .ret :: K) s := den_flat hf (l := [r0, r1, r2, k0, r11, .ret]) (by kernel_rfl) K s
theorem r0_eq (K : List Item) (s : St) : den prog ann 37 (.code r0 :: K) s = mreg prog ann 37 none [] none [] [
    ⟨some 4, none, .v fun s => some (.nils)⟩] K s := (den_reg hf _ K s).trans (by kernel_rfl)
theorem r1_eq (K : List Item) (s : St) : den prog ann 37 (.code r1 :: K) s = mreg prog ann 37 none [] none [] [
    ⟨some 9, none, .v fun s => some (s.get 1)⟩,
    ⟨some 5, none, .v fun s => some (s.get 9)⟩] K s := (den_reg hf _ K s).trans (by kernel_rfl)
theorem r2_eq (K : List Item) (s : St) : den prog ann 37 (.code r2 :: K) s = mreg prog ann 37 none [] none [] [
    ⟨some 6, none, .v fun s => some (.int .i64 1)⟩] K s := (den_reg hf _ K s).trans (by kernel_rfl)
theorem k0_eq (K : List Item) (t : List (Nat × AV)) (m : Mem) : den prog ann 37 (.code k0 :: K) ⟨t, 38, m⟩ = L0 (get t 0) (get t 1) (get t 5) (get t 6) m K := den_loop_enter hf (b := l0) (id := 3) (l := [0, 1, 5, 6]) (by kernel_rfl) (by kernel_rfl) (by kernel_rfl) K _
theorem l0_eq (K : List Item) (t : List (Nat × AV)) (m : Mem) : den prog ann 37 (.inLoop l0 :: .inBlock 0 :: K) ⟨t, 38, m⟩ = L0 (get t 0) (get t 1) (get t 5) (get t 6) m K := den_loop_again hf (id := 3) (l := [0, 1, 5, 6]) (by kernel_rfl) (by kernel_rfl) (.inBlock 0 :: K) _
theorem L0_eq (x0 x1 x5 x6 : AV) (m : Mem) (K : List Item) : L0 x0 x1 x5 x6 m K = den prog ann 37 (.code r3 :: .code i0 :: .code k1 :: .code r4 :: .inLoop l0 :: .inBlock 0 :: K) ⟨[(0, x0), (1, x1), (5, x5), (6, x6)], 38, m⟩ := den_flat hf (l := [r3, i0, k1, r4]) (by kernel_rfl) _ _
theorem r3_eq (K : List Item) (s : St) : den prog ann 37 (.code r3 :: K) s = mreg prog ann 37 (some [0, 1, 5, 6]) [] none [] [
    ⟨some 10, none, .v fun s => some (s.get 6)⟩,
    ⟨some 11, none, .v fun s => some (s.get 0)⟩,
    ⟨some 12, none, .v fun s => binA prog .lss 3 (s.get 10) (s.get 11)⟩] K s := (den_reg hf _ K s).trans (by kernel_rfl)
theorem i0_eq (K : List Item) (s : St) : den prog ann 37 (.code i0 :: K) s = ifV prog ann 37 12 i0t i0e K s (s.get 12) := den_if hf (by kernel_rfl) K s
theorem i0t_eq (K : List Item) (s : St) : den prog ann 37 (.code i0t :: K) s = den prog ann 37 (K) s := den_flat hf (l := []) (by kernel_rfl) K s
theorem i0e_eq (K : List Item) (s : St) : den prog ann 37 (.code i0e :: K) s = den prog ann 37 (.code (.exit 0) :: K) s := den_flat hf (l := [(.exit 0)]) (by kernel_rfl) K s
theorem k1_eq (K : List Item) (s : St) : den prog ann 37 (.code k1 :: K) s = den prog ann 37 (.code r5 :: .code k2 :: .inBlock 1 :: K) s := den_blk hf (b := blkOf k1) (l := [r5, k2]) (by kernel_rfl) (by kernel_rfl) K s
theorem r5_eq (K : List Item) (s : St) : den prog ann 37 (.code r5 :: K) s = mreg prog ann 37 none [] none [] [
    ⟨some 7, none, .v fun s => some (.int .i64 0)⟩] K s := (den_reg hf _ K s).trans (by kernel_rfl)
theorem k2_eq (K : List Item) (t : List (Nat × AV)) (m : Mem) : den prog ann 37 (.code k2 :: K) ⟨t, 38, m⟩ = L2 (get t 0) (get t 1) (get t 5) (get t 6) (get t 7) m K := den_loop_enter hf (b := l2) (id := 6) (l := [0, 1, 5, 6, 7]) (by kernel_rfl) (by kernel_rfl) (by kernel_rfl) K _
theorem l2_eq (K : List Item) (t : List (Nat × AV)) (m : Mem) : den prog ann 37 (.inLoop l2 :: .inBlock 2 :: K) ⟨t, 38, m⟩ = L2 (get t 0) (get t 1) (get t 5) (get t 6) (get t 7) m K := den_loop_again hf (id := 6) (l := [0, 1, 5, 6, 7]) (by kernel_rfl) (by kernel_rfl) (.inBlock 2 :: K) _
theorem L2_eq (x0 x1 x5 x6 x7 : AV) (m : Mem) (K : List Item) : L2 x0 x1 x5 x6 x7 m K = den prog ann 37 (.code r6 :: .code i1 :: .code k3 :: .code r7 :: .inLoop l2 :: .inBlock 2 :: K) ⟨[(0, x0), (1, x1), (5, x5), (6, x6), (7, x7)], 38, m⟩ := den_flat hf (l := [r6, i1, k3, r7]) (by kernel_rfl) _ _
theorem r6_eq (K : List Item) (s : St) : den prog ann 37 (.code r6 :: K) s = mreg prog ann 37 (some [0, 1, 5, 6, 7]) [] none [] [
    ⟨some 15, none, .v fun s => some (s.get 7)⟩,
    ⟨some 16, none, .v fun s => some (s.get 0)⟩,
    ⟨some 17, none, .v fun s => binA prog .lss 3 (s.get 15) (s.get 16)⟩,
    ⟨some 18, none, .v fun s => some (s.get 17)⟩,
    ⟨some 19, some (18, true), .v fun s => some (s.get 6)⟩,
    ⟨some 20, some (18, true), .v fun s => some (s.get 0)⟩,
    ⟨some 21, some (18, true), .c 0 (fun s => (.fn 38 [] [])) fun s => [(s.get 19), (s.get 20)]⟩,
    ⟨some 22, some (18, true), .v fun s => binA prog .eql 3 (s.get 21) (.int .i64 1)⟩,
    ⟨some 23, none, .v fun s => pickA (s.get 18) (s.get 22) (.bool false)⟩] K s := (den_reg hf _ K s).trans (by kernel_rfl)
theorem i1_eq (K : List Item) (s : St) : den prog ann 37 (.code i1 :: K) s = ifV prog ann 37 23 i1t i1e K s (s.get 23) := den_if hf (by kernel_rfl) K s
theorem i1t_eq (K : List Item) (s : St) : den prog ann 37 (.code i1t :: K) s = den prog ann 37 (K) s := den_flat hf (l := []) (by kernel_rfl) K s
theorem i1e_eq (K : List Item) (s : St) : den prog ann 37 (.code i1e :: K) s = den prog ann 37 (.code (.exit 2) :: K) s := den_flat hf (l := [(.exit 2)]) (by kernel_rfl) K s
theorem k3_eq (K : List Item) (s : St) : den prog ann 37 (.code k3 :: K) s = den prog ann 37 (.code r8 :: .code r9 :: .code i2 :: .inBlock 3 :: K) s := den_blk hf (b := blkOf k3) (l := [r8, r9, i2]) (by kernel_rfl) (by kernel_rfl) K s
theorem r8_eq (K : List Item) (s : St) : den prog ann 37 (.code r8 :: K) s = mreg prog ann 37 none [] none [] [
    ⟨some 26, none, .v fun s => some (s.get 0)⟩,
    ⟨some 27, none, .v fun s => some (s.get 1)⟩,
    ⟨some 28, none, .v fun s => some (s.get 6)⟩,
    ⟨some 29, none, .v fun s => some (s.get 7)⟩,
    ⟨some 30, none, .c 0 (fun s => (.fn 39 [] [])) fun s => [(s.get 26), (s.get 27), (s.get 28), (s.get 29)]⟩,
    ⟨some 8, none, .v fun s => some (s.get 30)⟩] K s := (den_reg hf _ K s).trans (by kernel_rfl)
theorem r9_eq (K : List Item) (s : St) : den prog ann 37 (.code r9 :: K) s = mreg prog ann 37 none [] none [] [
    ⟨some 31, none, .v fun s => some (s.get 8)⟩,
    ⟨some 32, none, .v fun s => some (s.get 5)⟩,
    ⟨some 33, none, .c 0 (fun s => (.fn 44 [] [])) fun s => [(s.get 31), (s.get 32)]⟩] K s := (den_reg hf _ K s).trans (by kernel_rfl)
theorem i2_eq (K : List Item) (s : St) : den prog ann 37 (.code i2 :: K) s = ifV prog ann 37 33 i2t i2e K s (s.get 33) := den_if hf (by kernel_rfl) K s
theorem i2t_eq (K : List Item) (s : St) : den prog ann 37 (.code i2t :: K) s = den prog ann 37 (.code r10 :: K) s := den_flat hf (l := [r10]) (by kernel_rfl) K s
theorem r10_eq (K : List Item) (s : St) : den prog ann 37 (.code r10 :: K) s = mreg prog ann 37 none [] none [] [
    ⟨some 34, none, .v fun s => some (s.get 8)⟩,
    ⟨some 5, none, .v fun s => some (s.get 34)⟩] K s := (den_reg hf _ K s).trans (by kernel_rfl)
theorem i2e_eq (K : List Item) (s : St) : den prog ann 37 (.code i2e :: K) s = den prog ann 37 (K) s := den_flat hf (l := []) (by kernel_rfl) K s
theorem r7_eq (K : List Item) (s : St) : den prog ann 37 (.code r7 :: K) s = mreg prog ann 37 (some [0, 1, 5, 6, 7]) [] none [] [
    ⟨some 24, none, .v fun s => some (s.get 7)⟩,
    ⟨some 25, none, .v fun s => binA prog .add 3 (s.get 24) (.int .i64 1)⟩,
    ⟨some 7, none, .v fun s => some (s.get 25)⟩] K s := (den_reg hf _ K s).trans (by kernel_rfl)
theorem r4_eq (K : List Item) (s : St) : den prog ann 37 (.code r4 :: K) s = mreg prog ann 37 (some [0, 1, 5, 6]) [] none [] [
    ⟨some 13, none, .v fun s => some (s.get 6)⟩,
    ⟨some 14, none, .v fun s => binA prog .add 3 (s.get 13) (.int .i64 1)⟩,
    ⟨some 6, none, .v fun s => some (s.get 14)⟩] K s := (den_reg hf _ K s).trans (by kernel_rfl)
theorem r11_eq (K : List Item) (s : St) : den prog ann 37 (.code r11 :: K) s = mreg prog ann 37 (some [5]) [] none [] [
    ⟨some 35, none, .v fun s => bslF 0 (bslA 1 0 [.int .i64 0] [])⟩,
    ⟨some 36, none, .v fun s => some (s.get 5)⟩,
    ⟨some 37, none, .v fun s => appV 1 8 (s.get 35) (s.get 36)⟩,
    ⟨some 4, none, .v fun s => some (s.get 37)⟩] K s := (den_reg hf _ K s).trans (by kernel_rfl)
theorem ret_eq (K : List Item) (s : St) : den prog ann 37 (.code .ret :: K) s = finM true [fun s => some (s.get 4)] s := (den_ret hf K s).trans (by kernel_rfl)
theorem nil_eq (s : St) : den prog ann 37 [] s = finM true [fun s => some (s.get 4)] s := (den_nil hf s).trans (by kernel_rfl)
theorem inBlock_eq (id : Nat) (K : List Item) (s : St) : den prog ann 37 (.inBlock id :: K) s = den prog ann 37 K s := den_inBlock hf id K s
theorem exit_eq (id : Nat) (K : List Item) (s : St) : den prog ann 37 (.code (.exit id) :: K) s = exitV prog ann 37 (exitTo id K) s := den_exitV hf id K s
theorem call_eq (v0 v1 : AV) (m : Mem) (h : closedL [v0, v1] = true) : denC prog ann 37 [v0, v1] m = (den prog ann 37 [.code b] ⟨[(0, v0), (1, v1)], 38, Mem.empty⟩).bind fun r => some (r.1, m) := (denC_pure hf (b := b) (by kernel_rfl) (by kernel_rfl) (by kernel_rfl) h m).trans (by kernel_rfl)
theorem pure_eq : (ann 37).pure = true := by kernel_rfl
attribute [simp] b_eq r0_eq r1_eq r2_eq k0_eq l0_eq r3_eq i0_eq i0t_eq i0e_eq k1_eq r5_eq k2_eq l2_eq r6_eq i1_eq i1t_eq i1e_eq k3_eq r8_eq r9_eq i2_eq i2t_eq r10_eq i2e_eq r7_eq r4_eq r11_eq ret_eq nil_eq inBlock_eq exit_eq pure_eq
end r04_Canon

end Go.Proofs.Ytpghadmpegncgaa

/-
  STRAPS (20): a set multiplied and moved, sorted by the library. Conditions: none.
-/
namespace Go.Proofs.Ytpghadmpegncgaa
open Go.AM
open Go.Proofs.Try (prog)
set_option linter.all false
set_option maxRecDepth 100000
set_option maxHeartbeats 4000000

def mvF (v t s x : Int) : Int := (x * t + s).tmod v
def fillF (l : List Int) (f : Int → Int) (k i : Nat) (c : List Int) : List Int := (List.range' i k).foldl (fun c i => c.set i (f (nth l i))) c
theorem fillF_succ (l : List Int) (f : Int → Int) (k i : Nat) (c : List Int) : fillF l f (k + 1) i c = fillF l f k (i + 1) (c.set i (f (nth l i))) := by simp [fillF, List.range'_succ]
theorem fillF_len (l : List Int) (f : Int → Int) : ∀ (k i : Nat) (c : List Int), (fillF l f k i c).length = c.length
  | 0, _, _ => rfl
  | k + 1, i, c => by rw [fillF_succ, fillF_len]; simp
theorem fillF_nth (l : List Int) (f : Int → Int) : ∀ (k i : Nat) (c : List Int) (g : Nat), i + k ≤ c.length → nth (fillF l f k i c) g = if i ≤ g ∧ g < i + k then f (nth l g) else nth c g
  | 0, i, c, g, _ => by rw [if_neg (by omega)]; rfl
  | k + 1, i, c, g, h => by
    rw [fillF_succ, fillF_nth l f k (i + 1) _ g (by simp; omega), nth_set]
    by_cases e : i = g
    · subst e
      rw [if_neg (by omega), if_pos (by omega), if_pos (by omega)]
    · by_cases q : i + 1 ≤ g ∧ g < i + 1 + k
      · rw [if_pos q, if_pos (by omega)]
      · rw [if_neg q, if_neg (fun h => e h.1), if_neg (by omega)]
theorem fillF_all (l : List Int) (f : Int → Int) (c : List Int) (h : c.length = l.length) : fillF l f l.length 0 c = l.map f := by
  refine ext_nth (by rw [fillF_len, List.length_map, h]) fun g => ?_
  rw [fillF_nth l f _ _ _ _ (by omega)]
  by_cases q : g < l.length
  · rw [if_pos (by omega)]
    simp [nth, List.getD, q]
  · rw [if_neg (by omega)]
    simp [nth, List.getD, List.getElem?_eq_none (show c.length ≤ g by omega), List.getElem?_eq_none (show (l.map f).length ≤ g by simp; omega)]
theorem mv_fill {w : AV} {v t s : Int} {l : List Int} (hv : IsInts w l) (hl : l.length ≤ 31) (h0 : 0 < l.length) (hr : ∀ i, i < l.length → 0 ≤ nth l i ∧ nth l i < 31) (hv2 : 1 ≤ v ∧ v ≤ 31) (ht : 0 ≤ t ∧ t ≤ 31) (hs : 0 ≤ s ∧ s ≤ 31) (oid : Nat) : ∀ (k i : Nat) (c : List Int) (m : Mem), i + k = l.length → c.length = l.length → m.h oid = some (.cells (ints c)) →
    strap_moved.L2 (.int .i64 v) (.int .i64 t) (.int .i64 s) (.sl oid 1 0 l.length l.length) w (.int .i64 l.length) (.int .i64 i) m [.code strap_moved.r11, .code strap_moved.r12, .code .ret] = some (.fsl false l.length (ints (sortI (fillF l (mvF v t s) k i c))), Mem.empty) := by
  intro k
  induction k with
  | zero =>
    intro i c m h1 hc hm
    have e : i = l.length := by omega
    subst e
    have so := sort_spec oid c (by omega) (by omega) m hm
    rw [hc] at so
    have hsl := sortI_len c
    have htk : (sortI c).take l.length = sortI c := List.take_of_length_le (by omega)
    rw [strap_moved.L2_eq]
    simp [so, sort_pure, Mem.set, fillF, hsl, hc, htk]
    done
  | succ k ih =>
    intro i c m h1 hc hm
    have hi : i < l.length := by omega
    have hw : IntKind.wrap .i64 ((i : Int) + 1) = (i : Int) + 1 := wrap_id (by omega) (by omega)
    have hx := hr i hi
    have p0 : 0 ≤ nth l i * t := Int.mul_nonneg (by omega) (by omega)
    have p1 : nth l i * t ≤ 31 * 31 := Int.mul_le_mul (by omega) (by omega) (by omega) (by omega)
    have hw1 : IntKind.wrap .i64 (nth l i * t) = nth l i * t := wrap_id (by omega) (by omega)
    have hw2 : IntKind.wrap .i64 (nth l i * t + s) = nth l i * t + s := wrap_id (by omega) (by omega)
    have hv0 : ¬ v = 0 := by omega
    have hst := ih (i + 1) (c.set i (mvF v t s (nth l i))) ⟨upd m.h oid (some (.cells (ints (c.set i (mvF v t s (nth l i)))))), m.nx⟩ (by omega) (by simp [hc]) (by simp)
    simp only [Int.natCast_add, Int.cast_ofNat_Int] at hst
    rw [fillF_succ, ← hst, strap_moved.L2_eq]
    simp [hi, hv.idx hi, ints_head hi, hw1, hw2, hv0, hc, hm, hw, mvF]
    done
def mvL (v t s : Int) (l : List Int) : List Int := sortI (l.map (mvF v t s))
theorem mv_zero {w : AV} {v t s : Int} {l : List Int} (hv : IsInts w l) (hl : l.length ≤ 31) (h0 : 0 < l.length) (hr : ∀ i, i < l.length → 0 ≤ nth l i ∧ nth l i < 31) (hv2 : 1 ≤ v ∧ v ≤ 31) (ht : 0 ≤ t ∧ t ≤ 31) (hs : 0 ≤ s ∧ s ≤ 31) : ∀ (k i oid : Nat) (m : Mem), i + k = l.length → OutI m oid (List.replicate i 0) →
    strap_moved.L0 (.int .i64 v) w (.int .i64 t) (.int .i64 s) (outI oid (List.replicate i 0)) (.int .i64 l.length) (.int .i64 i) m [.code strap_moved.r6, .code strap_moved.k2, .code strap_moved.r11, .code strap_moved.r12, .code .ret] = some (.fsl false l.length (ints (mvL v t s l)), Mem.empty) := by
  intro k
  induction k with
  | zero =>
    intro i oid m h1 ho
    have e : i = l.length := by omega
    subst e
    have hne : List.replicate l.length (0 : Int) ≠ [] := by simp; intro e; rw [e] at h0; simp at h0
    obtain ⟨hm, _⟩ := ho hne
    have lp := mv_fill hv hl h0 hr hv2 ht hs oid l.length 0 (List.replicate l.length 0) m (by omega) (by simp) hm
    simp only [Int.ofNat_zero, Int.cast_ofNat_Int] at lp
    rw [fillF_all l _ _ (by simp)] at lp
    rw [outI, if_neg hne, List.length_replicate, strap_moved.L0_eq]
    simp [hv.len, lp, mvL]
    done
  | succ k ih =>
    intro i oid m h1 ho
    have hi : i < l.length := by omega
    have hw : IntKind.wrap .i64 ((i : Int) + 1) = (i : Int) + 1 := wrap_id (by omega) (by omega)
    obtain ⟨oid', m', g1, g2, _⟩ := outI_appT ho (by simp; omega) 0
    have er : List.replicate i (0 : Int) ++ [0] = List.replicate (i + 1) 0 := by rw [List.replicate_succ']
    rw [er] at g1 g2
    have hst := ih (i + 1) oid' m' (by omega) g2
    simp only [Int.natCast_add, Int.cast_ofNat_Int] at hst
    rw [strap_moved.L0_eq]
    simp [hi, g1, hw, hst]
    done
theorem moved_spec {w : AV} {v t s : Int} {l : List Int} (hv : IsInts w l) (hl : l.length ≤ 31) (h0 : 0 < l.length) (hr : ∀ i, i < l.length → 0 ≤ nth l i ∧ nth l i < 31) (hv2 : 1 ≤ v ∧ v ≤ 31) (ht : 0 ≤ t ∧ t ≤ 31) (hs : 0 ≤ s ∧ s ≤ 31) (m : Mem) :
    denC prog ann 62 [.int .i64 v, w, .int .i64 t, .int .i64 s] m = some (.fsl false l.length (ints (mvL v t s l)), m) := by
  have hcl : closedL [.int .i64 v, w, .int .i64 t, .int .i64 s] = true := by simp [hv.closed]
  have lp := mv_zero hv hl h0 hr hv2 ht hs l.length 0 0 Mem.empty (by omega) (fun h => absurd rfl h)
  rw [show outI 0 (List.replicate 0 0) = .nils from rfl] at lp
  simp only [Int.ofNat_zero, Int.cast_ofNat_Int] at lp
  rw [strap_moved.call_eq _ _ _ _ _ hcl]
  simp [hv.len, lp]
  done
end Go.Proofs.Ytpghadmpegncgaa

/-
  STRAPS (21): common divisors, units, the same list (slices.Equal). Conditions: none.
-/
namespace Go.Proofs.Ytpghadmpegncgaa
open Go.AM
open Go.Proofs.Try (prog)
set_option linter.all false
set_option maxRecDepth 100000
set_option maxHeartbeats 4000000

theorem gcd_step (a b : Nat) : Nat.gcd a (b + 1) = Nat.gcd (b + 1) (a % (b + 1)) := by
  rw [Nat.gcd_comm a, Nat.gcd_rec (b + 1) a, Nat.gcd_comm]
theorem div_loop : ∀ (n a b : Nat) (m : Mem), b ≤ n → strap_divisor.L0 (.int .i64 a) (.int .i64 b) m [.code strap_divisor.r3, .code .ret] = some (.int .i64 (Nat.gcd a b), Mem.empty)
  | n, a, 0, m, _ => by
    rw [strap_divisor.L0_eq]
    simp
    done
  | 0, a, b + 1, m, h => by omega
  | n + 1, a, b + 1, m, h => by
    have hlt := Nat.mod_lt a (show 0 < b + 1 by omega)
    have ih := div_loop n (b + 1) (a % (b + 1)) ⟨m.h, m.nx + 6⟩ (by omega)
    have e : (a : Int).tmod ((b + 1 : Nat) : Int) = ((a % (b + 1) : Nat) : Int) := by rw [Int.tmod_eq_emod_of_nonneg (by omega)]; rfl
    have hb : ¬ ((b + 1 : Nat) : Int) = 0 := by omega
    rw [gcd_step, ← ih]
    generalize ((b + 1 : Nat) : Int) = B at *
    rw [strap_divisor.L0_eq]
    simp [hb, e]
    done
theorem div_spec (a b : Nat) (m : Mem) : denC prog ann 68 [.int .i64 a, .int .i64 b] m = some (.int .i64 (Nat.gcd a b), m) := by
  have lp := div_loop b a b Mem.empty (Nat.le_refl _)
  rw [strap_divisor.call_eq _ _ _ rfl]
  simp [lp]
  done
theorem gcd_loop : ∀ (n a b : Nat) (m : Mem), b ≤ n → r04_Gcd.L0 (.int .i64 a) (.int .i64 b) m [.code r04_Gcd.r3, .code .ret] = some (.int .i64 (Nat.gcd a b), Mem.empty)
  | n, a, 0, m, _ => by
    rw [r04_Gcd.L0_eq]
    simp
    done
  | 0, a, b + 1, m, h => by omega
  | n + 1, a, b + 1, m, h => by
    have hlt := Nat.mod_lt a (show 0 < b + 1 by omega)
    have ih := gcd_loop n (b + 1) (a % (b + 1)) ⟨m.h, m.nx + 6⟩ (by omega)
    have e : (a : Int).tmod ((b + 1 : Nat) : Int) = ((a % (b + 1) : Nat) : Int) := by rw [Int.tmod_eq_emod_of_nonneg (by omega)]; rfl
    have hb : ¬ ((b + 1 : Nat) : Int) = 0 := by omega
    have hb2 : (0 : Int) < ((b + 1 : Nat) : Int) := by omega
    rw [gcd_step, ← ih]
    generalize ((b + 1 : Nat) : Int) = B at *
    rw [r04_Gcd.L0_eq]
    simp [hb, hb2, e]
    done
theorem gcd_spec (a b : Nat) (m : Mem) : denC prog ann 38 [.int .i64 a, .int .i64 b] m = some (.int .i64 (Nat.gcd a b), m) := by
  have lp := gcd_loop b a b Mem.empty (Nat.le_refl _)
  rw [r04_Gcd.call_eq _ _ _ rfl]
  simp [lp]
  done
/-! ### The units -/
def uniF (v k i : Nat) : List Int := ((List.range' i k).filter fun t => decide (Nat.gcd t v = 1)).map fun t : Nat => (t : Int)
theorem uniF_succ (v k i : Nat) : uniF v (k + 1) i = if Nat.gcd i v = 1 then (i : Int) :: uniF v k (i + 1) else uniF v k (i + 1) := by
  simp only [uniF, List.range'_succ, List.filter_cons]
  by_cases h : Nat.gcd i v = 1 <;> simp [h]
theorem uni_loop {v : Nat} (hv : v ≤ 31) : ∀ (k i oid : Nat) (acc : List Int) (m : Mem), i + k = v → OutI m oid acc → acc.length ≤ i →
    strap_units.L0 (.int .i64 v) (outI oid acc) (.int .i64 v) (.int .i64 i) m [.code strap_units.r8, .code .ret] = some (intsV (acc ++ uniF v k i), Mem.empty) := by
  intro k
  induction k with
  | zero =>
    intro i oid acc m h1 ho ha
    have e : i = v := by omega
    subst e
    have hd := outI_deep ho
    rw [strap_units.L0_eq]
    simp [uniF, hd]
    done
  | succ k ih =>
    intro i oid acc m h1 ho ha
    have hi : i < v := by omega
    have hw : IntKind.wrap .i64 ((i : Int) + 1) = (i : Int) + 1 := wrap_id (by omega) (by omega)
    have hd := fun m => div_spec i v m
    by_cases q : Nat.gcd i v = 1
    · rw [q] at hd
      obtain ⟨oid', m', g1, g2, _⟩ := outI_appT ho (by omega) (i : Int)
      have hst := ih (i + 1) oid' (acc ++ [(i : Int)]) m' (by omega) g2 (by simp; omega)
      simp only [Int.natCast_add, Int.cast_ofNat_Int] at hst
      rw [uniF_succ, if_pos q, strap_units.L0_eq]
      simp [hi, hd, g1, hw, hst]
      done
    · have q' : ¬ ((Nat.gcd i v : Nat) : Int) = 1 := by omega
      have hst := ih (i + 1) oid acc m (by omega) ho (by omega)
      simp only [Int.natCast_add, Int.cast_ofNat_Int] at hst
      rw [uniF_succ, if_neg q, strap_units.L0_eq]
      simp [hi, hd, q', q, hw, hst]
      done
def unitsL (v : Nat) : List Int := uniF v v 0
theorem units_spec {v : Nat} (hv : v ≤ 31) (m : Mem) : denC prog ann 60 [.int .i64 v] m = some (intsV (unitsL v), m) := by
  have lp := uni_loop hv v 0 0 [] Mem.empty (by omega) (fun h => absurd rfl h) (Nat.le_refl _)
  rw [show outI 0 [] = .nils from rfl, List.nil_append] at lp
  simp only [Int.ofNat_zero, Int.cast_ofNat_Int] at lp
  rw [strap_units.call_eq _ _ rfl]
  simp [lp, unitsL]
  done
end Go.Proofs.Ytpghadmpegncgaa

/-
  STRAPS (22): the specification's multiplied and moved set. Conditions: none.
-/
namespace Go.Proofs.Ytpghadmpegncgaa
open Go.AM
open Go.Proofs.Try (prog)
set_option linter.all false
set_option maxRecDepth 100000
set_option maxHeartbeats 4000000

def bls (bs : List Bool) : List AV := bs.map fun b => AV.bool b
def bnth (bs : List Bool) (i : Nat) : Bool := bs.getD i false
def turF (bs : List Bool) (k p : Nat) : List Int := ((List.range' p k).filter (bnth bs)).map fun t : Nat => (t : Int)
theorem turF_succ (bs : List Bool) (k p : Nat) : turF bs (k + 1) p = if bnth bs p = true then (p : Int) :: turF bs k (p + 1) else turF bs k (p + 1) := by
  simp only [turF, List.range'_succ, List.filter_cons]
  by_cases h : bnth bs p = true <;> simp [h]
theorem tur_out {v : Nat} (hv : v ≤ 31) {bs : List Bool} (hb : bs.length = v) (i1 i2 : Nat) (hne : i1 ≠ i2) : ∀ (k p : Nat) (acc : List Int) (m : Mem), p + k = v → acc.length ≤ p → m.h i1 = some (.cells (bls bs)) → m.h i2 = some (.cells (ints acc)) →
    r04_Turned.L2 (.int .i64 v) (.sl i1 1 0 v v) (.sl i2 1 0 acc.length acc.length) (.int .i64 p) m [.code r04_Turned.r11, .code .ret] = some (.fsl false (acc ++ turF bs k p).length (ints (acc ++ turF bs k p)), Mem.empty) := by
  intro k
  induction k with
  | zero =>
    intro p acc m h1 ha m1 m2
    have e : p = v := by omega
    subst e
    rw [r04_Turned.L2_eq]
    simp [turF, m2]
    done
  | succ k ih =>
    intro p acc m h1 ha m1 m2
    have hp : p < v := by omega
    have hw : IntKind.wrap .i64 ((p : Int) + 1) = (p : Int) + 1 := wrap_id (by omega) (by omega)
    have hbl : (bls bs).length = v := by simp [bls, hb]
    have hbp : ∀ h, (bls bs)[p]'h = .bool (bnth bs p) := fun h => by
      have hp2 : p < bs.length := by omega
      simp [bls, bnth, hp2]
    rw [turF_succ]
    cases q : bnth bs p with
    | true =>
      rw [q] at hbp
      have hx : ints acc ++ [AV.int .i64 (p : Int)] = ints (acc ++ [(p : Int)]) := by simp [ints]
      have hst := ih (p + 1) (acc ++ [(p : Int)]) ⟨upd m.h i2 (some (.cells (ints (acc ++ [(p : Int)])))), m.nx⟩ (by omega) (by simp; omega) (by show upd m.h i2 _ i1 = _; rw [updNe hne]; exact m1) (by simp)
      simp only [Int.natCast_add, Int.cast_ofNat_Int, List.length_append, List.length_singleton, List.append_assoc, List.singleton_append] at hst
      rw [if_pos rfl, r04_Turned.L2_eq]
      simp [hp, m1, hbl, hbp, m2, hx, Mem.set, hw, show acc.length ≤ 4611686018427387903 by omega, show (acc.length + 1) * 8 ≤ 70368744177664 by omega, hst]
      done
    | false =>
      rw [q] at hbp
      have hst := ih (p + 1) acc m (by omega) (by omega) m1 m2
      simp only [Int.natCast_add, Int.cast_ofNat_Int, List.length_append] at hst
      rw [if_neg (by decide), r04_Turned.L2_eq]
      simp [hp, m1, hbl, hbp, hw, hst]
      done
def turS (l : List Int) (f : Int → Int) (k i : Nat) (bs : List Bool) : List Bool := (List.range' i k).foldl (fun bs i => bs.set (f (nth l i)).toNat true) bs
theorem turS_succ (l : List Int) (f : Int → Int) (k i : Nat) (bs : List Bool) : turS l f (k + 1) i bs = turS l f k (i + 1) (bs.set (f (nth l i)).toNat true) := by simp [turS, List.range'_succ]
theorem bls_set (bs : List Bool) (d : Nat) : (bls bs).set d (.bool true) = bls (bs.set d true) := by simp [bls, List.map_set]
theorem tur_in {w : AV} {v : Nat} {t s : Int} {l : List Int} (hv : IsInts w l) (hl : l.length ≤ 31) (hr : ∀ i, i < l.length → 0 ≤ nth l i ∧ nth l i < 31) (hv2 : 1 ≤ v ∧ v ≤ 31) (ht : 0 ≤ t ∧ t ≤ 31) (hs : 0 ≤ s ∧ s ≤ 31) (i1 i2 : Nat) (hne : i1 ≠ i2) : ∀ (k i : Nat) (bs : List Bool) (m : Mem), i + k = l.length → bs.length = v → m.h i1 = some (.cells (bls bs)) → m.h i2 = some (.cells (ints [])) →
    r04_Turned.L0 (.int .i64 v) w (.int .i64 t) (.int .i64 s) (.sl i1 1 0 v v) (.sl i2 1 0 0 0) (.int .i64 i) m [.code r04_Turned.r6, .code r04_Turned.k2, .code r04_Turned.r11, .code .ret] = some (.fsl false (turF (turS l (mvF v t s) k i bs) v 0).length (ints (turF (turS l (mvF v t s) k i bs) v 0)), Mem.empty) := by
  intro k
  induction k with
  | zero =>
    intro i bs m h1 hb m1 m2
    have e : i = l.length := by omega
    subst e
    have lp := tur_out hv2.2 hb i1 i2 hne v 0 [] m (by omega) (Nat.le_refl _) m1 m2
    simp only [Int.ofNat_zero, Int.cast_ofNat_Int, List.nil_append, List.length_nil] at lp
    rw [r04_Turned.L0_eq]
    simp [hv.len, lp, turS]
    done
  | succ k ih =>
    intro i bs m h1 hb m1 m2
    have hi : i < l.length := by omega
    have hw : IntKind.wrap .i64 ((i : Int) + 1) = (i : Int) + 1 := wrap_id (by omega) (by omega)
    have hx := hr i hi
    have p0 : 0 ≤ nth l i * t := Int.mul_nonneg (by omega) (by omega)
    have p1 : nth l i * t ≤ 31 * 31 := Int.mul_le_mul (by omega) (by omega) (by omega) (by omega)
    have hw1 : IntKind.wrap .i64 (nth l i * t) = nth l i * t := wrap_id (by omega) (by omega)
    have hw2 : IntKind.wrap .i64 (nth l i * t + s) = nth l i * t + s := wrap_id (by omega) (by omega)
    have hv0 : ¬ (v : Int) = 0 := by omega
    have hv0' : ¬ v = 0 := by omega
    have er : (nth l i * t + s).tmod v = (nth l i * t + s) % v := Int.tmod_eq_emod_of_nonneg (by omega)
    have e1 := Int.emod_nonneg (nth l i * t + s) hv0
    have e2 := Int.emod_lt_of_pos (nth l i * t + s) (show (0 : Int) < v by omega)
    obtain ⟨d, hd⟩ : ∃ d : Nat, (nth l i * t + s).tmod v = d := ⟨((nth l i * t + s) % v).toNat, by omega⟩
    have hdv : d < v := by omega
    have hmv : (mvF v t s (nth l i)).toNat = d := by unfold mvF; rw [hd]; rfl
    have hbl : (bls bs).length = v := by simp [bls, hb]
    have hst := ih (i + 1) (bs.set d true) ⟨upd m.h i1 (some (.cells (bls (bs.set d true)))), m.nx⟩ (by omega) (by simp [hb]) (by simp) (by show upd m.h i1 _ i2 = _; rw [updNe (fun h => hne h.symm)]; exact m2)
    simp only [Int.natCast_add, Int.cast_ofNat_Int] at hst
    rw [turS_succ, hmv, ← hst, r04_Turned.L0_eq]
    simp [hi, hv.len, hv.idx hi, ints_head hi, hw1, hw2, hv0, hv0', hd, hdv, m1, hbl, bls_set, Mem.set, hw]
    done
def turL (v : Nat) (t s : Int) (l : List Int) : List Int := turF (turS l (mvF v t s) l.length 0 (List.replicate v false)) v 0
theorem turned_spec {w : AV} {v : Nat} {t s : Int} {l : List Int} (hv : IsInts w l) (hl : l.length ≤ 31) (hr : ∀ i, i < l.length → 0 ≤ nth l i ∧ nth l i < 31) (hv2 : 1 ≤ v ∧ v ≤ 31) (ht : 0 ≤ t ∧ t ≤ 31) (hs : 0 ≤ s ∧ s ≤ 31) (m : Mem) :
    denC prog ann 39 [.int .i64 v, w, .int .i64 t, .int .i64 s] m = some (.fsl false (turL v t s l).length (ints (turL v t s l)), m) := by
  have hcl : closedL [.int .i64 v, w, .int .i64 t, .int .i64 s] = true := by simp [hv.closed]
  have lp := tur_in hv hl hr hv2 ht hs 0 1 (by decide) l.length 0 (List.replicate v false) ⟨upd (upd Mem.empty.h 0 (some (.cells (bls (List.replicate v false))))) 1 (some (.cells (ints []))), 2⟩ (by omega) (by simp) (by simp) (by simp)
  have e : bls (List.replicate v false) = List.replicate v (AV.bool false) := by simp [bls]
  rw [e] at lp
  simp only [Int.ofNat_zero, Int.cast_ofNat_Int] at lp
  simp at lp
  rw [r04_Turned.call_eq _ _ _ _ _ hcl]
  simp [show v ≤ 4611686018427387904 by omega, show v ≤ 70368744177664 by omega, lp, turL]
  done
end Go.Proofs.Ytpghadmpegncgaa

/-
  STRAPS (23): moved by the code and by the specification: the same. Conditions: none.
-/
namespace Go.Proofs.Ytpghadmpegncgaa
open Go.AM
set_option linter.all false
set_option maxRecDepth 10000
set_option maxHeartbeats 2000000

theorem mvF_rng {v : Nat} (hv : 0 < v) {t s x : Int} (h : 0 ≤ x * t + s) : 0 ≤ mvF v t s x ∧ mvF v t s x < v ∧ mvF v t s x = (x * t + s) % v := by
  have e := Int.tmod_eq_emod_of_nonneg (b := (v : Int)) h
  unfold mvF
  rw [e]
  exact ⟨Int.emod_nonneg _ (by omega), Int.emod_lt_of_pos _ (by omega), rfl⟩
theorem dvd_small {v t : Nat} (hg : Nat.gcd t v = 1) {d : Nat} (hd : d < v) (h : (v : Int) ∣ (d : Int) * t) : d = 0 := by
  have h2 : v ∣ d * t := by
    have := Int.natAbs_dvd_natAbs.2 h
    simpa [Int.natAbs_mul] using this
  have hc : Nat.Coprime v t := by rw [Nat.Coprime, Nat.gcd_comm]; exact hg
  exact Nat.eq_zero_of_dvd_of_lt (hc.dvd_of_dvd_mul_right h2) hd
theorem mvF_inj {v t : Nat} (hg : Nat.gcd t v = 1) {s x y : Int} (hs : 0 ≤ s) (hx : 0 ≤ x ∧ x < v) (hy : 0 ≤ y ∧ y < v) (h : mvF v t s x = mvF v t s y) : x = y := by
  have hv : 0 < v := by omega
  have px : 0 ≤ x * (t : Int) := Int.mul_nonneg hx.1 (by omega)
  have py : 0 ≤ y * (t : Int) := Int.mul_nonneg hy.1 (by omega)
  rw [(mvF_rng hv (by omega : 0 ≤ x * (t : Int) + s)).2.2, (mvF_rng hv (by omega : 0 ≤ y * (t : Int) + s)).2.2] at h
  have h2 : (v : Int) ∣ (x - y) * t := by
    have := Int.emod_emod_of_dvd
    have h3 := Int.emod_eq_emod_iff_emod_sub_eq_zero.1 h
    have h4 := Int.dvd_of_emod_eq_zero h3
    rwa [show x * (t : Int) + s - (y * t + s) = (x - y) * t by rw [Int.sub_mul]; omega] at h4
  rcases Int.le_total y x with q | q
  · obtain ⟨d, hd⟩ : ∃ d : Nat, x - y = d := ⟨(x - y).toNat, by omega⟩
    rw [hd] at h2
    have := dvd_small hg (by omega) h2
    omega
  · obtain ⟨d, hd⟩ : ∃ d : Nat, y - x = d := ⟨(y - x).toNat, by omega⟩
    have h3 : (v : Int) ∣ (d : Int) * t := by
      have := Int.dvd_neg.2 h2
      rwa [show -((x - y) * (t : Int)) = (d : Int) * t by rw [← Int.neg_mul, ← hd]; congr 1; omega] at this
    have := dvd_small hg (by omega) h3
    omega
theorem bnth_set {bs : List Bool} {d p : Nat} (hd : d < bs.length) : bnth (bs.set d true) p = (decide (p = d) || bnth bs p) := by
  simp only [bnth, List.getD, List.getElem?_set]
  by_cases e : d = p
  · subst e; simp [hd]
  · have e' : ¬ p = d := fun h => e h.symm
    simp [e, e']
theorem turS_nth {l : List Int} {f : Int → Int} {p : Nat} : ∀ {k i : Nat} {bs : List Bool}, (∀ j, i ≤ j → j < i + k → (f (nth l j)).toNat < bs.length) → (bnth (turS l f k i bs) p = true ↔ bnth bs p = true ∨ ∃ j, i ≤ j ∧ j < i + k ∧ (f (nth l j)).toNat = p)
  | 0, i, bs, _ => by
    constructor
    · exact .inl
    · rintro (h | ⟨j, h1, h2, _⟩)
      · exact h
      · omega
  | k + 1, i, bs, h => by
    rw [turS_succ, turS_nth (fun j h1 h2 => by rw [List.length_set]; exact h j (by omega) (by omega)), bnth_set (h i (by omega) (by omega)), Bool.or_eq_true, decide_eq_true_eq]
    constructor
    · rintro ((h | h) | ⟨j, h1, h2, h3⟩)
      · exact .inr ⟨i, by omega, by omega, h.symm⟩
      · exact .inl h
      · exact .inr ⟨j, by omega, by omega, h3⟩
    · rintro (h | ⟨j, h1, h2, h3⟩)
      · exact .inl (.inr h)
      · by_cases e : j = i
        · subst e; exact .inl (.inl h3.symm)
        · exact .inr ⟨j, by omega, by omega, h3⟩
theorem range_sorted : ∀ (k p : Nat), (List.range' p k).Pairwise (· < ·) := fun k p => List.pairwise_lt_range'
theorem turF_sorted (bs : List Bool) (k p : Nat) : (turF bs k p).Pairwise (· < ·) := by
  unfold turF
  exact ((range_sorted k p).filter _).map _ fun a b h => by show (a : Int) < b; omega
theorem mem_turL {v : Nat} {t s : Int} {l : List Int} (hv : 0 < v) (hp : ∀ i, i < l.length → 0 ≤ nth l i * t + s) (x : Int) : x ∈ turL v t s l ↔ x ∈ l.map (mvF v t s) := by
  have hr : ∀ i, i < l.length → 0 ≤ mvF v t s (nth l i) ∧ mvF v t s (nth l i) < v := fun i hi => ⟨(mvF_rng hv (hp i hi)).1, (mvF_rng hv (hp i hi)).2.1⟩
  have hk : ∀ p, bnth (turS l (mvF v t s) l.length 0 (List.replicate v false)) p = true ↔ ∃ j, j < l.length ∧ (mvF v t s (nth l j)).toNat = p := fun p => by
    rw [turS_nth (fun j _ h2 => by have := hr j (by omega); simp; omega)]
    have z : bnth (List.replicate v false) p = false := by simp only [bnth, List.getD, List.getElem?_replicate]; split <;> rfl
    rw [z]
    constructor
    · rintro (h | ⟨j, _, h2, h3⟩)
      · cases h
      · exact ⟨j, by omega, h3⟩
    · rintro ⟨j, h2, h3⟩
      exact .inr ⟨j, by omega, by omega, h3⟩
  rw [turL, turF, List.mem_map, List.mem_map]
  constructor
  · rintro ⟨p, h1, rfl⟩
    rw [List.mem_filter] at h1
    obtain ⟨j, hj, e⟩ := (hk p).1 h1.2
    have := hr j hj
    exact ⟨nth l j, nth_mem hj, by omega⟩
  · rintro ⟨y, h1, rfl⟩
    obtain ⟨j, hj, e⟩ := List.getElem_of_mem h1
    rw [nth_get hj] at e
    have := hr j hj
    rw [e] at this
    refine ⟨(mvF v t s y).toNat, ?_, by omega⟩
    rw [List.mem_filter]
    refine ⟨by simp [List.mem_range'_1]; omega, (hk _).2 ⟨j, hj, by rw [e]⟩⟩
theorem tur_mv {v : Nat} {t : Nat} {s : Int} {l : List Int} (s' : RingOk v l) (hg : Nat.gcd t v = 1) (hs : 0 ≤ s) : turL v t s l = mvL v t s l := by
  have hv := s'.v2
  have hp : ∀ i, i < l.length → 0 ≤ nth l i * (t : Int) + s := fun i hi => by
    have := Int.mul_nonneg (s'.rng i hi).1 (show (0 : Int) ≤ t by omega)
    omega
  have nd : (l.map (mvF v t s)).Nodup := by
    rw [List.nodup_iff_pairwise_ne, List.pairwise_map, List.pairwise_iff_getElem]
    intro i j hi hj hij h
    rw [nth_get hi, nth_get hj] at h
    have := mvF_inj hg hs (s'.rng i hi) (s'.rng j hj) h
    have := s'.lt hij hj
    omega
  have sl := turF_sorted (turS l (mvF v t s) l.length 0 (List.replicate v false)) v 0
  have pm : (turL v t s l).Perm (l.map (mvF v t s)) := (List.perm_ext_iff_of_nodup (lt_nodup sl) nd).2 fun x => mem_turL (by omega) hp x
  exact sorted_uniq (sl.imp fun h => by omega) (sortI_sorted _) (pm.trans (sortI_perm _).symm)
end Go.Proofs.Ytpghadmpegncgaa

/-
  STRAPS (24): Multipliers, and the specification's. Conditions: none.
-/
namespace Go.Proofs.Ytpghadmpegncgaa
open Go.AM
open Go.Proofs.Try (prog)
set_option linter.all false
set_option maxRecDepth 100000
set_option maxHeartbeats 4000000

def fndF (v : Nat) (t : Int) (l : List Int) (k b : Nat) : Bool := (List.range' b k).any fun b : Nat => decide (mvL v t (b : Int) l = l)
theorem mvL_len (v t s : Int) (l : List Int) : (mvL v t s l).length = l.length := by rw [mvL, sortI_len, List.length_map]
theorem RingOk.rng31 {v : Int} {l : List Int} (s : RingOk v l) : ∀ i, i < l.length → 0 ≤ nth l i ∧ nth l i < 31 := fun i hi => by
  have := s.rng i hi; have := s.v31; omega
def multsL (v : Nat) (l : List Int) : List Int := (unitsL v).filter fun t => fndF v t l v 0
theorem mem_uniF {v k i : Nat} {x : Int} (h : x ∈ uniF v k i) : ∃ t : Nat, x = t ∧ i ≤ t ∧ t < i + k ∧ Nat.gcd t v = 1 := by
  rw [uniF, List.mem_map] at h
  obtain ⟨t, h1, rfl⟩ := h
  rw [List.mem_filter] at h1
  have h2 := h1.1
  simp [List.mem_range'_1] at h2
  exact ⟨t, rfl, h2.1, h2.2, by simpa using h1.2⟩
theorem unitsL_few (v : Nat) : (unitsL v).length ≤ v := by
  have := List.length_filter_le (fun t => decide (Nat.gcd t v = 1)) (List.range' 0 v)
  simp only [unitsL, uniF, List.length_map]; simpa using this
theorem unitsL_rng {v : Nat} (hv : v ≤ 31) : ∀ i, i < (unitsL v).length → 0 ≤ nth (unitsL v) i ∧ nth (unitsL v) i ≤ 31 := fun i hi => by
  obtain ⟨t, e, _, h2, _⟩ := mem_uniF (v := v) (k := v) (i := 0) (x := nth (unitsL v) i) (nth_mem hi)
  rw [e]
  omega
end Go.Proofs.Ytpghadmpegncgaa

/-
  STRAPS (25): the specification's Multipliers. Conditions: none.
-/
namespace Go.Proofs.Ytpghadmpegncgaa
open Go.AM
open Go.Proofs.Try (prog)
set_option linter.all false
set_option maxRecDepth 100000
set_option maxHeartbeats 4000000

def rmL (v : Nat) (l : List Int) (k t : Nat) : List Int := (uniF v k t).filter fun t => fndF v t l v 0
end Go.Proofs.Ytpghadmpegncgaa
