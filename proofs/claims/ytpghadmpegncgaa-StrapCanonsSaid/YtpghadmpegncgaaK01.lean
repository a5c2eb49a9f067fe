/-
  BODIES OF FUNCTIONS OF THE PROGRAM AS SMALL OPERATIONS (written by gen.py; checked by the kernel against the program). Conditions: none.
-/
import Derived.Test.YtpghadmpegncgaaKAmH
import Derived.Test.YtpghadmpegncgaaK00
set_option linter.all false
namespace Go.Proofs.Ytpghadmpegncgaa
open Go.AM
open Go.Proofs.Try (prog)
set_option maxRecDepth 100000
set_option linter.all false

namespace strap_moved
/-- pommel/strap.moved -/
noncomputable def b : Code := (Try.f62.body).getD .skip
theorem hf : prog.funcs[62]? = some Try.f62 := by kernel_rfl
noncomputable def r0 : Code := findReg b 0
noncomputable def r1 : Code := findReg b 1
noncomputable def r2 : Code := findReg b 2
noncomputable def k0 : Code := findBlk b 0
noncomputable def l0 : Code := loopOf k0
noncomputable def L0 (x0 x1 x2 x3 x9 x13 x14 : AV) (m : Mem) (K : List Item) : Option Res := den prog ann 62 (.code l0 :: .inLoop l0 :: .inBlock 0 :: K) ⟨[(0, x0), (1, x1), (2, x2), (3, x3), (9, x9), (13, x13), (14, x14)], 41, m⟩
noncomputable def r3 : Code := findReg b 3
noncomputable def i0 : Code := findCond b 0
noncomputable def i0t : Code := thenOf i0
noncomputable def i0e : Code := elseOf i0
noncomputable def k1 : Code := findBlk b 1
noncomputable def r4 : Code := findReg b 4
noncomputable def r5 : Code := findReg b 5
noncomputable def r6 : Code := findReg b 6
noncomputable def k2 : Code := findBlk b 2
noncomputable def l2 : Code := loopOf k2
noncomputable def L2 (x0 x2 x3 x9 x20 x21 x22 : AV) (m : Mem) (K : List Item) : Option Res := den prog ann 62 (.code l2 :: .inLoop l2 :: .inBlock 2 :: K) ⟨[(0, x0), (2, x2), (3, x3), (9, x9), (20, x20), (21, x21), (22, x22)], 41, m⟩
noncomputable def r7 : Code := findReg b 7
noncomputable def i1 : Code := findCond b 1
noncomputable def i1t : Code := thenOf i1
noncomputable def i1e : Code := elseOf i1
noncomputable def k3 : Code := findBlk b 3
noncomputable def r8 : Code := findReg b 8
noncomputable def r9 : Code := findReg b 9
noncomputable def r10 : Code := findReg b 10
noncomputable def r11 : Code := findReg b 11
noncomputable def r12 : Code := findReg b 12
theorem b_eq (K : List Item) (s : St) : den prog ann 62 (.code b :: K) s = den prog ann 62 (.code r0 :: .code r1 :: .code r2 :: .code k0 :: .code r6 :: .code k2 :: .code r11 :: .code r12 :: .code .ret :: K) s := den_flat hf (l := [r0, r1, r2, k0, r6, k2, r11, r12, .ret]) (by kernel_rfl) K s
theorem r0_eq (K : List Item) (s : St) : den prog ann 62 (.code r0 :: K) s = mreg prog ann 62 none [] none [] [
    ⟨some 8, none, .v fun s => some (.nils)⟩] K s := (den_reg hf _ K s).trans (by kernel_rfl)
theorem r1_eq (K : List Item) (s : St) : den prog ann 62 (.code r1 :: K) s = mreg prog ann 62 none [] none [] [
    ⟨some 9, none, .v fun s => some (.nils)⟩] K s := (den_reg hf _ K s).trans (by kernel_rfl)
theorem r2_eq (K : List Item) (s : St) : den prog ann 62 (.code r2 :: K) s = mreg prog ann 62 none [] none [] [
    ⟨some 12, none, .v fun s => some (s.get 1)⟩,
    ⟨some 13, none, .v fun s => lenSl (s.get 12)⟩,
    ⟨some 14, none, .v fun s => some (.int .i64 0)⟩] K s := (den_reg hf _ K s).trans (by kernel_rfl)
theorem k0_eq (K : List Item) (t : List (Nat × AV)) (m : Mem) : den prog ann 62 (.code k0 :: K) ⟨t, 41, m⟩ = L0 (get t 0) (get t 1) (get t 2) (get t 3) (get t 9) (get t 13) (get t 14) m K := den_loop_enter hf (b := l0) (id := 3) (l := [0, 1, 2, 3, 9, 13, 14]) (by kernel_rfl) (by kernel_rfl) (by kernel_rfl) K _
theorem l0_eq (K : List Item) (t : List (Nat × AV)) (m : Mem) : den prog ann 62 (.inLoop l0 :: .inBlock 0 :: K) ⟨t, 41, m⟩ = L0 (get t 0) (get t 1) (get t 2) (get t 3) (get t 9) (get t 13) (get t 14) m K := den_loop_again hf (id := 3) (l := [0, 1, 2, 3, 9, 13, 14]) (by kernel_rfl) (by kernel_rfl) (.inBlock 0 :: K) _
theorem L0_eq (x0 x1 x2 x3 x9 x13 x14 : AV) (m : Mem) (K : List Item) : L0 x0 x1 x2 x3 x9 x13 x14 m K = den prog ann 62 (.code r3 :: .code i0 :: .code k1 :: .code r5 :: .inLoop l0 :: .inBlock 0 :: K) ⟨[(0, x0), (1, x1), (2, x2), (3, x3), (9, x9), (13, x13), (14, x14)], 41, m⟩ := den_flat hf (l := [r3, i0, k1, r5]) (by kernel_rfl) _ _
theorem r3_eq (K : List Item) (s : St) : den prog ann 62 (.code r3 :: K) s = mreg prog ann 62 (some [0, 1, 2, 3, 9, 13, 14]) [] none [] [
    ⟨some 15, none, .v fun s => binA prog .lss 3 (s.get 14) (s.get 13)⟩] K s := (den_reg hf _ K s).trans (by kernel_rfl)
theorem i0_eq (K : List Item) (s : St) : den prog ann 62 (.code i0 :: K) s = ifV prog ann 62 15 i0t i0e K s (s.get 15) := den_if hf (by kernel_rfl) K s
theorem i0t_eq (K : List Item) (s : St) : den prog ann 62 (.code i0t :: K) s = den prog ann 62 (K) s := den_flat hf (l := []) (by kernel_rfl) K s
theorem i0e_eq (K : List Item) (s : St) : den prog ann 62 (.code i0e :: K) s = den prog ann 62 (.code (.exit 0) :: K) s := den_flat hf (l := [(.exit 0)]) (by kernel_rfl) K s
theorem k1_eq (K : List Item) (s : St) : den prog ann 62 (.code k1 :: K) s = den prog ann 62 (.code r4 :: .inBlock 1 :: K) s := den_blk hf (b := blkOf k1) (l := [r4]) (by kernel_rfl) (by kernel_rfl) K s
theorem r4_eq (K : List Item) (s : St) : den prog ann 62 (.code r4 :: K) s = mreg prog ann 62 none [] none [] [
    ⟨some 16, none, .v fun s => some (s.get 9)⟩,
    ⟨some 17, none, .v fun s => bslF 1 (bslA 1 1 [.int .i64 0] [(0, (.int .i64 0))])⟩,
    ⟨some 18, none, .w false none fun s => appendA 1 8 s.m (s.get 16) (s.get 17)⟩,
    ⟨some 9, none, .v fun s => some (s.get 18)⟩] K s := (den_reg hf _ K s).trans (by kernel_rfl)
theorem r5_eq (K : List Item) (s : St) : den prog ann 62 (.code r5 :: K) s = mreg prog ann 62 (some [0, 1, 2, 3, 9, 13, 14]) [] none [] [
    ⟨some 19, none, .v fun s => binA prog .add 3 (s.get 14) (.int .i64 1)⟩,
    ⟨some 14, none, .v fun s => some (s.get 19)⟩] K s := (den_reg hf _ K s).trans (by kernel_rfl)
theorem r6_eq (K : List Item) (s : St) : den prog ann 62 (.code r6 :: K) s = mreg prog ann 62 (some [0, 1, 2, 3, 9]) [] none [] [
    ⟨some 20, none, .v fun s => some (s.get 1)⟩,
    ⟨some 21, none, .v fun s => lenSl (s.get 20)⟩,
    ⟨some 22, none, .v fun s => some (.int .i64 0)⟩] K s := (den_reg hf _ K s).trans (by kernel_rfl)
theorem k2_eq (K : List Item) (t : List (Nat × AV)) (m : Mem) : den prog ann 62 (.code k2 :: K) ⟨t, 41, m⟩ = L2 (get t 0) (get t 2) (get t 3) (get t 9) (get t 20) (get t 21) (get t 22) m K := den_loop_enter hf (b := l2) (id := 7) (l := [0, 2, 3, 9, 20, 21, 22]) (by kernel_rfl) (by kernel_rfl) (by kernel_rfl) K _
theorem l2_eq (K : List Item) (t : List (Nat × AV)) (m : Mem) : den prog ann 62 (.inLoop l2 :: .inBlock 2 :: K) ⟨t, 41, m⟩ = L2 (get t 0) (get t 2) (get t 3) (get t 9) (get t 20) (get t 21) (get t 22) m K := den_loop_again hf (id := 7) (l := [0, 2, 3, 9, 20, 21, 22]) (by kernel_rfl) (by kernel_rfl) (.inBlock 2 :: K) _
theorem L2_eq (x0 x2 x3 x9 x20 x21 x22 : AV) (m : Mem) (K : List Item) : L2 x0 x2 x3 x9 x20 x21 x22 m K = den prog ann 62 (.code r7 :: .code i1 :: .code k3 :: .code r10 :: .inLoop l2 :: .inBlock 2 :: K) ⟨[(0, x0), (2, x2), (3, x3), (9, x9), (20, x20), (21, x21), (22, x22)], 41, m⟩ := den_flat hf (l := [r7, i1, k3, r10]) (by kernel_rfl) _ _
theorem r7_eq (K : List Item) (s : St) : den prog ann 62 (.code r7 :: K) s = mreg prog ann 62 (some [0, 2, 3, 9, 20, 21, 22]) [] none [] [
    ⟨some 23, none, .v fun s => binA prog .lss 3 (s.get 22) (s.get 21)⟩] K s := (den_reg hf _ K s).trans (by kernel_rfl)
theorem i1_eq (K : List Item) (s : St) : den prog ann 62 (.code i1 :: K) s = ifV prog ann 62 23 i1t i1e K s (s.get 23) := den_if hf (by kernel_rfl) K s
theorem i1t_eq (K : List Item) (s : St) : den prog ann 62 (.code i1t :: K) s = den prog ann 62 (K) s := den_flat hf (l := []) (by kernel_rfl) K s
theorem i1e_eq (K : List Item) (s : St) : den prog ann 62 (.code i1e :: K) s = den prog ann 62 (.code (.exit 2) :: K) s := den_flat hf (l := [(.exit 2)]) (by kernel_rfl) K s
theorem k3_eq (K : List Item) (s : St) : den prog ann 62 (.code k3 :: K) s = den prog ann 62 (.code r8 :: .code r9 :: .inBlock 3 :: K) s := den_blk hf (b := blkOf k3) (l := [r8, r9]) (by kernel_rfl) (by kernel_rfl) K s
theorem r8_eq (K : List Item) (s : St) : den prog ann 62 (.code r8 :: K) s = mreg prog ann 62 none [] none [] [
    ⟨some 24, none, .v fun s => some (s.get 22)⟩,
    ⟨some 25, none, .v fun s => idxSl 1 (s.get 20) (s.get 22)⟩,
    ⟨some 26, none, .v fun s => loadF false 1 (s.get 25)⟩,
    ⟨some 10, none, .v fun s => some (s.get 24)⟩,
    ⟨some 11, none, .v fun s => some (s.get 26)⟩] K s := (den_reg hf _ K s).trans (by kernel_rfl)
theorem r9_eq (K : List Item) (s : St) : den prog ann 62 (.code r9 :: K) s = mreg prog ann 62 none [] none [] [
    ⟨some 27, none, .v fun s => some (s.get 9)⟩,
    ⟨some 28, none, .v fun s => some (s.get 10)⟩,
    ⟨some 29, none, .v fun s => some (s.get 11)⟩,
    ⟨some 30, none, .v fun s => some (s.get 2)⟩,
    ⟨some 31, none, .v fun s => binA prog .mul 3 (s.get 29) (s.get 30)⟩,
    ⟨some 32, none, .v fun s => some (s.get 3)⟩,
    ⟨some 33, none, .v fun s => binA prog .add 3 (s.get 31) (s.get 32)⟩,
    ⟨some 34, none, .v fun s => some (s.get 0)⟩,
    ⟨some 35, none, .v fun s => binA prog .rem 3 (s.get 33) (s.get 34)⟩,
    ⟨some 36, none, .v fun s => idxSl 1 (s.get 27) (s.get 28)⟩,
    ⟨none, none, .w false none fun s => stA false 1 s.m (s.get 36) (s.get 35)⟩] K s := (den_reg hf _ K s).trans (by kernel_rfl)
theorem r10_eq (K : List Item) (s : St) : den prog ann 62 (.code r10 :: K) s = mreg prog ann 62 (some [0, 2, 3, 9, 20, 21, 22]) [] none [] [
    ⟨some 37, none, .v fun s => binA prog .add 3 (s.get 22) (.int .i64 1)⟩,
    ⟨some 22, none, .v fun s => some (s.get 37)⟩] K s := (den_reg hf _ K s).trans (by kernel_rfl)
theorem r11_eq (K : List Item) (s : St) : den prog ann 62 (.code r11 :: K) s = mreg prog ann 62 (some [9]) [] none [] [
    ⟨some 38, none, .v fun s => some (s.get 9)⟩,
    ⟨some 39, none, .c 0 (fun s => (.fn 69 [] [])) fun s => [(s.get 38)]⟩] K s := (den_reg hf _ K s).trans (by kernel_rfl)
theorem r12_eq (K : List Item) (s : St) : den prog ann 62 (.code r12 :: K) s = mreg prog ann 62 none [] none [] [
    ⟨some 40, none, .v fun s => some (s.get 9)⟩,
    ⟨some 8, none, .v fun s => some (s.get 40)⟩] K s := (den_reg hf _ K s).trans (by kernel_rfl)
theorem ret_eq (K : List Item) (s : St) : den prog ann 62 (.code .ret :: K) s = finM true [fun s => some (s.get 8)] s := (den_ret hf K s).trans (by kernel_rfl)
theorem nil_eq (s : St) : den prog ann 62 [] s = finM true [fun s => some (s.get 8)] s := (den_nil hf s).trans (by kernel_rfl)
theorem inBlock_eq (id : Nat) (K : List Item) (s : St) : den prog ann 62 (.inBlock id :: K) s = den prog ann 62 K s := den_inBlock hf id K s
theorem exit_eq (id : Nat) (K : List Item) (s : St) : den prog ann 62 (.code (.exit id) :: K) s = exitV prog ann 62 (exitTo id K) s := den_exitV hf id K s
theorem call_eq (v0 v1 v2 v3 : AV) (m : Mem) (h : closedL [v0, v1, v2, v3] = true) : denC prog ann 62 [v0, v1, v2, v3] m = (den prog ann 62 [.code b] ⟨[(0, v0), (1, v1), (2, v2), (3, v3)], 41, Mem.empty⟩).bind fun r => some (r.1, m) := (denC_pure hf (b := b) (by kernel_rfl) (by kernel_rfl) (by kernel_rfl) h m).trans (by kernel_rfl)
theorem pure_eq : (ann 62).pure = true := by kernel_rfl
attribute [simp] b_eq r0_eq r1_eq r2_eq k0_eq l0_eq r3_eq i0_eq i0t_eq i0e_eq k1_eq r4_eq r5_eq r6_eq k2_eq l2_eq r7_eq i1_eq i1t_eq i1e_eq k3_eq r8_eq r9_eq r10_eq r11_eq r12_eq ret_eq nil_eq inBlock_eq exit_eq pure_eq
end strap_moved

namespace strap_units
/-- pommel/strap.units -/
noncomputable def b : Code := (Try.f60.body).getD .skip
theorem hf : prog.funcs[60]? = some Try.f60 := by kernel_rfl
noncomputable def r0 : Code := findReg b 0
noncomputable def r1 : Code := findReg b 1
noncomputable def r2 : Code := findReg b 2
noncomputable def k0 : Code := findBlk b 0
noncomputable def l0 : Code := loopOf k0
noncomputable def L0 (x0 x3 x5 x6 : AV) (m : Mem) (K : List Item) : Option Res := den prog ann 60 (.code l0 :: .inLoop l0 :: .inBlock 0 :: K) ⟨[(0, x0), (3, x3), (5, x5), (6, x6)], 19, m⟩
noncomputable def r3 : Code := findReg b 3
noncomputable def i0 : Code := findCond b 0
noncomputable def i0t : Code := thenOf i0
noncomputable def i0e : Code := elseOf i0
noncomputable def k1 : Code := findBlk b 1
noncomputable def r4 : Code := findReg b 4
noncomputable def r5 : Code := findReg b 5
noncomputable def i1 : Code := findCond b 1
noncomputable def i1t : Code := thenOf i1
noncomputable def i1e : Code := elseOf i1
noncomputable def r6 : Code := findReg b 6
noncomputable def r7 : Code := findReg b 7
noncomputable def r8 : Code := findReg b 8
theorem b_eq (K : List Item) (s : St) : den prog ann 60 (.code b :: K) s = den prog ann 60 (.code r0 :: .code r1 :: .code r2 :: .code k0 :: .code r8 :: .code .ret :: K) s := den_flat hf (l := [r0, r1, r2, k0, r8, .ret]) (by kernel_rfl) K s
theorem r0_eq (K : List Item) (s : St) : den prog ann 60 (.code r0 :: K) s = mreg prog ann 60 none [] none [] [
    ⟨some 2, none, .v fun s => some (.nils)⟩] K s := (den_reg hf _ K s).trans (by kernel_rfl)
theorem r1_eq (K : List Item) (s : St) : den prog ann 60 (.code r1 :: K) s = mreg prog ann 60 none [] none [] [
    ⟨some 3, none, .v fun s => some (.nils)⟩] K s := (den_reg hf _ K s).trans (by kernel_rfl)
theorem r2_eq (K : List Item) (s : St) : den prog ann 60 (.code r2 :: K) s = mreg prog ann 60 none [] none [] [
    ⟨some 5, none, .v fun s => some (s.get 0)⟩,
    ⟨some 6, none, .v fun s => some (.int .i64 0)⟩] K s := (den_reg hf _ K s).trans (by kernel_rfl)
theorem k0_eq (K : List Item) (t : List (Nat × AV)) (m : Mem) : den prog ann 60 (.code k0 :: K) ⟨t, 19, m⟩ = L0 (get t 0) (get t 3) (get t 5) (get t 6) m K := den_loop_enter hf (b := l0) (id := 3) (l := [0, 3, 5, 6]) (by kernel_rfl) (by kernel_rfl) (by kernel_rfl) K _
theorem l0_eq (K : List Item) (t : List (Nat × AV)) (m : Mem) : den prog ann 60 (.inLoop l0 :: .inBlock 0 :: K) ⟨t, 19, m⟩ = L0 (get t 0) (get t 3) (get t 5) (get t 6) m K := den_loop_again hf (id := 3) (l := [0, 3, 5, 6]) (by kernel_rfl) (by kernel_rfl) (.inBlock 0 :: K) _
theorem L0_eq (x0 x3 x5 x6 : AV) (m : Mem) (K : List Item) : L0 x0 x3 x5 x6 m K = den prog ann 60 (.code r3 :: .code i0 :: .code k1 :: .code r7 :: .inLoop l0 :: .inBlock 0 :: K) ⟨[(0, x0), (3, x3), (5, x5), (6, x6)], 19, m⟩ := den_flat hf (l := [r3, i0, k1, r7]) (by kernel_rfl) _ _
theorem r3_eq (K : List Item) (s : St) : den prog ann 60 (.code r3 :: K) s = mreg prog ann 60 (some [0, 3, 5, 6]) [] none [] [
    ⟨some 7, none, .v fun s => binA prog .lss 3 (s.get 6) (s.get 5)⟩] K s := (den_reg hf _ K s).trans (by kernel_rfl)
theorem i0_eq (K : List Item) (s : St) : den prog ann 60 (.code i0 :: K) s = ifV prog ann 60 7 i0t i0e K s (s.get 7) := den_if hf (by kernel_rfl) K s
theorem i0t_eq (K : List Item) (s : St) : den prog ann 60 (.code i0t :: K) s = den prog ann 60 (K) s := den_flat hf (l := []) (by kernel_rfl) K s
theorem i0e_eq (K : List Item) (s : St) : den prog ann 60 (.code i0e :: K) s = den prog ann 60 (.code (.exit 0) :: K) s := den_flat hf (l := [(.exit 0)]) (by kernel_rfl) K s
theorem k1_eq (K : List Item) (s : St) : den prog ann 60 (.code k1 :: K) s = den prog ann 60 (.code r4 :: .code r5 :: .code i1 :: .inBlock 1 :: K) s := den_blk hf (b := blkOf k1) (l := [r4, r5, i1]) (by kernel_rfl) (by kernel_rfl) K s
theorem r4_eq (K : List Item) (s : St) : den prog ann 60 (.code r4 :: K) s = mreg prog ann 60 none [] none [] [
    ⟨some 8, none, .v fun s => some (s.get 6)⟩,
    ⟨some 4, none, .v fun s => some (s.get 8)⟩] K s := (den_reg hf _ K s).trans (by kernel_rfl)
theorem r5_eq (K : List Item) (s : St) : den prog ann 60 (.code r5 :: K) s = mreg prog ann 60 none [] none [] [
    ⟨some 9, none, .v fun s => some (s.get 4)⟩,
    ⟨some 10, none, .v fun s => some (s.get 0)⟩,
    ⟨some 11, none, .c 0 (fun s => (.fn 68 [] [])) fun s => [(s.get 9), (s.get 10)]⟩,
    ⟨some 12, none, .v fun s => binA prog .eql 3 (s.get 11) (.int .i64 1)⟩] K s := (den_reg hf _ K s).trans (by kernel_rfl)
theorem i1_eq (K : List Item) (s : St) : den prog ann 60 (.code i1 :: K) s = ifV prog ann 60 12 i1t i1e K s (s.get 12) := den_if hf (by kernel_rfl) K s
theorem i1t_eq (K : List Item) (s : St) : den prog ann 60 (.code i1t :: K) s = den prog ann 60 (.code r6 :: K) s := den_flat hf (l := [r6]) (by kernel_rfl) K s
theorem r6_eq (K : List Item) (s : St) : den prog ann 60 (.code r6 :: K) s = mreg prog ann 60 none [] none [] [
    ⟨some 13, none, .v fun s => some (s.get 3)⟩,
    ⟨some 14, none, .v fun s => some (s.get 4)⟩,
    ⟨some 15, none, .v fun s => bslF 1 (bslA 1 1 [.int .i64 0] [(0, (s.get 14))])⟩,
    ⟨some 16, none, .w false none fun s => appendA 1 8 s.m (s.get 13) (s.get 15)⟩,
    ⟨some 3, none, .v fun s => some (s.get 16)⟩] K s := (den_reg hf _ K s).trans (by kernel_rfl)
theorem i1e_eq (K : List Item) (s : St) : den prog ann 60 (.code i1e :: K) s = den prog ann 60 (K) s := den_flat hf (l := []) (by kernel_rfl) K s
theorem r7_eq (K : List Item) (s : St) : den prog ann 60 (.code r7 :: K) s = mreg prog ann 60 (some [0, 3, 5, 6]) [] none [] [
    ⟨some 17, none, .v fun s => binA prog .add 3 (s.get 6) (.int .i64 1)⟩,
    ⟨some 6, none, .v fun s => some (s.get 17)⟩] K s := (den_reg hf _ K s).trans (by kernel_rfl)
theorem r8_eq (K : List Item) (s : St) : den prog ann 60 (.code r8 :: K) s = mreg prog ann 60 (some [3]) [] none [] [
    ⟨some 18, none, .v fun s => some (s.get 3)⟩,
    ⟨some 2, none, .v fun s => some (s.get 18)⟩] K s := (den_reg hf _ K s).trans (by kernel_rfl)
theorem ret_eq (K : List Item) (s : St) : den prog ann 60 (.code .ret :: K) s = finM true [fun s => some (s.get 2)] s := (den_ret hf K s).trans (by kernel_rfl)
theorem nil_eq (s : St) : den prog ann 60 [] s = finM true [fun s => some (s.get 2)] s := (den_nil hf s).trans (by kernel_rfl)
theorem inBlock_eq (id : Nat) (K : List Item) (s : St) : den prog ann 60 (.inBlock id :: K) s = den prog ann 60 K s := den_inBlock hf id K s
theorem exit_eq (id : Nat) (K : List Item) (s : St) : den prog ann 60 (.code (.exit id) :: K) s = exitV prog ann 60 (exitTo id K) s := den_exitV hf id K s
theorem call_eq (v0 : AV) (m : Mem) (h : closedL [v0] = true) : denC prog ann 60 [v0] m = (den prog ann 60 [.code b] ⟨[(0, v0)], 19, Mem.empty⟩).bind fun r => some (r.1, m) := (denC_pure hf (b := b) (by kernel_rfl) (by kernel_rfl) (by kernel_rfl) h m).trans (by kernel_rfl)
theorem pure_eq : (ann 60).pure = true := by kernel_rfl
attribute [simp] b_eq r0_eq r1_eq r2_eq k0_eq l0_eq r3_eq i0_eq i0t_eq i0e_eq k1_eq r4_eq r5_eq i1_eq i1t_eq r6_eq i1e_eq r7_eq r8_eq ret_eq nil_eq inBlock_eq exit_eq pure_eq
end strap_units

namespace strap_divisor
/-- pommel/strap.divisor -/
noncomputable def b : Code := (Try.f68.body).getD .skip
theorem hf : prog.funcs[68]? = some Try.f68 := by kernel_rfl
noncomputable def r0 : Code := findReg b 0
noncomputable def k0 : Code := findBlk b 0
noncomputable def l0 : Code := loopOf k0
noncomputable def L0 (x0 x1 : AV) (m : Mem) (K : List Item) : Option Res := den prog ann 68 (.code l0 :: .inLoop l0 :: .inBlock 0 :: K) ⟨[(0, x0), (1, x1)], 12, m⟩
noncomputable def r1 : Code := findReg b 1
noncomputable def i0 : Code := findCond b 0
noncomputable def i0t : Code := thenOf i0
noncomputable def i0e : Code := elseOf i0
noncomputable def k1 : Code := findBlk b 1
noncomputable def r2 : Code := findReg b 2
noncomputable def r3 : Code := findReg b 3
theorem b_eq (K : List Item) (s : St) : den prog ann 68 (.code b :: K) s = den prog ann 68 (.code r0 :: .code k0 :: .code r3 :: .code .ret :: K) s := den_flat hf (l := [r0, k0, r3, .ret]) (by kernel_rfl) K s
theorem r0_eq (K : List Item) (s : St) : den prog ann 68 (.code r0 :: K) s = mreg prog ann 68 none [] none [] [
    ⟨some 4, none, .v fun s => some (.int .i64 0)⟩] K s := (den_reg hf _ K s).trans (by kernel_rfl)
theorem k0_eq (K : List Item) (t : List (Nat × AV)) (m : Mem) : den prog ann 68 (.code k0 :: K) ⟨t, 12, m⟩ = L0 (get t 0) (get t 1) m K := den_loop_enter hf (b := l0) (id := 1) (l := [0, 1]) (by kernel_rfl) (by kernel_rfl) (by kernel_rfl) K _
theorem l0_eq (K : List Item) (t : List (Nat × AV)) (m : Mem) : den prog ann 68 (.inLoop l0 :: .inBlock 0 :: K) ⟨t, 12, m⟩ = L0 (get t 0) (get t 1) m K := den_loop_again hf (id := 1) (l := [0, 1]) (by kernel_rfl) (by kernel_rfl) (.inBlock 0 :: K) _
theorem L0_eq (x0 x1 : AV) (m : Mem) (K : List Item) : L0 x0 x1 m K = den prog ann 68 (.code r1 :: .code i0 :: .code k1 :: .inLoop l0 :: .inBlock 0 :: K) ⟨[(0, x0), (1, x1)], 12, m⟩ := den_flat hf (l := [r1, i0, k1]) (by kernel_rfl) _ _
theorem r1_eq (K : List Item) (s : St) : den prog ann 68 (.code r1 :: K) s = mreg prog ann 68 (some [0, 1]) [] none [] [
    ⟨some 5, none, .v fun s => some (s.get 1)⟩,
    ⟨some 6, none, .v fun s => binA prog .neq 3 (s.get 5) (.int .i64 0)⟩] K s := (den_reg hf _ K s).trans (by kernel_rfl)
theorem i0_eq (K : List Item) (s : St) : den prog ann 68 (.code i0 :: K) s = ifV prog ann 68 6 i0t i0e K s (s.get 6) := den_if hf (by kernel_rfl) K s
theorem i0t_eq (K : List Item) (s : St) : den prog ann 68 (.code i0t :: K) s = den prog ann 68 (K) s := den_flat hf (l := []) (by kernel_rfl) K s
theorem i0e_eq (K : List Item) (s : St) : den prog ann 68 (.code i0e :: K) s = den prog ann 68 (.code (.exit 0) :: K) s := den_flat hf (l := [(.exit 0)]) (by kernel_rfl) K s
theorem k1_eq (K : List Item) (s : St) : den prog ann 68 (.code k1 :: K) s = den prog ann 68 (.code r2 :: .inBlock 1 :: K) s := den_blk hf (b := blkOf k1) (l := [r2]) (by kernel_rfl) (by kernel_rfl) K s
theorem r2_draw : drawOk (fun g => (ann g).pure) (modeOf (ann 68) (idOf r2)) (frzOf (ann 68) (idOf r2)) (opsOf r2) = true := drawOk_of (an := [0, 0, 0, 6, 3, 31]) (by kernel_rfl) (by kernel_rfl)
theorem r2_eq (K : List Item) (s : St) : den prog ann 68 (.code r2 :: K) s = mreg prog ann 68 none [] (some 6) [] [
    ⟨some 7, none, .v fun s => some (s.get 1)⟩,
    ⟨some 8, none, .v fun s => some (s.get 0)⟩,
    ⟨some 9, none, .v fun s => some (s.get 1)⟩,
    ⟨some 10, none, .v fun s => binA prog .rem 3 (s.get 8) (s.get 9)⟩,
    ⟨some 0, none, .v fun s => some (s.get 7)⟩,
    ⟨some 1, none, .v fun s => some (s.get 10)⟩] K s := (den_regD hf r2_draw K s).trans (by kernel_rfl)
theorem r3_eq (K : List Item) (s : St) : den prog ann 68 (.code r3 :: K) s = mreg prog ann 68 (some [0]) [] none [] [
    ⟨some 11, none, .v fun s => some (s.get 0)⟩,
    ⟨some 4, none, .v fun s => some (s.get 11)⟩] K s := (den_reg hf _ K s).trans (by kernel_rfl)
theorem ret_eq (K : List Item) (s : St) : den prog ann 68 (.code .ret :: K) s = finM true [fun s => some (s.get 4)] s := (den_ret hf K s).trans (by kernel_rfl)
theorem nil_eq (s : St) : den prog ann 68 [] s = finM true [fun s => some (s.get 4)] s := (den_nil hf s).trans (by kernel_rfl)
theorem inBlock_eq (id : Nat) (K : List Item) (s : St) : den prog ann 68 (.inBlock id :: K) s = den prog ann 68 K s := den_inBlock hf id K s
theorem exit_eq (id : Nat) (K : List Item) (s : St) : den prog ann 68 (.code (.exit id) :: K) s = exitV prog ann 68 (exitTo id K) s := den_exitV hf id K s
theorem call_eq (v0 v1 : AV) (m : Mem) (h : closedL [v0, v1] = true) : denC prog ann 68 [v0, v1] m = (den prog ann 68 [.code b] ⟨[(0, v0), (1, v1)], 12, Mem.empty⟩).bind fun r => some (r.1, m) := (denC_pure hf (b := b) (by kernel_rfl) (by kernel_rfl) (by kernel_rfl) h m).trans (by kernel_rfl)
theorem pure_eq : (ann 68).pure = true := by kernel_rfl
attribute [simp] b_eq r0_eq k0_eq l0_eq r1_eq i0_eq i0t_eq i0e_eq k1_eq r2_eq r3_eq ret_eq nil_eq inBlock_eq exit_eq pure_eq
end strap_divisor

namespace slices_Equal_int
/-- slices.Equalintint -/
noncomputable def b : Code := (Try.f61.body).getD .skip
theorem hf : prog.funcs[61]? = some Try.f61 := by kernel_rfl
noncomputable def r0 : Code := findReg b 0
noncomputable def r1 : Code := findReg b 1
noncomputable def i0 : Code := findCond b 0
noncomputable def i0t : Code := thenOf i0
noncomputable def i0e : Code := elseOf i0
noncomputable def r2 : Code := findReg b 2
noncomputable def r3 : Code := findReg b 3
noncomputable def k0 : Code := findBlk b 0
noncomputable def l0 : Code := loopOf k0
noncomputable def L0 (x0 x1 x12 x13 : AV) (m : Mem) (K : List Item) : Option Res := den prog ann 61 (.code l0 :: .inLoop l0 :: .inBlock 0 :: K) ⟨[(0, x0), (1, x1), (12, x12), (13, x13)], 26, m⟩
noncomputable def r4 : Code := findReg b 4
noncomputable def i1 : Code := findCond b 1
noncomputable def i1t : Code := thenOf i1
noncomputable def i1e : Code := elseOf i1
noncomputable def k1 : Code := findBlk b 1
noncomputable def r5 : Code := findReg b 5
noncomputable def r6 : Code := findReg b 6
noncomputable def i2 : Code := findCond b 2
noncomputable def i2t : Code := thenOf i2
noncomputable def i2e : Code := elseOf i2
noncomputable def r7 : Code := findReg b 7
noncomputable def r8 : Code := findReg b 8
noncomputable def r9 : Code := findReg b 9
theorem b_eq (K : List Item) (s : St) : den prog ann 61 (.code b :: K) s = den prog ann 61 (.code r0 :: .code r1 :: .code i0 :: .code r3 :: .code k0 :: .code r9 :: .code .ret :: K) s := den_flat hf (l := [r0, r1, i0, r3, k0, r9, .ret]) (by kernel_rfl) K s
theorem r0_eq (K : List Item) (s : St) : den prog ann 61 (.code r0 :: K) s = mreg prog ann 61 none [] none [] [
    ⟨some 4, none, .v fun s => some (.bool false)⟩] K s := (den_reg hf _ K s).trans (by kernel_rfl)
theorem r1_eq (K : List Item) (s : St) : den prog ann 61 (.code r1 :: K) s = mreg prog ann 61 none [] none [] [
    ⟨some 6, none, .v fun s => some (s.get 0)⟩,
    ⟨some 7, none, .v fun s => lenSl (s.get 6)⟩,
    ⟨some 8, none, .v fun s => some (s.get 1)⟩,
    ⟨some 9, none, .v fun s => lenSl (s.get 8)⟩,
    ⟨some 10, none, .v fun s => binA prog .neq 3 (s.get 7) (s.get 9)⟩] K s := (den_reg hf _ K s).trans (by kernel_rfl)
theorem i0_eq (K : List Item) (s : St) : den prog ann 61 (.code i0 :: K) s = ifV prog ann 61 10 i0t i0e K s (s.get 10) := den_if hf (by kernel_rfl) K s
theorem i0t_eq (K : List Item) (s : St) : den prog ann 61 (.code i0t :: K) s = den prog ann 61 (.code r2 :: .code .ret :: K) s := den_flat hf (l := [r2, .ret]) (by kernel_rfl) K s
theorem r2_eq (K : List Item) (s : St) : den prog ann 61 (.code r2 :: K) s = mreg prog ann 61 none [] none [] [
    ⟨some 4, none, .v fun s => some (.bool false)⟩] K s := (den_reg hf _ K s).trans (by kernel_rfl)
theorem i0e_eq (K : List Item) (s : St) : den prog ann 61 (.code i0e :: K) s = den prog ann 61 (K) s := den_flat hf (l := []) (by kernel_rfl) K s
theorem r3_eq (K : List Item) (s : St) : den prog ann 61 (.code r3 :: K) s = mreg prog ann 61 none [] none [] [
    ⟨some 11, none, .v fun s => some (s.get 0)⟩,
    ⟨some 12, none, .v fun s => lenSl (s.get 11)⟩,
    ⟨some 13, none, .v fun s => some (.int .i64 0)⟩] K s := (den_reg hf _ K s).trans (by kernel_rfl)
theorem k0_eq (K : List Item) (t : List (Nat × AV)) (m : Mem) : den prog ann 61 (.code k0 :: K) ⟨t, 26, m⟩ = L0 (get t 0) (get t 1) (get t 12) (get t 13) m K := den_loop_enter hf (b := l0) (id := 4) (l := [0, 1, 12, 13]) (by kernel_rfl) (by kernel_rfl) (by kernel_rfl) K _
theorem l0_eq (K : List Item) (t : List (Nat × AV)) (m : Mem) : den prog ann 61 (.inLoop l0 :: .inBlock 0 :: K) ⟨t, 26, m⟩ = L0 (get t 0) (get t 1) (get t 12) (get t 13) m K := den_loop_again hf (id := 4) (l := [0, 1, 12, 13]) (by kernel_rfl) (by kernel_rfl) (.inBlock 0 :: K) _
theorem L0_eq (x0 x1 x12 x13 : AV) (m : Mem) (K : List Item) : L0 x0 x1 x12 x13 m K = den prog ann 61 (.code r4 :: .code i1 :: .code k1 :: .code r8 :: .inLoop l0 :: .inBlock 0 :: K) ⟨[(0, x0), (1, x1), (12, x12), (13, x13)], 26, m⟩ := den_flat hf (l := [r4, i1, k1, r8]) (by kernel_rfl) _ _
theorem r4_eq (K : List Item) (s : St) : den prog ann 61 (.code r4 :: K) s = mreg prog ann 61 (some [0, 1, 12, 13]) [] none [] [
    ⟨some 14, none, .v fun s => binA prog .lss 3 (s.get 13) (s.get 12)⟩] K s := (den_reg hf _ K s).trans (by kernel_rfl)
theorem i1_eq (K : List Item) (s : St) : den prog ann 61 (.code i1 :: K) s = ifV prog ann 61 14 i1t i1e K s (s.get 14) := den_if hf (by kernel_rfl) K s
theorem i1t_eq (K : List Item) (s : St) : den prog ann 61 (.code i1t :: K) s = den prog ann 61 (K) s := den_flat hf (l := []) (by kernel_rfl) K s
theorem i1e_eq (K : List Item) (s : St) : den prog ann 61 (.code i1e :: K) s = den prog ann 61 (.code (.exit 0) :: K) s := den_flat hf (l := [(.exit 0)]) (by kernel_rfl) K s
theorem k1_eq (K : List Item) (s : St) : den prog ann 61 (.code k1 :: K) s = den prog ann 61 (.code r5 :: .code r6 :: .code i2 :: .inBlock 1 :: K) s := den_blk hf (b := blkOf k1) (l := [r5, r6, i2]) (by kernel_rfl) (by kernel_rfl) K s
theorem r5_eq (K : List Item) (s : St) : den prog ann 61 (.code r5 :: K) s = mreg prog ann 61 none [] none [] [
    ⟨some 15, none, .v fun s => some (s.get 13)⟩,
    ⟨some 5, none, .v fun s => some (s.get 15)⟩] K s := (den_reg hf _ K s).trans (by kernel_rfl)
theorem r6_draw : drawOk (fun g => (ann g).pure) (modeOf (ann 61) (idOf r6)) (frzOf (ann 61) (idOf r6)) (opsOf r6) = true := drawOk_of (an := [0, 0, 3, 7, 0, 0, 48, 112, 255]) (by kernel_rfl) (by kernel_rfl)
theorem r6_eq (K : List Item) (s : St) : den prog ann 61 (.code r6 :: K) s = mreg prog ann 61 none [] (some 9) [] [
    ⟨some 16, none, .v fun s => some (s.get 0)⟩,
    ⟨some 17, none, .v fun s => some (s.get 5)⟩,
    ⟨some 18, none, .v fun s => idxSl 1 (s.get 16) (s.get 17)⟩,
    ⟨some 19, none, .v fun s => loadF false 1 (s.get 18)⟩,
    ⟨some 20, none, .v fun s => some (s.get 1)⟩,
    ⟨some 21, none, .v fun s => some (s.get 5)⟩,
    ⟨some 22, none, .v fun s => idxSl 1 (s.get 20) (s.get 21)⟩,
    ⟨some 23, none, .v fun s => loadF false 1 (s.get 22)⟩,
    ⟨some 24, none, .v fun s => binA prog .neq 3 (s.get 19) (s.get 23)⟩] K s := (den_regD hf r6_draw K s).trans (by kernel_rfl)
theorem i2_eq (K : List Item) (s : St) : den prog ann 61 (.code i2 :: K) s = ifV prog ann 61 24 i2t i2e K s (s.get 24) := den_if hf (by kernel_rfl) K s
theorem i2t_eq (K : List Item) (s : St) : den prog ann 61 (.code i2t :: K) s = den prog ann 61 (.code r7 :: .code .ret :: K) s := den_flat hf (l := [r7, .ret]) (by kernel_rfl) K s
theorem r7_eq (K : List Item) (s : St) : den prog ann 61 (.code r7 :: K) s = mreg prog ann 61 none [] none [] [
    ⟨some 4, none, .v fun s => some (.bool false)⟩] K s := (den_reg hf _ K s).trans (by kernel_rfl)
theorem i2e_eq (K : List Item) (s : St) : den prog ann 61 (.code i2e :: K) s = den prog ann 61 (K) s := den_flat hf (l := []) (by kernel_rfl) K s
theorem r8_eq (K : List Item) (s : St) : den prog ann 61 (.code r8 :: K) s = mreg prog ann 61 (some [0, 1, 12, 13]) [] none [] [
    ⟨some 25, none, .v fun s => binA prog .add 3 (s.get 13) (.int .i64 1)⟩,
    ⟨some 13, none, .v fun s => some (s.get 25)⟩] K s := (den_reg hf _ K s).trans (by kernel_rfl)
theorem r9_eq (K : List Item) (s : St) : den prog ann 61 (.code r9 :: K) s = mreg prog ann 61 (some []) [] none [] [
    ⟨some 4, none, .v fun s => some (.bool true)⟩] K s := (den_reg hf _ K s).trans (by kernel_rfl)
theorem ret_eq (K : List Item) (s : St) : den prog ann 61 (.code .ret :: K) s = finM true [fun s => some (s.get 4)] s := (den_ret hf K s).trans (by kernel_rfl)
theorem nil_eq (s : St) : den prog ann 61 [] s = finM true [fun s => some (s.get 4)] s := (den_nil hf s).trans (by kernel_rfl)
theorem inBlock_eq (id : Nat) (K : List Item) (s : St) : den prog ann 61 (.inBlock id :: K) s = den prog ann 61 K s := den_inBlock hf id K s
theorem exit_eq (id : Nat) (K : List Item) (s : St) : den prog ann 61 (.code (.exit id) :: K) s = exitV prog ann 61 (exitTo id K) s := den_exitV hf id K s
theorem call_eq (v0 v1 : AV) (m : Mem) (h : closedL [v0, v1] = true) : denC prog ann 61 [v0, v1] m = (den prog ann 61 [.code b] ⟨[(0, v0), (1, v1)], 26, Mem.empty⟩).bind fun r => some (r.1, m) := (denC_pure hf (b := b) (by kernel_rfl) (by kernel_rfl) (by kernel_rfl) h m).trans (by kernel_rfl)
theorem pure_eq : (ann 61).pure = true := by kernel_rfl
attribute [simp] b_eq r0_eq r1_eq i0_eq i0t_eq r2_eq i0e_eq r3_eq k0_eq l0_eq r4_eq i1_eq i1t_eq i1e_eq k1_eq r5_eq r6_eq i2_eq i2t_eq r7_eq i2e_eq r8_eq r9_eq ret_eq nil_eq inBlock_eq exit_eq pure_eq
end slices_Equal_int

namespace strap_Multipliers
/-- pommel/strap.Multipliers -/
noncomputable def b : Code := (Try.f34.body).getD .skip
theorem hf : prog.funcs[34]? = some Try.f34 := by kernel_rfl
noncomputable def r0 : Code := findReg b 0
noncomputable def r1 : Code := findReg b 1
noncomputable def r2 : Code := findReg b 2
noncomputable def i0 : Code := findCond b 0
noncomputable def i0t : Code := thenOf i0
noncomputable def i0e : Code := elseOf i0
noncomputable def r3 : Code := findReg b 3
noncomputable def r4 : Code := findReg b 4
noncomputable def r5 : Code := findReg b 5
noncomputable def k0 : Code := findBlk b 0
noncomputable def l0 : Code := loopOf k0
noncomputable def L0 (x0 x1 x7 x18 x19 x20 : AV) (m : Mem) (K : List Item) : Option Res := den prog ann 34 (.code l0 :: .inLoop l0 :: .inBlock 0 :: K) ⟨[(0, x0), (1, x1), (7, x7), (18, x18), (19, x19), (20, x20)], 42, m⟩
noncomputable def r6 : Code := findReg b 6
noncomputable def i1 : Code := findCond b 1
noncomputable def i1t : Code := thenOf i1
noncomputable def i1e : Code := elseOf i1
noncomputable def k1 : Code := findBlk b 1
noncomputable def r7 : Code := findReg b 7
noncomputable def r8 : Code := findReg b 8
noncomputable def k2 : Code := findBlk b 2
noncomputable def l2 : Code := loopOf k2
noncomputable def L2 (x0 x1 x7 x9 x18 x19 x20 x24 x25 : AV) (m : Mem) (K : List Item) : Option Res := den prog ann 34 (.code l2 :: .inLoop l2 :: .inBlock 2 :: K) ⟨[(0, x0), (1, x1), (7, x7), (9, x9), (18, x18), (19, x19), (20, x20), (24, x24), (25, x25)], 42, m⟩
noncomputable def r9 : Code := findReg b 9
noncomputable def i2 : Code := findCond b 2
noncomputable def i2t : Code := thenOf i2
noncomputable def i2e : Code := elseOf i2
noncomputable def k3 : Code := findBlk b 3
noncomputable def r10 : Code := findReg b 10
noncomputable def r11 : Code := findReg b 11
noncomputable def i3 : Code := findCond b 3
noncomputable def i3t : Code := thenOf i3
noncomputable def i3e : Code := elseOf i3
noncomputable def r12 : Code := findReg b 12
noncomputable def r13 : Code := findReg b 13
noncomputable def r14 : Code := findReg b 14
noncomputable def r15 : Code := findReg b 15
theorem b_eq (K : List Item) (s : St) : den prog ann 34 (.code b :: K) s = den prog ann 34 (.code r0 :: .code r1 :: .code r2 :: .code i0 :: .code r4 :: .code r5 :: .code k0 :: .code r15 :: .code .ret :: K) s := den_flat hf (l := [r0, r1, r2, i0, r4, r5, k0, r15, .ret]) (by kernel_rfl) K s
theorem r0_eq (K : List Item) (s : St) : den prog ann 34 (.code r0 :: K) s = mreg prog ann 34 none [] none [] [
    ⟨some 4, none, .v fun s => some (.nils)⟩,
    ⟨some 5, none, .v fun s => some (.int .i64 0)⟩] K s := (den_reg hf _ K s).trans (by kernel_rfl)
theorem r1_eq (K : List Item) (s : St) : den prog ann 34 (.code r1 :: K) s = mreg prog ann 34 none [] none [] [
    ⟨some 11, none, .v fun s => some (s.get 0)⟩,
    ⟨some 12, none, .v fun s => some (s.get 1)⟩,
    ⟨some 13, none, .c 0 (fun s => (.fn 55 [] [])) fun s => [(s.get 11), (s.get 12)]⟩,
    ⟨some 6, none, .v fun s => some (s.get 13)⟩] K s := (den_reg hf _ K s).trans (by kernel_rfl)
theorem r2_eq (K : List Item) (s : St) : den prog ann 34 (.code r2 :: K) s = mreg prog ann 34 none [] none [] [
    ⟨some 14, none, .v fun s => some (s.get 6)⟩,
    ⟨some 15, none, .v fun s => binA prog .neq 23 (s.get 14) (.int .i64 0)⟩] K s := (den_reg hf _ K s).trans (by kernel_rfl)
theorem i0_eq (K : List Item) (s : St) : den prog ann 34 (.code i0 :: K) s = ifV prog ann 34 15 i0t i0e K s (s.get 15) := den_if hf (by kernel_rfl) K s
theorem i0t_eq (K : List Item) (s : St) : den prog ann 34 (.code i0t :: K) s = den prog ann 34 (.code r3 :: .code .ret :: K) s := den_flat hf (l := [r3, .ret]) (by kernel_rfl) K s
theorem r3_eq (K : List Item) (s : St) : den prog ann 34 (.code r3 :: K) s = mreg prog ann 34 none [] none [] [
    ⟨some 16, none, .v fun s => some (s.get 6)⟩,
    ⟨some 4, none, .v fun s => some (.nils)⟩,
    ⟨some 5, none, .v fun s => some (s.get 16)⟩] K s := (den_reg hf _ K s).trans (by kernel_rfl)
theorem i0e_eq (K : List Item) (s : St) : den prog ann 34 (.code i0e :: K) s = den prog ann 34 (K) s := den_flat hf (l := []) (by kernel_rfl) K s
theorem r4_eq (K : List Item) (s : St) : den prog ann 34 (.code r4 :: K) s = mreg prog ann 34 none [] none [] [
    ⟨some 7, none, .v fun s => some (.nils)⟩] K s := (den_reg hf _ K s).trans (by kernel_rfl)
theorem r5_eq (K : List Item) (s : St) : den prog ann 34 (.code r5 :: K) s = mreg prog ann 34 none [] none [] [
    ⟨some 17, none, .v fun s => some (s.get 0)⟩,
    ⟨some 18, none, .c 0 (fun s => (.fn 60 [] [])) fun s => [(s.get 17)]⟩,
    ⟨some 19, none, .v fun s => lenSl (s.get 18)⟩,
    ⟨some 20, none, .v fun s => some (.int .i64 0)⟩] K s := (den_reg hf _ K s).trans (by kernel_rfl)
theorem k0_eq (K : List Item) (t : List (Nat × AV)) (m : Mem) : den prog ann 34 (.code k0 :: K) ⟨t, 42, m⟩ = L0 (get t 0) (get t 1) (get t 7) (get t 18) (get t 19) (get t 20) m K := den_loop_enter hf (b := l0) (id := 6) (l := [0, 1, 7, 18, 19, 20]) (by kernel_rfl) (by kernel_rfl) (by kernel_rfl) K _
theorem l0_eq (K : List Item) (t : List (Nat × AV)) (m : Mem) : den prog ann 34 (.inLoop l0 :: .inBlock 0 :: K) ⟨t, 42, m⟩ = L0 (get t 0) (get t 1) (get t 7) (get t 18) (get t 19) (get t 20) m K := den_loop_again hf (id := 6) (l := [0, 1, 7, 18, 19, 20]) (by kernel_rfl) (by kernel_rfl) (.inBlock 0 :: K) _
theorem L0_eq (x0 x1 x7 x18 x19 x20 : AV) (m : Mem) (K : List Item) : L0 x0 x1 x7 x18 x19 x20 m K = den prog ann 34 (.code r6 :: .code i1 :: .code k1 :: .code r14 :: .inLoop l0 :: .inBlock 0 :: K) ⟨[(0, x0), (1, x1), (7, x7), (18, x18), (19, x19), (20, x20)], 42, m⟩ := den_flat hf (l := [r6, i1, k1, r14]) (by kernel_rfl) _ _
theorem r6_eq (K : List Item) (s : St) : den prog ann 34 (.code r6 :: K) s = mreg prog ann 34 (some [0, 1, 7, 18, 19, 20]) [] none [] [
    ⟨some 21, none, .v fun s => binA prog .lss 3 (s.get 20) (s.get 19)⟩] K s := (den_reg hf _ K s).trans (by kernel_rfl)
theorem i1_eq (K : List Item) (s : St) : den prog ann 34 (.code i1 :: K) s = ifV prog ann 34 21 i1t i1e K s (s.get 21) := den_if hf (by kernel_rfl) K s
theorem i1t_eq (K : List Item) (s : St) : den prog ann 34 (.code i1t :: K) s = den prog ann 34 (K) s := den_flat hf (l := []) (by kernel_rfl) K s
theorem i1e_eq (K : List Item) (s : St) : den prog ann 34 (.code i1e :: K) s = den prog ann 34 (.code (.exit 0) :: K) s := den_flat hf (l := [(.exit 0)]) (by kernel_rfl) K s
theorem k1_eq (K : List Item) (s : St) : den prog ann 34 (.code k1 :: K) s = den prog ann 34 (.code r7 :: .code r8 :: .code k2 :: .inBlock 1 :: K) s := den_blk hf (b := blkOf k1) (l := [r7, r8, k2]) (by kernel_rfl) (by kernel_rfl) K s
theorem r7_eq (K : List Item) (s : St) : den prog ann 34 (.code r7 :: K) s = mreg prog ann 34 none [] none [] [
    ⟨some 22, none, .v fun s => idxSl 1 (s.get 18) (s.get 20)⟩,
    ⟨some 23, none, .v fun s => loadF false 1 (s.get 22)⟩,
    ⟨some 9, none, .v fun s => some (s.get 23)⟩] K s := (den_reg hf _ K s).trans (by kernel_rfl)
theorem r8_eq (K : List Item) (s : St) : den prog ann 34 (.code r8 :: K) s = mreg prog ann 34 none [] none [] [
    ⟨some 24, none, .v fun s => some (s.get 0)⟩,
    ⟨some 25, none, .v fun s => some (.int .i64 0)⟩] K s := (den_reg hf _ K s).trans (by kernel_rfl)
theorem k2_eq (K : List Item) (t : List (Nat × AV)) (m : Mem) : den prog ann 34 (.code k2 :: K) ⟨t, 42, m⟩ = L2 (get t 0) (get t 1) (get t 7) (get t 9) (get t 18) (get t 19) (get t 20) (get t 24) (get t 25) m K := den_loop_enter hf (b := l2) (id := 9) (l := [0, 1, 7, 9, 18, 19, 20, 24, 25]) (by kernel_rfl) (by kernel_rfl) (by kernel_rfl) K _
theorem l2_eq (K : List Item) (t : List (Nat × AV)) (m : Mem) : den prog ann 34 (.inLoop l2 :: .inBlock 2 :: K) ⟨t, 42, m⟩ = L2 (get t 0) (get t 1) (get t 7) (get t 9) (get t 18) (get t 19) (get t 20) (get t 24) (get t 25) m K := den_loop_again hf (id := 9) (l := [0, 1, 7, 9, 18, 19, 20, 24, 25]) (by kernel_rfl) (by kernel_rfl) (.inBlock 2 :: K) _
theorem L2_eq (x0 x1 x7 x9 x18 x19 x20 x24 x25 : AV) (m : Mem) (K : List Item) : L2 x0 x1 x7 x9 x18 x19 x20 x24 x25 m K = den prog ann 34 (.code r9 :: .code i2 :: .code k3 :: .code r13 :: .inLoop l2 :: .inBlock 2 :: K) ⟨[(0, x0), (1, x1), (7, x7), (9, x9), (18, x18), (19, x19), (20, x20), (24, x24), (25, x25)], 42, m⟩ := den_flat hf (l := [r9, i2, k3, r13]) (by kernel_rfl) _ _
theorem r9_eq (K : List Item) (s : St) : den prog ann 34 (.code r9 :: K) s = mreg prog ann 34 (some [0, 1, 7, 9, 18, 19, 20, 24, 25]) [] none [] [
    ⟨some 26, none, .v fun s => binA prog .lss 3 (s.get 25) (s.get 24)⟩] K s := (den_reg hf _ K s).trans (by kernel_rfl)
theorem i2_eq (K : List Item) (s : St) : den prog ann 34 (.code i2 :: K) s = ifV prog ann 34 26 i2t i2e K s (s.get 26) := den_if hf (by kernel_rfl) K s
theorem i2t_eq (K : List Item) (s : St) : den prog ann 34 (.code i2t :: K) s = den prog ann 34 (K) s := den_flat hf (l := []) (by kernel_rfl) K s
theorem i2e_eq (K : List Item) (s : St) : den prog ann 34 (.code i2e :: K) s = den prog ann 34 (.code (.exit 2) :: K) s := den_flat hf (l := [(.exit 2)]) (by kernel_rfl) K s
theorem k3_eq (K : List Item) (s : St) : den prog ann 34 (.code k3 :: K) s = den prog ann 34 (.code r10 :: .code r11 :: .code i3 :: .inBlock 3 :: K) s := den_blk hf (b := blkOf k3) (l := [r10, r11, i3]) (by kernel_rfl) (by kernel_rfl) K s
theorem r10_eq (K : List Item) (s : St) : den prog ann 34 (.code r10 :: K) s = mreg prog ann 34 none [] none [] [
    ⟨some 27, none, .v fun s => some (s.get 25)⟩,
    ⟨some 10, none, .v fun s => some (s.get 27)⟩] K s := (den_reg hf _ K s).trans (by kernel_rfl)
theorem r11_eq (K : List Item) (s : St) : den prog ann 34 (.code r11 :: K) s = mreg prog ann 34 none [] none [] [
    ⟨some 28, none, .v fun s => some (s.get 0)⟩,
    ⟨some 29, none, .v fun s => some (s.get 1)⟩,
    ⟨some 30, none, .v fun s => some (s.get 9)⟩,
    ⟨some 31, none, .v fun s => some (s.get 10)⟩,
    ⟨some 32, none, .c 0 (fun s => (.fn 62 [] [])) fun s => [(s.get 28), (s.get 29), (s.get 30), (s.get 31)]⟩,
    ⟨some 33, none, .v fun s => some (s.get 1)⟩,
    ⟨some 34, none, .c 0 (fun s => (.fn 61 [] [])) fun s => [(s.get 32), (s.get 33)]⟩] K s := (den_reg hf _ K s).trans (by kernel_rfl)
theorem i3_eq (K : List Item) (s : St) : den prog ann 34 (.code i3 :: K) s = ifV prog ann 34 34 i3t i3e K s (s.get 34) := den_if hf (by kernel_rfl) K s
theorem i3t_eq (K : List Item) (s : St) : den prog ann 34 (.code i3t :: K) s = den prog ann 34 (.code r12 :: .code (.exit 2) :: K) s := den_flat hf (l := [r12, (.exit 2)]) (by kernel_rfl) K s
theorem r12_eq (K : List Item) (s : St) : den prog ann 34 (.code r12 :: K) s = mreg prog ann 34 none [] none [] [
    ⟨some 35, none, .v fun s => some (s.get 7)⟩,
    ⟨some 36, none, .v fun s => some (s.get 9)⟩,
    ⟨some 37, none, .v fun s => bslF 1 (bslA 1 1 [.int .i64 0] [(0, (s.get 36))])⟩,
    ⟨some 38, none, .w false none fun s => appendA 1 8 s.m (s.get 35) (s.get 37)⟩,
    ⟨some 7, none, .v fun s => some (s.get 38)⟩] K s := (den_reg hf _ K s).trans (by kernel_rfl)
theorem i3e_eq (K : List Item) (s : St) : den prog ann 34 (.code i3e :: K) s = den prog ann 34 (K) s := den_flat hf (l := []) (by kernel_rfl) K s
theorem r13_eq (K : List Item) (s : St) : den prog ann 34 (.code r13 :: K) s = mreg prog ann 34 (some [0, 1, 7, 9, 18, 19, 20, 24, 25]) [] none [] [
    ⟨some 39, none, .v fun s => binA prog .add 3 (s.get 25) (.int .i64 1)⟩,
    ⟨some 25, none, .v fun s => some (s.get 39)⟩] K s := (den_reg hf _ K s).trans (by kernel_rfl)
theorem r14_eq (K : List Item) (s : St) : den prog ann 34 (.code r14 :: K) s = mreg prog ann 34 (some [0, 1, 7, 18, 19, 20]) [] none [] [
    ⟨some 40, none, .v fun s => binA prog .add 3 (s.get 20) (.int .i64 1)⟩,
    ⟨some 20, none, .v fun s => some (s.get 40)⟩] K s := (den_reg hf _ K s).trans (by kernel_rfl)
theorem r15_eq (K : List Item) (s : St) : den prog ann 34 (.code r15 :: K) s = mreg prog ann 34 (some [7]) [] none [] [
    ⟨some 41, none, .v fun s => some (s.get 7)⟩,
    ⟨some 4, none, .v fun s => some (s.get 41)⟩,
    ⟨some 5, none, .v fun s => some (.int .i64 0)⟩] K s := (den_reg hf _ K s).trans (by kernel_rfl)
theorem ret_eq (K : List Item) (s : St) : den prog ann 34 (.code .ret :: K) s = finM true [fun s => some (s.get 4), fun s => some (s.get 5)] s := (den_ret hf K s).trans (by kernel_rfl)
theorem nil_eq (s : St) : den prog ann 34 [] s = finM true [fun s => some (s.get 4), fun s => some (s.get 5)] s := (den_nil hf s).trans (by kernel_rfl)
theorem inBlock_eq (id : Nat) (K : List Item) (s : St) : den prog ann 34 (.inBlock id :: K) s = den prog ann 34 K s := den_inBlock hf id K s
theorem exit_eq (id : Nat) (K : List Item) (s : St) : den prog ann 34 (.code (.exit id) :: K) s = exitV prog ann 34 (exitTo id K) s := den_exitV hf id K s
theorem call_eq (v0 v1 : AV) (m : Mem) (h : closedL [v0, v1] = true) : denC prog ann 34 [v0, v1] m = (den prog ann 34 [.code b] ⟨[(0, v0), (1, v1)], 42, Mem.empty⟩).bind fun r => some (r.1, m) := (denC_pure hf (b := b) (by kernel_rfl) (by kernel_rfl) (by kernel_rfl) h m).trans (by kernel_rfl)
theorem pure_eq : (ann 34).pure = true := by kernel_rfl
attribute [simp] b_eq r0_eq r1_eq r2_eq i0_eq i0t_eq r3_eq i0e_eq r4_eq r5_eq k0_eq l0_eq r6_eq i1_eq i1t_eq i1e_eq k1_eq r7_eq r8_eq k2_eq l2_eq r9_eq i2_eq i2t_eq i2e_eq k3_eq r10_eq r11_eq i3_eq i3t_eq r12_eq i3e_eq r13_eq r14_eq r15_eq ret_eq nil_eq inBlock_eq exit_eq pure_eq
end strap_Multipliers


namespace r04_Gcd
/-- pommel/pommelref04.Gcd -/
noncomputable def b : Code := (Try.f38.body).getD .skip
theorem hf : prog.funcs[38]? = some Try.f38 := by kernel_rfl
noncomputable def r0 : Code := findReg b 0
noncomputable def k0 : Code := findBlk b 0
noncomputable def l0 : Code := loopOf k0
noncomputable def L0 (x0 x1 : AV) (m : Mem) (K : List Item) : Option Res := den prog ann 38 (.code l0 :: .inLoop l0 :: .inBlock 0 :: K) ⟨[(0, x0), (1, x1)], 12, m⟩
noncomputable def r1 : Code := findReg b 1
noncomputable def i0 : Code := findCond b 0
noncomputable def i0t : Code := thenOf i0
noncomputable def i0e : Code := elseOf i0
noncomputable def k1 : Code := findBlk b 1
noncomputable def r2 : Code := findReg b 2
noncomputable def r3 : Code := findReg b 3
theorem b_eq (K : List Item) (s : St) : den prog ann 38 (.code b :: K) s = den prog ann 38 (.code r0 :: .code k0 :: .code r3 :: .code .ret :: K) s := den_flat hf (l := [r0, k0, r3, .ret]) (by kernel_rfl) K s
theorem r0_eq (K : List Item) (s : St) : den prog ann 38 (.code r0 :: K) s = mreg prog ann 38 none [] none [] [
    ⟨some 4, none, .v fun s => some (.int .i64 0)⟩] K s := (den_reg hf _ K s).trans (by kernel_rfl)
theorem k0_eq (K : List Item) (t : List (Nat × AV)) (m : Mem) : den prog ann 38 (.code k0 :: K) ⟨t, 12, m⟩ = L0 (get t 0) (get t 1) m K := den_loop_enter hf (b := l0) (id := 1) (l := [0, 1]) (by kernel_rfl) (by kernel_rfl) (by kernel_rfl) K _
theorem l0_eq (K : List Item) (t : List (Nat × AV)) (m : Mem) : den prog ann 38 (.inLoop l0 :: .inBlock 0 :: K) ⟨t, 12, m⟩ = L0 (get t 0) (get t 1) m K := den_loop_again hf (id := 1) (l := [0, 1]) (by kernel_rfl) (by kernel_rfl) (.inBlock 0 :: K) _
theorem L0_eq (x0 x1 : AV) (m : Mem) (K : List Item) : L0 x0 x1 m K = den prog ann 38 (.code r1 :: .code i0 :: .code k1 :: .inLoop l0 :: .inBlock 0 :: K) ⟨[(0, x0), (1, x1)], 12, m⟩ := den_flat hf (l := [r1, i0, k1]) (by kernel_rfl) _ _
theorem r1_eq (K : List Item) (s : St) : den prog ann 38 (.code r1 :: K) s = mreg prog ann 38 (some [0, 1]) [] none [] [
    ⟨some 5, none, .v fun s => some (s.get 1)⟩,
    ⟨some 6, none, .v fun s => binA prog .gtr 3 (s.get 5) (.int .i64 0)⟩] K s := (den_reg hf _ K s).trans (by kernel_rfl)
theorem i0_eq (K : List Item) (s : St) : den prog ann 38 (.code i0 :: K) s = ifV prog ann 38 6 i0t i0e K s (s.get 6) := den_if hf (by kernel_rfl) K s
theorem i0t_eq (K : List Item) (s : St) : den prog ann 38 (.code i0t :: K) s = den prog ann 38 (K) s := den_flat hf (l := []) (by kernel_rfl) K s
theorem i0e_eq (K : List Item) (s : St) : den prog ann 38 (.code i0e :: K) s = den prog ann 38 (.code (.exit 0) :: K) s := den_flat hf (l := [(.exit 0)]) (by kernel_rfl) K s
theorem k1_eq (K : List Item) (s : St) : den prog ann 38 (.code k1 :: K) s = den prog ann 38 (.code r2 :: .inBlock 1 :: K) s := den_blk hf (b := blkOf k1) (l := [r2]) (by kernel_rfl) (by kernel_rfl) K s
theorem r2_draw : drawOk (fun g => (ann g).pure) (modeOf (ann 38) (idOf r2)) (frzOf (ann 38) (idOf r2)) (opsOf r2) = true := drawOk_of (an := [0, 0, 0, 6, 3, 31]) (by kernel_rfl) (by kernel_rfl)
theorem r2_eq (K : List Item) (s : St) : den prog ann 38 (.code r2 :: K) s = mreg prog ann 38 none [] (some 6) [] [
    ⟨some 7, none, .v fun s => some (s.get 1)⟩,
    ⟨some 8, none, .v fun s => some (s.get 0)⟩,
    ⟨some 9, none, .v fun s => some (s.get 1)⟩,
    ⟨some 10, none, .v fun s => binA prog .rem 3 (s.get 8) (s.get 9)⟩,
    ⟨some 0, none, .v fun s => some (s.get 7)⟩,
    ⟨some 1, none, .v fun s => some (s.get 10)⟩] K s := (den_regD hf r2_draw K s).trans (by kernel_rfl)
theorem r3_eq (K : List Item) (s : St) : den prog ann 38 (.code r3 :: K) s = mreg prog ann 38 (some [0]) [] none [] [
    ⟨some 11, none, .v fun s => some (s.get 0)⟩,
    ⟨some 4, none, .v fun s => some (s.get 11)⟩] K s := (den_reg hf _ K s).trans (by kernel_rfl)
theorem ret_eq (K : List Item) (s : St) : den prog ann 38 (.code .ret :: K) s = finM true [fun s => some (s.get 4)] s := (den_ret hf K s).trans (by kernel_rfl)
theorem nil_eq (s : St) : den prog ann 38 [] s = finM true [fun s => some (s.get 4)] s := (den_nil hf s).trans (by kernel_rfl)
theorem inBlock_eq (id : Nat) (K : List Item) (s : St) : den prog ann 38 (.inBlock id :: K) s = den prog ann 38 K s := den_inBlock hf id K s
theorem exit_eq (id : Nat) (K : List Item) (s : St) : den prog ann 38 (.code (.exit id) :: K) s = exitV prog ann 38 (exitTo id K) s := den_exitV hf id K s
theorem call_eq (v0 v1 : AV) (m : Mem) (h : closedL [v0, v1] = true) : denC prog ann 38 [v0, v1] m = (den prog ann 38 [.code b] ⟨[(0, v0), (1, v1)], 12, Mem.empty⟩).bind fun r => some (r.1, m) := (denC_pure hf (b := b) (by kernel_rfl) (by kernel_rfl) (by kernel_rfl) h m).trans (by kernel_rfl)
theorem pure_eq : (ann 38).pure = true := by kernel_rfl
attribute [simp] b_eq r0_eq k0_eq l0_eq r1_eq i0_eq i0t_eq i0e_eq k1_eq r2_eq r3_eq ret_eq nil_eq inBlock_eq exit_eq pure_eq
end r04_Gcd

namespace r04_Turned
/-- pommel/pommelref04.Turned -/
noncomputable def b : Code := (Try.f39.body).getD .skip
theorem hf : prog.funcs[39]? = some Try.f39 := by kernel_rfl
noncomputable def r0 : Code := findReg b 0
noncomputable def r1 : Code := findReg b 1
noncomputable def r2 : Code := findReg b 2
noncomputable def k0 : Code := findBlk b 0
noncomputable def l0 : Code := loopOf k0
noncomputable def L0 (x0 x1 x2 x3 x9 x10 x11 : AV) (m : Mem) (K : List Item) : Option Res := den prog ann 39 (.code l0 :: .inLoop l0 :: .inBlock 0 :: K) ⟨[(0, x0), (1, x1), (2, x2), (3, x3), (9, x9), (10, x10), (11, x11)], 48, m⟩
noncomputable def r3 : Code := findReg b 3
noncomputable def i0 : Code := findCond b 0
noncomputable def i0t : Code := thenOf i0
noncomputable def i0e : Code := elseOf i0
noncomputable def k1 : Code := findBlk b 1
noncomputable def r5 : Code := findReg b 5
noncomputable def r4 : Code := findReg b 4
noncomputable def r6 : Code := findReg b 6
noncomputable def k2 : Code := findBlk b 2
noncomputable def l2 : Code := loopOf k2
noncomputable def L2 (x0 x9 x10 x12 : AV) (m : Mem) (K : List Item) : Option Res := den prog ann 39 (.code l2 :: .inLoop l2 :: .inBlock 2 :: K) ⟨[(0, x0), (9, x9), (10, x10), (12, x12)], 48, m⟩
noncomputable def r7 : Code := findReg b 7
noncomputable def i1 : Code := findCond b 1
noncomputable def i1t : Code := thenOf i1
noncomputable def i1e : Code := elseOf i1
noncomputable def k3 : Code := findBlk b 3
noncomputable def r9 : Code := findReg b 9
noncomputable def i2 : Code := findCond b 2
noncomputable def i2t : Code := thenOf i2
noncomputable def i2e : Code := elseOf i2
noncomputable def r10 : Code := findReg b 10
noncomputable def r8 : Code := findReg b 8
noncomputable def r11 : Code := findReg b 11
theorem b_eq (K : List Item) (s : St) : den prog ann 39 (.code b :: K) s = den prog ann 39 (.code r0 :: .code r1 :: .code r2 :: .code k0 :: .code r6 :: .code k2 :: .code r11 :: .code .ret :: K) s := den_flat hf (l := [r0, r1, r2, k0, r6, k2, r11, .ret]) (by kernel_rfl) K s
theorem r0_eq (K : List Item) (s : St) : den prog ann 39 (.code r0 :: K) s = mreg prog ann 39 none [] none [] [
    ⟨some 8, none, .v fun s => some (.nils)⟩] K s := (den_reg hf _ K s).trans (by kernel_rfl)
theorem r1_eq (K : List Item) (s : St) : den prog ann 39 (.code r1 :: K) s = mreg prog ann 39 none [] none [] [
    ⟨some 13, none, .v fun s => some (s.get 0)⟩,
    ⟨some 14, none, .w false none fun s => makeA 1 1 (.bool false) s.m (s.get 13) (s.get 13)⟩,
    ⟨some 15, none, .w false none fun s => bslM s.m 0 (bslA 1 0 [.int .i64 0] [])⟩,
    ⟨some 9, none, .v fun s => some (s.get 14)⟩,
    ⟨some 10, none, .v fun s => some (s.get 15)⟩] K s := (den_reg hf _ K s).trans (by kernel_rfl)
theorem r2_eq (K : List Item) (s : St) : den prog ann 39 (.code r2 :: K) s = mreg prog ann 39 none [] none [] [
    ⟨some 11, none, .v fun s => some (.int .i64 0)⟩] K s := (den_reg hf _ K s).trans (by kernel_rfl)
theorem k0_eq (K : List Item) (t : List (Nat × AV)) (m : Mem) : den prog ann 39 (.code k0 :: K) ⟨t, 48, m⟩ = L0 (get t 0) (get t 1) (get t 2) (get t 3) (get t 9) (get t 10) (get t 11) m K := den_loop_enter hf (b := l0) (id := 3) (l := [0, 1, 2, 3, 9, 10, 11]) (by kernel_rfl) (by kernel_rfl) (by kernel_rfl) K _
theorem l0_eq (K : List Item) (t : List (Nat × AV)) (m : Mem) : den prog ann 39 (.inLoop l0 :: .inBlock 0 :: K) ⟨t, 48, m⟩ = L0 (get t 0) (get t 1) (get t 2) (get t 3) (get t 9) (get t 10) (get t 11) m K := den_loop_again hf (id := 3) (l := [0, 1, 2, 3, 9, 10, 11]) (by kernel_rfl) (by kernel_rfl) (.inBlock 0 :: K) _
theorem L0_eq (x0 x1 x2 x3 x9 x10 x11 : AV) (m : Mem) (K : List Item) : L0 x0 x1 x2 x3 x9 x10 x11 m K = den prog ann 39 (.code r3 :: .code i0 :: .code k1 :: .code r4 :: .inLoop l0 :: .inBlock 0 :: K) ⟨[(0, x0), (1, x1), (2, x2), (3, x3), (9, x9), (10, x10), (11, x11)], 48, m⟩ := den_flat hf (l := [r3, i0, k1, r4]) (by kernel_rfl) _ _
theorem r3_eq (K : List Item) (s : St) : den prog ann 39 (.code r3 :: K) s = mreg prog ann 39 (some [0, 1, 2, 3, 9, 10, 11]) [] none [] [
    ⟨some 16, none, .v fun s => some (s.get 11)⟩,
    ⟨some 17, none, .v fun s => some (s.get 1)⟩,
    ⟨some 18, none, .v fun s => lenSl (s.get 17)⟩,
    ⟨some 19, none, .v fun s => binA prog .lss 3 (s.get 16) (s.get 18)⟩] K s := (den_reg hf _ K s).trans (by kernel_rfl)
theorem i0_eq (K : List Item) (s : St) : den prog ann 39 (.code i0 :: K) s = ifV prog ann 39 19 i0t i0e K s (s.get 19) := den_if hf (by kernel_rfl) K s
theorem i0t_eq (K : List Item) (s : St) : den prog ann 39 (.code i0t :: K) s = den prog ann 39 (K) s := den_flat hf (l := []) (by kernel_rfl) K s
theorem i0e_eq (K : List Item) (s : St) : den prog ann 39 (.code i0e :: K) s = den prog ann 39 (.code (.exit 0) :: K) s := den_flat hf (l := [(.exit 0)]) (by kernel_rfl) K s
theorem k1_eq (K : List Item) (s : St) : den prog ann 39 (.code k1 :: K) s = den prog ann 39 (.code r5 :: .inBlock 1 :: K) s := den_blk hf (b := blkOf k1) (l := [r5]) (by kernel_rfl) (by kernel_rfl) K s
theorem r5_eq (K : List Item) (s : St) : den prog ann 39 (.code r5 :: K) s = mreg prog ann 39 none [] none [] [
    ⟨some 22, none, .v fun s => some (s.get 9)⟩,
    ⟨some 23, none, .v fun s => some (s.get 1)⟩,
    ⟨some 24, none, .v fun s => some (s.get 11)⟩,
    ⟨some 25, none, .v fun s => idxSl 1 (s.get 23) (s.get 24)⟩,
    ⟨some 26, none, .v fun s => loadF false 1 (s.get 25)⟩,
    ⟨some 27, none, .v fun s => some (s.get 2)⟩,
    ⟨some 28, none, .v fun s => binA prog .mul 3 (s.get 26) (s.get 27)⟩,
    ⟨some 29, none, .v fun s => some (s.get 3)⟩,
    ⟨some 30, none, .v fun s => binA prog .add 3 (s.get 28) (s.get 29)⟩,
    ⟨some 31, none, .v fun s => some (s.get 0)⟩,
    ⟨some 32, none, .v fun s => binA prog .rem 3 (s.get 30) (s.get 31)⟩,
    ⟨some 33, none, .v fun s => idxSl 1 (s.get 22) (s.get 32)⟩,
    ⟨none, none, .w false none fun s => stA false 1 s.m (s.get 33) (.bool true)⟩] K s := (den_reg hf _ K s).trans (by kernel_rfl)
theorem r4_eq (K : List Item) (s : St) : den prog ann 39 (.code r4 :: K) s = mreg prog ann 39 (some [0, 1, 2, 3, 9, 10, 11]) [] none [] [
    ⟨some 20, none, .v fun s => some (s.get 11)⟩,
    ⟨some 21, none, .v fun s => binA prog .add 3 (s.get 20) (.int .i64 1)⟩,
    ⟨some 11, none, .v fun s => some (s.get 21)⟩] K s := (den_reg hf _ K s).trans (by kernel_rfl)
theorem r6_eq (K : List Item) (s : St) : den prog ann 39 (.code r6 :: K) s = mreg prog ann 39 (some [0, 9, 10]) [] none [] [
    ⟨some 12, none, .v fun s => some (.int .i64 0)⟩] K s := (den_reg hf _ K s).trans (by kernel_rfl)
theorem k2_eq (K : List Item) (t : List (Nat × AV)) (m : Mem) : den prog ann 39 (.code k2 :: K) ⟨t, 48, m⟩ = L2 (get t 0) (get t 9) (get t 10) (get t 12) m K := den_loop_enter hf (b := l2) (id := 7) (l := [0, 9, 10, 12]) (by kernel_rfl) (by kernel_rfl) (by kernel_rfl) K _
theorem l2_eq (K : List Item) (t : List (Nat × AV)) (m : Mem) : den prog ann 39 (.inLoop l2 :: .inBlock 2 :: K) ⟨t, 48, m⟩ = L2 (get t 0) (get t 9) (get t 10) (get t 12) m K := den_loop_again hf (id := 7) (l := [0, 9, 10, 12]) (by kernel_rfl) (by kernel_rfl) (.inBlock 2 :: K) _
theorem L2_eq (x0 x9 x10 x12 : AV) (m : Mem) (K : List Item) : L2 x0 x9 x10 x12 m K = den prog ann 39 (.code r7 :: .code i1 :: .code k3 :: .code r8 :: .inLoop l2 :: .inBlock 2 :: K) ⟨[(0, x0), (9, x9), (10, x10), (12, x12)], 48, m⟩ := den_flat hf (l := [r7, i1, k3, r8]) (by kernel_rfl) _ _
theorem r7_eq (K : List Item) (s : St) : den prog ann 39 (.code r7 :: K) s = mreg prog ann 39 (some [0, 9, 10, 12]) [] none [] [
    ⟨some 34, none, .v fun s => some (s.get 12)⟩,
    ⟨some 35, none, .v fun s => some (s.get 0)⟩,
    ⟨some 36, none, .v fun s => binA prog .lss 3 (s.get 34) (s.get 35)⟩] K s := (den_reg hf _ K s).trans (by kernel_rfl)
theorem i1_eq (K : List Item) (s : St) : den prog ann 39 (.code i1 :: K) s = ifV prog ann 39 36 i1t i1e K s (s.get 36) := den_if hf (by kernel_rfl) K s
theorem i1t_eq (K : List Item) (s : St) : den prog ann 39 (.code i1t :: K) s = den prog ann 39 (K) s := den_flat hf (l := []) (by kernel_rfl) K s
theorem i1e_eq (K : List Item) (s : St) : den prog ann 39 (.code i1e :: K) s = den prog ann 39 (.code (.exit 2) :: K) s := den_flat hf (l := [(.exit 2)]) (by kernel_rfl) K s
theorem k3_eq (K : List Item) (s : St) : den prog ann 39 (.code k3 :: K) s = den prog ann 39 (.code r9 :: .code i2 :: .inBlock 3 :: K) s := den_blk hf (b := blkOf k3) (l := [r9, i2]) (by kernel_rfl) (by kernel_rfl) K s
theorem r9_eq (K : List Item) (s : St) : den prog ann 39 (.code r9 :: K) s = mreg prog ann 39 none [] none [] [
    ⟨some 39, none, .v fun s => some (s.get 9)⟩,
    ⟨some 40, none, .v fun s => some (s.get 12)⟩,
    ⟨some 41, none, .v fun s => idxSl 1 (s.get 39) (s.get 40)⟩,
    ⟨some 42, none, .v fun s => loadA false 1 s.m (s.get 41)⟩] K s := (den_reg hf _ K s).trans (by kernel_rfl)
theorem i2_eq (K : List Item) (s : St) : den prog ann 39 (.code i2 :: K) s = ifV prog ann 39 42 i2t i2e K s (s.get 42) := den_if hf (by kernel_rfl) K s
theorem i2t_eq (K : List Item) (s : St) : den prog ann 39 (.code i2t :: K) s = den prog ann 39 (.code r10 :: K) s := den_flat hf (l := [r10]) (by kernel_rfl) K s
theorem r10_eq (K : List Item) (s : St) : den prog ann 39 (.code r10 :: K) s = mreg prog ann 39 none [] none [] [
    ⟨some 43, none, .v fun s => some (s.get 10)⟩,
    ⟨some 44, none, .v fun s => some (s.get 12)⟩,
    ⟨some 45, none, .v fun s => bslF 1 (bslA 1 1 [.int .i64 0] [(0, (s.get 44))])⟩,
    ⟨some 46, none, .w false none fun s => appendA 1 8 s.m (s.get 43) (s.get 45)⟩,
    ⟨some 10, none, .v fun s => some (s.get 46)⟩] K s := (den_reg hf _ K s).trans (by kernel_rfl)
theorem i2e_eq (K : List Item) (s : St) : den prog ann 39 (.code i2e :: K) s = den prog ann 39 (K) s := den_flat hf (l := []) (by kernel_rfl) K s
theorem r8_eq (K : List Item) (s : St) : den prog ann 39 (.code r8 :: K) s = mreg prog ann 39 (some [0, 9, 10, 12]) [] none [] [
    ⟨some 37, none, .v fun s => some (s.get 12)⟩,
    ⟨some 38, none, .v fun s => binA prog .add 3 (s.get 37) (.int .i64 1)⟩,
    ⟨some 12, none, .v fun s => some (s.get 38)⟩] K s := (den_reg hf _ K s).trans (by kernel_rfl)
theorem r11_eq (K : List Item) (s : St) : den prog ann 39 (.code r11 :: K) s = mreg prog ann 39 (some [10]) [] none [] [
    ⟨some 47, none, .v fun s => some (s.get 10)⟩,
    ⟨some 8, none, .v fun s => some (s.get 47)⟩] K s := (den_reg hf _ K s).trans (by kernel_rfl)
theorem ret_eq (K : List Item) (s : St) : den prog ann 39 (.code .ret :: K) s = finM true [fun s => some (s.get 8)] s := (den_ret hf K s).trans (by kernel_rfl)
theorem nil_eq (s : St) : den prog ann 39 [] s = finM true [fun s => some (s.get 8)] s := (den_nil hf s).trans (by kernel_rfl)
theorem inBlock_eq (id : Nat) (K : List Item) (s : St) : den prog ann 39 (.inBlock id :: K) s = den prog ann 39 K s := den_inBlock hf id K s
theorem exit_eq (id : Nat) (K : List Item) (s : St) : den prog ann 39 (.code (.exit id) :: K) s = exitV prog ann 39 (exitTo id K) s := den_exitV hf id K s
theorem call_eq (v0 v1 v2 v3 : AV) (m : Mem) (h : closedL [v0, v1, v2, v3] = true) : denC prog ann 39 [v0, v1, v2, v3] m = (den prog ann 39 [.code b] ⟨[(0, v0), (1, v1), (2, v2), (3, v3)], 48, Mem.empty⟩).bind fun r => some (r.1, m) := (denC_pure hf (b := b) (by kernel_rfl) (by kernel_rfl) (by kernel_rfl) h m).trans (by kernel_rfl)
theorem pure_eq : (ann 39).pure = true := by kernel_rfl
attribute [simp] b_eq r0_eq r1_eq r2_eq k0_eq l0_eq r3_eq i0_eq i0t_eq i0e_eq k1_eq r5_eq r4_eq r6_eq k2_eq l2_eq r7_eq i1_eq i1t_eq i1e_eq k3_eq r9_eq i2_eq i2t_eq r10_eq i2e_eq r8_eq r11_eq ret_eq nil_eq inBlock_eq exit_eq pure_eq
end r04_Turned
end Go.Proofs.Ytpghadmpegncgaa

/-
  BODIES OF FUNCTIONS OF THE PROGRAM AS SMALL OPERATIONS (written by gen.py; checked by the kernel against the program). Conditions: none.
-/
namespace Go.Proofs.Ytpghadmpegncgaa
open Go.AM
open Go.Proofs.Try (prog)
set_option maxRecDepth 100000
set_option linter.all false

namespace strap_Canon
/-- pommel/strap.Canon -/
noncomputable def b : Code := (Try.f35.body).getD .skip
theorem hf : prog.funcs[35]? = some Try.f35 := by kernel_rfl
noncomputable def r0 : Code := findReg b 0
noncomputable def r1 : Code := findReg b 1
noncomputable def r2 : Code := findReg b 2
noncomputable def i0 : Code := findCond b 0
noncomputable def i0t : Code := thenOf i0
noncomputable def i0e : Code := elseOf i0
noncomputable def r3 : Code := findReg b 3
noncomputable def r4 : Code := findReg b 4
theorem b_eq (K : List Item) (s : St) : den prog ann 35 (.code b :: K) s = den prog ann 35 (.code r0 :: .code r1 :: .code r2 :: .code i0 :: .code r4 :: .code .ret :: K) s := den_flat hf (l := [r0, r1, r2, i0, r4, .ret]) (by kernel_rfl) K s
theorem r0_eq (K : List Item) (s : St) : den prog ann 35 (.code r0 :: K) s = mreg prog ann 35 none [] none [] [
    ⟨some 4, none, .v fun s => some (.nils)⟩,
    ⟨some 5, none, .v fun s => some (.int .i64 0)⟩] K s := (den_reg hf _ K s).trans (by kernel_rfl)
theorem r1_eq (K : List Item) (s : St) : den prog ann 35 (.code r1 :: K) s = mreg prog ann 35 none [] none [] [
    ⟨some 7, none, .v fun s => some (s.get 0)⟩,
    ⟨some 8, none, .v fun s => some (s.get 1)⟩,
    ⟨some 9, none, .c 0 (fun s => (.fn 55 [] [])) fun s => [(s.get 7), (s.get 8)]⟩,
    ⟨some 6, none, .v fun s => some (s.get 9)⟩] K s := (den_reg hf _ K s).trans (by kernel_rfl)
theorem r2_eq (K : List Item) (s : St) : den prog ann 35 (.code r2 :: K) s = mreg prog ann 35 none [] none [] [
    ⟨some 10, none, .v fun s => some (s.get 6)⟩,
    ⟨some 11, none, .v fun s => binA prog .neq 23 (s.get 10) (.int .i64 0)⟩] K s := (den_reg hf _ K s).trans (by kernel_rfl)
theorem i0_eq (K : List Item) (s : St) : den prog ann 35 (.code i0 :: K) s = ifV prog ann 35 11 i0t i0e K s (s.get 11) := den_if hf (by kernel_rfl) K s
theorem i0t_eq (K : List Item) (s : St) : den prog ann 35 (.code i0t :: K) s = den prog ann 35 (.code r3 :: .code .ret :: K) s := den_flat hf (l := [r3, .ret]) (by kernel_rfl) K s
theorem r3_eq (K : List Item) (s : St) : den prog ann 35 (.code r3 :: K) s = mreg prog ann 35 none [] none [] [
    ⟨some 12, none, .v fun s => some (s.get 6)⟩,
    ⟨some 4, none, .v fun s => some (.nils)⟩,
    ⟨some 5, none, .v fun s => some (s.get 12)⟩] K s := (den_reg hf _ K s).trans (by kernel_rfl)
theorem i0e_eq (K : List Item) (s : St) : den prog ann 35 (.code i0e :: K) s = den prog ann 35 (K) s := den_flat hf (l := []) (by kernel_rfl) K s
theorem r4_eq (K : List Item) (s : St) : den prog ann 35 (.code r4 :: K) s = mreg prog ann 35 none [] none [] [
    ⟨some 13, none, .v fun s => some (s.get 0)⟩,
    ⟨some 14, none, .v fun s => some (s.get 1)⟩,
    ⟨some 15, none, .c 0 (fun s => (.fn 63 [] [])) fun s => [(s.get 13), (s.get 14)]⟩,
    ⟨some 4, none, .v fun s => some (s.get 15)⟩,
    ⟨some 5, none, .v fun s => some (.int .i64 0)⟩] K s := (den_reg hf _ K s).trans (by kernel_rfl)
theorem ret_eq (K : List Item) (s : St) : den prog ann 35 (.code .ret :: K) s = finM true [fun s => some (s.get 4), fun s => some (s.get 5)] s := (den_ret hf K s).trans (by kernel_rfl)
theorem nil_eq (s : St) : den prog ann 35 [] s = finM true [fun s => some (s.get 4), fun s => some (s.get 5)] s := (den_nil hf s).trans (by kernel_rfl)
theorem inBlock_eq (id : Nat) (K : List Item) (s : St) : den prog ann 35 (.inBlock id :: K) s = den prog ann 35 K s := den_inBlock hf id K s
theorem exit_eq (id : Nat) (K : List Item) (s : St) : den prog ann 35 (.code (.exit id) :: K) s = exitV prog ann 35 (exitTo id K) s := den_exitV hf id K s
theorem call_eq (v0 v1 : AV) (m : Mem) (h : closedL [v0, v1] = true) : denC prog ann 35 [v0, v1] m = (den prog ann 35 [.code b] ⟨[(0, v0), (1, v1)], 16, Mem.empty⟩).bind fun r => some (r.1, m) := (denC_pure hf (b := b) (by kernel_rfl) (by kernel_rfl) (by kernel_rfl) h m).trans (by kernel_rfl)
theorem pure_eq : (ann 35).pure = true := by kernel_rfl
attribute [simp] b_eq r0_eq r1_eq r2_eq i0_eq i0t_eq r3_eq i0e_eq r4_eq ret_eq nil_eq inBlock_eq exit_eq pure_eq
end strap_Canon

namespace strap_canon
/-- pommel/strap.canon -/
noncomputable def b : Code := (Try.f63.body).getD .skip
theorem hf : prog.funcs[63]? = some Try.f63 := by kernel_rfl
noncomputable def r0 : Code := findReg b 0
noncomputable def r1 : Code := findReg b 1
noncomputable def r2 : Code := findReg b 2
noncomputable def k0 : Code := findBlk b 0
noncomputable def l0 : Code := loopOf k0
noncomputable def L0 (x0 x1 x5 x12 x13 x14 : AV) (m : Mem) (K : List Item) : Option Res := den prog ann 63 (.code l0 :: .inLoop l0 :: .inBlock 0 :: K) ⟨[(0, x0), (1, x1), (5, x5), (12, x12), (13, x13), (14, x14)], 36, m⟩
noncomputable def r3 : Code := findReg b 3
noncomputable def i0 : Code := findCond b 0
noncomputable def i0t : Code := thenOf i0
noncomputable def i0e : Code := elseOf i0
noncomputable def k1 : Code := findBlk b 1
noncomputable def r4 : Code := findReg b 4
noncomputable def r5 : Code := findReg b 5
noncomputable def k2 : Code := findBlk b 2
noncomputable def l2 : Code := loopOf k2
noncomputable def L2 (x0 x1 x5 x7 x12 x13 x14 x18 x19 : AV) (m : Mem) (K : List Item) : Option Res := den prog ann 63 (.code l2 :: .inLoop l2 :: .inBlock 2 :: K) ⟨[(0, x0), (1, x1), (5, x5), (7, x7), (12, x12), (13, x13), (14, x14), (18, x18), (19, x19)], 36, m⟩
noncomputable def r6 : Code := findReg b 6
noncomputable def i1 : Code := findCond b 1
noncomputable def i1t : Code := thenOf i1
noncomputable def i1e : Code := elseOf i1
noncomputable def k3 : Code := findBlk b 3
noncomputable def r7 : Code := findReg b 7
noncomputable def r8 : Code := findReg b 8
noncomputable def r9 : Code := findReg b 9
noncomputable def i2 : Code := findCond b 2
noncomputable def i2t : Code := thenOf i2
noncomputable def i2e : Code := elseOf i2
noncomputable def r10 : Code := findReg b 10
noncomputable def r11 : Code := findReg b 11
noncomputable def r12 : Code := findReg b 12
noncomputable def r13 : Code := findReg b 13
theorem b_eq (K : List Item) (s : St) : den prog ann 63 (.code b :: K) s = den prog ann 63 (.code r0 :: .code r1 :: .code r2 :: .code k0 :: .code r13 :: .code .ret :: K) s := den_flat hf (l := [r0, r1, r2, k0, r13, .ret]) (by kernel_rfl) K s
theorem r0_eq (K : List Item) (s : St) : den prog ann 63 (.code r0 :: K) s = mreg prog ann 63 none [] none [] [
    ⟨some 4, none, .v fun s => some (.nils)⟩] K s := (den_reg hf _ K s).trans (by kernel_rfl)
theorem r1_eq (K : List Item) (s : St) : den prog ann 63 (.code r1 :: K) s = mreg prog ann 63 none [] none [] [
    ⟨some 10, none, .v fun s => some (s.get 1)⟩,
    ⟨some 5, none, .v fun s => some (s.get 10)⟩] K s := (den_reg hf _ K s).trans (by kernel_rfl)
theorem r2_eq (K : List Item) (s : St) : den prog ann 63 (.code r2 :: K) s = mreg prog ann 63 none [] none [] [
    ⟨some 11, none, .v fun s => some (s.get 0)⟩,
    ⟨some 12, none, .c 0 (fun s => (.fn 60 [] [])) fun s => [(s.get 11)]⟩,
    ⟨some 13, none, .v fun s => lenSl (s.get 12)⟩,
    ⟨some 14, none, .v fun s => some (.int .i64 0)⟩] K s := (den_reg hf _ K s).trans (by kernel_rfl)
theorem k0_eq (K : List Item) (t : List (Nat × AV)) (m : Mem) : den prog ann 63 (.code k0 :: K) ⟨t, 36, m⟩ = L0 (get t 0) (get t 1) (get t 5) (get t 12) (get t 13) (get t 14) m K := den_loop_enter hf (b := l0) (id := 3) (l := [0, 1, 5, 12, 13, 14]) (by kernel_rfl) (by kernel_rfl) (by kernel_rfl) K _
theorem l0_eq (K : List Item) (t : List (Nat × AV)) (m : Mem) : den prog ann 63 (.inLoop l0 :: .inBlock 0 :: K) ⟨t, 36, m⟩ = L0 (get t 0) (get t 1) (get t 5) (get t 12) (get t 13) (get t 14) m K := den_loop_again hf (id := 3) (l := [0, 1, 5, 12, 13, 14]) (by kernel_rfl) (by kernel_rfl) (.inBlock 0 :: K) _
theorem L0_eq (x0 x1 x5 x12 x13 x14 : AV) (m : Mem) (K : List Item) : L0 x0 x1 x5 x12 x13 x14 m K = den prog ann 63 (.code r3 :: .code i0 :: .code k1 :: .code r12 :: .inLoop l0 :: .inBlock 0 :: K) ⟨[(0, x0), (1, x1), (5, x5), (12, x12), (13, x13), (14, x14)], 36, m⟩ := den_flat hf (l := [r3, i0, k1, r12]) (by kernel_rfl) _ _
theorem r3_eq (K : List Item) (s : St) : den prog ann 63 (.code r3 :: K) s = mreg prog ann 63 (some [0, 1, 5, 12, 13, 14]) [] none [] [
    ⟨some 15, none, .v fun s => binA prog .lss 3 (s.get 14) (s.get 13)⟩] K s := (den_reg hf _ K s).trans (by kernel_rfl)
theorem i0_eq (K : List Item) (s : St) : den prog ann 63 (.code i0 :: K) s = ifV prog ann 63 15 i0t i0e K s (s.get 15) := den_if hf (by kernel_rfl) K s
theorem i0t_eq (K : List Item) (s : St) : den prog ann 63 (.code i0t :: K) s = den prog ann 63 (K) s := den_flat hf (l := []) (by kernel_rfl) K s
theorem i0e_eq (K : List Item) (s : St) : den prog ann 63 (.code i0e :: K) s = den prog ann 63 (.code (.exit 0) :: K) s := den_flat hf (l := [(.exit 0)]) (by kernel_rfl) K s
theorem k1_eq (K : List Item) (s : St) : den prog ann 63 (.code k1 :: K) s = den prog ann 63 (.code r4 :: .code r5 :: .code k2 :: .inBlock 1 :: K) s := den_blk hf (b := blkOf k1) (l := [r4, r5, k2]) (by kernel_rfl) (by kernel_rfl) K s
theorem r4_eq (K : List Item) (s : St) : den prog ann 63 (.code r4 :: K) s = mreg prog ann 63 none [] none [] [
    ⟨some 16, none, .v fun s => idxSl 1 (s.get 12) (s.get 14)⟩,
    ⟨some 17, none, .v fun s => loadF false 1 (s.get 16)⟩,
    ⟨some 7, none, .v fun s => some (s.get 17)⟩] K s := (den_reg hf _ K s).trans (by kernel_rfl)
theorem r5_eq (K : List Item) (s : St) : den prog ann 63 (.code r5 :: K) s = mreg prog ann 63 none [] none [] [
    ⟨some 18, none, .v fun s => some (s.get 0)⟩,
    ⟨some 19, none, .v fun s => some (.int .i64 0)⟩] K s := (den_reg hf _ K s).trans (by kernel_rfl)
theorem k2_eq (K : List Item) (t : List (Nat × AV)) (m : Mem) : den prog ann 63 (.code k2 :: K) ⟨t, 36, m⟩ = L2 (get t 0) (get t 1) (get t 5) (get t 7) (get t 12) (get t 13) (get t 14) (get t 18) (get t 19) m K := den_loop_enter hf (b := l2) (id := 6) (l := [0, 1, 5, 7, 12, 13, 14, 18, 19]) (by kernel_rfl) (by kernel_rfl) (by kernel_rfl) K _
theorem l2_eq (K : List Item) (t : List (Nat × AV)) (m : Mem) : den prog ann 63 (.inLoop l2 :: .inBlock 2 :: K) ⟨t, 36, m⟩ = L2 (get t 0) (get t 1) (get t 5) (get t 7) (get t 12) (get t 13) (get t 14) (get t 18) (get t 19) m K := den_loop_again hf (id := 6) (l := [0, 1, 5, 7, 12, 13, 14, 18, 19]) (by kernel_rfl) (by kernel_rfl) (.inBlock 2 :: K) _
theorem L2_eq (x0 x1 x5 x7 x12 x13 x14 x18 x19 : AV) (m : Mem) (K : List Item) : L2 x0 x1 x5 x7 x12 x13 x14 x18 x19 m K = den prog ann 63 (.code r6 :: .code i1 :: .code k3 :: .code r11 :: .inLoop l2 :: .inBlock 2 :: K) ⟨[(0, x0), (1, x1), (5, x5), (7, x7), (12, x12), (13, x13), (14, x14), (18, x18), (19, x19)], 36, m⟩ := den_flat hf (l := [r6, i1, k3, r11]) (by kernel_rfl) _ _
theorem r6_eq (K : List Item) (s : St) : den prog ann 63 (.code r6 :: K) s = mreg prog ann 63 (some [0, 1, 5, 7, 12, 13, 14, 18, 19]) [] none [] [
    ⟨some 20, none, .v fun s => binA prog .lss 3 (s.get 19) (s.get 18)⟩] K s := (den_reg hf _ K s).trans (by kernel_rfl)
theorem i1_eq (K : List Item) (s : St) : den prog ann 63 (.code i1 :: K) s = ifV prog ann 63 20 i1t i1e K s (s.get 20) := den_if hf (by kernel_rfl) K s
theorem i1t_eq (K : List Item) (s : St) : den prog ann 63 (.code i1t :: K) s = den prog ann 63 (K) s := den_flat hf (l := []) (by kernel_rfl) K s
theorem i1e_eq (K : List Item) (s : St) : den prog ann 63 (.code i1e :: K) s = den prog ann 63 (.code (.exit 2) :: K) s := den_flat hf (l := [(.exit 2)]) (by kernel_rfl) K s
theorem k3_eq (K : List Item) (s : St) : den prog ann 63 (.code k3 :: K) s = den prog ann 63 (.code r7 :: .code r8 :: .code r9 :: .code i2 :: .inBlock 3 :: K) s := den_blk hf (b := blkOf k3) (l := [r7, r8, r9, i2]) (by kernel_rfl) (by kernel_rfl) K s
theorem r7_eq (K : List Item) (s : St) : den prog ann 63 (.code r7 :: K) s = mreg prog ann 63 none [] none [] [
    ⟨some 21, none, .v fun s => some (s.get 19)⟩,
    ⟨some 8, none, .v fun s => some (s.get 21)⟩] K s := (den_reg hf _ K s).trans (by kernel_rfl)
theorem r8_eq (K : List Item) (s : St) : den prog ann 63 (.code r8 :: K) s = mreg prog ann 63 none [] none [] [
    ⟨some 22, none, .v fun s => some (s.get 0)⟩,
    ⟨some 23, none, .v fun s => some (s.get 1)⟩,
    ⟨some 24, none, .v fun s => some (s.get 7)⟩,
    ⟨some 25, none, .v fun s => some (s.get 8)⟩,
    ⟨some 26, none, .c 0 (fun s => (.fn 62 [] [])) fun s => [(s.get 22), (s.get 23), (s.get 24), (s.get 25)]⟩,
    ⟨some 9, none, .v fun s => some (s.get 26)⟩] K s := (den_reg hf _ K s).trans (by kernel_rfl)
theorem r9_eq (K : List Item) (s : St) : den prog ann 63 (.code r9 :: K) s = mreg prog ann 63 none [] none [] [
    ⟨some 27, none, .v fun s => some (s.get 9)⟩,
    ⟨some 28, none, .v fun s => some (s.get 5)⟩,
    ⟨some 29, none, .c 0 (fun s => (.fn 70 [] [])) fun s => [(s.get 27), (s.get 28)]⟩,
    ⟨some 30, none, .v fun s => binA prog .lss 3 (s.get 29) (.int .i64 0)⟩] K s := (den_reg hf _ K s).trans (by kernel_rfl)
theorem i2_eq (K : List Item) (s : St) : den prog ann 63 (.code i2 :: K) s = ifV prog ann 63 30 i2t i2e K s (s.get 30) := den_if hf (by kernel_rfl) K s
theorem i2t_eq (K : List Item) (s : St) : den prog ann 63 (.code i2t :: K) s = den prog ann 63 (.code r10 :: K) s := den_flat hf (l := [r10]) (by kernel_rfl) K s
theorem r10_eq (K : List Item) (s : St) : den prog ann 63 (.code r10 :: K) s = mreg prog ann 63 none [] none [] [
    ⟨some 31, none, .v fun s => some (s.get 9)⟩,
    ⟨some 5, none, .v fun s => some (s.get 31)⟩] K s := (den_reg hf _ K s).trans (by kernel_rfl)
theorem i2e_eq (K : List Item) (s : St) : den prog ann 63 (.code i2e :: K) s = den prog ann 63 (K) s := den_flat hf (l := []) (by kernel_rfl) K s
theorem r11_eq (K : List Item) (s : St) : den prog ann 63 (.code r11 :: K) s = mreg prog ann 63 (some [0, 1, 5, 7, 12, 13, 14, 18, 19]) [] none [] [
    ⟨some 32, none, .v fun s => binA prog .add 3 (s.get 19) (.int .i64 1)⟩,
    ⟨some 19, none, .v fun s => some (s.get 32)⟩] K s := (den_reg hf _ K s).trans (by kernel_rfl)
theorem r12_eq (K : List Item) (s : St) : den prog ann 63 (.code r12 :: K) s = mreg prog ann 63 (some [0, 1, 5, 12, 13, 14]) [] none [] [
    ⟨some 33, none, .v fun s => binA prog .add 3 (s.get 14) (.int .i64 1)⟩,
    ⟨some 14, none, .v fun s => some (s.get 33)⟩] K s := (den_reg hf _ K s).trans (by kernel_rfl)
theorem r13_eq (K : List Item) (s : St) : den prog ann 63 (.code r13 :: K) s = mreg prog ann 63 (some [5]) [] none [] [
    ⟨some 34, none, .v fun s => some (s.get 5)⟩,
    ⟨some 35, none, .c 0 (fun s => (.fn 64 [] [])) fun s => [(s.get 34)]⟩,
    ⟨some 4, none, .v fun s => some (s.get 35)⟩] K s := (den_reg hf _ K s).trans (by kernel_rfl)
theorem ret_eq (K : List Item) (s : St) : den prog ann 63 (.code .ret :: K) s = finM true [fun s => some (s.get 4)] s := (den_ret hf K s).trans (by kernel_rfl)
theorem nil_eq (s : St) : den prog ann 63 [] s = finM true [fun s => some (s.get 4)] s := (den_nil hf s).trans (by kernel_rfl)
theorem inBlock_eq (id : Nat) (K : List Item) (s : St) : den prog ann 63 (.inBlock id :: K) s = den prog ann 63 K s := den_inBlock hf id K s
theorem exit_eq (id : Nat) (K : List Item) (s : St) : den prog ann 63 (.code (.exit id) :: K) s = exitV prog ann 63 (exitTo id K) s := den_exitV hf id K s
theorem call_eq (v0 v1 : AV) (m : Mem) (h : closedL [v0, v1] = true) : denC prog ann 63 [v0, v1] m = (den prog ann 63 [.code b] ⟨[(0, v0), (1, v1)], 36, Mem.empty⟩).bind fun r => some (r.1, m) := (denC_pure hf (b := b) (by kernel_rfl) (by kernel_rfl) (by kernel_rfl) h m).trans (by kernel_rfl)
theorem pure_eq : (ann 63).pure = true := by kernel_rfl
attribute [simp] b_eq r0_eq r1_eq r2_eq k0_eq l0_eq r3_eq i0_eq i0t_eq i0e_eq k1_eq r4_eq r5_eq k2_eq l2_eq r6_eq i1_eq i1t_eq i1e_eq k3_eq r7_eq r8_eq r9_eq i2_eq i2t_eq r10_eq i2e_eq r11_eq r12_eq r13_eq ret_eq nil_eq inBlock_eq exit_eq pure_eq
end strap_canon

namespace slices_Compare_int
/-- slices.Compareintint -/
noncomputable def b : Code := (Try.f70.body).getD .skip
theorem hf : prog.funcs[70]? = some Try.f70 := by kernel_rfl
noncomputable def r0 : Code := findReg b 0
noncomputable def r1 : Code := findReg b 1
noncomputable def k0 : Code := findBlk b 0
noncomputable def l0 : Code := loopOf k0
noncomputable def L0 (x0 x1 x9 x10 x11 : AV) (m : Mem) (K : List Item) : Option Res := den prog ann 70 (.code l0 :: .inLoop l0 :: .inBlock 0 :: K) ⟨[(0, x0), (1, x1), (9, x9), (10, x10), (11, x11)], 36, m⟩
noncomputable def r2 : Code := findReg b 2
noncomputable def i0 : Code := findCond b 0
noncomputable def i0t : Code := thenOf i0
noncomputable def i0e : Code := elseOf i0
noncomputable def k1 : Code := findBlk b 1
noncomputable def r3 : Code := findReg b 3
noncomputable def r4 : Code := findReg b 4
noncomputable def i1 : Code := findCond b 1
noncomputable def i1t : Code := thenOf i1
noncomputable def i1e : Code := elseOf i1
noncomputable def r5 : Code := findReg b 5
noncomputable def r6 : Code := findReg b 6
noncomputable def r7 : Code := findReg b 7
noncomputable def r8 : Code := findReg b 8
noncomputable def i2 : Code := findCond b 2
noncomputable def i2t : Code := thenOf i2
noncomputable def i2e : Code := elseOf i2
noncomputable def r9 : Code := findReg b 9
noncomputable def r10 : Code := findReg b 10
noncomputable def r11 : Code := findReg b 11
noncomputable def i3 : Code := findCond b 3
noncomputable def i3t : Code := thenOf i3
noncomputable def i3e : Code := elseOf i3
noncomputable def r12 : Code := findReg b 12
noncomputable def r13 : Code := findReg b 13
theorem b_eq (K : List Item) (s : St) : den prog ann 70 (.code b :: K) s = den prog ann 70 (.code r0 :: .code r1 :: .code k0 :: .code r11 :: .code i3 :: .code r13 :: .code .ret :: K) s := den_flat hf (l := [r0, r1, k0, r11, i3, r13, .ret]) (by kernel_rfl) K s
theorem r0_eq (K : List Item) (s : St) : den prog ann 70 (.code r0 :: K) s = mreg prog ann 70 none [] none [] [
    ⟨some 4, none, .v fun s => some (.int .i64 0)⟩] K s := (den_reg hf _ K s).trans (by kernel_rfl)
theorem r1_eq (K : List Item) (s : St) : den prog ann 70 (.code r1 :: K) s = mreg prog ann 70 none [] none [] [
    ⟨some 9, none, .v fun s => some (s.get 0)⟩,
    ⟨some 10, none, .v fun s => lenSl (s.get 9)⟩,
    ⟨some 11, none, .v fun s => some (.int .i64 0)⟩] K s := (den_reg hf _ K s).trans (by kernel_rfl)
theorem k0_eq (K : List Item) (t : List (Nat × AV)) (m : Mem) : den prog ann 70 (.code k0 :: K) ⟨t, 36, m⟩ = L0 (get t 0) (get t 1) (get t 9) (get t 10) (get t 11) m K := den_loop_enter hf (b := l0) (id := 2) (l := [0, 1, 9, 10, 11]) (by kernel_rfl) (by kernel_rfl) (by kernel_rfl) K _
theorem l0_eq (K : List Item) (t : List (Nat × AV)) (m : Mem) : den prog ann 70 (.inLoop l0 :: .inBlock 0 :: K) ⟨t, 36, m⟩ = L0 (get t 0) (get t 1) (get t 9) (get t 10) (get t 11) m K := den_loop_again hf (id := 2) (l := [0, 1, 9, 10, 11]) (by kernel_rfl) (by kernel_rfl) (.inBlock 0 :: K) _
theorem L0_eq (x0 x1 x9 x10 x11 : AV) (m : Mem) (K : List Item) : L0 x0 x1 x9 x10 x11 m K = den prog ann 70 (.code r2 :: .code i0 :: .code k1 :: .code r10 :: .inLoop l0 :: .inBlock 0 :: K) ⟨[(0, x0), (1, x1), (9, x9), (10, x10), (11, x11)], 36, m⟩ := den_flat hf (l := [r2, i0, k1, r10]) (by kernel_rfl) _ _
theorem r2_eq (K : List Item) (s : St) : den prog ann 70 (.code r2 :: K) s = mreg prog ann 70 (some [0, 1, 9, 10, 11]) [] none [] [
    ⟨some 12, none, .v fun s => binA prog .lss 3 (s.get 11) (s.get 10)⟩] K s := (den_reg hf _ K s).trans (by kernel_rfl)
theorem i0_eq (K : List Item) (s : St) : den prog ann 70 (.code i0 :: K) s = ifV prog ann 70 12 i0t i0e K s (s.get 12) := den_if hf (by kernel_rfl) K s
theorem i0t_eq (K : List Item) (s : St) : den prog ann 70 (.code i0t :: K) s = den prog ann 70 (K) s := den_flat hf (l := []) (by kernel_rfl) K s
theorem i0e_eq (K : List Item) (s : St) : den prog ann 70 (.code i0e :: K) s = den prog ann 70 (.code (.exit 0) :: K) s := den_flat hf (l := [(.exit 0)]) (by kernel_rfl) K s
theorem k1_eq (K : List Item) (s : St) : den prog ann 70 (.code k1 :: K) s = den prog ann 70 (.code r3 :: .code r4 :: .code i1 :: .code r6 :: .code r7 :: .code r8 :: .code i2 :: .inBlock 1 :: K) s := den_blk hf (b := blkOf k1) (l := [r3, r4, i1, r6, r7, r8, i2]) (by kernel_rfl) (by kernel_rfl) K s
theorem r3_eq (K : List Item) (s : St) : den prog ann 70 (.code r3 :: K) s = mreg prog ann 70 none [] none [] [
    ⟨some 13, none, .v fun s => some (s.get 11)⟩,
    ⟨some 14, none, .v fun s => idxSl 1 (s.get 9) (s.get 11)⟩,
    ⟨some 15, none, .v fun s => loadF false 1 (s.get 14)⟩,
    ⟨some 5, none, .v fun s => some (s.get 13)⟩,
    ⟨some 6, none, .v fun s => some (s.get 15)⟩] K s := (den_reg hf _ K s).trans (by kernel_rfl)
theorem r4_eq (K : List Item) (s : St) : den prog ann 70 (.code r4 :: K) s = mreg prog ann 70 none [] none [] [
    ⟨some 16, none, .v fun s => some (s.get 5)⟩,
    ⟨some 17, none, .v fun s => some (s.get 1)⟩,
    ⟨some 18, none, .v fun s => lenSl (s.get 17)⟩,
    ⟨some 19, none, .v fun s => binA prog .geq 3 (s.get 16) (s.get 18)⟩] K s := (den_reg hf _ K s).trans (by kernel_rfl)
theorem i1_eq (K : List Item) (s : St) : den prog ann 70 (.code i1 :: K) s = ifV prog ann 70 19 i1t i1e K s (s.get 19) := den_if hf (by kernel_rfl) K s
theorem i1t_eq (K : List Item) (s : St) : den prog ann 70 (.code i1t :: K) s = den prog ann 70 (.code r5 :: .code .ret :: K) s := den_flat hf (l := [r5, .ret]) (by kernel_rfl) K s
theorem r5_eq (K : List Item) (s : St) : den prog ann 70 (.code r5 :: K) s = mreg prog ann 70 none [] none [] [
    ⟨some 4, none, .v fun s => some (.int .i64 1)⟩] K s := (den_reg hf _ K s).trans (by kernel_rfl)
theorem i1e_eq (K : List Item) (s : St) : den prog ann 70 (.code i1e :: K) s = den prog ann 70 (K) s := den_flat hf (l := []) (by kernel_rfl) K s
theorem r6_eq (K : List Item) (s : St) : den prog ann 70 (.code r6 :: K) s = mreg prog ann 70 none [] none [] [
    ⟨some 20, none, .v fun s => some (s.get 1)⟩,
    ⟨some 21, none, .v fun s => some (s.get 5)⟩,
    ⟨some 22, none, .v fun s => idxSl 1 (s.get 20) (s.get 21)⟩,
    ⟨some 23, none, .v fun s => loadF false 1 (s.get 22)⟩,
    ⟨some 7, none, .v fun s => some (s.get 23)⟩] K s := (den_reg hf _ K s).trans (by kernel_rfl)
theorem r7_eq (K : List Item) (s : St) : den prog ann 70 (.code r7 :: K) s = mreg prog ann 70 none [] none [] [
    ⟨some 24, none, .v fun s => some (s.get 6)⟩,
    ⟨some 25, none, .v fun s => some (s.get 7)⟩,
    ⟨some 26, none, .c 0 (fun s => (.fn 73 [] [])) fun s => [(s.get 24), (s.get 25)]⟩,
    ⟨some 8, none, .v fun s => some (s.get 26)⟩] K s := (den_reg hf _ K s).trans (by kernel_rfl)
theorem r8_eq (K : List Item) (s : St) : den prog ann 70 (.code r8 :: K) s = mreg prog ann 70 none [] none [] [
    ⟨some 27, none, .v fun s => some (s.get 8)⟩,
    ⟨some 28, none, .v fun s => binA prog .neq 3 (s.get 27) (.int .i64 0)⟩] K s := (den_reg hf _ K s).trans (by kernel_rfl)
theorem i2_eq (K : List Item) (s : St) : den prog ann 70 (.code i2 :: K) s = ifV prog ann 70 28 i2t i2e K s (s.get 28) := den_if hf (by kernel_rfl) K s
theorem i2t_eq (K : List Item) (s : St) : den prog ann 70 (.code i2t :: K) s = den prog ann 70 (.code r9 :: .code .ret :: K) s := den_flat hf (l := [r9, .ret]) (by kernel_rfl) K s
theorem r9_eq (K : List Item) (s : St) : den prog ann 70 (.code r9 :: K) s = mreg prog ann 70 none [] none [] [
    ⟨some 29, none, .v fun s => some (s.get 8)⟩,
    ⟨some 4, none, .v fun s => some (s.get 29)⟩] K s := (den_reg hf _ K s).trans (by kernel_rfl)
theorem i2e_eq (K : List Item) (s : St) : den prog ann 70 (.code i2e :: K) s = den prog ann 70 (K) s := den_flat hf (l := []) (by kernel_rfl) K s
theorem r10_eq (K : List Item) (s : St) : den prog ann 70 (.code r10 :: K) s = mreg prog ann 70 (some [0, 1, 9, 10, 11]) [] none [] [
    ⟨some 30, none, .v fun s => binA prog .add 3 (s.get 11) (.int .i64 1)⟩,
    ⟨some 11, none, .v fun s => some (s.get 30)⟩] K s := (den_reg hf _ K s).trans (by kernel_rfl)
theorem r11_eq (K : List Item) (s : St) : den prog ann 70 (.code r11 :: K) s = mreg prog ann 70 (some [0, 1]) [] none [] [
    ⟨some 31, none, .v fun s => some (s.get 0)⟩,
    ⟨some 32, none, .v fun s => lenSl (s.get 31)⟩,
    ⟨some 33, none, .v fun s => some (s.get 1)⟩,
    ⟨some 34, none, .v fun s => lenSl (s.get 33)⟩,
    ⟨some 35, none, .v fun s => binA prog .lss 3 (s.get 32) (s.get 34)⟩] K s := (den_reg hf _ K s).trans (by kernel_rfl)
theorem i3_eq (K : List Item) (s : St) : den prog ann 70 (.code i3 :: K) s = ifV prog ann 70 35 i3t i3e K s (s.get 35) := den_if hf (by kernel_rfl) K s
theorem i3t_eq (K : List Item) (s : St) : den prog ann 70 (.code i3t :: K) s = den prog ann 70 (.code r12 :: .code .ret :: K) s := den_flat hf (l := [r12, .ret]) (by kernel_rfl) K s
theorem r12_eq (K : List Item) (s : St) : den prog ann 70 (.code r12 :: K) s = mreg prog ann 70 none [] none [] [
    ⟨some 4, none, .v fun s => some (.int .i64 (-1))⟩] K s := (den_reg hf _ K s).trans (by kernel_rfl)
theorem i3e_eq (K : List Item) (s : St) : den prog ann 70 (.code i3e :: K) s = den prog ann 70 (K) s := den_flat hf (l := []) (by kernel_rfl) K s
theorem r13_eq (K : List Item) (s : St) : den prog ann 70 (.code r13 :: K) s = mreg prog ann 70 none [] none [] [
    ⟨some 4, none, .v fun s => some (.int .i64 0)⟩] K s := (den_reg hf _ K s).trans (by kernel_rfl)
theorem ret_eq (K : List Item) (s : St) : den prog ann 70 (.code .ret :: K) s = finM true [fun s => some (s.get 4)] s := (den_ret hf K s).trans (by kernel_rfl)
theorem nil_eq (s : St) : den prog ann 70 [] s = finM true [fun s => some (s.get 4)] s := (den_nil hf s).trans (by kernel_rfl)
theorem inBlock_eq (id : Nat) (K : List Item) (s : St) : den prog ann 70 (.inBlock id :: K) s = den prog ann 70 K s := den_inBlock hf id K s
theorem exit_eq (id : Nat) (K : List Item) (s : St) : den prog ann 70 (.code (.exit id) :: K) s = exitV prog ann 70 (exitTo id K) s := den_exitV hf id K s
theorem call_eq (v0 v1 : AV) (m : Mem) (h : closedL [v0, v1] = true) : denC prog ann 70 [v0, v1] m = (den prog ann 70 [.code b] ⟨[(0, v0), (1, v1)], 36, Mem.empty⟩).bind fun r => some (r.1, m) := (denC_pure hf (b := b) (by kernel_rfl) (by kernel_rfl) (by kernel_rfl) h m).trans (by kernel_rfl)
theorem pure_eq : (ann 70).pure = true := by kernel_rfl
attribute [simp] b_eq r0_eq r1_eq k0_eq l0_eq r2_eq i0_eq i0t_eq i0e_eq k1_eq r3_eq r4_eq i1_eq i1t_eq r5_eq i1e_eq r6_eq r7_eq r8_eq i2_eq i2t_eq r9_eq i2e_eq r10_eq r11_eq i3_eq i3t_eq r12_eq i3e_eq r13_eq ret_eq nil_eq inBlock_eq exit_eq pure_eq
end slices_Compare_int

namespace cmp_Compare_int
/-- cmp.Compareint -/
noncomputable def b : Code := (Try.f73.body).getD .skip
theorem hf : prog.funcs[73]? = some Try.f73 := by kernel_rfl
noncomputable def r0 : Code := findReg b 0
noncomputable def r1 : Code := findReg b 1
noncomputable def r2 : Code := findReg b 2
noncomputable def r3 : Code := findReg b 3
noncomputable def i0 : Code := findCond b 0
noncomputable def i0t : Code := thenOf i0
noncomputable def i0e : Code := elseOf i0
noncomputable def r4 : Code := findReg b 4
noncomputable def i1 : Code := findCond b 1
noncomputable def i1t : Code := thenOf i1
noncomputable def i1e : Code := elseOf i1
noncomputable def r5 : Code := findReg b 5
noncomputable def r6 : Code := findReg b 6
noncomputable def r7 : Code := findReg b 7
noncomputable def i2 : Code := findCond b 2
noncomputable def i2t : Code := thenOf i2
noncomputable def i2e : Code := elseOf i2
noncomputable def r8 : Code := findReg b 8
noncomputable def r9 : Code := findReg b 9
noncomputable def i3 : Code := findCond b 3
noncomputable def i3t : Code := thenOf i3
noncomputable def i3e : Code := elseOf i3
noncomputable def r10 : Code := findReg b 10
noncomputable def r11 : Code := findReg b 11
noncomputable def i4 : Code := findCond b 4
noncomputable def i4t : Code := thenOf i4
noncomputable def i4e : Code := elseOf i4
noncomputable def r12 : Code := findReg b 12
noncomputable def r13 : Code := findReg b 13
theorem b_eq (K : List Item) (s : St) : den prog ann 73 (.code b :: K) s = den prog ann 73 (.code r0 :: .code r1 :: .code r2 :: .code r3 :: .code i0 :: .code r7 :: .code i2 :: .code r9 :: .code i3 :: .code r11 :: .code i4 :: .code r13 :: .code .ret :: K) s := den_flat hf (l := [r0, r1, r2, r3, i0, r7, i2, r9, i3, r11, i4, r13, .ret]) (by kernel_rfl) K s
theorem r0_eq (K : List Item) (s : St) : den prog ann 73 (.code r0 :: K) s = mreg prog ann 73 none [] none [] [
    ⟨some 4, none, .v fun s => some (.int .i64 0)⟩] K s := (den_reg hf _ K s).trans (by kernel_rfl)
theorem r1_eq (K : List Item) (s : St) : den prog ann 73 (.code r1 :: K) s = mreg prog ann 73 none [] none [] [
    ⟨some 7, none, .v fun s => some (s.get 0)⟩,
    ⟨some 8, none, .c 0 (fun s => (.fn 85 [] [])) fun s => [(s.get 7)]⟩,
    ⟨some 5, none, .v fun s => some (s.get 8)⟩] K s := (den_reg hf _ K s).trans (by kernel_rfl)
theorem r2_eq (K : List Item) (s : St) : den prog ann 73 (.code r2 :: K) s = mreg prog ann 73 none [] none [] [
    ⟨some 9, none, .v fun s => some (s.get 1)⟩,
    ⟨some 10, none, .c 0 (fun s => (.fn 85 [] [])) fun s => [(s.get 9)]⟩,
    ⟨some 6, none, .v fun s => some (s.get 10)⟩] K s := (den_reg hf _ K s).trans (by kernel_rfl)
theorem r3_eq (K : List Item) (s : St) : den prog ann 73 (.code r3 :: K) s = mreg prog ann 73 none [] none [] [
    ⟨some 11, none, .v fun s => some (s.get 5)⟩] K s := (den_reg hf _ K s).trans (by kernel_rfl)
theorem i0_eq (K : List Item) (s : St) : den prog ann 73 (.code i0 :: K) s = ifV prog ann 73 11 i0t i0e K s (s.get 11) := den_if hf (by kernel_rfl) K s
theorem i0t_eq (K : List Item) (s : St) : den prog ann 73 (.code i0t :: K) s = den prog ann 73 (.code r4 :: .code i1 :: .code r6 :: .code .ret :: K) s := den_flat hf (l := [r4, i1, r6, .ret]) (by kernel_rfl) K s
theorem r4_eq (K : List Item) (s : St) : den prog ann 73 (.code r4 :: K) s = mreg prog ann 73 none [] none [] [
    ⟨some 12, none, .v fun s => some (s.get 6)⟩] K s := (den_reg hf _ K s).trans (by kernel_rfl)
theorem i1_eq (K : List Item) (s : St) : den prog ann 73 (.code i1 :: K) s = ifV prog ann 73 12 i1t i1e K s (s.get 12) := den_if hf (by kernel_rfl) K s
theorem i1t_eq (K : List Item) (s : St) : den prog ann 73 (.code i1t :: K) s = den prog ann 73 (.code r5 :: .code .ret :: K) s := den_flat hf (l := [r5, .ret]) (by kernel_rfl) K s
theorem r5_eq (K : List Item) (s : St) : den prog ann 73 (.code r5 :: K) s = mreg prog ann 73 none [] none [] [
    ⟨some 4, none, .v fun s => some (.int .i64 0)⟩] K s := (den_reg hf _ K s).trans (by kernel_rfl)
theorem i1e_eq (K : List Item) (s : St) : den prog ann 73 (.code i1e :: K) s = den prog ann 73 (K) s := den_flat hf (l := []) (by kernel_rfl) K s
theorem r6_eq (K : List Item) (s : St) : den prog ann 73 (.code r6 :: K) s = mreg prog ann 73 none [] none [] [
    ⟨some 4, none, .v fun s => some (.int .i64 (-1))⟩] K s := (den_reg hf _ K s).trans (by kernel_rfl)
theorem i0e_eq (K : List Item) (s : St) : den prog ann 73 (.code i0e :: K) s = den prog ann 73 (K) s := den_flat hf (l := []) (by kernel_rfl) K s
theorem r7_eq (K : List Item) (s : St) : den prog ann 73 (.code r7 :: K) s = mreg prog ann 73 none [] none [] [
    ⟨some 13, none, .v fun s => some (s.get 6)⟩] K s := (den_reg hf _ K s).trans (by kernel_rfl)
theorem i2_eq (K : List Item) (s : St) : den prog ann 73 (.code i2 :: K) s = ifV prog ann 73 13 i2t i2e K s (s.get 13) := den_if hf (by kernel_rfl) K s
theorem i2t_eq (K : List Item) (s : St) : den prog ann 73 (.code i2t :: K) s = den prog ann 73 (.code r8 :: .code .ret :: K) s := den_flat hf (l := [r8, .ret]) (by kernel_rfl) K s
theorem r8_eq (K : List Item) (s : St) : den prog ann 73 (.code r8 :: K) s = mreg prog ann 73 none [] none [] [
    ⟨some 4, none, .v fun s => some (.int .i64 1)⟩] K s := (den_reg hf _ K s).trans (by kernel_rfl)
theorem i2e_eq (K : List Item) (s : St) : den prog ann 73 (.code i2e :: K) s = den prog ann 73 (K) s := den_flat hf (l := []) (by kernel_rfl) K s
theorem r9_eq (K : List Item) (s : St) : den prog ann 73 (.code r9 :: K) s = mreg prog ann 73 none [] none [] [
    ⟨some 14, none, .v fun s => some (s.get 0)⟩,
    ⟨some 15, none, .v fun s => some (s.get 1)⟩,
    ⟨some 16, none, .v fun s => binA prog .lss 3 (s.get 14) (s.get 15)⟩] K s := (den_reg hf _ K s).trans (by kernel_rfl)
theorem i3_eq (K : List Item) (s : St) : den prog ann 73 (.code i3 :: K) s = ifV prog ann 73 16 i3t i3e K s (s.get 16) := den_if hf (by kernel_rfl) K s
theorem i3t_eq (K : List Item) (s : St) : den prog ann 73 (.code i3t :: K) s = den prog ann 73 (.code r10 :: .code .ret :: K) s := den_flat hf (l := [r10, .ret]) (by kernel_rfl) K s
theorem r10_eq (K : List Item) (s : St) : den prog ann 73 (.code r10 :: K) s = mreg prog ann 73 none [] none [] [
    ⟨some 4, none, .v fun s => some (.int .i64 (-1))⟩] K s := (den_reg hf _ K s).trans (by kernel_rfl)
theorem i3e_eq (K : List Item) (s : St) : den prog ann 73 (.code i3e :: K) s = den prog ann 73 (K) s := den_flat hf (l := []) (by kernel_rfl) K s
theorem r11_eq (K : List Item) (s : St) : den prog ann 73 (.code r11 :: K) s = mreg prog ann 73 none [] none [] [
    ⟨some 17, none, .v fun s => some (s.get 0)⟩,
    ⟨some 18, none, .v fun s => some (s.get 1)⟩,
    ⟨some 19, none, .v fun s => binA prog .gtr 3 (s.get 17) (s.get 18)⟩] K s := (den_reg hf _ K s).trans (by kernel_rfl)
theorem i4_eq (K : List Item) (s : St) : den prog ann 73 (.code i4 :: K) s = ifV prog ann 73 19 i4t i4e K s (s.get 19) := den_if hf (by kernel_rfl) K s
theorem i4t_eq (K : List Item) (s : St) : den prog ann 73 (.code i4t :: K) s = den prog ann 73 (.code r12 :: .code .ret :: K) s := den_flat hf (l := [r12, .ret]) (by kernel_rfl) K s
theorem r12_eq (K : List Item) (s : St) : den prog ann 73 (.code r12 :: K) s = mreg prog ann 73 none [] none [] [
    ⟨some 4, none, .v fun s => some (.int .i64 1)⟩] K s := (den_reg hf _ K s).trans (by kernel_rfl)
theorem i4e_eq (K : List Item) (s : St) : den prog ann 73 (.code i4e :: K) s = den prog ann 73 (K) s := den_flat hf (l := []) (by kernel_rfl) K s
theorem r13_eq (K : List Item) (s : St) : den prog ann 73 (.code r13 :: K) s = mreg prog ann 73 none [] none [] [
    ⟨some 4, none, .v fun s => some (.int .i64 0)⟩] K s := (den_reg hf _ K s).trans (by kernel_rfl)
theorem ret_eq (K : List Item) (s : St) : den prog ann 73 (.code .ret :: K) s = finM true [fun s => some (s.get 4)] s := (den_ret hf K s).trans (by kernel_rfl)
theorem nil_eq (s : St) : den prog ann 73 [] s = finM true [fun s => some (s.get 4)] s := (den_nil hf s).trans (by kernel_rfl)
theorem inBlock_eq (id : Nat) (K : List Item) (s : St) : den prog ann 73 (.inBlock id :: K) s = den prog ann 73 K s := den_inBlock hf id K s
theorem exit_eq (id : Nat) (K : List Item) (s : St) : den prog ann 73 (.code (.exit id) :: K) s = exitV prog ann 73 (exitTo id K) s := den_exitV hf id K s
theorem call_eq (v0 v1 : AV) (m : Mem) (h : closedL [v0, v1] = true) : denC prog ann 73 [v0, v1] m = (den prog ann 73 [.code b] ⟨[(0, v0), (1, v1)], 20, Mem.empty⟩).bind fun r => some (r.1, m) := (denC_pure hf (b := b) (by kernel_rfl) (by kernel_rfl) (by kernel_rfl) h m).trans (by kernel_rfl)
theorem pure_eq : (ann 73).pure = true := by kernel_rfl
attribute [simp] b_eq r0_eq r1_eq r2_eq r3_eq i0_eq i0t_eq r4_eq i1_eq i1t_eq r5_eq i1e_eq r6_eq i0e_eq r7_eq i2_eq i2t_eq r8_eq i2e_eq r9_eq i3_eq i3t_eq r10_eq i3e_eq r11_eq i4_eq i4t_eq r12_eq i4e_eq r13_eq ret_eq nil_eq inBlock_eq exit_eq pure_eq
end cmp_Compare_int


end Go.Proofs.Ytpghadmpegncgaa

/-
  STRAPS (20): a set multiplied and moved, sorted by the library. Conditions: none.
-/
namespace Go.Proofs.Ytpghadmpegncgaa
open Go.AM
open Go.Proofs.Try (prog)
set_option linter.all false
set_option maxRecDepth 100000
set_option maxHeartbeats 4000000

def mvF (v t s x : Int) : Int := (x * t + s).tmod v
def fillF (l : List Int) (f : Int → Int) (k i : Nat) (c : List Int) : List Int := (List.range' i k).foldl (fun c i => c.set i (f (nth l i))) c
theorem fillF_succ (l : List Int) (f : Int → Int) (k i : Nat) (c : List Int) : fillF l f (k + 1) i c = fillF l f k (i + 1) (c.set i (f (nth l i))) := by simp [fillF, List.range'_succ]
theorem fillF_len (l : List Int) (f : Int → Int) : ∀ (k i : Nat) (c : List Int), (fillF l f k i c).length = c.length
  | 0, _, _ => rfl
  | k + 1, i, c => by rw [fillF_succ, fillF_len]; simp
theorem fillF_nth (l : List Int) (f : Int → Int) : ∀ (k i : Nat) (c : List Int) (g : Nat), i + k ≤ c.length → nth (fillF l f k i c) g = if i ≤ g ∧ g < i + k then f (nth l g) else nth c g
  | 0, i, c, g, _ => by rw [if_neg (by omega)]; rfl
  | k + 1, i, c, g, h => by
    rw [fillF_succ, fillF_nth l f k (i + 1) _ g (by simp; omega), nth_set]
    by_cases e : i = g
    · subst e
      rw [if_neg (by omega), if_pos (by omega), if_pos (by omega)]
    · by_cases q : i + 1 ≤ g ∧ g < i + 1 + k
      · rw [if_pos q, if_pos (by omega)]
      · rw [if_neg q, if_neg (fun h => e h.1), if_neg (by omega)]
theorem fillF_all (l : List Int) (f : Int → Int) (c : List Int) (h : c.length = l.length) : fillF l f l.length 0 c = l.map f := by
  refine ext_nth (by rw [fillF_len, List.length_map, h]) fun g => ?_
  rw [fillF_nth l f _ _ _ _ (by omega)]
  by_cases q : g < l.length
  · rw [if_pos (by omega)]
    simp [nth, List.getD, q]
  · rw [if_neg (by omega)]
    simp [nth, List.getD, List.getElem?_eq_none (show c.length ≤ g by omega), List.getElem?_eq_none (show (l.map f).length ≤ g by simp; omega)]
theorem mv_fill {w : AV} {v t s : Int} {l : List Int} (hv : IsInts w l) (hl : l.length ≤ 31) (h0 : 0 < l.length) (hr : ∀ i, i < l.length → 0 ≤ nth l i ∧ nth l i < 31) (hv2 : 1 ≤ v ∧ v ≤ 31) (ht : 0 ≤ t ∧ t ≤ 31) (hs : 0 ≤ s ∧ s ≤ 31) (oid : Nat) : ∀ (k i : Nat) (c : List Int) (m : Mem), i + k = l.length → c.length = l.length → m.h oid = some (.cells (ints c)) →
    strap_moved.L2 (.int .i64 v) (.int .i64 t) (.int .i64 s) (.sl oid 1 0 l.length l.length) w (.int .i64 l.length) (.int .i64 i) m [.code strap_moved.r11, .code strap_moved.r12, .code .ret] = some (.fsl false l.length (ints (sortI (fillF l (mvF v t s) k i c))), Mem.empty) := by
  intro k
  induction k with
  | zero =>
    intro i c m h1 hc hm
    have e : i = l.length := by omega
    subst e
    have so := sort_spec oid c (by omega) (by omega) m hm
    rw [hc] at so
    have hsl := sortI_len c
    have htk : (sortI c).take l.length = sortI c := List.take_of_length_le (by omega)
    rw [strap_moved.L2_eq]
    simp [so, sort_pure, Mem.set, fillF, hsl, hc, htk]
    done
  | succ k ih =>
    intro i c m h1 hc hm
    have hi : i < l.length := by omega
    have hw : IntKind.wrap .i64 ((i : Int) + 1) = (i : Int) + 1 := wrap_id (by omega) (by omega)
    have hx := hr i hi
    have p0 : 0 ≤ nth l i * t := Int.mul_nonneg (by omega) (by omega)
    have p1 : nth l i * t ≤ 31 * 31 := Int.mul_le_mul (by omega) (by omega) (by omega) (by omega)
    have hw1 : IntKind.wrap .i64 (nth l i * t) = nth l i * t := wrap_id (by omega) (by omega)
    have hw2 : IntKind.wrap .i64 (nth l i * t + s) = nth l i * t + s := wrap_id (by omega) (by omega)
    have hv0 : ¬ v = 0 := by omega
    have hst := ih (i + 1) (c.set i (mvF v t s (nth l i))) ⟨upd m.h oid (some (.cells (ints (c.set i (mvF v t s (nth l i)))))), m.nx⟩ (by omega) (by simp [hc]) (by simp)
    simp only [Int.natCast_add, Int.cast_ofNat_Int] at hst
    rw [fillF_succ, ← hst, strap_moved.L2_eq]
    simp [hi, hv.idx hi, ints_head hi, hw1, hw2, hv0, hc, hm, hw, mvF]
    done
def mvL (v t s : Int) (l : List Int) : List Int := sortI (l.map (mvF v t s))
theorem mv_zero {w : AV} {v t s : Int} {l : List Int} (hv : IsInts w l) (hl : l.length ≤ 31) (h0 : 0 < l.length) (hr : ∀ i, i < l.length → 0 ≤ nth l i ∧ nth l i < 31) (hv2 : 1 ≤ v ∧ v ≤ 31) (ht : 0 ≤ t ∧ t ≤ 31) (hs : 0 ≤ s ∧ s ≤ 31) : ∀ (k i oid : Nat) (m : Mem), i + k = l.length → OutI m oid (List.replicate i 0) →
    strap_moved.L0 (.int .i64 v) w (.int .i64 t) (.int .i64 s) (outI oid (List.replicate i 0)) (.int .i64 l.length) (.int .i64 i) m [.code strap_moved.r6, .code strap_moved.k2, .code strap_moved.r11, .code strap_moved.r12, .code .ret] = some (.fsl false l.length (ints (mvL v t s l)), Mem.empty) := by
  intro k
  induction k with
  | zero =>
    intro i oid m h1 ho
    have e : i = l.length := by omega
    subst e
    have hne : List.replicate l.length (0 : Int) ≠ [] := by simp; intro e; rw [e] at h0; simp at h0
    obtain ⟨hm, _⟩ := ho hne
    have lp := mv_fill hv hl h0 hr hv2 ht hs oid l.length 0 (List.replicate l.length 0) m (by omega) (by simp) hm
    simp only [Int.ofNat_zero, Int.cast_ofNat_Int] at lp
    rw [fillF_all l _ _ (by simp)] at lp
    rw [outI, if_neg hne, List.length_replicate, strap_moved.L0_eq]
    simp [hv.len, lp, mvL]
    done
  | succ k ih =>
    intro i oid m h1 ho
    have hi : i < l.length := by omega
    have hw : IntKind.wrap .i64 ((i : Int) + 1) = (i : Int) + 1 := wrap_id (by omega) (by omega)
    obtain ⟨oid', m', g1, g2, _⟩ := outI_appT ho (by simp; omega) 0
    have er : List.replicate i (0 : Int) ++ [0] = List.replicate (i + 1) 0 := by rw [List.replicate_succ']
    rw [er] at g1 g2
    have hst := ih (i + 1) oid' m' (by omega) g2
    simp only [Int.natCast_add, Int.cast_ofNat_Int] at hst
    rw [strap_moved.L0_eq]
    simp [hi, g1, hw, hst]
    done
theorem moved_spec {w : AV} {v t s : Int} {l : List Int} (hv : IsInts w l) (hl : l.length ≤ 31) (h0 : 0 < l.length) (hr : ∀ i, i < l.length → 0 ≤ nth l i ∧ nth l i < 31) (hv2 : 1 ≤ v ∧ v ≤ 31) (ht : 0 ≤ t ∧ t ≤ 31) (hs : 0 ≤ s ∧ s ≤ 31) (m : Mem) :
    denC prog ann 62 [.int .i64 v, w, .int .i64 t, .int .i64 s] m = some (.fsl false l.length (ints (mvL v t s l)), m) := by
  have hcl : closedL [.int .i64 v, w, .int .i64 t, .int .i64 s] = true := by simp [hv.closed]
  have lp := mv_zero hv hl h0 hr hv2 ht hs l.length 0 0 Mem.empty (by omega) (fun h => absurd rfl h)
  rw [show outI 0 (List.replicate 0 0) = .nils from rfl] at lp
  simp only [Int.ofNat_zero, Int.cast_ofNat_Int] at lp
  rw [strap_moved.call_eq _ _ _ _ _ hcl]
  simp [hv.len, lp]
  done
end Go.Proofs.Ytpghadmpegncgaa
