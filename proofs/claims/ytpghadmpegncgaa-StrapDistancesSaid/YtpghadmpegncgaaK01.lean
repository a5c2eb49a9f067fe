/-
  BODIES OF FUNCTIONS OF THE PROGRAM AS SMALL OPERATIONS (written by gen.py; checked by the kernel against the program). Conditions: none.
-/
import Derived.Test.YtpghadmpegncgaaKAmH
import Derived.Test.YtpghadmpegncgaaK00
set_option linter.all false
namespace Go.Proofs.Ytpghadmpegncgaa
open Go.AM
open Go.Proofs.Try (prog)
set_option maxRecDepth 100000
set_option linter.all false

namespace r04_Strap
/-- pommel/pommelref04.Strap -/
noncomputable def b : Code := (Try.f25.body).getD .skip
theorem hf : prog.funcs[25]? = some Try.f25 := by kernel_rfl
noncomputable def r0 : Code := findReg b 0
noncomputable def r1 : Code := findReg b 1
noncomputable def i0 : Code := findCond b 0
noncomputable def i0t : Code := thenOf i0
noncomputable def i0e : Code := elseOf i0
noncomputable def r2 : Code := findReg b 2
noncomputable def r3 : Code := findReg b 3
noncomputable def k0 : Code := findBlk b 0
noncomputable def l0 : Code := loopOf k0
noncomputable def L0 (x0 x3 : AV) (m : Mem) (K : List Item) : Option Res := den prog ann 25 (.code l0 :: .inLoop l0 :: .inBlock 0 :: K) ⟨[(0, x0), (3, x3)], 48, m⟩
noncomputable def r4 : Code := findReg b 4
noncomputable def i1 : Code := findCond b 1
noncomputable def i1t : Code := thenOf i1
noncomputable def i1e : Code := elseOf i1
noncomputable def k1 : Code := findBlk b 1
noncomputable def r6 : Code := findReg b 6
noncomputable def i2 : Code := findCond b 2
noncomputable def i2t : Code := thenOf i2
noncomputable def i2e : Code := elseOf i2
noncomputable def r7 : Code := findReg b 7
noncomputable def r5 : Code := findReg b 5
noncomputable def r8 : Code := findReg b 8
noncomputable def i3 : Code := findCond b 3
noncomputable def i3t : Code := thenOf i3
noncomputable def i3e : Code := elseOf i3
noncomputable def r9 : Code := findReg b 9
noncomputable def r10 : Code := findReg b 10
theorem b_eq (K : List Item) (s : St) : den prog ann 25 (.code b :: K) s = den prog ann 25 (.code r0 :: .code r1 :: .code i0 :: .code r3 :: .code k0 :: .code r8 :: .code i3 :: .code r10 :: .code .ret :: K) s := den_flat hf (l := [r0, r1, i0, r3, k0, r8, i3, r10, .ret]) (by kernel_rfl) K s
theorem r0_eq (K : List Item) (s : St) : den prog ann 25 (.code r0 :: K) s = mreg prog ann 25 none [] none [] [
    ⟨some 2, none, .v fun s => some (.int .i64 0)⟩] K s := (den_reg hf _ K s).trans (by kernel_rfl)
theorem r1_eq (K : List Item) (s : St) : den prog ann 25 (.code r1 :: K) s = mreg prog ann 25 none [] none [] [
    ⟨some 4, none, .v fun s => some (s.get 0)⟩,
    ⟨some 5, none, .v fun s => lenSl (s.get 4)⟩,
    ⟨some 6, none, .v fun s => binA prog .gtr 3 (s.get 5) (.int .i64 40)⟩] K s := (den_reg hf _ K s).trans (by kernel_rfl)
theorem i0_eq (K : List Item) (s : St) : den prog ann 25 (.code i0 :: K) s = ifV prog ann 25 6 i0t i0e K s (s.get 6) := den_if hf (by kernel_rfl) K s
theorem i0t_eq (K : List Item) (s : St) : den prog ann 25 (.code i0t :: K) s = den prog ann 25 (.code r2 :: .code .ret :: K) s := den_flat hf (l := [r2, .ret]) (by kernel_rfl) K s
theorem r2_eq (K : List Item) (s : St) : den prog ann 25 (.code r2 :: K) s = mreg prog ann 25 none [] none [] [
    ⟨some 2, none, .v fun s => some (.int .i64 3)⟩] K s := (den_reg hf _ K s).trans (by kernel_rfl)
theorem i0e_eq (K : List Item) (s : St) : den prog ann 25 (.code i0e :: K) s = den prog ann 25 (K) s := den_flat hf (l := []) (by kernel_rfl) K s
theorem r3_eq (K : List Item) (s : St) : den prog ann 25 (.code r3 :: K) s = mreg prog ann 25 none [] none [] [
    ⟨some 3, none, .v fun s => some (.int .i64 0)⟩] K s := (den_reg hf _ K s).trans (by kernel_rfl)
theorem k0_eq (K : List Item) (t : List (Nat × AV)) (m : Mem) : den prog ann 25 (.code k0 :: K) ⟨t, 48, m⟩ = L0 (get t 0) (get t 3) m K := den_loop_enter hf (b := l0) (id := 4) (l := [0, 3]) (by kernel_rfl) (by kernel_rfl) (by kernel_rfl) K _
theorem l0_eq (K : List Item) (t : List (Nat × AV)) (m : Mem) : den prog ann 25 (.inLoop l0 :: .inBlock 0 :: K) ⟨t, 48, m⟩ = L0 (get t 0) (get t 3) m K := den_loop_again hf (id := 4) (l := [0, 3]) (by kernel_rfl) (by kernel_rfl) (.inBlock 0 :: K) _
theorem L0_eq (x0 x3 : AV) (m : Mem) (K : List Item) : L0 x0 x3 m K = den prog ann 25 (.code r4 :: .code i1 :: .code k1 :: .code r5 :: .inLoop l0 :: .inBlock 0 :: K) ⟨[(0, x0), (3, x3)], 48, m⟩ := den_flat hf (l := [r4, i1, k1, r5]) (by kernel_rfl) _ _
theorem r4_eq (K : List Item) (s : St) : den prog ann 25 (.code r4 :: K) s = mreg prog ann 25 (some [0, 3]) [] none [] [
    ⟨some 7, none, .v fun s => some (s.get 3)⟩,
    ⟨some 8, none, .v fun s => some (s.get 0)⟩,
    ⟨some 9, none, .v fun s => lenSl (s.get 8)⟩,
    ⟨some 10, none, .v fun s => binA prog .lss 3 (s.get 7) (s.get 9)⟩] K s := (den_reg hf _ K s).trans (by kernel_rfl)
theorem i1_eq (K : List Item) (s : St) : den prog ann 25 (.code i1 :: K) s = ifV prog ann 25 10 i1t i1e K s (s.get 10) := den_if hf (by kernel_rfl) K s
theorem i1t_eq (K : List Item) (s : St) : den prog ann 25 (.code i1t :: K) s = den prog ann 25 (K) s := den_flat hf (l := []) (by kernel_rfl) K s
theorem i1e_eq (K : List Item) (s : St) : den prog ann 25 (.code i1e :: K) s = den prog ann 25 (.code (.exit 0) :: K) s := den_flat hf (l := [(.exit 0)]) (by kernel_rfl) K s
theorem k1_eq (K : List Item) (s : St) : den prog ann 25 (.code k1 :: K) s = den prog ann 25 (.code r6 :: .code i2 :: .inBlock 1 :: K) s := den_blk hf (b := blkOf k1) (l := [r6, i2]) (by kernel_rfl) (by kernel_rfl) K s
theorem r6_draw : drawOk (fun g => (ann g).pure) (modeOf (ann 25) (idOf r6)) (frzOf (ann 25) (idOf r6)) (opsOf r6) = true := drawOk_of (an := [0, 1, 3, 7, 7, 31, 63, 127, 255, 511, 1023, 2047, 4095, 8191, 8191, 32767, 65535, 8191, 8191, 270335, 925695, 1974271, 4194303, 8388607, 16777215, 33554431, 67108863, 67108863, 268435455, 536870911, 1073741823, 2147483647]) (by kernel_rfl) (by kernel_rfl)
theorem r6_eq (K : List Item) (s : St) : den prog ann 25 (.code r6 :: K) s = mreg prog ann 25 none [] (some 32) [] [
    ⟨some 13, none, .v fun s => some (s.get 3)⟩,
    ⟨some 14, none, .v fun s => binA prog .eql 3 (s.get 13) (.int .i64 0)⟩,
    ⟨some 15, none, .v fun s => some (s.get 14)⟩,
    ⟨some 16, some (15, true), .v fun s => some (s.get 0)⟩,
    ⟨some 17, some (15, true), .v fun s => some (s.get 3)⟩,
    ⟨some 18, some (15, true), .v fun s => idxSl 1 (s.get 16) (s.get 17)⟩,
    ⟨some 19, some (15, true), .v fun s => loadF false 1 (s.get 18)⟩,
    ⟨some 20, some (15, true), .v fun s => binA prog .neq 3 (s.get 19) (.int .i64 0)⟩,
    ⟨some 21, none, .v fun s => pickA (s.get 15) (s.get 20) (.bool false)⟩,
    ⟨some 22, none, .v fun s => some (s.get 21)⟩,
    ⟨some 23, some (22, false), .v fun s => some (s.get 3)⟩,
    ⟨some 24, some (22, false), .v fun s => binA prog .gtr 3 (s.get 23) (.int .i64 0)⟩,
    ⟨some 25, some (22, false), .v fun s => some (s.get 24)⟩,
    ⟨some 26, some (25, true), .v fun s => some (s.get 0)⟩,
    ⟨some 27, some (25, true), .v fun s => some (s.get 3)⟩,
    ⟨some 28, some (25, true), .v fun s => idxSl 1 (s.get 26) (s.get 27)⟩,
    ⟨some 29, some (25, true), .v fun s => loadF false 1 (s.get 28)⟩,
    ⟨some 30, some (25, true), .v fun s => some (s.get 0)⟩,
    ⟨some 31, some (25, true), .v fun s => some (s.get 3)⟩,
    ⟨some 32, some (25, true), .v fun s => binA prog .sub 3 (s.get 31) (.int .i64 1)⟩,
    ⟨some 33, some (25, true), .v fun s => idxSl 1 (s.get 30) (s.get 32)⟩,
    ⟨some 34, some (25, true), .v fun s => loadF false 1 (s.get 33)⟩,
    ⟨some 35, some (25, true), .v fun s => binA prog .leq 3 (s.get 29) (s.get 34)⟩,
    ⟨some 36, some (22, false), .v fun s => pickA (s.get 25) (s.get 35) (.bool false)⟩,
    ⟨some 37, none, .v fun s => pickA (s.get 22) (.bool true) (s.get 36)⟩,
    ⟨some 38, none, .v fun s => some (s.get 37)⟩,
    ⟨some 39, some (38, false), .v fun s => some (s.get 0)⟩,
    ⟨some 40, some (38, false), .v fun s => some (s.get 3)⟩,
    ⟨some 41, some (38, false), .v fun s => idxSl 1 (s.get 39) (s.get 40)⟩,
    ⟨some 42, some (38, false), .v fun s => loadF false 1 (s.get 41)⟩,
    ⟨some 43, some (38, false), .v fun s => binA prog .gtr 3 (s.get 42) (.int .i64 1000)⟩,
    ⟨some 44, none, .v fun s => pickA (s.get 38) (.bool true) (s.get 43)⟩] K s := (den_regD hf r6_draw K s).trans (by kernel_rfl)
theorem i2_eq (K : List Item) (s : St) : den prog ann 25 (.code i2 :: K) s = ifV prog ann 25 44 i2t i2e K s (s.get 44) := den_if hf (by kernel_rfl) K s
theorem i2t_eq (K : List Item) (s : St) : den prog ann 25 (.code i2t :: K) s = den prog ann 25 (.code r7 :: .code .ret :: K) s := den_flat hf (l := [r7, .ret]) (by kernel_rfl) K s
theorem r7_eq (K : List Item) (s : St) : den prog ann 25 (.code r7 :: K) s = mreg prog ann 25 none [] none [] [
    ⟨some 2, none, .v fun s => some (.int .i64 2)⟩] K s := (den_reg hf _ K s).trans (by kernel_rfl)
theorem i2e_eq (K : List Item) (s : St) : den prog ann 25 (.code i2e :: K) s = den prog ann 25 (K) s := den_flat hf (l := []) (by kernel_rfl) K s
theorem r5_eq (K : List Item) (s : St) : den prog ann 25 (.code r5 :: K) s = mreg prog ann 25 (some [0, 3]) [] none [] [
    ⟨some 11, none, .v fun s => some (s.get 3)⟩,
    ⟨some 12, none, .v fun s => binA prog .add 3 (s.get 11) (.int .i64 1)⟩,
    ⟨some 3, none, .v fun s => some (s.get 12)⟩] K s := (den_reg hf _ K s).trans (by kernel_rfl)
theorem r8_eq (K : List Item) (s : St) : den prog ann 25 (.code r8 :: K) s = mreg prog ann 25 (some [0]) [] none [] [
    ⟨some 45, none, .v fun s => some (s.get 0)⟩,
    ⟨some 46, none, .v fun s => lenSl (s.get 45)⟩,
    ⟨some 47, none, .v fun s => binA prog .eql 3 (s.get 46) (.int .i64 0)⟩] K s := (den_reg hf _ K s).trans (by kernel_rfl)
theorem i3_eq (K : List Item) (s : St) : den prog ann 25 (.code i3 :: K) s = ifV prog ann 25 47 i3t i3e K s (s.get 47) := den_if hf (by kernel_rfl) K s
theorem i3t_eq (K : List Item) (s : St) : den prog ann 25 (.code i3t :: K) s = den prog ann 25 (.code r9 :: .code .ret :: K) s := den_flat hf (l := [r9, .ret]) (by kernel_rfl) K s
theorem r9_eq (K : List Item) (s : St) : den prog ann 25 (.code r9 :: K) s = mreg prog ann 25 none [] none [] [
    ⟨some 2, none, .v fun s => some (.int .i64 2)⟩] K s := (den_reg hf _ K s).trans (by kernel_rfl)
theorem i3e_eq (K : List Item) (s : St) : den prog ann 25 (.code i3e :: K) s = den prog ann 25 (K) s := den_flat hf (l := []) (by kernel_rfl) K s
theorem r10_eq (K : List Item) (s : St) : den prog ann 25 (.code r10 :: K) s = mreg prog ann 25 none [] none [] [
    ⟨some 2, none, .v fun s => some (.int .i64 0)⟩] K s := (den_reg hf _ K s).trans (by kernel_rfl)
theorem ret_eq (K : List Item) (s : St) : den prog ann 25 (.code .ret :: K) s = finM true [fun s => some (s.get 2)] s := (den_ret hf K s).trans (by kernel_rfl)
theorem nil_eq (s : St) : den prog ann 25 [] s = finM true [fun s => some (s.get 2)] s := (den_nil hf s).trans (by kernel_rfl)
theorem inBlock_eq (id : Nat) (K : List Item) (s : St) : den prog ann 25 (.inBlock id :: K) s = den prog ann 25 K s := den_inBlock hf id K s
theorem exit_eq (id : Nat) (K : List Item) (s : St) : den prog ann 25 (.code (.exit id) :: K) s = exitV prog ann 25 (exitTo id K) s := den_exitV hf id K s
theorem call_eq (v0 : AV) (m : Mem) (h : closedL [v0] = true) : denC prog ann 25 [v0] m = (den prog ann 25 [.code b] ⟨[(0, v0)], 48, Mem.empty⟩).bind fun r => some (r.1, m) := (denC_pure hf (b := b) (by kernel_rfl) (by kernel_rfl) (by kernel_rfl) h m).trans (by kernel_rfl)
theorem pure_eq : (ann 25).pure = true := by kernel_rfl
attribute [simp] b_eq r0_eq r1_eq i0_eq i0t_eq r2_eq i0e_eq r3_eq k0_eq l0_eq r4_eq i1_eq i1t_eq i1e_eq k1_eq r6_eq i2_eq i2t_eq r7_eq i2e_eq r5_eq r8_eq i3_eq i3t_eq r9_eq i3e_eq r10_eq ret_eq nil_eq inBlock_eq exit_eq pure_eq
end r04_Strap

namespace r04_Distances
/-- pommel/pommelref04.Distances -/
noncomputable def b : Code := (Try.f26.body).getD .skip
theorem hf : prog.funcs[26]? = some Try.f26 := by kernel_rfl
noncomputable def r0 : Code := findReg b 0
noncomputable def r1 : Code := findReg b 1
noncomputable def r2 : Code := findReg b 2
noncomputable def k0 : Code := findBlk b 0
noncomputable def l0 : Code := loopOf k0
noncomputable def L0 (x0 x3 x4 : AV) (m : Mem) (K : List Item) : Option Res := den prog ann 26 (.code l0 :: .inLoop l0 :: .inBlock 0 :: K) ⟨[(0, x0), (3, x3), (4, x4)], 40, m⟩
noncomputable def r3 : Code := findReg b 3
noncomputable def i0 : Code := findCond b 0
noncomputable def i0t : Code := thenOf i0
noncomputable def i0e : Code := elseOf i0
noncomputable def k1 : Code := findBlk b 1
noncomputable def r5 : Code := findReg b 5
noncomputable def k2 : Code := findBlk b 2
noncomputable def l2 : Code := loopOf k2
noncomputable def L2 (x0 x3 x4 x5 : AV) (m : Mem) (K : List Item) : Option Res := den prog ann 26 (.code l2 :: .inLoop l2 :: .inBlock 2 :: K) ⟨[(0, x0), (3, x3), (4, x4), (5, x5)], 40, m⟩
noncomputable def r6 : Code := findReg b 6
noncomputable def i1 : Code := findCond b 1
noncomputable def i1t : Code := thenOf i1
noncomputable def i1e : Code := elseOf i1
noncomputable def k3 : Code := findBlk b 3
noncomputable def r8 : Code := findReg b 8
noncomputable def r7 : Code := findReg b 7
noncomputable def r4 : Code := findReg b 4
noncomputable def r9 : Code := findReg b 9
theorem b_eq (K : List Item) (s : St) : den prog ann 26 (.code b :: K) s = den prog ann 26 (.code r0 :: .code r1 :: .code r2 :: .code k0 :: .code r9 :: .code .ret :: K) s := den_flat hf (l := [r0, r1, r2, k0, r9, .ret]) (by kernel_rfl) K s
theorem r0_eq (K : List Item) (s : St) : den prog ann 26 (.code r0 :: K) s = mreg prog ann 26 none [] none [] [
    ⟨some 2, none, .v fun s => some (.nils)⟩] K s := (den_reg hf _ K s).trans (by kernel_rfl)
theorem r1_eq (K : List Item) (s : St) : den prog ann 26 (.code r1 :: K) s = mreg prog ann 26 none [] none [] [
    ⟨some 6, none, .v fun s => some (s.get 0)⟩,
    ⟨some 7, none, .v fun s => some (s.get 0)⟩,
    ⟨some 8, none, .v fun s => lenSl (s.get 7)⟩,
    ⟨some 9, none, .v fun s => binA prog .sub 3 (s.get 8) (.int .i64 1)⟩,
    ⟨some 10, none, .v fun s => idxSl 1 (s.get 6) (s.get 9)⟩,
    ⟨some 11, none, .v fun s => loadF false 1 (s.get 10)⟩,
    ⟨some 12, none, .v fun s => binA prog .add 3 (s.get 11) (.int .i64 1)⟩,
    ⟨some 13, none, .w false none fun s => makeA 1 8 (.int .i64 0) s.m (s.get 12) (s.get 12)⟩,
    ⟨some 3, none, .v fun s => some (s.get 13)⟩] K s := (den_reg hf _ K s).trans (by kernel_rfl)
theorem r2_eq (K : List Item) (s : St) : den prog ann 26 (.code r2 :: K) s = mreg prog ann 26 none [] none [] [
    ⟨some 4, none, .v fun s => some (.int .i64 0)⟩] K s := (den_reg hf _ K s).trans (by kernel_rfl)
theorem k0_eq (K : List Item) (t : List (Nat × AV)) (m : Mem) : den prog ann 26 (.code k0 :: K) ⟨t, 40, m⟩ = L0 (get t 0) (get t 3) (get t 4) m K := den_loop_enter hf (b := l0) (id := 3) (l := [0, 3, 4]) (by kernel_rfl) (by kernel_rfl) (by kernel_rfl) K _
theorem l0_eq (K : List Item) (t : List (Nat × AV)) (m : Mem) : den prog ann 26 (.inLoop l0 :: .inBlock 0 :: K) ⟨t, 40, m⟩ = L0 (get t 0) (get t 3) (get t 4) m K := den_loop_again hf (id := 3) (l := [0, 3, 4]) (by kernel_rfl) (by kernel_rfl) (.inBlock 0 :: K) _
theorem L0_eq (x0 x3 x4 : AV) (m : Mem) (K : List Item) : L0 x0 x3 x4 m K = den prog ann 26 (.code r3 :: .code i0 :: .code k1 :: .code r4 :: .inLoop l0 :: .inBlock 0 :: K) ⟨[(0, x0), (3, x3), (4, x4)], 40, m⟩ := den_flat hf (l := [r3, i0, k1, r4]) (by kernel_rfl) _ _
theorem r3_eq (K : List Item) (s : St) : den prog ann 26 (.code r3 :: K) s = mreg prog ann 26 (some [0, 3, 4]) [] none [] [
    ⟨some 14, none, .v fun s => some (s.get 4)⟩,
    ⟨some 15, none, .v fun s => some (s.get 0)⟩,
    ⟨some 16, none, .v fun s => lenSl (s.get 15)⟩,
    ⟨some 17, none, .v fun s => binA prog .lss 3 (s.get 14) (s.get 16)⟩] K s := (den_reg hf _ K s).trans (by kernel_rfl)
theorem i0_eq (K : List Item) (s : St) : den prog ann 26 (.code i0 :: K) s = ifV prog ann 26 17 i0t i0e K s (s.get 17) := den_if hf (by kernel_rfl) K s
theorem i0t_eq (K : List Item) (s : St) : den prog ann 26 (.code i0t :: K) s = den prog ann 26 (K) s := den_flat hf (l := []) (by kernel_rfl) K s
theorem i0e_eq (K : List Item) (s : St) : den prog ann 26 (.code i0e :: K) s = den prog ann 26 (.code (.exit 0) :: K) s := den_flat hf (l := [(.exit 0)]) (by kernel_rfl) K s
theorem k1_eq (K : List Item) (s : St) : den prog ann 26 (.code k1 :: K) s = den prog ann 26 (.code r5 :: .code k2 :: .inBlock 1 :: K) s := den_blk hf (b := blkOf k1) (l := [r5, k2]) (by kernel_rfl) (by kernel_rfl) K s
theorem r5_eq (K : List Item) (s : St) : den prog ann 26 (.code r5 :: K) s = mreg prog ann 26 none [] none [] [
    ⟨some 5, none, .v fun s => some (.int .i64 0)⟩] K s := (den_reg hf _ K s).trans (by kernel_rfl)
theorem k2_eq (K : List Item) (t : List (Nat × AV)) (m : Mem) : den prog ann 26 (.code k2 :: K) ⟨t, 40, m⟩ = L2 (get t 0) (get t 3) (get t 4) (get t 5) m K := den_loop_enter hf (b := l2) (id := 6) (l := [0, 3, 4, 5]) (by kernel_rfl) (by kernel_rfl) (by kernel_rfl) K _
theorem l2_eq (K : List Item) (t : List (Nat × AV)) (m : Mem) : den prog ann 26 (.inLoop l2 :: .inBlock 2 :: K) ⟨t, 40, m⟩ = L2 (get t 0) (get t 3) (get t 4) (get t 5) m K := den_loop_again hf (id := 6) (l := [0, 3, 4, 5]) (by kernel_rfl) (by kernel_rfl) (.inBlock 2 :: K) _
theorem L2_eq (x0 x3 x4 x5 : AV) (m : Mem) (K : List Item) : L2 x0 x3 x4 x5 m K = den prog ann 26 (.code r6 :: .code i1 :: .code k3 :: .code r7 :: .inLoop l2 :: .inBlock 2 :: K) ⟨[(0, x0), (3, x3), (4, x4), (5, x5)], 40, m⟩ := den_flat hf (l := [r6, i1, k3, r7]) (by kernel_rfl) _ _
theorem r6_eq (K : List Item) (s : St) : den prog ann 26 (.code r6 :: K) s = mreg prog ann 26 (some [0, 3, 4, 5]) [] none [] [
    ⟨some 20, none, .v fun s => some (s.get 5)⟩,
    ⟨some 21, none, .v fun s => some (s.get 4)⟩,
    ⟨some 22, none, .v fun s => binA prog .lss 3 (s.get 20) (s.get 21)⟩] K s := (den_reg hf _ K s).trans (by kernel_rfl)
theorem i1_eq (K : List Item) (s : St) : den prog ann 26 (.code i1 :: K) s = ifV prog ann 26 22 i1t i1e K s (s.get 22) := den_if hf (by kernel_rfl) K s
theorem i1t_eq (K : List Item) (s : St) : den prog ann 26 (.code i1t :: K) s = den prog ann 26 (K) s := den_flat hf (l := []) (by kernel_rfl) K s
theorem i1e_eq (K : List Item) (s : St) : den prog ann 26 (.code i1e :: K) s = den prog ann 26 (.code (.exit 2) :: K) s := den_flat hf (l := [(.exit 2)]) (by kernel_rfl) K s
theorem k3_eq (K : List Item) (s : St) : den prog ann 26 (.code k3 :: K) s = den prog ann 26 (.code r8 :: .inBlock 3 :: K) s := den_blk hf (b := blkOf k3) (l := [r8]) (by kernel_rfl) (by kernel_rfl) K s
theorem r8_draw : drawOk (fun g => (ann g).pure) (modeOf (ann 26) (idOf r8)) (frzOf (ann 26) (idOf r8)) (opsOf r8) = true := drawOk_of (an := [0, 0, 0, 6, 14, 0, 0, 96, 224, 510, 1023, 2047, 4095, 8191, 16383]) (by kernel_rfl) (by kernel_rfl)
theorem r8_eq (K : List Item) (s : St) : den prog ann 26 (.code r8 :: K) s = mreg prog ann 26 none [] (some 15) [] [
    ⟨some 25, none, .v fun s => some (s.get 3)⟩,
    ⟨some 26, none, .v fun s => some (s.get 0)⟩,
    ⟨some 27, none, .v fun s => some (s.get 4)⟩,
    ⟨some 28, none, .v fun s => idxSl 1 (s.get 26) (s.get 27)⟩,
    ⟨some 29, none, .v fun s => loadF false 1 (s.get 28)⟩,
    ⟨some 30, none, .v fun s => some (s.get 0)⟩,
    ⟨some 31, none, .v fun s => some (s.get 5)⟩,
    ⟨some 32, none, .v fun s => idxSl 1 (s.get 30) (s.get 31)⟩,
    ⟨some 33, none, .v fun s => loadF false 1 (s.get 32)⟩,
    ⟨some 34, none, .v fun s => binA prog .sub 3 (s.get 29) (s.get 33)⟩,
    ⟨some 35, none, .v fun s => idxSl 1 (s.get 25) (s.get 34)⟩,
    ⟨some 36, none, .v fun s => loadA false 1 s.m (s.get 35)⟩,
    ⟨some 37, none, .v fun s => binA prog .add 3 (s.get 36) (.int .i64 1)⟩,
    ⟨some 38, none, .v fun s => idxSl 1 (s.get 25) (s.get 34)⟩,
    ⟨none, none, .w false (some 14) fun s => stA false 1 s.m (s.get 38) (s.get 37)⟩] K s := (den_regD hf r8_draw K s).trans (by kernel_rfl)
theorem r7_eq (K : List Item) (s : St) : den prog ann 26 (.code r7 :: K) s = mreg prog ann 26 (some [0, 3, 4, 5]) [] none [] [
    ⟨some 23, none, .v fun s => some (s.get 5)⟩,
    ⟨some 24, none, .v fun s => binA prog .add 3 (s.get 23) (.int .i64 1)⟩,
    ⟨some 5, none, .v fun s => some (s.get 24)⟩] K s := (den_reg hf _ K s).trans (by kernel_rfl)
theorem r4_eq (K : List Item) (s : St) : den prog ann 26 (.code r4 :: K) s = mreg prog ann 26 (some [0, 3, 4]) [] none [] [
    ⟨some 18, none, .v fun s => some (s.get 4)⟩,
    ⟨some 19, none, .v fun s => binA prog .add 3 (s.get 18) (.int .i64 1)⟩,
    ⟨some 4, none, .v fun s => some (s.get 19)⟩] K s := (den_reg hf _ K s).trans (by kernel_rfl)
theorem r9_eq (K : List Item) (s : St) : den prog ann 26 (.code r9 :: K) s = mreg prog ann 26 (some [3]) [] none [] [
    ⟨some 39, none, .v fun s => some (s.get 3)⟩,
    ⟨some 2, none, .v fun s => some (s.get 39)⟩] K s := (den_reg hf _ K s).trans (by kernel_rfl)
theorem ret_eq (K : List Item) (s : St) : den prog ann 26 (.code .ret :: K) s = finM true [fun s => some (s.get 2)] s := (den_ret hf K s).trans (by kernel_rfl)
theorem nil_eq (s : St) : den prog ann 26 [] s = finM true [fun s => some (s.get 2)] s := (den_nil hf s).trans (by kernel_rfl)
theorem inBlock_eq (id : Nat) (K : List Item) (s : St) : den prog ann 26 (.inBlock id :: K) s = den prog ann 26 K s := den_inBlock hf id K s
theorem exit_eq (id : Nat) (K : List Item) (s : St) : den prog ann 26 (.code (.exit id) :: K) s = exitV prog ann 26 (exitTo id K) s := den_exitV hf id K s
theorem call_eq (v0 : AV) (m : Mem) (h : closedL [v0] = true) : denC prog ann 26 [v0] m = (den prog ann 26 [.code b] ⟨[(0, v0)], 40, Mem.empty⟩).bind fun r => some (r.1, m) := (denC_pure hf (b := b) (by kernel_rfl) (by kernel_rfl) (by kernel_rfl) h m).trans (by kernel_rfl)
theorem pure_eq : (ann 26).pure = true := by kernel_rfl
attribute [simp] b_eq r0_eq r1_eq r2_eq k0_eq l0_eq r3_eq i0_eq i0t_eq i0e_eq k1_eq r5_eq k2_eq l2_eq r6_eq i1_eq i1t_eq i1e_eq k3_eq r8_eq r7_eq r4_eq r9_eq ret_eq nil_eq inBlock_eq exit_eq pure_eq
end r04_Distances

namespace r04_Misses
/-- pommel/pommelref04.Misses -/
noncomputable def b : Code := (Try.f27.body).getD .skip
theorem hf : prog.funcs[27]? = some Try.f27 := by kernel_rfl
noncomputable def r0 : Code := findReg b 0
noncomputable def r1 : Code := findReg b 1
noncomputable def r2 : Code := findReg b 2
noncomputable def k0 : Code := findBlk b 0
noncomputable def l0 : Code := loopOf k0
noncomputable def L0 (x3 x4 x5 : AV) (m : Mem) (K : List Item) : Option Res := den prog ann 27 (.code l0 :: .inLoop l0 :: .inBlock 0 :: K) ⟨[(3, x3), (4, x4), (5, x5)], 25, m⟩
noncomputable def r3 : Code := findReg b 3
noncomputable def i0 : Code := findCond b 0
noncomputable def i0t : Code := thenOf i0
noncomputable def i0e : Code := elseOf i0
noncomputable def k1 : Code := findBlk b 1
noncomputable def r5 : Code := findReg b 5
noncomputable def i1 : Code := findCond b 1
noncomputable def i1t : Code := thenOf i1
noncomputable def i1e : Code := elseOf i1
noncomputable def r6 : Code := findReg b 6
noncomputable def r4 : Code := findReg b 4
noncomputable def r7 : Code := findReg b 7
theorem b_eq (K : List Item) (s : St) : den prog ann 27 (.code b :: K) s = den prog ann 27 (.code r0 :: .code r1 :: .code r2 :: .code k0 :: .code r7 :: .code .ret :: K) s := den_flat hf (l := [r0, r1, r2, k0, r7, .ret]) (by kernel_rfl) K s
theorem r0_eq (K : List Item) (s : St) : den prog ann 27 (.code r0 :: K) s = mreg prog ann 27 none [] none [] [
    ⟨some 2, none, .v fun s => some (.nils)⟩] K s := (den_reg hf _ K s).trans (by kernel_rfl)
theorem r1_eq (K : List Item) (s : St) : den prog ann 27 (.code r1 :: K) s = mreg prog ann 27 none [] none [] [
    ⟨some 6, none, .v fun s => some (s.get 0)⟩,
    ⟨some 7, none, .c 0 (fun s => (.fn 26 [] [])) fun s => [(s.get 6)]⟩,
    ⟨some 8, none, .w false none fun s => bslM s.m 0 (bslA 1 0 [.int .i64 0] [])⟩,
    ⟨some 3, none, .v fun s => some (s.get 7)⟩,
    ⟨some 4, none, .v fun s => some (s.get 8)⟩] K s := (den_reg hf _ K s).trans (by kernel_rfl)
theorem r2_eq (K : List Item) (s : St) : den prog ann 27 (.code r2 :: K) s = mreg prog ann 27 none [] none [] [
    ⟨some 5, none, .v fun s => some (.int .i64 1)⟩] K s := (den_reg hf _ K s).trans (by kernel_rfl)
theorem k0_eq (K : List Item) (t : List (Nat × AV)) (m : Mem) : den prog ann 27 (.code k0 :: K) ⟨t, 25, m⟩ = L0 (get t 3) (get t 4) (get t 5) m K := den_loop_enter hf (b := l0) (id := 3) (l := [3, 4, 5]) (by kernel_rfl) (by kernel_rfl) (by kernel_rfl) K _
theorem l0_eq (K : List Item) (t : List (Nat × AV)) (m : Mem) : den prog ann 27 (.inLoop l0 :: .inBlock 0 :: K) ⟨t, 25, m⟩ = L0 (get t 3) (get t 4) (get t 5) m K := den_loop_again hf (id := 3) (l := [3, 4, 5]) (by kernel_rfl) (by kernel_rfl) (.inBlock 0 :: K) _
theorem L0_eq (x3 x4 x5 : AV) (m : Mem) (K : List Item) : L0 x3 x4 x5 m K = den prog ann 27 (.code r3 :: .code i0 :: .code k1 :: .code r4 :: .inLoop l0 :: .inBlock 0 :: K) ⟨[(3, x3), (4, x4), (5, x5)], 25, m⟩ := den_flat hf (l := [r3, i0, k1, r4]) (by kernel_rfl) _ _
theorem r3_eq (K : List Item) (s : St) : den prog ann 27 (.code r3 :: K) s = mreg prog ann 27 (some [3, 4, 5]) [] none [] [
    ⟨some 9, none, .v fun s => some (s.get 5)⟩,
    ⟨some 10, none, .v fun s => some (s.get 3)⟩,
    ⟨some 11, none, .v fun s => lenSl (s.get 10)⟩,
    ⟨some 12, none, .v fun s => binA prog .lss 3 (s.get 9) (s.get 11)⟩] K s := (den_reg hf _ K s).trans (by kernel_rfl)
theorem i0_eq (K : List Item) (s : St) : den prog ann 27 (.code i0 :: K) s = ifV prog ann 27 12 i0t i0e K s (s.get 12) := den_if hf (by kernel_rfl) K s
theorem i0t_eq (K : List Item) (s : St) : den prog ann 27 (.code i0t :: K) s = den prog ann 27 (K) s := den_flat hf (l := []) (by kernel_rfl) K s
theorem i0e_eq (K : List Item) (s : St) : den prog ann 27 (.code i0e :: K) s = den prog ann 27 (.code (.exit 0) :: K) s := den_flat hf (l := [(.exit 0)]) (by kernel_rfl) K s
theorem k1_eq (K : List Item) (s : St) : den prog ann 27 (.code k1 :: K) s = den prog ann 27 (.code r5 :: .code i1 :: .inBlock 1 :: K) s := den_blk hf (b := blkOf k1) (l := [r5, i1]) (by kernel_rfl) (by kernel_rfl) K s
theorem r5_eq (K : List Item) (s : St) : den prog ann 27 (.code r5 :: K) s = mreg prog ann 27 none [] none [] [
    ⟨some 15, none, .v fun s => some (s.get 3)⟩,
    ⟨some 16, none, .v fun s => some (s.get 5)⟩,
    ⟨some 17, none, .v fun s => idxSl 1 (s.get 15) (s.get 16)⟩,
    ⟨some 18, none, .v fun s => loadF false 1 (s.get 17)⟩,
    ⟨some 19, none, .v fun s => binA prog .eql 3 (s.get 18) (.int .i64 0)⟩] K s := (den_reg hf _ K s).trans (by kernel_rfl)
theorem i1_eq (K : List Item) (s : St) : den prog ann 27 (.code i1 :: K) s = ifV prog ann 27 19 i1t i1e K s (s.get 19) := den_if hf (by kernel_rfl) K s
theorem i1t_eq (K : List Item) (s : St) : den prog ann 27 (.code i1t :: K) s = den prog ann 27 (.code r6 :: K) s := den_flat hf (l := [r6]) (by kernel_rfl) K s
theorem r6_eq (K : List Item) (s : St) : den prog ann 27 (.code r6 :: K) s = mreg prog ann 27 none [] none [] [
    ⟨some 20, none, .v fun s => some (s.get 4)⟩,
    ⟨some 21, none, .v fun s => some (s.get 5)⟩,
    ⟨some 22, none, .v fun s => bslF 1 (bslA 1 1 [.int .i64 0] [(0, (s.get 21))])⟩,
    ⟨some 23, none, .w false none fun s => appendA 1 8 s.m (s.get 20) (s.get 22)⟩,
    ⟨some 4, none, .v fun s => some (s.get 23)⟩] K s := (den_reg hf _ K s).trans (by kernel_rfl)
theorem i1e_eq (K : List Item) (s : St) : den prog ann 27 (.code i1e :: K) s = den prog ann 27 (K) s := den_flat hf (l := []) (by kernel_rfl) K s
theorem r4_eq (K : List Item) (s : St) : den prog ann 27 (.code r4 :: K) s = mreg prog ann 27 (some [3, 4, 5]) [] none [] [
    ⟨some 13, none, .v fun s => some (s.get 5)⟩,
    ⟨some 14, none, .v fun s => binA prog .add 3 (s.get 13) (.int .i64 1)⟩,
    ⟨some 5, none, .v fun s => some (s.get 14)⟩] K s := (den_reg hf _ K s).trans (by kernel_rfl)
theorem r7_eq (K : List Item) (s : St) : den prog ann 27 (.code r7 :: K) s = mreg prog ann 27 (some [4]) [] none [] [
    ⟨some 24, none, .v fun s => some (s.get 4)⟩,
    ⟨some 2, none, .v fun s => some (s.get 24)⟩] K s := (den_reg hf _ K s).trans (by kernel_rfl)
theorem ret_eq (K : List Item) (s : St) : den prog ann 27 (.code .ret :: K) s = finM true [fun s => some (s.get 2)] s := (den_ret hf K s).trans (by kernel_rfl)
theorem nil_eq (s : St) : den prog ann 27 [] s = finM true [fun s => some (s.get 2)] s := (den_nil hf s).trans (by kernel_rfl)
theorem inBlock_eq (id : Nat) (K : List Item) (s : St) : den prog ann 27 (.inBlock id :: K) s = den prog ann 27 K s := den_inBlock hf id K s
theorem exit_eq (id : Nat) (K : List Item) (s : St) : den prog ann 27 (.code (.exit id) :: K) s = exitV prog ann 27 (exitTo id K) s := den_exitV hf id K s
theorem call_eq (v0 : AV) (m : Mem) (h : closedL [v0] = true) : denC prog ann 27 [v0] m = (den prog ann 27 [.code b] ⟨[(0, v0)], 25, Mem.empty⟩).bind fun r => some (r.1, m) := (denC_pure hf (b := b) (by kernel_rfl) (by kernel_rfl) (by kernel_rfl) h m).trans (by kernel_rfl)
theorem pure_eq : (ann 27).pure = true := by kernel_rfl
attribute [simp] b_eq r0_eq r1_eq r2_eq k0_eq l0_eq r3_eq i0_eq i0t_eq i0e_eq k1_eq r5_eq i1_eq i1t_eq r6_eq i1e_eq r4_eq r7_eq ret_eq nil_eq inBlock_eq exit_eq pure_eq
end r04_Misses

namespace r04_Twice
/-- pommel/pommelref04.Twice -/
noncomputable def b : Code := (Try.f29.body).getD .skip
theorem hf : prog.funcs[29]? = some Try.f29 := by kernel_rfl
noncomputable def r0 : Code := findReg b 0
noncomputable def r1 : Code := findReg b 1
noncomputable def r2 : Code := findReg b 2
noncomputable def k0 : Code := findBlk b 0
noncomputable def l0 : Code := loopOf k0
noncomputable def L0 (x0 x3 x4 : AV) (m : Mem) (K : List Item) : Option Res := den prog ann 29 (.code l0 :: .inLoop l0 :: .inBlock 0 :: K) ⟨[(0, x0), (3, x3), (4, x4)], 130, m⟩
noncomputable def r3 : Code := findReg b 3
noncomputable def i0 : Code := findCond b 0
noncomputable def i0t : Code := thenOf i0
noncomputable def i0e : Code := elseOf i0
noncomputable def k1 : Code := findBlk b 1
noncomputable def r5 : Code := findReg b 5
noncomputable def k2 : Code := findBlk b 2
noncomputable def l2 : Code := loopOf k2
noncomputable def L2 (x0 x3 x4 x5 : AV) (m : Mem) (K : List Item) : Option Res := den prog ann 29 (.code l2 :: .inLoop l2 :: .inBlock 2 :: K) ⟨[(0, x0), (3, x3), (4, x4), (5, x5)], 130, m⟩
noncomputable def r6 : Code := findReg b 6
noncomputable def i1 : Code := findCond b 1
noncomputable def i1t : Code := thenOf i1
noncomputable def i1e : Code := elseOf i1
noncomputable def k3 : Code := findBlk b 3
noncomputable def r8 : Code := findReg b 8
noncomputable def k4 : Code := findBlk b 4
noncomputable def l4 : Code := loopOf k4
noncomputable def L4 (x0 x3 x4 x5 x6 : AV) (m : Mem) (K : List Item) : Option Res := den prog ann 29 (.code l4 :: .inLoop l4 :: .inBlock 4 :: K) ⟨[(0, x0), (3, x3), (4, x4), (5, x5), (6, x6)], 130, m⟩
noncomputable def r9 : Code := findReg b 9
noncomputable def i2 : Code := findCond b 2
noncomputable def i2t : Code := thenOf i2
noncomputable def i2e : Code := elseOf i2
noncomputable def k5 : Code := findBlk b 5
noncomputable def r11 : Code := findReg b 11
noncomputable def k6 : Code := findBlk b 6
noncomputable def l6 : Code := loopOf k6
noncomputable def L6 (x0 x3 x4 x5 x6 x7 : AV) (m : Mem) (K : List Item) : Option Res := den prog ann 29 (.code l6 :: .inLoop l6 :: .inBlock 6 :: K) ⟨[(0, x0), (3, x3), (4, x4), (5, x5), (6, x6), (7, x7)], 130, m⟩
noncomputable def r12 : Code := findReg b 12
noncomputable def i3 : Code := findCond b 3
noncomputable def i3t : Code := thenOf i3
noncomputable def i3e : Code := elseOf i3
noncomputable def k7 : Code := findBlk b 7
noncomputable def r14 : Code := findReg b 14
noncomputable def i4 : Code := findCond b 4
noncomputable def i4t : Code := thenOf i4
noncomputable def i4e : Code := elseOf i4
noncomputable def r15 : Code := findReg b 15
noncomputable def r16 : Code := findReg b 16
noncomputable def i5 : Code := findCond b 5
noncomputable def i5t : Code := thenOf i5
noncomputable def i5e : Code := elseOf i5
noncomputable def r17 : Code := findReg b 17
noncomputable def r13 : Code := findReg b 13
noncomputable def r10 : Code := findReg b 10
noncomputable def r7 : Code := findReg b 7
noncomputable def r4 : Code := findReg b 4
noncomputable def r18 : Code := findReg b 18
theorem b_eq (K : List Item) (s : St) : den prog ann 29 (.code b :: K) s = den prog ann 29 (.code r0 :: .code r1 :: .code r2 :: .code k0 :: .code r18 :: .code .ret :: K) s := den_flat hf (l := [r0, r1, r2, k0, r18, .ret]) (by kernel_rfl) K s
theorem r0_eq (K : List Item) (s : St) : den prog ann 29 (.code r0 :: K) s = mreg prog ann 29 none [] none [] [
    ⟨some 2, none, .v fun s => some (.nils)⟩] K s := (den_reg hf _ K s).trans (by kernel_rfl)
theorem r1_eq (K : List Item) (s : St) : den prog ann 29 (.code r1 :: K) s = mreg prog ann 29 none [] none [] [
    ⟨some 3, none, .v fun s => some (.nils)⟩] K s := (den_reg hf _ K s).trans (by kernel_rfl)
theorem r2_eq (K : List Item) (s : St) : den prog ann 29 (.code r2 :: K) s = mreg prog ann 29 none [] none [] [
    ⟨some 4, none, .v fun s => some (.int .i64 0)⟩] K s := (den_reg hf _ K s).trans (by kernel_rfl)
theorem k0_eq (K : List Item) (t : List (Nat × AV)) (m : Mem) : den prog ann 29 (.code k0 :: K) ⟨t, 130, m⟩ = L0 (get t 0) (get t 3) (get t 4) m K := den_loop_enter hf (b := l0) (id := 3) (l := [0, 3, 4]) (by kernel_rfl) (by kernel_rfl) (by kernel_rfl) K _
theorem l0_eq (K : List Item) (t : List (Nat × AV)) (m : Mem) : den prog ann 29 (.inLoop l0 :: .inBlock 0 :: K) ⟨t, 130, m⟩ = L0 (get t 0) (get t 3) (get t 4) m K := den_loop_again hf (id := 3) (l := [0, 3, 4]) (by kernel_rfl) (by kernel_rfl) (.inBlock 0 :: K) _
theorem L0_eq (x0 x3 x4 : AV) (m : Mem) (K : List Item) : L0 x0 x3 x4 m K = den prog ann 29 (.code r3 :: .code i0 :: .code k1 :: .code r4 :: .inLoop l0 :: .inBlock 0 :: K) ⟨[(0, x0), (3, x3), (4, x4)], 130, m⟩ := den_flat hf (l := [r3, i0, k1, r4]) (by kernel_rfl) _ _
theorem r3_eq (K : List Item) (s : St) : den prog ann 29 (.code r3 :: K) s = mreg prog ann 29 (some [0, 3, 4]) [] none [] [
    ⟨some 9, none, .v fun s => some (s.get 4)⟩,
    ⟨some 10, none, .v fun s => some (s.get 0)⟩,
    ⟨some 11, none, .v fun s => lenSl (s.get 10)⟩,
    ⟨some 12, none, .v fun s => binA prog .lss 3 (s.get 9) (s.get 11)⟩] K s := (den_reg hf _ K s).trans (by kernel_rfl)
theorem i0_eq (K : List Item) (s : St) : den prog ann 29 (.code i0 :: K) s = ifV prog ann 29 12 i0t i0e K s (s.get 12) := den_if hf (by kernel_rfl) K s
theorem i0t_eq (K : List Item) (s : St) : den prog ann 29 (.code i0t :: K) s = den prog ann 29 (K) s := den_flat hf (l := []) (by kernel_rfl) K s
theorem i0e_eq (K : List Item) (s : St) : den prog ann 29 (.code i0e :: K) s = den prog ann 29 (.code (.exit 0) :: K) s := den_flat hf (l := [(.exit 0)]) (by kernel_rfl) K s
theorem k1_eq (K : List Item) (s : St) : den prog ann 29 (.code k1 :: K) s = den prog ann 29 (.code r5 :: .code k2 :: .inBlock 1 :: K) s := den_blk hf (b := blkOf k1) (l := [r5, k2]) (by kernel_rfl) (by kernel_rfl) K s
theorem r5_eq (K : List Item) (s : St) : den prog ann 29 (.code r5 :: K) s = mreg prog ann 29 none [] none [] [
    ⟨some 15, none, .v fun s => some (s.get 4)⟩,
    ⟨some 16, none, .v fun s => binA prog .add 3 (s.get 15) (.int .i64 1)⟩,
    ⟨some 5, none, .v fun s => some (s.get 16)⟩] K s := (den_reg hf _ K s).trans (by kernel_rfl)
theorem k2_eq (K : List Item) (t : List (Nat × AV)) (m : Mem) : den prog ann 29 (.code k2 :: K) ⟨t, 130, m⟩ = L2 (get t 0) (get t 3) (get t 4) (get t 5) m K := den_loop_enter hf (b := l2) (id := 6) (l := [0, 3, 4, 5]) (by kernel_rfl) (by kernel_rfl) (by kernel_rfl) K _
theorem l2_eq (K : List Item) (t : List (Nat × AV)) (m : Mem) : den prog ann 29 (.inLoop l2 :: .inBlock 2 :: K) ⟨t, 130, m⟩ = L2 (get t 0) (get t 3) (get t 4) (get t 5) m K := den_loop_again hf (id := 6) (l := [0, 3, 4, 5]) (by kernel_rfl) (by kernel_rfl) (.inBlock 2 :: K) _
theorem L2_eq (x0 x3 x4 x5 : AV) (m : Mem) (K : List Item) : L2 x0 x3 x4 x5 m K = den prog ann 29 (.code r6 :: .code i1 :: .code k3 :: .code r7 :: .inLoop l2 :: .inBlock 2 :: K) ⟨[(0, x0), (3, x3), (4, x4), (5, x5)], 130, m⟩ := den_flat hf (l := [r6, i1, k3, r7]) (by kernel_rfl) _ _
theorem r6_eq (K : List Item) (s : St) : den prog ann 29 (.code r6 :: K) s = mreg prog ann 29 (some [0, 3, 4, 5]) [] none [] [
    ⟨some 17, none, .v fun s => some (s.get 5)⟩,
    ⟨some 18, none, .v fun s => some (s.get 0)⟩,
    ⟨some 19, none, .v fun s => lenSl (s.get 18)⟩,
    ⟨some 20, none, .v fun s => binA prog .lss 3 (s.get 17) (s.get 19)⟩] K s := (den_reg hf _ K s).trans (by kernel_rfl)
theorem i1_eq (K : List Item) (s : St) : den prog ann 29 (.code i1 :: K) s = ifV prog ann 29 20 i1t i1e K s (s.get 20) := den_if hf (by kernel_rfl) K s
theorem i1t_eq (K : List Item) (s : St) : den prog ann 29 (.code i1t :: K) s = den prog ann 29 (K) s := den_flat hf (l := []) (by kernel_rfl) K s
theorem i1e_eq (K : List Item) (s : St) : den prog ann 29 (.code i1e :: K) s = den prog ann 29 (.code (.exit 2) :: K) s := den_flat hf (l := [(.exit 2)]) (by kernel_rfl) K s
theorem k3_eq (K : List Item) (s : St) : den prog ann 29 (.code k3 :: K) s = den prog ann 29 (.code r8 :: .code k4 :: .inBlock 3 :: K) s := den_blk hf (b := blkOf k3) (l := [r8, k4]) (by kernel_rfl) (by kernel_rfl) K s
theorem r8_eq (K : List Item) (s : St) : den prog ann 29 (.code r8 :: K) s = mreg prog ann 29 none [] none [] [
    ⟨some 23, none, .v fun s => some (s.get 4)⟩,
    ⟨some 24, none, .v fun s => binA prog .add 3 (s.get 23) (.int .i64 1)⟩,
    ⟨some 6, none, .v fun s => some (s.get 24)⟩] K s := (den_reg hf _ K s).trans (by kernel_rfl)
theorem k4_eq (K : List Item) (t : List (Nat × AV)) (m : Mem) : den prog ann 29 (.code k4 :: K) ⟨t, 130, m⟩ = L4 (get t 0) (get t 3) (get t 4) (get t 5) (get t 6) m K := den_loop_enter hf (b := l4) (id := 9) (l := [0, 3, 4, 5, 6]) (by kernel_rfl) (by kernel_rfl) (by kernel_rfl) K _
theorem l4_eq (K : List Item) (t : List (Nat × AV)) (m : Mem) : den prog ann 29 (.inLoop l4 :: .inBlock 4 :: K) ⟨t, 130, m⟩ = L4 (get t 0) (get t 3) (get t 4) (get t 5) (get t 6) m K := den_loop_again hf (id := 9) (l := [0, 3, 4, 5, 6]) (by kernel_rfl) (by kernel_rfl) (.inBlock 4 :: K) _
theorem L4_eq (x0 x3 x4 x5 x6 : AV) (m : Mem) (K : List Item) : L4 x0 x3 x4 x5 x6 m K = den prog ann 29 (.code r9 :: .code i2 :: .code k5 :: .code r10 :: .inLoop l4 :: .inBlock 4 :: K) ⟨[(0, x0), (3, x3), (4, x4), (5, x5), (6, x6)], 130, m⟩ := den_flat hf (l := [r9, i2, k5, r10]) (by kernel_rfl) _ _
theorem r9_eq (K : List Item) (s : St) : den prog ann 29 (.code r9 :: K) s = mreg prog ann 29 (some [0, 3, 4, 5, 6]) [] none [] [
    ⟨some 25, none, .v fun s => some (s.get 6)⟩,
    ⟨some 26, none, .v fun s => some (s.get 0)⟩,
    ⟨some 27, none, .v fun s => lenSl (s.get 26)⟩,
    ⟨some 28, none, .v fun s => binA prog .lss 3 (s.get 25) (s.get 27)⟩] K s := (den_reg hf _ K s).trans (by kernel_rfl)
theorem i2_eq (K : List Item) (s : St) : den prog ann 29 (.code i2 :: K) s = ifV prog ann 29 28 i2t i2e K s (s.get 28) := den_if hf (by kernel_rfl) K s
theorem i2t_eq (K : List Item) (s : St) : den prog ann 29 (.code i2t :: K) s = den prog ann 29 (K) s := den_flat hf (l := []) (by kernel_rfl) K s
theorem i2e_eq (K : List Item) (s : St) : den prog ann 29 (.code i2e :: K) s = den prog ann 29 (.code (.exit 4) :: K) s := den_flat hf (l := [(.exit 4)]) (by kernel_rfl) K s
theorem k5_eq (K : List Item) (s : St) : den prog ann 29 (.code k5 :: K) s = den prog ann 29 (.code r11 :: .code k6 :: .inBlock 5 :: K) s := den_blk hf (b := blkOf k5) (l := [r11, k6]) (by kernel_rfl) (by kernel_rfl) K s
theorem r11_eq (K : List Item) (s : St) : den prog ann 29 (.code r11 :: K) s = mreg prog ann 29 none [] none [] [
    ⟨some 31, none, .v fun s => some (s.get 6)⟩,
    ⟨some 32, none, .v fun s => binA prog .add 3 (s.get 31) (.int .i64 1)⟩,
    ⟨some 7, none, .v fun s => some (s.get 32)⟩] K s := (den_reg hf _ K s).trans (by kernel_rfl)
theorem k6_eq (K : List Item) (t : List (Nat × AV)) (m : Mem) : den prog ann 29 (.code k6 :: K) ⟨t, 130, m⟩ = L6 (get t 0) (get t 3) (get t 4) (get t 5) (get t 6) (get t 7) m K := den_loop_enter hf (b := l6) (id := 12) (l := [0, 3, 4, 5, 6, 7]) (by kernel_rfl) (by kernel_rfl) (by kernel_rfl) K _
theorem l6_eq (K : List Item) (t : List (Nat × AV)) (m : Mem) : den prog ann 29 (.inLoop l6 :: .inBlock 6 :: K) ⟨t, 130, m⟩ = L6 (get t 0) (get t 3) (get t 4) (get t 5) (get t 6) (get t 7) m K := den_loop_again hf (id := 12) (l := [0, 3, 4, 5, 6, 7]) (by kernel_rfl) (by kernel_rfl) (.inBlock 6 :: K) _
theorem L6_eq (x0 x3 x4 x5 x6 x7 : AV) (m : Mem) (K : List Item) : L6 x0 x3 x4 x5 x6 x7 m K = den prog ann 29 (.code r12 :: .code i3 :: .code k7 :: .code r13 :: .inLoop l6 :: .inBlock 6 :: K) ⟨[(0, x0), (3, x3), (4, x4), (5, x5), (6, x6), (7, x7)], 130, m⟩ := den_flat hf (l := [r12, i3, k7, r13]) (by kernel_rfl) _ _
theorem r12_eq (K : List Item) (s : St) : den prog ann 29 (.code r12 :: K) s = mreg prog ann 29 (some [0, 3, 4, 5, 6, 7]) [] none [] [
    ⟨some 33, none, .v fun s => some (s.get 7)⟩,
    ⟨some 34, none, .v fun s => some (s.get 0)⟩,
    ⟨some 35, none, .v fun s => lenSl (s.get 34)⟩,
    ⟨some 36, none, .v fun s => binA prog .lss 3 (s.get 33) (s.get 35)⟩] K s := (den_reg hf _ K s).trans (by kernel_rfl)
theorem i3_eq (K : List Item) (s : St) : den prog ann 29 (.code i3 :: K) s = ifV prog ann 29 36 i3t i3e K s (s.get 36) := den_if hf (by kernel_rfl) K s
theorem i3t_eq (K : List Item) (s : St) : den prog ann 29 (.code i3t :: K) s = den prog ann 29 (K) s := den_flat hf (l := []) (by kernel_rfl) K s
theorem i3e_eq (K : List Item) (s : St) : den prog ann 29 (.code i3e :: K) s = den prog ann 29 (.code (.exit 6) :: K) s := den_flat hf (l := [(.exit 6)]) (by kernel_rfl) K s
theorem k7_eq (K : List Item) (s : St) : den prog ann 29 (.code k7 :: K) s = den prog ann 29 (.code r14 :: .code i4 :: .code r15 :: .code r16 :: .code i5 :: .inBlock 7 :: K) s := den_blk hf (b := blkOf k7) (l := [r14, i4, r15, r16, i5]) (by kernel_rfl) (by kernel_rfl) K s
theorem r14_draw : drawOk (fun g => (ann g).pure) (modeOf (ann 29) (idOf r14)) (frzOf (ann 29) (idOf r14)) (opsOf r14) = true := drawOk_of (an := [0, 0, 3, 7, 0, 0, 48, 112, 255, 0, 0, 1536, 3584, 0, 0, 24576, 57344, 130560, 262143]) (by kernel_rfl) (by kernel_rfl)
theorem r14_eq (K : List Item) (s : St) : den prog ann 29 (.code r14 :: K) s = mreg prog ann 29 none [] (some 19) [] [
    ⟨some 39, none, .v fun s => some (s.get 0)⟩,
    ⟨some 40, none, .v fun s => some (s.get 5)⟩,
    ⟨some 41, none, .v fun s => idxSl 1 (s.get 39) (s.get 40)⟩,
    ⟨some 42, none, .v fun s => loadF false 1 (s.get 41)⟩,
    ⟨some 43, none, .v fun s => some (s.get 0)⟩,
    ⟨some 44, none, .v fun s => some (s.get 4)⟩,
    ⟨some 45, none, .v fun s => idxSl 1 (s.get 43) (s.get 44)⟩,
    ⟨some 46, none, .v fun s => loadF false 1 (s.get 45)⟩,
    ⟨some 47, none, .v fun s => binA prog .sub 3 (s.get 42) (s.get 46)⟩,
    ⟨some 48, none, .v fun s => some (s.get 0)⟩,
    ⟨some 49, none, .v fun s => some (s.get 7)⟩,
    ⟨some 50, none, .v fun s => idxSl 1 (s.get 48) (s.get 49)⟩,
    ⟨some 51, none, .v fun s => loadF false 1 (s.get 50)⟩,
    ⟨some 52, none, .v fun s => some (s.get 0)⟩,
    ⟨some 53, none, .v fun s => some (s.get 6)⟩,
    ⟨some 54, none, .v fun s => idxSl 1 (s.get 52) (s.get 53)⟩,
    ⟨some 55, none, .v fun s => loadF false 1 (s.get 54)⟩,
    ⟨some 56, none, .v fun s => binA prog .sub 3 (s.get 51) (s.get 55)⟩,
    ⟨some 57, none, .v fun s => binA prog .neq 3 (s.get 47) (s.get 56)⟩] K s := (den_regD hf r14_draw K s).trans (by kernel_rfl)
theorem i4_eq (K : List Item) (s : St) : den prog ann 29 (.code i4 :: K) s = ifV prog ann 29 57 i4t i4e K s (s.get 57) := den_if hf (by kernel_rfl) K s
theorem i4t_eq (K : List Item) (s : St) : den prog ann 29 (.code i4t :: K) s = den prog ann 29 (.code (.exit 7) :: K) s := den_flat hf (l := [(.exit 7)]) (by kernel_rfl) K s
theorem i4e_eq (K : List Item) (s : St) : den prog ann 29 (.code i4e :: K) s = den prog ann 29 (K) s := den_flat hf (l := []) (by kernel_rfl) K s
theorem r15_draw : drawOk (fun g => (ann g).pure) (modeOf (ann 29) (idOf r15)) (frzOf (ann 29) (idOf r15)) (opsOf r15) = true := drawOk_of (an := [0, 0, 3, 7, 0, 0, 48, 112, 0, 0, 768, 1792, 0, 0, 12288, 28672, 65535, 131071]) (by kernel_rfl) (by kernel_rfl)
theorem r15_eq (K : List Item) (s : St) : den prog ann 29 (.code r15 :: K) s = mreg prog ann 29 none [] (some 18) [] [
    ⟨some 58, none, .v fun s => some (s.get 0)⟩,
    ⟨some 59, none, .v fun s => some (s.get 4)⟩,
    ⟨some 60, none, .v fun s => idxSl 1 (s.get 58) (s.get 59)⟩,
    ⟨some 61, none, .v fun s => loadF false 1 (s.get 60)⟩,
    ⟨some 62, none, .v fun s => some (s.get 0)⟩,
    ⟨some 63, none, .v fun s => some (s.get 5)⟩,
    ⟨some 64, none, .v fun s => idxSl 1 (s.get 62) (s.get 63)⟩,
    ⟨some 65, none, .v fun s => loadF false 1 (s.get 64)⟩,
    ⟨some 66, none, .v fun s => some (s.get 0)⟩,
    ⟨some 67, none, .v fun s => some (s.get 6)⟩,
    ⟨some 68, none, .v fun s => idxSl 1 (s.get 66) (s.get 67)⟩,
    ⟨some 69, none, .v fun s => loadF false 1 (s.get 68)⟩,
    ⟨some 70, none, .v fun s => some (s.get 0)⟩,
    ⟨some 71, none, .v fun s => some (s.get 7)⟩,
    ⟨some 72, none, .v fun s => idxSl 1 (s.get 70) (s.get 71)⟩,
    ⟨some 73, none, .v fun s => loadF false 1 (s.get 72)⟩,
    ⟨some 74, none, .v fun s => bslF 4 (bslA 1 4 [.int .i64 0] [(0, (s.get 61)), (1, (s.get 65)), (2, (s.get 69)), (3, (s.get 73))])⟩,
    ⟨some 8, none, .v fun s => some (s.get 74)⟩] K s := (den_regD hf r15_draw K s).trans (by kernel_rfl)
theorem r16_draw : drawOk (fun g => (ann g).pure) (modeOf (ann 29) (idOf r16)) (frzOf (ann 29) (idOf r16)) (opsOf r16) = true := drawOk_of (an := [0, 1, 3, 7, 15, 31, 7, 71, 199, 511, 7, 1031, 3079, 7, 8199, 24583, 64519, 131071, 262143, 524287, 1048575, 2097151, 4194303, 1048575, 9437183, 26214399, 67108863, 1048575, 135266303, 403701759, 1048575, 1074790399, 3222274047, 8456765439, 17179869183, 34359738367, 68719476735, 137438953471, 274877906943, 68719476735, 618475290623, 1717986918399, 4398046511103, 68719476735, 8864812498943, 26456998543359, 68719476735, 70437463654399, 211174952009727, 554222579875839, 1125899906842623, 2251799813685247, 4503599627370495]) (by kernel_rfl) (by kernel_rfl)
theorem r16_eq (K : List Item) (s : St) : den prog ann 29 (.code r16 :: K) s = mreg prog ann 29 none [] (some 53) [] [
    ⟨some 75, none, .v fun s => some (s.get 3)⟩,
    ⟨some 76, none, .v fun s => binA prog .eql 22 (s.get 75) (.nils)⟩,
    ⟨some 77, none, .v fun s => some (s.get 76)⟩,
    ⟨some 78, some (77, false), .v fun s => some (s.get 8)⟩,
    ⟨some 79, some (77, false), .v fun s => idxSl 1 (s.get 78) (.int .i64 1)⟩,
    ⟨some 80, some (77, false), .v fun s => loadA false 1 s.m (s.get 79)⟩,
    ⟨some 81, some (77, false), .v fun s => some (s.get 8)⟩,
    ⟨some 82, some (77, false), .v fun s => idxSl 1 (s.get 81) (.int .i64 0)⟩,
    ⟨some 83, some (77, false), .v fun s => loadA false 1 s.m (s.get 82)⟩,
    ⟨some 84, some (77, false), .v fun s => binA prog .sub 3 (s.get 80) (s.get 83)⟩,
    ⟨some 85, some (77, false), .v fun s => some (s.get 3)⟩,
    ⟨some 86, some (77, false), .v fun s => idxSl 1 (s.get 85) (.int .i64 1)⟩,
    ⟨some 87, some (77, false), .v fun s => loadA false 1 s.m (s.get 86)⟩,
    ⟨some 88, some (77, false), .v fun s => some (s.get 3)⟩,
    ⟨some 89, some (77, false), .v fun s => idxSl 1 (s.get 88) (.int .i64 0)⟩,
    ⟨some 90, some (77, false), .v fun s => loadA false 1 s.m (s.get 89)⟩,
    ⟨some 91, some (77, false), .v fun s => binA prog .sub 3 (s.get 87) (s.get 90)⟩,
    ⟨some 92, some (77, false), .v fun s => binA prog .lss 3 (s.get 84) (s.get 91)⟩,
    ⟨some 93, none, .v fun s => pickA (s.get 77) (.bool true) (s.get 92)⟩,
    ⟨some 94, none, .v fun s => some (s.get 93)⟩,
    ⟨some 95, some (94, false), .v fun s => some (s.get 8)⟩,
    ⟨some 96, some (94, false), .v fun s => idxSl 1 (s.get 95) (.int .i64 1)⟩,
    ⟨some 97, some (94, false), .v fun s => loadA false 1 s.m (s.get 96)⟩,
    ⟨some 98, some (94, false), .v fun s => some (s.get 8)⟩,
    ⟨some 99, some (94, false), .v fun s => idxSl 1 (s.get 98) (.int .i64 0)⟩,
    ⟨some 100, some (94, false), .v fun s => loadA false 1 s.m (s.get 99)⟩,
    ⟨some 101, some (94, false), .v fun s => binA prog .sub 3 (s.get 97) (s.get 100)⟩,
    ⟨some 102, some (94, false), .v fun s => some (s.get 3)⟩,
    ⟨some 103, some (94, false), .v fun s => idxSl 1 (s.get 102) (.int .i64 1)⟩,
    ⟨some 104, some (94, false), .v fun s => loadA false 1 s.m (s.get 103)⟩,
    ⟨some 105, some (94, false), .v fun s => some (s.get 3)⟩,
    ⟨some 106, some (94, false), .v fun s => idxSl 1 (s.get 105) (.int .i64 0)⟩,
    ⟨some 107, some (94, false), .v fun s => loadA false 1 s.m (s.get 106)⟩,
    ⟨some 108, some (94, false), .v fun s => binA prog .sub 3 (s.get 104) (s.get 107)⟩,
    ⟨some 109, some (94, false), .v fun s => binA prog .eql 3 (s.get 101) (s.get 108)⟩,
    ⟨some 110, some (94, false), .v fun s => some (s.get 109)⟩,
    ⟨some 111, some (110, true), .v fun s => some (s.get 8)⟩,
    ⟨some 112, some (110, true), .v fun s => idxSl 1 (s.get 111) (.int .i64 0)⟩,
    ⟨some 113, some (110, true), .v fun s => loadA false 1 s.m (s.get 112)⟩,
    ⟨some 114, some (110, true), .v fun s => some (s.get 8)⟩,
    ⟨some 115, some (110, true), .v fun s => idxSl 1 (s.get 114) (.int .i64 2)⟩,
    ⟨some 116, some (110, true), .v fun s => loadA false 1 s.m (s.get 115)⟩,
    ⟨some 117, some (110, true), .v fun s => bslF 2 (bslA 1 2 [.int .i64 0] [(0, (s.get 113)), (1, (s.get 116))])⟩,
    ⟨some 118, some (110, true), .v fun s => some (s.get 3)⟩,
    ⟨some 119, some (110, true), .v fun s => idxSl 1 (s.get 118) (.int .i64 0)⟩,
    ⟨some 120, some (110, true), .v fun s => loadA false 1 s.m (s.get 119)⟩,
    ⟨some 121, some (110, true), .v fun s => some (s.get 3)⟩,
    ⟨some 122, some (110, true), .v fun s => idxSl 1 (s.get 121) (.int .i64 2)⟩,
    ⟨some 123, some (110, true), .v fun s => loadA false 1 s.m (s.get 122)⟩,
    ⟨some 124, some (110, true), .v fun s => bslF 2 (bslA 1 2 [.int .i64 0] [(0, (s.get 120)), (1, (s.get 123))])⟩,
    ⟨some 125, some (110, true), .c 0 (fun s => (.fn 44 [] [])) fun s => [(s.get 117), (s.get 124)]⟩,
    ⟨some 126, some (94, false), .v fun s => pickA (s.get 110) (s.get 125) (.bool false)⟩,
    ⟨some 127, none, .v fun s => pickA (s.get 94) (.bool true) (s.get 126)⟩] K s := (den_regD hf r16_draw K s).trans (by kernel_rfl)
theorem i5_eq (K : List Item) (s : St) : den prog ann 29 (.code i5 :: K) s = ifV prog ann 29 127 i5t i5e K s (s.get 127) := den_if hf (by kernel_rfl) K s
theorem i5t_eq (K : List Item) (s : St) : den prog ann 29 (.code i5t :: K) s = den prog ann 29 (.code r17 :: K) s := den_flat hf (l := [r17]) (by kernel_rfl) K s
theorem r17_eq (K : List Item) (s : St) : den prog ann 29 (.code r17 :: K) s = mreg prog ann 29 none [] none [] [
    ⟨some 128, none, .v fun s => some (s.get 8)⟩,
    ⟨some 3, none, .v fun s => some (s.get 128)⟩] K s := (den_reg hf _ K s).trans (by kernel_rfl)
theorem i5e_eq (K : List Item) (s : St) : den prog ann 29 (.code i5e :: K) s = den prog ann 29 (K) s := den_flat hf (l := []) (by kernel_rfl) K s
theorem r13_eq (K : List Item) (s : St) : den prog ann 29 (.code r13 :: K) s = mreg prog ann 29 (some [0, 3, 4, 5, 6, 7]) [] none [] [
    ⟨some 37, none, .v fun s => some (s.get 7)⟩,
    ⟨some 38, none, .v fun s => binA prog .add 3 (s.get 37) (.int .i64 1)⟩,
    ⟨some 7, none, .v fun s => some (s.get 38)⟩] K s := (den_reg hf _ K s).trans (by kernel_rfl)
theorem r10_eq (K : List Item) (s : St) : den prog ann 29 (.code r10 :: K) s = mreg prog ann 29 (some [0, 3, 4, 5, 6]) [] none [] [
    ⟨some 29, none, .v fun s => some (s.get 6)⟩,
    ⟨some 30, none, .v fun s => binA prog .add 3 (s.get 29) (.int .i64 1)⟩,
    ⟨some 6, none, .v fun s => some (s.get 30)⟩] K s := (den_reg hf _ K s).trans (by kernel_rfl)
theorem r7_eq (K : List Item) (s : St) : den prog ann 29 (.code r7 :: K) s = mreg prog ann 29 (some [0, 3, 4, 5]) [] none [] [
    ⟨some 21, none, .v fun s => some (s.get 5)⟩,
    ⟨some 22, none, .v fun s => binA prog .add 3 (s.get 21) (.int .i64 1)⟩,
    ⟨some 5, none, .v fun s => some (s.get 22)⟩] K s := (den_reg hf _ K s).trans (by kernel_rfl)
theorem r4_eq (K : List Item) (s : St) : den prog ann 29 (.code r4 :: K) s = mreg prog ann 29 (some [0, 3, 4]) [] none [] [
    ⟨some 13, none, .v fun s => some (s.get 4)⟩,
    ⟨some 14, none, .v fun s => binA prog .add 3 (s.get 13) (.int .i64 1)⟩,
    ⟨some 4, none, .v fun s => some (s.get 14)⟩] K s := (den_reg hf _ K s).trans (by kernel_rfl)
theorem r18_eq (K : List Item) (s : St) : den prog ann 29 (.code r18 :: K) s = mreg prog ann 29 (some [3]) [] none [] [
    ⟨some 129, none, .v fun s => some (s.get 3)⟩,
    ⟨some 2, none, .v fun s => some (s.get 129)⟩] K s := (den_reg hf _ K s).trans (by kernel_rfl)
theorem ret_eq (K : List Item) (s : St) : den prog ann 29 (.code .ret :: K) s = finM true [fun s => some (s.get 2)] s := (den_ret hf K s).trans (by kernel_rfl)
theorem nil_eq (s : St) : den prog ann 29 [] s = finM true [fun s => some (s.get 2)] s := (den_nil hf s).trans (by kernel_rfl)
theorem inBlock_eq (id : Nat) (K : List Item) (s : St) : den prog ann 29 (.inBlock id :: K) s = den prog ann 29 K s := den_inBlock hf id K s
theorem exit_eq (id : Nat) (K : List Item) (s : St) : den prog ann 29 (.code (.exit id) :: K) s = exitV prog ann 29 (exitTo id K) s := den_exitV hf id K s
theorem call_eq (v0 : AV) (m : Mem) (h : closedL [v0] = true) : denC prog ann 29 [v0] m = (den prog ann 29 [.code b] ⟨[(0, v0)], 130, Mem.empty⟩).bind fun r => some (r.1, m) := (denC_pure hf (b := b) (by kernel_rfl) (by kernel_rfl) (by kernel_rfl) h m).trans (by kernel_rfl)
theorem pure_eq : (ann 29).pure = true := by kernel_rfl
attribute [simp] b_eq r0_eq r1_eq r2_eq k0_eq l0_eq r3_eq i0_eq i0t_eq i0e_eq k1_eq r5_eq k2_eq l2_eq r6_eq i1_eq i1t_eq i1e_eq k3_eq r8_eq k4_eq l4_eq r9_eq i2_eq i2t_eq i2e_eq k5_eq r11_eq k6_eq l6_eq r12_eq i3_eq i3t_eq i3e_eq k7_eq r14_eq i4_eq i4t_eq i4e_eq r15_eq r16_eq i5_eq i5t_eq r17_eq i5e_eq r13_eq r10_eq r7_eq r4_eq r18_eq ret_eq nil_eq inBlock_eq exit_eq pure_eq
end r04_Twice
end Go.Proofs.Ytpghadmpegncgaa

/-
  STRAPS (1): the order of lists, the same list; what a strap is. Conditions: none.
-/
namespace Go.Proofs.Ytpghadmpegncgaa
open Go.AM
open Go.Proofs.Try (prog)
set_option linter.all false
set_option maxRecDepth 100000
set_option maxHeartbeats 4000000

theorem before_loop {va vb : AV} {a b : List Int} (ha : IsInts va a) (hb : IsInts vb b) (hla : a.length < 4611686018427387904) : ∀ (n i : Nat) (m : Mem), a.length - i ≤ n → i ≤ a.length → i ≤ b.length →
    r01_Before.L0 va vb (.int .i64 i) m [.code r01_Before.r6, .code .ret] = some (.bool (lexLt (a.drop i) (b.drop i)), Mem.empty) := by
  intro n
  induction n with
  | zero =>
    intro i m hn hi hi2
    have e : i = a.length := by omega
    subst e
    rw [r01_Before.L0_eq]
    simp [ha.len, hb.len]
    rcases Nat.lt_or_ge a.length b.length with h | h
    · simp [h, drop_nth h, lexLt]
    · have e2 : a.length = b.length := by omega
      simp [e2, lexLt]
  | succ n ih =>
    intro i m hn hi hi2
    rw [r01_Before.L0_eq]
    simp [ha.len, hb.len]
    by_cases h1 : i < a.length
    · by_cases h2 : i < b.length
      · simp [ha.len, hb.len, h1, h2, ha.idx, hb.idx, ints_head]
        by_cases h3 : nth a i = nth b i
        · simp [h3]
          rw [wrap_id (by omega) (by omega)]
          have := ih (i + 1) ⟨m.h, m.nx + 9⟩ (by omega) (by omega) (by omega)
          simp at this
          rw [this, lexLt_drop h1 h2]
          simp [h3]
        · simp [h3, ha.idx, hb.idx, h1, h2, ints_head]
          rw [lexLt_drop h1 h2]
          simp [h3]
      · have e : i = b.length := by omega
        subst e
        simp [ha.len, hb.len, h1]
        have h4 : ¬ a.length < b.length := by omega
        simp [h4, drop_nth h1, lexLt]
    · have e : i = a.length := by omega
      subst e
      simp [ha.len, hb.len]
      rcases Nat.lt_or_ge a.length b.length with h | h
      · simp [h, drop_nth h, lexLt]
      · have e2 : a.length = b.length := by omega
        simp [e2, lexLt]

theorem before_spec {va vb : AV} {a b : List Int} (ha : IsInts va a) (hb : IsInts vb b) (hla : a.length < 4611686018427387904) (m : Mem) :
    denC prog ann 44 [va, vb] m = some (.bool (lexLt a b), m) := by
  rw [r01_Before.call_eq _ _ _ (by simp [ha.closed, hb.closed])]
  have := before_loop ha hb hla _ 0 Mem.empty (Nat.le_refl _) (by omega) (by omega)
  simp at this
  simp [this]


theorem same_spec {va vb : AV} {a b : List Int} (ha : IsInts va a) (hb : IsInts vb b) (hla : a.length < 4611686018427387904) (hlb : b.length < 4611686018427387904) (m : Mem) :
    denC prog ann 15 [va, vb] m = some (.bool (decide (a = b)), m) := by
  rw [r01_Same.call_eq _ _ _ (by simp [ha.closed, hb.closed])]
  simp [ha.closed, hb.closed, before_spec ha hb hla, before_spec hb ha hlb]
  have h := lexLt_same a b
  cases h1 : lexLt a b <;> cases h2 : lexLt b a <;> simp [h1, h2] at h <;> (try subst h) <;> simp [ha.closed, hb.closed, before_spec hb ha hlb, h1, h2, *]

/-! ### What a strap is -/
def ascB (l : List Int) (k i : Nat) : Bool := (List.range' i k).all fun i => decide (nth l (i - 1) < nth l i)
/-- A strap: from 0, rising, no more than 1000 long. -/
structure StrapOk (l : List Int) : Prop where
  pos : 0 < l.length
  few : l.length ≤ 40
  zero : nth l 0 = 0
  asc : ∀ i, i + 1 < l.length → nth l i < nth l (i + 1)
  top : nth l (l.length - 1) ≤ 1000
theorem StrapOk.lt {l : List Int} (s : StrapOk l) {i : Nat} : ∀ {j : Nat}, i < j → j < l.length → nth l i < nth l j
  | j + 1, h, hj => by
    rcases Nat.eq_or_lt_of_le (Nat.le_of_lt_succ h) with e | e
    · subst e; exact s.asc i hj
    · exact Int.lt_trans (s.lt e (by omega)) (s.asc j hj)
theorem StrapOk.le {l : List Int} (s : StrapOk l) {i j : Nat} (h : i ≤ j) (hj : j < l.length) : nth l i ≤ nth l j := by
  rcases Nat.eq_or_lt_of_le h with e | e
  · subst e; exact Int.le_refl _
  · exact Int.le_of_lt (s.lt e hj)
theorem StrapOk.nonneg {l : List Int} (s : StrapOk l) {i : Nat} (hi : i < l.length) : 0 ≤ nth l i := by
  have := s.le (Nat.zero_le i) hi
  rw [s.zero] at this; exact this
theorem StrapOk.most {l : List Int} (s : StrapOk l) {i : Nat} (hi : i < l.length) : nth l i ≤ 1000 := by
  have := s.le (show i ≤ l.length - 1 by omega) (by omega)
  have := s.top
  omega
/-- Why a list is no strap. -/
inductive StrapErr (l : List Int) : Int → Prop where
  | long (h : 40 < l.length) : StrapErr l 3
  | form (h : l.length ≤ 40) (h2 : ¬ StrapOk l) : StrapErr l 2
  | ok (h : StrapOk l) : StrapErr l 0
theorem StrapErr.uniq {l : List Int} {a b : Int} (h : StrapErr l a) (k : StrapErr l b) : a = b := by
  cases h with
  | long h => cases k with
    | long _ => rfl
    | form h2 _ => omega
    | ok s => have := s.few; omega
  | form h h2 => cases k with
    | long _ => omega
    | form _ _ => rfl
    | ok s => exact absurd s h2
  | ok s => cases k with
    | long _ => have := s.few; omega
    | form _ h => exact absurd s h
    | ok _ => rfl

theorem check_loop {v : AV} {l : List Int} (hv : IsInts v l) (hl : l.length ≤ 40) : ∀ (k i : Nat) (m : Mem), i + k = l.length → 1 ≤ i →
    strap_check.L1 v (.int .i64 i) m [.code strap_check.r11, .code .ret] = some (.int .i64 (if ascB l k i = true then 0 else 2), Mem.empty) := by
  intro k
  induction k with
  | zero =>
    intro i m h1 h2
    have e : i = l.length := by omega
    rw [strap_check.L1_eq]
    simp [e, hv.len, ascB]
    done
  | succ k ih =>
    intro i m h1 h2
    have hi : i < l.length := by omega
    have hw : IntKind.wrap .i64 ((i : Int) + 1) = (i : Int) + 1 := wrap_id (by omega) (by omega)
    have hw1 : IntKind.wrap .i64 ((i : Int) - 1) = ((i - 1 : Nat) : Int) := by rw [wrap_id (by omega) (by omega)]; omega
    have hj : i - 1 < l.length := by omega
    have hst := fun m => ih (i + 1) m (by omega) (by omega)
    simp only [Int.natCast_add, Int.cast_ofNat_Int] at hst
    have e : ascB l (k + 1) i = (decide (nth l (i - 1) < nth l i) && ascB l k (i + 1)) := by simp [ascB, List.range'_succ]
    rw [e, strap_check.L1_eq]
    by_cases q : nth l (i - 1) < nth l i
    · rw [decide_eq_true q, Bool.true_and]
      simp [hv.len, hi, hv.idx hi, ints_head hi, hw1, hv.idx hj, ints_head hj, show ¬ nth l i ≤ nth l (i - 1) by omega, hw, hst]
      done
    · rw [decide_eq_false q, Bool.false_and]
      simp [hv.len, hi, hv.idx hi, ints_head hi, hw1, hv.idx hj, ints_head hj, show nth l i ≤ nth l (i - 1) by omega]
      done
theorem asc_iff {l : List Int} {k i : Nat} (h : i + k = l.length) (hi : 1 ≤ i) : ascB l k i = true ↔ ∀ j, i ≤ j + 1 → j + 1 < l.length → nth l j < nth l (j + 1) := by
  simp only [ascB, List.all_eq_true, List.mem_range'_1, decide_eq_true_eq]
  constructor
  · intro a j h1 h2
    have := a (j + 1) ⟨by omega, by omega⟩
    simpa using this
  · intro a j hj
    have := a (j - 1) (by omega) (by omega)
    rwa [show j - 1 + 1 = j by omega] at this

theorem check_spec {v : AV} {l : List Int} (hv : IsInts v l) (hl : l.length < 1000000) : ∃ e, StrapErr l e ∧ ∀ m, denC prog ann 52 [v] m = some (.int .i64 e, m) := by
  have hcl : closedL [v] = true := by simp [hv.closed]
  by_cases q1 : (40 : Int) < l.length
  · refine ⟨3, .long (by omega), fun m => ?_⟩
    rw [strap_check.call_eq _ _ hcl]
    simp [hv.len, q1]
    done
  · by_cases q2 : l.length = 0
    · refine ⟨2, .form (by omega) (fun s => by have := s.pos; omega), fun m => ?_⟩
      rw [strap_check.call_eq _ _ hcl]
      simp [hv.len, q1, q2]
      done
    · have h0 : 0 < l.length := by omega
      have hlast : l.length - 1 < l.length := by omega
      have hw1 : IntKind.wrap .i64 ((l.length : Int) - 1) = ((l.length - 1 : Nat) : Int) := by rw [wrap_id (by omega) (by omega)]; omega
      have i0 := hv.idx h0 .i64
      have i1 := ints_head h0
      simp only [Int.ofNat_zero, Int.cast_ofNat_Int, List.drop_zero] at i0 i1
      have i2 := hv.idx hlast .i64
      have i3 := ints_head hlast
      by_cases q3 : nth l 0 = 0
      · by_cases q4 : 1000 < nth l (l.length - 1)
        · refine ⟨2, .form (by omega) (fun s => by have := s.top; omega), fun m => ?_⟩
          rw [strap_check.call_eq _ _ hcl]
          simp [hv.len, q1, q2, i0, i1, q3, hw1, i2, i3, q4]
          done
        · have lp := check_loop hv (by omega) (l.length - 1) 1 Mem.empty (by omega) (Nat.le_refl _)
          have hai := asc_iff (l := l) (k := l.length - 1) (i := 1) (by omega) (Nat.le_refl _)
          simp only [Int.cast_ofNat_Int] at lp
          cases q5 : ascB l (l.length - 1) 1 with
          | true =>
            rw [q5] at lp
            simp at lp
            refine ⟨0, .ok ⟨h0, by omega, q3, fun i hi => hai.1 q5 i (by omega) hi, by omega⟩, fun m => ?_⟩
            rw [strap_check.call_eq _ _ hcl]
            simp [hv.len, q1, q2, i0, i1, q3, hw1, i2, i3, q4, lp]
            done
          | false =>
            rw [q5] at lp
            simp at lp
            refine ⟨2, .form (by omega) (fun s => ?_), fun m => ?_⟩
            · rw [hai.2 fun j _ hj => s.asc j hj] at q5; cases q5
            · rw [strap_check.call_eq _ _ hcl]
              simp [hv.len, q1, q2, i0, i1, q3, hw1, i2, i3, q4, lp]
              done
      · refine ⟨2, .form (by omega) (fun s => q3 s.zero), fun m => ?_⟩
        rw [strap_check.call_eq _ _ hcl]
        simp [hv.len, q1, q2, i0, i1, q3]
        done
end Go.Proofs.Ytpghadmpegncgaa

/-
  STRAPS (2): the specification's test; how often each distance comes. Conditions: none.
-/
namespace Go.Proofs.Ytpghadmpegncgaa
open Go.AM
open Go.Proofs.Try (prog)
set_option linter.all false
set_option maxRecDepth 100000
set_option maxHeartbeats 4000000

def okAt (l : List Int) (j : Nat) : Bool := if j = 0 then decide (nth l 0 = 0) else decide (nth l (j - 1) < nth l j) && decide (nth l j ≤ 1000)
theorem ref_loop {v : AV} {l : List Int} (hv : IsInts v l) (hl : l.length ≤ 40) : ∀ (k i : Nat) (m : Mem), i + k = l.length →
    r04_Strap.L0 v (.int .i64 i) m [.code r04_Strap.r8, .code r04_Strap.i3, .code r04_Strap.r10, .code .ret] = some (.int .i64 (if (List.range' i k).all (okAt l) = true ∧ l.length ≠ 0 then 0 else 2), Mem.empty) := by
  intro k
  induction k with
  | zero =>
    intro i m h1
    have e : i = l.length := by omega
    rw [r04_Strap.L0_eq]
    by_cases h0 : l.length = 0
    · simp [e, hv.len, h0]
      done
    · simp [e, hv.len, h0]
      done
  | succ k ih =>
    intro i m h1
    have hi : i < l.length := by omega
    have hw : IntKind.wrap .i64 ((i : Int) + 1) = (i : Int) + 1 := wrap_id (by omega) (by omega)
    have hst := fun m => ih (i + 1) m (by omega)
    simp only [Int.natCast_add, Int.cast_ofNat_Int] at hst
    have e : (List.range' i (k + 1)).all (okAt l) = (okAt l i && (List.range' (i + 1) k).all (okAt l)) := by simp [List.range'_succ]
    rw [e, r04_Strap.L0_eq]
    have h0 : ¬ l.length = 0 := by omega
    by_cases hz : i = 0
    · subst hz
      have i0 := hv.idx hi .i64
      have i1 := ints_head hi
      simp only [Int.ofNat_zero, Int.cast_ofNat_Int, List.drop_zero, Int.zero_add, Nat.zero_add] at i0 i1 hst hw
      by_cases q : nth l 0 = 0
      · have ho : okAt l 0 = true := by simp [okAt, q]
        rw [ho, Bool.true_and]
        simp [hv.len, hi, i0, i1, q, hw, hst, h0]
        done
      · have ho : okAt l 0 = false := by simp [okAt, q]
        rw [ho, Bool.false_and]
        simp [hv.len, hi, i0, i1, q, hw, hst]
        done
    · have hw1 : IntKind.wrap .i64 ((i : Int) - 1) = ((i - 1 : Nat) : Int) := by rw [wrap_id (by omega) (by omega)]; omega
      have hj : i - 1 < l.length := by omega
      have hz' : ¬ (i : Int) = 0 := by omega
      have hp : 0 < i := by omega
      by_cases q : nth l (i - 1) < nth l i
      · have q' : ¬ nth l i ≤ nth l (i - 1) := by omega
        by_cases q2 : 1000 < nth l i
        · have ho : okAt l i = false := by simp [okAt, hz]; omega
          rw [ho, Bool.false_and]
          simp [hv.len, hi, hv.idx hi, ints_head hi, hw1, hv.idx hj, ints_head hj, q', hw, hst, hz, hz', hp, q2]
          done
        · have ho : okAt l i = true := by simp [okAt, hz, q]; omega
          rw [ho, Bool.true_and]
          simp [hv.len, hi, hv.idx hi, ints_head hi, hw1, hv.idx hj, ints_head hj, q', hw, hst, h0, hz, hz', hp, q2]
          done
      · have q' : nth l i ≤ nth l (i - 1) := by omega
        have ho : okAt l i = false := by simp [okAt, hz]; omega
        rw [ho, Bool.false_and]
        simp [hv.len, hi, hv.idx hi, ints_head hi, hw1, hv.idx hj, ints_head hj, q', hw, hst, hz, hz', hp]
        done
theorem ref_spec {v : AV} {l : List Int} (hv : IsInts v l) (hl : l.length < 1000000) : ∃ e, StrapErr l e ∧ ∀ m, denC prog ann 25 [v] m = some (.int .i64 e, m) := by
  have hcl : closedL [v] = true := by simp [hv.closed]
  by_cases q1 : (40 : Int) < l.length
  · refine ⟨3, .long (by omega), fun m => ?_⟩
    rw [r04_Strap.call_eq _ _ hcl]
    simp [hv.len, q1]
    done
  · have lp := ref_loop hv (by omega) l.length 0 Mem.empty (by omega)
    simp only [Int.ofNat_zero, Int.cast_ofNat_Int] at lp
    by_cases q : (List.range' 0 l.length).all (okAt l) = true ∧ l.length ≠ 0
    · rw [if_pos q] at lp
      refine ⟨0, .ok ?_, fun m => ?_⟩
      · have a : ∀ j, j < l.length → okAt l j = true := fun j hj => by
          have := List.all_eq_true.1 q.1 j
          exact this (by simp [List.mem_range'_1]; omega)
        refine ⟨by omega, by omega, by simpa [okAt] using a 0 (by omega), fun i hi => ?_, ?_⟩
        · have := a (i + 1) hi
          simp [okAt] at this
          exact this.1
        · by_cases h1 : l.length = 1
          · have := a 0 (by omega)
            simp [okAt] at this
            rw [h1, show nth l (1 - 1) = nth l 0 from rfl, this]; decide
          · have := a (l.length - 1) (by omega)
            simp [okAt, show ¬ l.length - 1 = 0 by omega] at this
            exact this.2
      · rw [r04_Strap.call_eq _ _ hcl]
        simp [hv.len, q1, lp]
        done
    · rw [if_neg q] at lp
      refine ⟨2, .form (by omega) (fun s => q ⟨?_, by have := s.pos; omega⟩), fun m => ?_⟩
      · rw [List.all_eq_true]
        intro j hj
        simp [List.mem_range'_1] at hj
        by_cases hz : j = 0
        · simp [okAt, hz, s.zero]
        · have a := s.asc (j - 1) (by omega)
          rw [show j - 1 + 1 = j by omega] at a
          have b := s.most hj
          simp [okAt, hz, a, b]
      · rw [r04_Strap.call_eq _ _ hcl]
        simp [hv.len, q1, lp]
        done
theorem check_ref {v : AV} {l : List Int} (hv : IsInts v l) (hl : l.length < 1000000) : ∃ e, StrapErr l e ∧ (∀ m, denC prog ann 52 [v] m = some (.int .i64 e, m)) ∧ ∀ m, denC prog ann 25 [v] m = some (.int .i64 e, m) := by
  obtain ⟨e, h1, h2⟩ := check_spec hv hl
  obtain ⟨e', h3, h4⟩ := ref_spec hv hl
  have := h1.uniq h3
  subst this
  exact ⟨e, h1, h2, h4⟩

/-! ### How often each distance comes -/
def cntF (l : List Int) (x : Int) (k j : Nat) (c : List Int) : List Int := (List.range' j k).foldl (fun c q => bump c (x - nth l q).toNat) c
def cntO (l : List Int) (k i : Nat) (c : List Int) : List Int := (List.range' i k).foldl (fun c i => cntF l (nth l i) i 0 c) c
theorem cntF_succ (l : List Int) (x : Int) (k j : Nat) (c : List Int) : cntF l x (k + 1) j c = cntF l x k (j + 1) (bump c (x - nth l j).toNat) := by simp [cntF, List.range'_succ]
theorem cntO_succ (l : List Int) (k i : Nat) (c : List Int) : cntO l (k + 1) i c = cntO l k (i + 1) (cntF l (nth l i) i 0 c) := by simp [cntO, List.range'_succ]
theorem cntF_len (l : List Int) (x : Int) : ∀ (k j : Nat) (c : List Int), (cntF l x k j c).length = c.length
  | 0, _, _ => rfl
  | k + 1, j, c => by rw [cntF_succ, cntF_len, bump_len]
/-- The counts are small. -/
def Small (c : List Int) (B : Int) : Prop := ∀ g, 0 ≤ nth c g ∧ nth c g ≤ B
theorem Small.bump {c : List Int} {B : Int} (h : Small c B) (hB : 0 ≤ B) (q : Nat) : Small (bump c q) (B + 1) := by
  intro g
  have := h g
  have h2 := h q
  rw [Go.AM.bump, nth_set]
  split <;> omega
theorem Small.cntF {l : List Int} {x : Int} : ∀ {k j : Nat} {c : List Int} {B : Int}, Small c B → 0 ≤ B → Small (cntF l x k j c) (B + k)
  | 0, _, _, _, h, _ => by simpa [Go.Proofs.Ytpghadmpegncgaa.cntF] using h
  | k + 1, j, c, B, h, hB => by
    rw [cntF_succ]
    have := (h.bump hB (x - nth l j).toNat).cntF (l := l) (x := x) (k := k) (j := j + 1) (by omega)
    rwa [show B + 1 + (k : Int) = B + ((k + 1 : Nat) : Int) by omega] at this

/-- What a strap's counting keeps. -/
def top (l : List Int) : Int := nth l (l.length - 1)
def counts (l : List Int) : List Int := cntO l l.length 0 (List.replicate (top l + 1).toNat 0)
theorem cnt_in {v : AV} {l : List Int} (hv : IsInts v l) (s : StrapOk l) {i : Nat} (hi : i < l.length) (oid : Nat) (K : List Item) : ∀ (k j : Nat) (c : List Int) (m : Mem), j + k = i → m.h oid = some (.cells (ints c)) → c.length = (top l + 1).toNat → Small c (1000000 + j) →
    ∃ m', m'.h oid = some (.cells (ints (cntF l (nth l i) k j c))) ∧ r04_Distances.L2 v (.sl oid 1 0 c.length c.length) (.int .i64 i) (.int .i64 j) m (.inBlock 1 :: .code r04_Distances.r4 :: .inLoop r04_Distances.l0 :: .inBlock 0 :: K) = r04_Distances.L0 v (.sl oid 1 0 c.length c.length) (.int .i64 ((i : Int) + 1)) m' K := by
  intro k
  have hfew := s.few
  induction k with
  | zero =>
    intro j c m h1 hm hc hs
    have e : j = i := by omega
    subst e
    have hw : IntKind.wrap .i64 ((j : Int) + 1) = (j : Int) + 1 := wrap_id (by omega) (by omega)
    refine ⟨m, hm, ?_⟩
    rw [r04_Distances.L2_eq]
    simp [hw]
    done
  | succ k ih =>
    intro j c m h1 hm hc hs
    have hj : j < i := by omega
    have hj' : j < l.length := by omega
    have hw : IntKind.wrap .i64 ((j : Int) + 1) = (j : Int) + 1 := wrap_id (by omega) (by omega)
    have a1 := s.lt hj hi
    have a2 := s.nonneg hj'
    have a3 := s.le (show i ≤ l.length - 1 by omega) (by omega)
    have a4 := s.most hi
    obtain ⟨d, hd⟩ : ∃ d : Nat, nth l i - nth l j = d := ⟨(nth l i - nth l j).toNat, by omega⟩
    have hwd : IntKind.wrap .i64 (nth l i - nth l j) = (d : Int) := by rw [hd, wrap_id (by omega) (by omega)]
    have hdl : d < c.length := by rw [hc]; unfold top; omega
    have hs2 := hs d
    have hwc : IntKind.wrap .i64 (nth c d + 1) = nth c d + 1 := wrap_id (by omega) (by omega)
    have hst := fun m hm => ih (j + 1) (bump c d) m (by omega) hm (by rw [bump_len, hc]) (by have := hs.bump (by omega) d; rwa [show (1000000 + (j : Int) + 1) = 1000000 + ((j + 1 : Nat) : Int) by omega] at this)
    rw [bump_len] at hst
    simp only [Int.natCast_add, Int.cast_ofNat_Int] at hst
    have hc' : c.set d (nth c d + 1) = bump c d := rfl
    obtain ⟨m', g1, g2⟩ := hst ⟨upd m.h oid (some (.cells (ints (bump c d)))), m.nx + 15⟩ (by simp)
    refine ⟨m', by rw [cntF_succ, hd]; exact g1, ?_⟩
    rw [r04_Distances.L2_eq]
    simp [hj, hv.idx hi, ints_head hi, hv.idx hj', ints_head hj', hwd, hdl, hm, hwc, hw, hc', g2]
    done
theorem cnt_out {v : AV} {l : List Int} (hv : IsInts v l) (s : StrapOk l) (oid : Nat) : ∀ (k i : Nat) (c : List Int) (m : Mem), i + k = l.length → m.h oid = some (.cells (ints c)) → c.length = (top l + 1).toNat → Small c (1000 * i) →
    r04_Distances.L0 v (.sl oid 1 0 c.length c.length) (.int .i64 i) m [.code r04_Distances.r9, .code .ret] = some (intsV (cntO l k i c), Mem.empty) := by
  intro k
  have hfew := s.few
  have hpos := s.pos
  induction k with
  | zero =>
    intro i c m h1 hm hc hs
    have e : i = l.length := by omega
    subst e
    have ht : 0 ≤ top l := s.nonneg (by omega)
    have hne : c ≠ [] := by intro e; rw [e] at hc; simp at hc; omega
    have hd := fun d => deep_ints hm rfl d
    rw [r04_Distances.L0_eq]
    simp [hv.len, intsV, hne, cntO, hm]
    done
  | succ k ih =>
    intro i c m h1 hm hc hs
    have hi : i < l.length := by omega
    have hw : IntKind.wrap .i64 ((i : Int) + 1) = (i : Int) + 1 := wrap_id (by omega) (by omega)
    obtain ⟨m', g1, g2⟩ := cnt_in hv s hi oid [.code r04_Distances.r9, .code .ret] i 0 c m (by omega) hm hc (fun g => by have := hs g; omega)
    simp only [Int.ofNat_zero, Int.cast_ofNat_Int] at g2
    have hst := ih (i + 1) (cntF l (nth l i) i 0 c) m' (by omega) g1 (by rw [cntF_len, hc]) (by
      have := hs.cntF (l := l) (x := nth l i) (k := i) (j := 0) (by omega)
      intro g; have := this g; omega)
    simp only [Int.natCast_add, Int.cast_ofNat_Int, cntF_len] at hst
    rw [r04_Distances.L0_eq]
    simp [hv.len, hi, g2, hst, cntO_succ]
    done
theorem top_wrap {l : List Int} (s : StrapOk l) : IntKind.wrap .i64 (nth l (l.length - 1) + 1) = nth l (l.length - 1) + 1 := by
  have hpos := s.pos
  have := s.nonneg (i := l.length - 1) (by omega)
  have := s.top
  exact wrap_id (by omega) (by omega)
theorem rdist_spec {v : AV} {l : List Int} (hv : IsInts v l) (s : StrapOk l) (m : Mem) : denC prog ann 26 [v] m = some (intsV (counts l), m) := by
  have hcl : closedL [v] = true := by simp [hv.closed]
  have hpos := s.pos
  have hfew := s.few
  rw [r04_Distances.call_eq _ _ hcl]
  have hlast : l.length - 1 < l.length := by omega
  have hw1 : IntKind.wrap .i64 ((l.length : Int) - 1) = ((l.length - 1 : Nat) : Int) := by rw [wrap_id (by omega) (by omega)]; omega
  have t0 : 0 ≤ top l := s.nonneg (by omega)
  have t1 : top l ≤ 1000 := s.top
  obtain ⟨t, ht⟩ : ∃ t : Nat, top l = t := ⟨(top l).toNat, by omega⟩
  have htw := top_wrap s
  have e : (top l + 1).toNat = t + 1 := by omega
  unfold top at ht
  rw [ht] at htw
  have lp := cnt_out hv s 0 l.length 0 (List.replicate (t + 1) 0) ⟨upd Mem.empty.h 0 (some (.cells (List.replicate (t + 1) (AV.int .i64 0)))), 1⟩ (by omega) (by simp [ints]) (by simp [e]) (fun g => by rw [nth_zero']; omega)
  simp only [Int.ofNat_zero, Int.cast_ofNat_Int, List.length_replicate] at lp
  rw [counts, e]
  simp [hv.len, hw1, hv.idx hlast, ints_head hlast, ht, htw, show (0 : Int) ≤ (t : Int) + 1 by omega, show t ≤ 4611686018427387903 by omega, show (t + 1) * 8 ≤ 70368744177664 by omega, lp]
  done
theorem nth_take {l : List Int} {i j : Nat} (h : j < i) : nth (l.take i) j = nth l j := by simp [nth, List.getD, List.getElem?_take, h]
theorem cn_in {v : AV} {l : List Int} (hv : IsInts v l) (s : StrapOk l) {i : Nat} (hi : i < l.length) {w : AV} (hw0 : IsInts w (l.take i)) (oid : Nat) (K : List Item) : ∀ (k j : Nat) (c : List Int) (m : Mem), j + k = i → m.h oid = some (.cells (ints c)) → c.length = (top l + 1).toNat → Small c (1000000 + j) →
    ∃ m', m'.h oid = some (.cells (ints (cntF l (nth l i) k j c))) ∧ strap_counts.L2 v (.sl oid 1 0 c.length c.length) (.int .i64 (nth l i)) v (.int .i64 l.length) (.int .i64 i) w (.int .i64 i) (.int .i64 j) m (.inBlock 1 :: .code strap_counts.r10 :: .inLoop strap_counts.l0 :: .inBlock 0 :: K) = strap_counts.L0 v (.sl oid 1 0 c.length c.length) v (.int .i64 l.length) (.int .i64 ((i : Int) + 1)) m' K := by
  intro k
  have hfew := s.few
  induction k with
  | zero =>
    intro j c m h1 hm hc hs
    have e : j = i := by omega
    subst e
    have hw : IntKind.wrap .i64 ((j : Int) + 1) = (j : Int) + 1 := wrap_id (by omega) (by omega)
    refine ⟨m, hm, ?_⟩
    rw [strap_counts.L2_eq]
    simp [hw]
    done
  | succ k ih =>
    intro j c m h1 hm hc hs
    have hj : j < i := by omega
    have hj' : j < l.length := by omega
    have hjt : j < (l.take i).length := by simp; omega
    have hix := hw0.idx hjt .i64
    have hih := ints_head hjt
    rw [nth_take hj] at hih
    have hw : IntKind.wrap .i64 ((j : Int) + 1) = (j : Int) + 1 := wrap_id (by omega) (by omega)
    have a1 := s.lt hj hi
    have a2 := s.nonneg hj'
    have a3 := s.le (show i ≤ l.length - 1 by omega) (by omega)
    have a4 := s.most hi
    obtain ⟨d, hd⟩ : ∃ d : Nat, nth l i - nth l j = d := ⟨(nth l i - nth l j).toNat, by omega⟩
    have hwd : IntKind.wrap .i64 (nth l i - nth l j) = (d : Int) := by rw [hd, wrap_id (by omega) (by omega)]
    have hdl : d < c.length := by rw [hc]; unfold top; omega
    have hs2 := hs d
    have hwc : IntKind.wrap .i64 (nth c d + 1) = nth c d + 1 := wrap_id (by omega) (by omega)
    have hst := fun m hm => ih (j + 1) (bump c d) m (by omega) hm (by rw [bump_len, hc]) (by have := hs.bump (by omega) d; rwa [show (1000000 + (j : Int) + 1) = 1000000 + ((j + 1 : Nat) : Int) by omega] at this)
    rw [bump_len] at hst
    simp only [Int.natCast_add, Int.cast_ofNat_Int] at hst
    have hc' : c.set d (nth c d + 1) = bump c d := rfl
    obtain ⟨m', g1, g2⟩ := hst ⟨upd m.h oid (some (.cells (ints (bump c d)))), m.nx⟩ (by simp)
    refine ⟨m', by rw [cntF_succ, hd]; exact g1, ?_⟩
    rw [strap_counts.L2_eq]
    simp [hj, hix, hih, hwd, hdl, hm, hwc, hw, hc', g2]
    done
theorem cn_out {v : AV} {l : List Int} (hv : IsInts v l) (s : StrapOk l) (oid : Nat) : ∀ (k i : Nat) (c : List Int) (m : Mem), i + k = l.length → m.h oid = some (.cells (ints c)) → c.length = (top l + 1).toNat → Small c (1000 * i) →
    strap_counts.L0 v (.sl oid 1 0 c.length c.length) v (.int .i64 l.length) (.int .i64 i) m [.code strap_counts.r11, .code .ret] = some (intsV (cntO l k i c), Mem.empty) := by
  intro k
  have hfew := s.few
  have hpos := s.pos
  induction k with
  | zero =>
    intro i c m h1 hm hc hs
    have e : i = l.length := by omega
    subst e
    have ht : 0 ≤ top l := s.nonneg (by omega)
    have hne : c ≠ [] := by intro e; rw [e] at hc; simp at hc; omega
    rw [strap_counts.L0_eq]
    simp [hv.len, intsV, hne, cntO, hm]
    done
  | succ k ih =>
    intro i c m h1 hm hc hs
    have hi : i < l.length := by omega
    have hw : IntKind.wrap .i64 ((i : Int) + 1) = (i : Int) + 1 := wrap_id (by omega) (by omega)
    obtain ⟨w, hw1, hw2⟩ := slice_ints hv (j := (i : Int)) (by omega) (by omega)
    rw [Int.toNat_natCast] at hw2
    have hwl := hw2.len
    rw [List.length_take, show min i l.length = i by omega] at hwl
    obtain ⟨m', g1, g2⟩ := cn_in hv s hi hw2 oid [.code strap_counts.r11, .code .ret] i 0 c m (by omega) hm hc (fun g => by have := hs g; omega)
    simp only [Int.ofNat_zero, Int.cast_ofNat_Int] at g2
    have hst := ih (i + 1) (cntF l (nth l i) i 0 c) m' (by omega) g1 (by rw [cntF_len, hc]) (by
      have := hs.cntF (l := l) (x := nth l i) (k := i) (j := 0) (by omega)
      intro g; have := this g; omega)
    simp only [Int.natCast_add, Int.cast_ofNat_Int, cntF_len] at hst
    rw [strap_counts.L0_eq]
    simp [hv.len, hi, hv.idx hi, ints_head hi, hw1, hwl, g2, hst, cntO_succ]
    done
theorem counts_spec {v : AV} {l : List Int} (hv : IsInts v l) (s : StrapOk l) (m : Mem) : denC prog ann 50 [v] m = some (intsV (counts l), m) := by
  have hcl : closedL [v] = true := by simp [hv.closed]
  have hpos := s.pos
  have hfew := s.few
  rw [strap_counts.call_eq _ _ hcl]
  have hlast : l.length - 1 < l.length := by omega
  have hw1 : IntKind.wrap .i64 ((l.length : Int) - 1) = ((l.length - 1 : Nat) : Int) := by rw [wrap_id (by omega) (by omega)]; omega
  have t0 : 0 ≤ top l := s.nonneg (by omega)
  have t1 : top l ≤ 1000 := s.top
  obtain ⟨t, ht⟩ : ∃ t : Nat, top l = t := ⟨(top l).toNat, by omega⟩
  have htw := top_wrap s
  have e : (top l + 1).toNat = t + 1 := by omega
  unfold top at ht
  rw [ht] at htw
  have lp := cn_out hv s 0 l.length 0 (List.replicate (t + 1) 0) ⟨upd Mem.empty.h 0 (some (.cells (List.replicate (t + 1) (AV.int .i64 0)))), 1⟩ (by omega) (by simp [ints]) (by simp [e]) (fun g => by rw [nth_zero']; omega)
  simp only [Int.ofNat_zero, Int.cast_ofNat_Int, List.length_replicate] at lp
  rw [counts, e]
  simp [hv.len, hw1, hv.idx hlast, ints_head hlast, ht, htw, show (0 : Int) ≤ (t : Int) + 1 by omega, show t ≤ 4611686018427387903 by omega, show (t + 1) * 8 ≤ 70368744177664 by omega, lp]
  done
/-- Distances. -/
theorem dist_spec {v : AV} {l : List Int} (hv : IsInts v l) {e : Int} (he : StrapErr l e) (hc : ∀ m, denC prog ann 52 [v] m = some (.int .i64 e, m)) : ∃ w, (e = 0 → IsInts w (counts l)) ∧ (e ≠ 0 → w = .nils) ∧ ∀ m, denC prog ann 22 [v] m = some (.tup [w, .int .i64 e], m) := by
  have hcl : closedL [v] = true := by simp [hv.closed]
  by_cases q : e = 0
  · have s : StrapOk l := by cases he <;> first | assumption | (exact absurd q (by decide))
    refine ⟨intsV (counts l), fun _ => intsV_is _, fun h => absurd q h, fun m => ?_⟩
    rw [strap_Distances.call_eq _ _ hcl]
    simp [hc, q, hv.closed, counts_spec hv s, (intsV_is (counts l)).deep]
    done
  · refine ⟨.nils, fun h => absurd h q, fun _ => rfl, fun m => ?_⟩
    rw [strap_Distances.call_eq _ _ hcl]
    simp [hc, q, hv.closed]
    done
end Go.Proofs.Ytpghadmpegncgaa

/-
  STRAPS (3): the distances that a strap lacks. Conditions: none.
-/
namespace Go.Proofs.Ytpghadmpegncgaa
open Go.AM
open Go.Proofs.Try (prog)
set_option linter.all false
set_option maxRecDepth 100000
set_option maxHeartbeats 4000000

theorem cntO_len (l : List Int) : ∀ (k i : Nat) (c : List Int), (cntO l k i c).length = c.length
  | 0, _, _ => rfl
  | k + 1, i, c => by rw [cntO_succ, cntO_len, cntF_len]
theorem counts_len (l : List Int) : (counts l).length = (top l + 1).toNat := by rw [counts, cntO_len, List.length_replicate]
theorem counts_few {l : List Int} (s : StrapOk l) : (counts l).length ≤ 1001 := by
  rw [counts_len]; have := s.top; unfold top; omega
theorem counts_pos {l : List Int} (s : StrapOk l) : 0 < (counts l).length := by
  rw [counts_len]; have := s.nonneg (i := l.length - 1) (by have := s.pos; omega); unfold top; omega
def missL (c : List Int) (k i : Nat) : List Int := ((List.range' i k).filter fun d => decide (0 < d) && decide (nth c d = 0)).map fun d : Nat => (d : Int)
theorem missL_succ (c : List Int) (k i : Nat) : missL c (k + 1) i = if 0 < i ∧ nth c i = 0 then (i : Int) :: missL c k (i + 1) else missL c k (i + 1) := by
  simp only [missL, List.range'_succ, List.filter_cons]
  by_cases h : 0 < i ∧ nth c i = 0 <;> simp [h]

theorem miss_loop {w : AV} {c : List Int} (hw0 : IsInts w c) (hcl : c.length ≤ 1001) : ∀ (k i oid : Nat) (acc : List Int) (m : Mem), i + k = c.length → OutI m oid acc → acc.length ≤ i →
    strap_Misses.L0 (outI oid acc) w (.int .i64 c.length) (.int .i64 i) m [.code strap_Misses.r11, .code .ret] = some (.tup [intsV (acc ++ missL c k i), .int .i64 0], Mem.empty) := by
  intro k
  induction k with
  | zero =>
    intro i oid acc m h1 ho ha
    have e : i = c.length := by omega
    subst e
    have hd := outI_deep ho
    rw [strap_Misses.L0_eq]
    simp [missL, hd]
    done
  | succ k ih =>
    intro i oid acc m h1 ho ha
    have hi : i < c.length := by omega
    have hw : IntKind.wrap .i64 ((i : Int) + 1) = (i : Int) + 1 := wrap_id (by omega) (by omega)
    by_cases q1 : 0 < i
    · by_cases q2 : nth c i = 0
      · obtain ⟨oid', m', g1, g2, g3, _⟩ := outI_appT ho (by omega) (i : Int)
        have hst := ih (i + 1) oid' (acc ++ [(i : Int)]) m' (by omega) g2 (by simp; omega)
        simp only [Int.natCast_add, Int.cast_ofNat_Int] at hst
        rw [missL_succ, if_pos ⟨q1, q2⟩, strap_Misses.L0_eq]
        simp [hi, hw0.idx hi, ints_head hi, q1, q2, g1, hw, hst]
        done
      · have hst := ih (i + 1) oid acc m (by omega) ho (by omega)
        simp only [Int.natCast_add, Int.cast_ofNat_Int] at hst
        rw [missL_succ, if_neg (fun h => q2 h.2), strap_Misses.L0_eq]
        simp [hi, hw0.idx hi, ints_head hi, q1, q2, hw, hst]
        done
    · have hst := ih (i + 1) oid acc m (by omega) ho (by omega)
      simp only [Int.natCast_add, Int.cast_ofNat_Int] at hst
      rw [missL_succ, if_neg (fun h => q1 h.1), strap_Misses.L0_eq]
      simp [hi, hw0.idx hi, ints_head hi, q1, hw, hst]
      done
def misses (l : List Int) : List Int := missL (counts l) (counts l).length 0
theorem miss_spec {v : AV} {l : List Int} (hv : IsInts v l) {e : Int} (he : StrapErr l e) (hc : ∀ m, denC prog ann 52 [v] m = some (.int .i64 e, m)) : ∃ w, (e = 0 → IsInts w (misses l)) ∧ (e ≠ 0 → w = .nils) ∧ ∀ m, denC prog ann 23 [v] m = some (.tup [w, .int .i64 e], m) := by
  have hcl : closedL [v] = true := by simp [hv.closed]
  by_cases q : e = 0
  · have s : StrapOk l := by cases he <;> first | assumption | (exact absurd q (by decide))
    refine ⟨intsV (misses l), fun _ => intsV_is _, fun h => absurd q h, fun m => ?_⟩
    have hw0 := intsV_is (counts l)
    have lp := miss_loop hw0 (counts_few s) (counts l).length 0 0 [] Mem.empty (by omega) (fun h => absurd rfl h) (Nat.le_refl _)
    simp only [Int.ofNat_zero, Int.cast_ofNat_Int, List.nil_append] at lp
    rw [show outI 0 [] = .nils from rfl] at lp
    rw [strap_Misses.call_eq _ _ hcl]
    simp [hc, q, hv.closed, counts_spec hv s, hw0.len, lp, misses]
    done
  · refine ⟨.nils, fun h => absurd h q, fun _ => rfl, fun m => ?_⟩
    rw [strap_Misses.call_eq _ _ hcl]
    simp [hc, q, hv.closed]
    done
theorem rmiss_loop {w : AV} {c : List Int} (hw0 : IsInts w c) (hcl : c.length ≤ 1001) (oid : Nat) : ∀ (k i : Nat) (acc : List Int) (m : Mem), i + k = c.length → 0 < i → m.h oid = some (.cells (ints acc)) → acc.length ≤ i →
    r04_Misses.L0 w (.sl oid 1 0 acc.length acc.length) (.int .i64 i) m [.code r04_Misses.r7, .code .ret] = some (.fsl false (acc ++ missL c k i).length (ints (acc ++ missL c k i)), Mem.empty) := by
  intro k
  induction k with
  | zero =>
    intro i acc m h1 q1 ho ha
    have e : i = c.length := by omega
    subst e
    rw [r04_Misses.L0_eq]
    simp [missL, hw0.len, ho]
    done
  | succ k ih =>
    intro i acc m h1 q1 ho ha
    have hi : i < c.length := by omega
    have hw : IntKind.wrap .i64 ((i : Int) + 1) = (i : Int) + 1 := wrap_id (by omega) (by omega)
    by_cases q2 : nth c i = 0
    · have hst := ih (i + 1) (acc ++ [(i : Int)]) ⟨upd m.h oid (some (.cells (ints (acc ++ [(i : Int)])))), m.nx⟩ (by omega) (by omega) (by simp) (by simp; omega)
      have hx : ints acc ++ [AV.int .i64 (i : Int)] = ints (acc ++ [(i : Int)]) := by simp [ints]
      simp only [Int.natCast_add, Int.cast_ofNat_Int, List.append_assoc, List.singleton_append, List.length_append, List.length_singleton, List.length_cons, List.length_nil] at hst
      rw [missL_succ, if_pos ⟨q1, q2⟩, r04_Misses.L0_eq]
      simp [hi, hw0.len, hw0.idx hi, ints_head hi, q2, ho, hx, Mem.set, show acc.length ≤ 4611686018427387903 by omega, show (acc.length + 1) * 8 ≤ 70368744177664 by omega, hw, hst]
      done
    · have hst := ih (i + 1) acc m (by omega) (by omega) ho (by omega)
      simp only [Int.natCast_add, Int.cast_ofNat_Int] at hst
      rw [missL_succ, if_neg (fun h => q2 h.2), r04_Misses.L0_eq]
      simp [hi, hw0.len, hw0.idx hi, ints_head hi, q2, hw, hst]
      done
theorem rmiss_spec {v : AV} {l : List Int} (hv : IsInts v l) (s : StrapOk l) : ∃ w, IsInts w (misses l) ∧ ∀ m, denC prog ann 27 [v] m = some (w, m) := by
  have hcl : closedL [v] = true := by simp [hv.closed]
  have hw0 := intsV_is (counts l)
  have hp := counts_pos s
  have lp := rmiss_loop hw0 (counts_few s) 0 ((counts l).length - 1) 1 [] ⟨upd Mem.empty.h 0 (some (.cells (ints []))), 1⟩ (by omega) (by omega) (by simp) (by simp)
  simp only [Int.ofNat_zero, Int.cast_ofNat_Int, List.nil_append, List.length_nil] at lp
  have e : misses l = missL (counts l) ((counts l).length - 1) 1 := by
    obtain ⟨n, hn⟩ : ∃ n, (counts l).length = n + 1 := ⟨(counts l).length - 1, by omega⟩
    rw [misses, hn, missL_succ, if_neg (fun h => absurd h.1 (by omega))]; rfl
  refine ⟨_, .inr ⟨false, rfl⟩, fun m => ?_⟩
  rw [e, r04_Misses.call_eq _ _ hcl]
  simp [hv.closed, rdist_spec hv s]
  simp at lp
  simp [lp]
  done
end Go.Proofs.Ytpghadmpegncgaa
