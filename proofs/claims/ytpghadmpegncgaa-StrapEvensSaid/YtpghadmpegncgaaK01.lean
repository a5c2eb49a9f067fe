/-
  BODIES OF FUNCTIONS OF THE PROGRAM AS SMALL OPERATIONS (written by gen.py; checked by the kernel against the program). Conditions: none.
-/
import Derived.Test.YtpghadmpegncgaaKAmH
import Derived.Test.YtpghadmpegncgaaK00
import Derived.Test.YtpghadmpegncgaaKAmE
set_option linter.all false
namespace Go.Proofs.Ytpghadmpegncgaa
open Go.AM
open Go.Proofs.Try (prog)
set_option maxRecDepth 100000
set_option linter.all false

namespace r04_Set
/-- pommel/pommelref04.Set -/
noncomputable def b : Code := (Try.f32.body).getD .skip
theorem hf : prog.funcs[32]? = some Try.f32 := by kernel_rfl
noncomputable def r0 : Code := findReg b 0
noncomputable def r1 : Code := findReg b 1
noncomputable def i0 : Code := findCond b 0
noncomputable def i0t : Code := thenOf i0
noncomputable def i0e : Code := elseOf i0
noncomputable def r2 : Code := findReg b 2
noncomputable def r3 : Code := findReg b 3
noncomputable def i1 : Code := findCond b 1
noncomputable def i1t : Code := thenOf i1
noncomputable def i1e : Code := elseOf i1
noncomputable def r4 : Code := findReg b 4
noncomputable def r5 : Code := findReg b 5
noncomputable def k0 : Code := findBlk b 0
noncomputable def l0 : Code := loopOf k0
noncomputable def L0 (x0 x1 x5 : AV) (m : Mem) (K : List Item) : Option Res := den prog ann 32 (.code l0 :: .inLoop l0 :: .inBlock 0 :: K) ⟨[(0, x0), (1, x1), (5, x5)], 45, m⟩
noncomputable def r6 : Code := findReg b 6
noncomputable def i2 : Code := findCond b 2
noncomputable def i2t : Code := thenOf i2
noncomputable def i2e : Code := elseOf i2
noncomputable def k1 : Code := findBlk b 1
noncomputable def r8 : Code := findReg b 8
noncomputable def i3 : Code := findCond b 3
noncomputable def i3t : Code := thenOf i3
noncomputable def i3e : Code := elseOf i3
noncomputable def r9 : Code := findReg b 9
noncomputable def r7 : Code := findReg b 7
noncomputable def r10 : Code := findReg b 10
noncomputable def i4 : Code := findCond b 4
noncomputable def i4t : Code := thenOf i4
noncomputable def i4e : Code := elseOf i4
noncomputable def r11 : Code := findReg b 11
noncomputable def r12 : Code := findReg b 12
theorem b_eq (K : List Item) (s : St) : den prog ann 32 (.code b :: K) s = den prog ann 32 (.code r0 :: .code r1 :: .code i0 :: .code r3 :: .code i1 :: .code r5 :: .code k0 :: .code r10 :: .code i4 :: .code r12 :: .code .ret :: K) s := den_flat hf (l := [r0, r1, i0, r3, i1, r5, k0, r10, i4, r12, .ret]) (by kernel_rfl) K s
theorem r0_eq (K : List Item) (s : St) : den prog ann 32 (.code r0 :: K) s = mreg prog ann 32 none [] none [] [
    ⟨some 4, none, .v fun s => some (.int .i64 0)⟩] K s := (den_reg hf _ K s).trans (by kernel_rfl)
theorem r1_eq (K : List Item) (s : St) : den prog ann 32 (.code r1 :: K) s = mreg prog ann 32 none [] none [] [
    ⟨some 6, none, .v fun s => some (s.get 1)⟩,
    ⟨some 7, none, .v fun s => lenSl (s.get 6)⟩,
    ⟨some 8, none, .v fun s => binA prog .gtr 3 (s.get 7) (.int .i64 31)⟩] K s := (den_reg hf _ K s).trans (by kernel_rfl)
theorem i0_eq (K : List Item) (s : St) : den prog ann 32 (.code i0 :: K) s = ifV prog ann 32 8 i0t i0e K s (s.get 8) := den_if hf (by kernel_rfl) K s
theorem i0t_eq (K : List Item) (s : St) : den prog ann 32 (.code i0t :: K) s = den prog ann 32 (.code r2 :: .code .ret :: K) s := den_flat hf (l := [r2, .ret]) (by kernel_rfl) K s
theorem r2_eq (K : List Item) (s : St) : den prog ann 32 (.code r2 :: K) s = mreg prog ann 32 none [] none [] [
    ⟨some 4, none, .v fun s => some (.int .i64 3)⟩] K s := (den_reg hf _ K s).trans (by kernel_rfl)
theorem i0e_eq (K : List Item) (s : St) : den prog ann 32 (.code i0e :: K) s = den prog ann 32 (K) s := den_flat hf (l := []) (by kernel_rfl) K s
theorem r3_eq (K : List Item) (s : St) : den prog ann 32 (.code r3 :: K) s = mreg prog ann 32 none [] none [] [
    ⟨some 9, none, .v fun s => some (s.get 0)⟩,
    ⟨some 10, none, .c 0 (fun s => (.fn 59 [] [])) fun s => [(s.get 9), (.int .i64 2), (.int .i64 31)]⟩,
    ⟨some 11, none, .v fun s => unA .not (s.get 10)⟩] K s := (den_reg hf _ K s).trans (by kernel_rfl)
theorem i1_eq (K : List Item) (s : St) : den prog ann 32 (.code i1 :: K) s = ifV prog ann 32 11 i1t i1e K s (s.get 11) := den_if hf (by kernel_rfl) K s
theorem i1t_eq (K : List Item) (s : St) : den prog ann 32 (.code i1t :: K) s = den prog ann 32 (.code r4 :: .code .ret :: K) s := den_flat hf (l := [r4, .ret]) (by kernel_rfl) K s
theorem r4_eq (K : List Item) (s : St) : den prog ann 32 (.code r4 :: K) s = mreg prog ann 32 none [] none [] [
    ⟨some 4, none, .v fun s => some (.int .i64 1)⟩] K s := (den_reg hf _ K s).trans (by kernel_rfl)
theorem i1e_eq (K : List Item) (s : St) : den prog ann 32 (.code i1e :: K) s = den prog ann 32 (K) s := den_flat hf (l := []) (by kernel_rfl) K s
theorem r5_eq (K : List Item) (s : St) : den prog ann 32 (.code r5 :: K) s = mreg prog ann 32 none [] none [] [
    ⟨some 5, none, .v fun s => some (.int .i64 0)⟩] K s := (den_reg hf _ K s).trans (by kernel_rfl)
theorem k0_eq (K : List Item) (t : List (Nat × AV)) (m : Mem) : den prog ann 32 (.code k0 :: K) ⟨t, 45, m⟩ = L0 (get t 0) (get t 1) (get t 5) m K := den_loop_enter hf (b := l0) (id := 6) (l := [0, 1, 5]) (by kernel_rfl) (by kernel_rfl) (by kernel_rfl) K _
theorem l0_eq (K : List Item) (t : List (Nat × AV)) (m : Mem) : den prog ann 32 (.inLoop l0 :: .inBlock 0 :: K) ⟨t, 45, m⟩ = L0 (get t 0) (get t 1) (get t 5) m K := den_loop_again hf (id := 6) (l := [0, 1, 5]) (by kernel_rfl) (by kernel_rfl) (.inBlock 0 :: K) _
theorem L0_eq (x0 x1 x5 : AV) (m : Mem) (K : List Item) : L0 x0 x1 x5 m K = den prog ann 32 (.code r6 :: .code i2 :: .code k1 :: .code r7 :: .inLoop l0 :: .inBlock 0 :: K) ⟨[(0, x0), (1, x1), (5, x5)], 45, m⟩ := den_flat hf (l := [r6, i2, k1, r7]) (by kernel_rfl) _ _
theorem r6_eq (K : List Item) (s : St) : den prog ann 32 (.code r6 :: K) s = mreg prog ann 32 (some [0, 1, 5]) [] none [] [
    ⟨some 12, none, .v fun s => some (s.get 5)⟩,
    ⟨some 13, none, .v fun s => some (s.get 1)⟩,
    ⟨some 14, none, .v fun s => lenSl (s.get 13)⟩,
    ⟨some 15, none, .v fun s => binA prog .lss 3 (s.get 12) (s.get 14)⟩] K s := (den_reg hf _ K s).trans (by kernel_rfl)
theorem i2_eq (K : List Item) (s : St) : den prog ann 32 (.code i2 :: K) s = ifV prog ann 32 15 i2t i2e K s (s.get 15) := den_if hf (by kernel_rfl) K s
theorem i2t_eq (K : List Item) (s : St) : den prog ann 32 (.code i2t :: K) s = den prog ann 32 (K) s := den_flat hf (l := []) (by kernel_rfl) K s
theorem i2e_eq (K : List Item) (s : St) : den prog ann 32 (.code i2e :: K) s = den prog ann 32 (.code (.exit 0) :: K) s := den_flat hf (l := [(.exit 0)]) (by kernel_rfl) K s
theorem k1_eq (K : List Item) (s : St) : den prog ann 32 (.code k1 :: K) s = den prog ann 32 (.code r8 :: .code i3 :: .inBlock 1 :: K) s := den_blk hf (b := blkOf k1) (l := [r8, i3]) (by kernel_rfl) (by kernel_rfl) K s
theorem r8_draw : drawOk (fun g => (ann g).pure) (modeOf (ann 32) (idOf r8)) (frzOf (ann 32) (idOf r8)) (opsOf r8) = true := drawOk_of (an := [0, 0, 3, 7, 0, 16, 63, 127, 255, 511, 1023, 2047, 4095, 4095, 16383, 32767, 4095, 4095, 135167, 462847, 987135, 2097151, 4194303, 8388607]) (by kernel_rfl) (by kernel_rfl)
theorem r8_eq (K : List Item) (s : St) : den prog ann 32 (.code r8 :: K) s = mreg prog ann 32 none [] (some 24) [] [
    ⟨some 18, none, .v fun s => some (s.get 1)⟩,
    ⟨some 19, none, .v fun s => some (s.get 5)⟩,
    ⟨some 20, none, .v fun s => idxSl 1 (s.get 18) (s.get 19)⟩,
    ⟨some 21, none, .v fun s => loadF false 1 (s.get 20)⟩,
    ⟨some 22, none, .v fun s => some (s.get 0)⟩,
    ⟨some 23, none, .v fun s => binA prog .sub 3 (s.get 22) (.int .i64 1)⟩,
    ⟨some 24, none, .c 0 (fun s => (.fn 59 [] [])) fun s => [(s.get 21), (.int .i64 0), (s.get 23)]⟩,
    ⟨some 25, none, .v fun s => unA .not (s.get 24)⟩,
    ⟨some 26, none, .v fun s => some (s.get 25)⟩,
    ⟨some 27, some (26, false), .v fun s => some (s.get 5)⟩,
    ⟨some 28, some (26, false), .v fun s => binA prog .gtr 3 (s.get 27) (.int .i64 0)⟩,
    ⟨some 29, some (26, false), .v fun s => some (s.get 28)⟩,
    ⟨some 30, some (29, true), .v fun s => some (s.get 1)⟩,
    ⟨some 31, some (29, true), .v fun s => some (s.get 5)⟩,
    ⟨some 32, some (29, true), .v fun s => idxSl 1 (s.get 30) (s.get 31)⟩,
    ⟨some 33, some (29, true), .v fun s => loadF false 1 (s.get 32)⟩,
    ⟨some 34, some (29, true), .v fun s => some (s.get 1)⟩,
    ⟨some 35, some (29, true), .v fun s => some (s.get 5)⟩,
    ⟨some 36, some (29, true), .v fun s => binA prog .sub 3 (s.get 35) (.int .i64 1)⟩,
    ⟨some 37, some (29, true), .v fun s => idxSl 1 (s.get 34) (s.get 36)⟩,
    ⟨some 38, some (29, true), .v fun s => loadF false 1 (s.get 37)⟩,
    ⟨some 39, some (29, true), .v fun s => binA prog .leq 3 (s.get 33) (s.get 38)⟩,
    ⟨some 40, some (26, false), .v fun s => pickA (s.get 29) (s.get 39) (.bool false)⟩,
    ⟨some 41, none, .v fun s => pickA (s.get 26) (.bool true) (s.get 40)⟩] K s := (den_regD hf r8_draw K s).trans (by kernel_rfl)
theorem i3_eq (K : List Item) (s : St) : den prog ann 32 (.code i3 :: K) s = ifV prog ann 32 41 i3t i3e K s (s.get 41) := den_if hf (by kernel_rfl) K s
theorem i3t_eq (K : List Item) (s : St) : den prog ann 32 (.code i3t :: K) s = den prog ann 32 (.code r9 :: .code .ret :: K) s := den_flat hf (l := [r9, .ret]) (by kernel_rfl) K s
theorem r9_eq (K : List Item) (s : St) : den prog ann 32 (.code r9 :: K) s = mreg prog ann 32 none [] none [] [
    ⟨some 4, none, .v fun s => some (.int .i64 2)⟩] K s := (den_reg hf _ K s).trans (by kernel_rfl)
theorem i3e_eq (K : List Item) (s : St) : den prog ann 32 (.code i3e :: K) s = den prog ann 32 (K) s := den_flat hf (l := []) (by kernel_rfl) K s
theorem r7_eq (K : List Item) (s : St) : den prog ann 32 (.code r7 :: K) s = mreg prog ann 32 (some [0, 1, 5]) [] none [] [
    ⟨some 16, none, .v fun s => some (s.get 5)⟩,
    ⟨some 17, none, .v fun s => binA prog .add 3 (s.get 16) (.int .i64 1)⟩,
    ⟨some 5, none, .v fun s => some (s.get 17)⟩] K s := (den_reg hf _ K s).trans (by kernel_rfl)
theorem r10_eq (K : List Item) (s : St) : den prog ann 32 (.code r10 :: K) s = mreg prog ann 32 (some [1]) [] none [] [
    ⟨some 42, none, .v fun s => some (s.get 1)⟩,
    ⟨some 43, none, .v fun s => lenSl (s.get 42)⟩,
    ⟨some 44, none, .v fun s => binA prog .eql 3 (s.get 43) (.int .i64 0)⟩] K s := (den_reg hf _ K s).trans (by kernel_rfl)
theorem i4_eq (K : List Item) (s : St) : den prog ann 32 (.code i4 :: K) s = ifV prog ann 32 44 i4t i4e K s (s.get 44) := den_if hf (by kernel_rfl) K s
theorem i4t_eq (K : List Item) (s : St) : den prog ann 32 (.code i4t :: K) s = den prog ann 32 (.code r11 :: .code .ret :: K) s := den_flat hf (l := [r11, .ret]) (by kernel_rfl) K s
theorem r11_eq (K : List Item) (s : St) : den prog ann 32 (.code r11 :: K) s = mreg prog ann 32 none [] none [] [
    ⟨some 4, none, .v fun s => some (.int .i64 2)⟩] K s := (den_reg hf _ K s).trans (by kernel_rfl)
theorem i4e_eq (K : List Item) (s : St) : den prog ann 32 (.code i4e :: K) s = den prog ann 32 (K) s := den_flat hf (l := []) (by kernel_rfl) K s
theorem r12_eq (K : List Item) (s : St) : den prog ann 32 (.code r12 :: K) s = mreg prog ann 32 none [] none [] [
    ⟨some 4, none, .v fun s => some (.int .i64 0)⟩] K s := (den_reg hf _ K s).trans (by kernel_rfl)
theorem ret_eq (K : List Item) (s : St) : den prog ann 32 (.code .ret :: K) s = finM true [fun s => some (s.get 4)] s := (den_ret hf K s).trans (by kernel_rfl)
theorem nil_eq (s : St) : den prog ann 32 [] s = finM true [fun s => some (s.get 4)] s := (den_nil hf s).trans (by kernel_rfl)
theorem inBlock_eq (id : Nat) (K : List Item) (s : St) : den prog ann 32 (.inBlock id :: K) s = den prog ann 32 K s := den_inBlock hf id K s
theorem exit_eq (id : Nat) (K : List Item) (s : St) : den prog ann 32 (.code (.exit id) :: K) s = exitV prog ann 32 (exitTo id K) s := den_exitV hf id K s
theorem call_eq (v0 v1 : AV) (m : Mem) (h : closedL [v0, v1] = true) : denC prog ann 32 [v0, v1] m = (den prog ann 32 [.code b] ⟨[(0, v0), (1, v1)], 45, Mem.empty⟩).bind fun r => some (r.1, m) := (denC_pure hf (b := b) (by kernel_rfl) (by kernel_rfl) (by kernel_rfl) h m).trans (by kernel_rfl)
theorem pure_eq : (ann 32).pure = true := by kernel_rfl
attribute [simp] b_eq r0_eq r1_eq i0_eq i0t_eq r2_eq i0e_eq r3_eq i1_eq i1t_eq r4_eq i1e_eq r5_eq k0_eq l0_eq r6_eq i2_eq i2t_eq i2e_eq k1_eq r8_eq i3_eq i3t_eq r9_eq i3e_eq r7_eq r10_eq i4_eq i4t_eq r11_eq i4e_eq r12_eq ret_eq nil_eq inBlock_eq exit_eq pure_eq
end r04_Set

namespace r04_in
/-- pommel/pommelref04.in -/
noncomputable def b : Code := (Try.f59.body).getD .skip
theorem hf : prog.funcs[59]? = some Try.f59 := by kernel_rfl
noncomputable def r0 : Code := findReg b 0
noncomputable def r1 : Code := findReg b 1
theorem b_eq (K : List Item) (s : St) : den prog ann 59 (.code b :: K) s = den prog ann 59 (.code r0 :: .code r1 :: .code .ret :: K) s := den_flat hf (l := [r0, r1, .ret]) (by kernel_rfl) K s
theorem r0_eq (K : List Item) (s : St) : den prog ann 59 (.code r0 :: K) s = mreg prog ann 59 none [] none [] [
    ⟨some 6, none, .v fun s => some (.bool false)⟩] K s := (den_reg hf _ K s).trans (by kernel_rfl)
theorem r1_eq (K : List Item) (s : St) : den prog ann 59 (.code r1 :: K) s = mreg prog ann 59 none [] none [] [
    ⟨some 7, none, .v fun s => some (s.get 0)⟩,
    ⟨some 8, none, .v fun s => some (s.get 1)⟩,
    ⟨some 9, none, .v fun s => binA prog .geq 3 (s.get 7) (s.get 8)⟩,
    ⟨some 10, none, .v fun s => some (s.get 9)⟩,
    ⟨some 11, some (10, true), .v fun s => some (s.get 0)⟩,
    ⟨some 12, some (10, true), .v fun s => some (s.get 2)⟩,
    ⟨some 13, some (10, true), .v fun s => binA prog .leq 3 (s.get 11) (s.get 12)⟩,
    ⟨some 14, none, .v fun s => pickA (s.get 10) (s.get 13) (.bool false)⟩,
    ⟨some 6, none, .v fun s => some (s.get 14)⟩] K s := (den_reg hf _ K s).trans (by kernel_rfl)
theorem ret_eq (K : List Item) (s : St) : den prog ann 59 (.code .ret :: K) s = finM true [fun s => some (s.get 6)] s := (den_ret hf K s).trans (by kernel_rfl)
theorem nil_eq (s : St) : den prog ann 59 [] s = finM true [fun s => some (s.get 6)] s := (den_nil hf s).trans (by kernel_rfl)
theorem inBlock_eq (id : Nat) (K : List Item) (s : St) : den prog ann 59 (.inBlock id :: K) s = den prog ann 59 K s := den_inBlock hf id K s
theorem exit_eq (id : Nat) (K : List Item) (s : St) : den prog ann 59 (.code (.exit id) :: K) s = exitV prog ann 59 (exitTo id K) s := den_exitV hf id K s
theorem call_eq (v0 v1 v2 : AV) (m : Mem) (h : closedL [v0, v1, v2] = true) : denC prog ann 59 [v0, v1, v2] m = (den prog ann 59 [.code b] ⟨[(0, v0), (1, v1), (2, v2)], 15, Mem.empty⟩).bind fun r => some (r.1, m) := (denC_pure hf (b := b) (by kernel_rfl) (by kernel_rfl) (by kernel_rfl) h m).trans (by kernel_rfl)
theorem pure_eq : (ann 59).pure = true := by kernel_rfl
attribute [simp] b_eq r0_eq r1_eq ret_eq nil_eq inBlock_eq exit_eq pure_eq
end r04_in

namespace l04_StrapEvens
/-- pommel/pommellaw04.StrapEvens -/
noncomputable def b : Code := (Try.f8.body).getD .skip
theorem hf : prog.funcs[8]? = some Try.f8 := by kernel_rfl
noncomputable def r0 : Code := findReg b 0
noncomputable def r1 : Code := findReg b 1
noncomputable def r2 : Code := findReg b 2
noncomputable def r3 : Code := findReg b 3
noncomputable def r4 : Code := findReg b 4
noncomputable def i0 : Code := findCond b 0
noncomputable def i0t : Code := thenOf i0
noncomputable def i0e : Code := elseOf i0
noncomputable def r5 : Code := findReg b 5
noncomputable def r6 : Code := findReg b 6
noncomputable def i1 : Code := findCond b 1
noncomputable def i1t : Code := thenOf i1
noncomputable def i1e : Code := elseOf i1
noncomputable def r7 : Code := findReg b 7
noncomputable def r8 : Code := findReg b 8
noncomputable def r9 : Code := findReg b 9
theorem b_eq (K : List Item) (s : St) : den prog ann 8 (.code b :: K) s = den prog ann 8 (.code r0 :: .code r1 :: .code r2 :: .code r3 :: .code r4 :: .code i0 :: .code r9 :: .code .ret :: K) s := den_flat hf (l := [r0, r1, r2, r3, r4, i0, r9, .ret]) (by kernel_rfl) K s
theorem r0_eq (K : List Item) (s : St) : den prog ann 8 (.code r0 :: K) s = mreg prog ann 8 none [] none [] [
    ⟨some 4, none, .v fun s => some (.bool false)⟩] K s := (den_reg hf _ K s).trans (by kernel_rfl)
theorem r1_eq (K : List Item) (s : St) : den prog ann 8 (.code r1 :: K) s = mreg prog ann 8 none [] none [] [
    ⟨some 11, none, .v fun s => some (s.get 1)⟩,
    ⟨some 12, none, .c 0 (fun s => (.fn 21 [] [])) fun s => [(s.get 11)]⟩,
    ⟨some 5, none, .v fun s => some (s.get 12)⟩] K s := (den_reg hf _ K s).trans (by kernel_rfl)
theorem r2_eq (K : List Item) (s : St) : den prog ann 8 (.code r2 :: K) s = mreg prog ann 8 none [] none [] [
    ⟨some 14, none, .v fun s => some (s.get 0)⟩,
    ⟨some 15, none, .v fun s => some (s.get 5)⟩,
    ⟨some 16, none, .c 0 (fun s => (.fn 31 [] [])) fun s => [(s.get 14), (s.get 15)]⟩,
    ⟨some 13, none, .v fun s => some (s.get 16)⟩,
    ⟨some 17, none, .v fun s => extA (s.get 13) 0⟩,
    ⟨some 18, none, .v fun s => extA (s.get 13) 1⟩,
    ⟨some 6, none, .v fun s => some (s.get 17)⟩,
    ⟨some 7, none, .v fun s => some (s.get 18)⟩] K s := (den_reg hf _ K s).trans (by kernel_rfl)
theorem r3_eq (K : List Item) (s : St) : den prog ann 8 (.code r3 :: K) s = mreg prog ann 8 none [] none [] [
    ⟨some 19, none, .v fun s => some (s.get 0)⟩,
    ⟨some 20, none, .v fun s => some (s.get 5)⟩,
    ⟨some 21, none, .c 0 (fun s => (.fn 32 [] [])) fun s => [(s.get 19), (s.get 20)]⟩,
    ⟨some 8, none, .v fun s => some (s.get 21)⟩] K s := (den_reg hf _ K s).trans (by kernel_rfl)
theorem r4_eq (K : List Item) (s : St) : den prog ann 8 (.code r4 :: K) s = mreg prog ann 8 none [] none [] [
    ⟨some 22, none, .v fun s => some (s.get 8)⟩,
    ⟨some 23, none, .v fun s => binA prog .eql 23 (s.get 22) (.int .i64 0)⟩] K s := (den_reg hf _ K s).trans (by kernel_rfl)
theorem i0_eq (K : List Item) (s : St) : den prog ann 8 (.code i0 :: K) s = ifV prog ann 8 23 i0t i0e K s (s.get 23) := den_if hf (by kernel_rfl) K s
theorem i0t_eq (K : List Item) (s : St) : den prog ann 8 (.code i0t :: K) s = den prog ann 8 (.code r5 :: .code r6 :: .code i1 :: .code r8 :: K) s := den_flat hf (l := [r5, r6, i1, r8]) (by kernel_rfl) K s
theorem r5_eq (K : List Item) (s : St) : den prog ann 8 (.code r5 :: K) s = mreg prog ann 8 none [] none [] [
    ⟨some 25, none, .v fun s => some (s.get 0)⟩,
    ⟨some 26, none, .v fun s => some (s.get 5)⟩,
    ⟨some 27, none, .c 0 (fun s => (.fn 33 [] [])) fun s => [(s.get 25), (s.get 26)]⟩,
    ⟨some 24, none, .v fun s => some (s.get 27)⟩,
    ⟨some 28, none, .v fun s => extA (s.get 24) 0⟩,
    ⟨some 29, none, .v fun s => extA (s.get 24) 1⟩,
    ⟨some 9, none, .v fun s => some (s.get 28)⟩,
    ⟨some 10, none, .v fun s => some (s.get 29)⟩] K s := (den_reg hf _ K s).trans (by kernel_rfl)
theorem r6_eq (K : List Item) (s : St) : den prog ann 8 (.code r6 :: K) s = mreg prog ann 8 none [] none [] [
    ⟨some 30, none, .v fun s => some (s.get 10)⟩] K s := (den_reg hf _ K s).trans (by kernel_rfl)
theorem i1_eq (K : List Item) (s : St) : den prog ann 8 (.code i1 :: K) s = ifV prog ann 8 30 i1t i1e K s (s.get 30) := den_if hf (by kernel_rfl) K s
theorem i1t_eq (K : List Item) (s : St) : den prog ann 8 (.code i1t :: K) s = den prog ann 8 (.code r7 :: .code .ret :: K) s := den_flat hf (l := [r7, .ret]) (by kernel_rfl) K s
theorem r7_eq (K : List Item) (s : St) : den prog ann 8 (.code r7 :: K) s = mreg prog ann 8 none [] none [] [
    ⟨some 31, none, .v fun s => some (s.get 6)⟩,
    ⟨some 32, none, .v fun s => some (s.get 9)⟩,
    ⟨some 33, none, .v fun s => binA prog .eql 3 (s.get 31) (s.get 32)⟩,
    ⟨some 34, none, .v fun s => some (s.get 33)⟩,
    ⟨some 35, some (34, true), .v fun s => some (s.get 7)⟩,
    ⟨some 36, some (34, true), .v fun s => binA prog .eql 23 (s.get 35) (.int .i64 0)⟩,
    ⟨some 37, none, .v fun s => pickA (s.get 34) (s.get 36) (.bool false)⟩,
    ⟨some 38, none, .v fun s => some (s.get 37)⟩,
    ⟨some 39, some (38, true), .c 0 (fun s => (.fn 14 [] [])) fun s => []⟩,
    ⟨some 40, none, .v fun s => pickA (s.get 38) (s.get 39) (.bool false)⟩,
    ⟨some 4, none, .v fun s => some (s.get 40)⟩] K s := (den_reg hf _ K s).trans (by kernel_rfl)
theorem i1e_eq (K : List Item) (s : St) : den prog ann 8 (.code i1e :: K) s = den prog ann 8 (K) s := den_flat hf (l := []) (by kernel_rfl) K s
theorem r8_eq (K : List Item) (s : St) : den prog ann 8 (.code r8 :: K) s = mreg prog ann 8 none [] none [] [
    ⟨some 8, none, .v fun s => some (.int .i64 5)⟩] K s := (den_reg hf _ K s).trans (by kernel_rfl)
theorem i0e_eq (K : List Item) (s : St) : den prog ann 8 (.code i0e :: K) s = den prog ann 8 (K) s := den_flat hf (l := []) (by kernel_rfl) K s
theorem r9_eq (K : List Item) (s : St) : den prog ann 8 (.code r9 :: K) s = mreg prog ann 8 (some [6, 7, 8]) [] none [] [
    ⟨some 41, none, .v fun s => some (s.get 6)⟩,
    ⟨some 42, none, .v fun s => binA prog .eql 3 (s.get 41) (.int .i64 0)⟩,
    ⟨some 43, none, .v fun s => some (s.get 42)⟩,
    ⟨some 44, some (43, true), .v fun s => some (s.get 7)⟩,
    ⟨some 45, some (43, true), .v fun s => some (s.get 8)⟩,
    ⟨some 46, some (43, true), .v fun s => binA prog .eql 23 (s.get 44) (s.get 45)⟩,
    ⟨some 47, none, .v fun s => pickA (s.get 43) (s.get 46) (.bool false)⟩,
    ⟨some 48, none, .v fun s => some (s.get 47)⟩,
    ⟨some 49, some (48, true), .c 0 (fun s => (.fn 14 [] [])) fun s => []⟩,
    ⟨some 50, none, .v fun s => pickA (s.get 48) (s.get 49) (.bool false)⟩,
    ⟨some 4, none, .v fun s => some (s.get 50)⟩] K s := (den_reg hf _ K s).trans (by kernel_rfl)
theorem ret_eq (K : List Item) (s : St) : den prog ann 8 (.code .ret :: K) s = finM true [fun s => some (s.get 4)] s := (den_ret hf K s).trans (by kernel_rfl)
theorem nil_eq (s : St) : den prog ann 8 [] s = finM true [fun s => some (s.get 4)] s := (den_nil hf s).trans (by kernel_rfl)
theorem inBlock_eq (id : Nat) (K : List Item) (s : St) : den prog ann 8 (.inBlock id :: K) s = den prog ann 8 K s := den_inBlock hf id K s
theorem exit_eq (id : Nat) (K : List Item) (s : St) : den prog ann 8 (.code (.exit id) :: K) s = exitV prog ann 8 (exitTo id K) s := den_exitV hf id K s
theorem call_eq (v0 v1 : AV) (m : Mem) (h : closedL [v0, v1] = true) : denC prog ann 8 [v0, v1] m = (den prog ann 8 [.code b] ⟨[(0, v0), (1, v1)], 51, Mem.empty⟩).bind fun r => some (r.1, m) := (denC_pure hf (b := b) (by kernel_rfl) (by kernel_rfl) (by kernel_rfl) h m).trans (by kernel_rfl)
theorem pure_eq : (ann 8).pure = true := by kernel_rfl
attribute [simp] b_eq r0_eq r1_eq r2_eq r3_eq r4_eq i0_eq i0t_eq r5_eq r6_eq i1_eq i1t_eq r7_eq i1e_eq r8_eq i0e_eq r9_eq ret_eq nil_eq inBlock_eq exit_eq pure_eq
end l04_StrapEvens
end Go.Proofs.Ytpghadmpegncgaa

/-
  STRAPS (12): round straps: the tests, how often each difference comes. Conditions: none.
-/
namespace Go.Proofs.Ytpghadmpegncgaa
open Go.AM
open Go.Proofs.Try (prog)
set_option linter.all false
set_option maxRecDepth 100000
set_option maxHeartbeats 4000000

/-- A round strap: places below v, rising. -/
structure RingOk (v : Int) (l : List Int) : Prop where
  v2 : 2 ≤ v
  v31 : v ≤ 31
  pos : 0 < l.length
  few : l.length ≤ 31
  rng : ∀ i, i < l.length → 0 ≤ nth l i ∧ nth l i < v
  asc : ∀ i, i + 1 < l.length → nth l i < nth l (i + 1)
theorem RingOk.lt {v : Int} {l : List Int} (s : RingOk v l) {i : Nat} : ∀ {j : Nat}, i < j → j < l.length → nth l i < nth l j
  | j + 1, h, hj => by
    rcases Nat.eq_or_lt_of_le (Nat.le_of_lt_succ h) with e | e
    · subst e; exact s.asc i hj
    · exact Int.lt_trans (s.lt e (by omega)) (s.asc j hj)
/-- Why places are no round strap. -/
inductive RingErr (v : Int) (l : List Int) : Int → Prop where
  | long (h : 31 < l.length) : RingErr v l 3
  | arg (h : l.length ≤ 31) (h2 : v < 2 ∨ 31 < v) : RingErr v l 1
  | form (h : l.length ≤ 31) (h2 : 2 ≤ v ∧ v ≤ 31) (h3 : ¬ RingOk v l) : RingErr v l 2
  | ok (h : RingOk v l) : RingErr v l 0
theorem RingErr.uniq {v : Int} {l : List Int} {a b : Int} (h : RingErr v l a) (k : RingErr v l b) : a = b := by
  cases h with
  | long h => cases k with
    | long _ => rfl
    | arg h2 _ => omega
    | form h2 _ _ => omega
    | ok s => have := s.few; omega
  | arg h h2 => cases k with
    | long _ => omega
    | arg _ _ => rfl
    | form _ h3 _ => omega
    | ok s => have := s.v2; have := s.v31; omega
  | form h h2 h3 => cases k with
    | long _ => omega
    | arg _ _ => omega
    | form _ _ _ => rfl
    | ok s => exact absurd s h3
  | ok s => cases k with
    | long _ => have := s.few; omega
    | arg _ _ => have := s.v2; have := s.v31; omega
    | form _ _ h => exact absurd s h
    | ok _ => rfl
def rOk (v : Int) (l : List Int) (j : Nat) : Bool := decide (0 ≤ nth l j ∧ nth l j < v) && (decide (j = 0) || decide (nth l (j - 1) < nth l j))
theorem rOk_ring {v : Int} {l : List Int} (h2 : 2 ≤ v ∧ v ≤ 31) (h : 0 < l.length ∧ l.length ≤ 31) : RingOk v l ↔ (List.range' 0 l.length).all (rOk v l) = true := by
  rw [List.all_eq_true]
  constructor
  · intro s j hj
    simp [List.mem_range'_1] at hj
    have := s.rng j hj
    simp only [rOk, Bool.and_eq_true, Bool.or_eq_true, decide_eq_true_eq]
    refine ⟨this, ?_⟩
    by_cases e : j = 0
    · exact .inl e
    · have := s.asc (j - 1) (by omega)
      rw [show j - 1 + 1 = j by omega] at this
      exact .inr this
  · intro a
    have a' : ∀ j, j < l.length → rOk v l j = true := fun j hj => a j (by simp [List.mem_range'_1]; exact hj)
    refine ⟨h2.1, h2.2, h.1, h.2, fun i hi => ?_, fun i hi => ?_⟩
    · have := a' i hi
      simp only [rOk, Bool.and_eq_true, decide_eq_true_eq] at this
      exact this.1
    · have := a' (i + 1) hi
      simp only [rOk, Bool.and_eq_true, Bool.or_eq_true, decide_eq_true_eq] at this
      rcases this.2 with e | e
      · omega
      · exact e
theorem ring_loop {w : AV} {l : List Int} (hv : IsInts w l) (hl : l.length ≤ 31) (v : Int) : ∀ (k i : Nat) (m : Mem), i + k = l.length →
    strap_ring.L1 (.int .i64 v) w w (.int .i64 l.length) (.int .i64 i) m [.code strap_ring.r13, .code .ret] = some (.int .i64 (if (List.range' i k).all (rOk v l) = true then 0 else 2), Mem.empty) := by
  intro k
  induction k with
  | zero =>
    intro i m h1
    have e : i = l.length := by omega
    rw [strap_ring.L1_eq]
    simp [e]
    done
  | succ k ih =>
    intro i m h1
    have hi : i < l.length := by omega
    have hw : IntKind.wrap .i64 ((i : Int) + 1) = (i : Int) + 1 := wrap_id (by omega) (by omega)
    have hst := fun m => ih (i + 1) m (by omega)
    simp only [Int.natCast_add, Int.cast_ofNat_Int] at hst
    have e : (List.range' i (k + 1)).all (rOk v l) = (rOk v l i && (List.range' (i + 1) k).all (rOk v l)) := by simp [List.range'_succ]
    rw [e, strap_ring.L1_eq]
    by_cases q1 : nth l i < 0
    · have ho : rOk v l i = false := by simp [rOk]; omega
      rw [ho, Bool.false_and]
      simp [hi, hv.idx hi, ints_head hi, q1]
      done
    · by_cases q2 : v ≤ nth l i
      · have ho : rOk v l i = false := by simp [rOk]; omega
        rw [ho, Bool.false_and]
        simp [hi, hv.idx hi, ints_head hi, q1, q2]
        done
      · by_cases hz : i = 0
        · subst hz
          have ho : rOk v l 0 = true := by simp [rOk]; omega
          rw [ho, Bool.true_and]
          have i0 := hv.idx hi .i64
          have i1 := ints_head hi
          simp only [Int.ofNat_zero, Int.cast_ofNat_Int, List.drop_zero, Int.zero_add, Nat.zero_add] at i0 i1 hst hw
          simp [hi, i0, i1, q1, q2, hw, hst]
          done
        · have hw1 : IntKind.wrap .i64 ((i : Int) - 1) = ((i - 1 : Nat) : Int) := by rw [wrap_id (by omega) (by omega)]; omega
          have hj : i - 1 < l.length := by omega
          have hp : 0 < i := by omega
          by_cases q3 : nth l i ≤ nth l (i - 1)
          · have ho : rOk v l i = false := by simp [rOk]; omega
            rw [ho, Bool.false_and]
            simp [hi, hv.idx hi, ints_head hi, q1, q2, hw1, hv.idx hj, ints_head hj, hp, q3]
            done
          · have ho : rOk v l i = true := by simp [rOk]; omega
            rw [ho, Bool.true_and]
            simp [hi, hv.idx hi, ints_head hi, q1, q2, hw1, hv.idx hj, ints_head hj, hp, q3, hw, hst]
            done
theorem ring_spec {w : AV} {l : List Int} (hv : IsInts w l) (hl : l.length < 1000000) (v : Int) : ∃ e, RingErr v l e ∧ ∀ m, denC prog ann 55 [.int .i64 v, w] m = some (.int .i64 e, m) := by
  have hcl : closedL [.int .i64 v, w] = true := by simp [hv.closed]
  by_cases q1 : (31 : Int) < l.length
  · refine ⟨3, .long (by omega), fun m => ?_⟩
    rw [strap_ring.call_eq _ _ _ hcl]
    simp [hv.len, q1]
    done
  · by_cases q2 : v < 2
    · refine ⟨1, .arg (by omega) (.inl q2), fun m => ?_⟩
      rw [strap_ring.call_eq _ _ _ hcl]
      simp [hv.len, q1, q2]
      done
    · by_cases q3 : 31 < v
      · refine ⟨1, .arg (by omega) (.inr q3), fun m => ?_⟩
        rw [strap_ring.call_eq _ _ _ hcl]
        simp [hv.len, q1, q2, q3]
        done
      · by_cases q4 : l.length = 0
        · refine ⟨2, .form (by omega) (by omega) (fun s => by have := s.pos; omega), fun m => ?_⟩
          rw [strap_ring.call_eq _ _ _ hcl]
          simp [hv.len, q1, q2, q3, q4]
          done
        · have q4' : ¬ l = [] := fun e => q4 (by rw [e]; rfl)
          have lp := fun m => ring_loop hv (by omega) v l.length 0 m (by omega)
          simp only [Int.ofNat_zero, Int.cast_ofNat_Int] at lp
          have hro := rOk_ring (v := v) (l := l) (by omega) (by omega)
          by_cases q5 : (List.range' 0 l.length).all (rOk v l) = true
          · refine ⟨0, .ok (hro.2 q5), fun m => ?_⟩
            simp only [if_pos q5] at lp
            rw [strap_ring.call_eq _ _ _ hcl]
            simp [hv.len, q1, q2, q3, q4', lp]
            done
          · refine ⟨2, .form (by omega) (by omega) (fun s => q5 (hro.1 s)), fun m => ?_⟩
            simp only [if_neg q5] at lp
            rw [strap_ring.call_eq _ _ _ hcl]
            simp [hv.len, q1, q2, q3, q4', lp]
            done
/-- The specification's. -/
theorem in_spec (a b c : Int) (m : Mem) : denC prog ann 59 [.int .i64 a, .int .i64 b, .int .i64 c] m = some (.bool (decide (b ≤ a) && decide (a ≤ c)), m) := by
  rw [r04_in.call_eq _ _ _ _ rfl]
  by_cases q : b ≤ a
  · simp [q]
    done
  · simp [q]
    done
theorem set_loop {w : AV} {l : List Int} (hv : IsInts w l) (hl : l.length ≤ 31) (v : Int) (hv2 : 2 ≤ v ∧ v ≤ 31) : ∀ (k i : Nat) (m : Mem), i + k = l.length →
    r04_Set.L0 (.int .i64 v) w (.int .i64 i) m [.code r04_Set.r10, .code r04_Set.i4, .code r04_Set.r12, .code .ret] = some (.int .i64 (if (List.range' i k).all (rOk v l) = true ∧ l.length ≠ 0 then 0 else 2), Mem.empty) := by
  intro k
  have hwv : IntKind.wrap .i64 (v - 1) = v - 1 := wrap_id (by omega) (by omega)
  induction k with
  | zero =>
    intro i m h1
    have e : i = l.length := by omega
    rw [r04_Set.L0_eq]
    by_cases h0 : l.length = 0
    · simp [e, hv.len, h0]
      done
    · simp [e, hv.len, h0]
      done
  | succ k ih =>
    intro i m h1
    have hi : i < l.length := by omega
    have h0 : ¬ l.length = 0 := by omega
    have hw : IntKind.wrap .i64 ((i : Int) + 1) = (i : Int) + 1 := wrap_id (by omega) (by omega)
    have hst := fun m => ih (i + 1) m (by omega)
    simp only [Int.natCast_add, Int.cast_ofNat_Int] at hst
    have e : (List.range' i (k + 1)).all (rOk v l) = (rOk v l i && (List.range' (i + 1) k).all (rOk v l)) := by simp [List.range'_succ]
    have hin := fun m => in_spec (nth l i) 0 (v - 1) m
    rw [e, r04_Set.L0_eq]
    by_cases q1 : 0 ≤ nth l i ∧ nth l i < v
    · rw [decide_eq_true q1.1, decide_eq_true (show nth l i ≤ v - 1 by omega)] at hin
      by_cases hz : i = 0
      · subst hz
        have ho : rOk v l 0 = true := by simp [rOk]; omega
        rw [ho, Bool.true_and]
        have i0 := hv.idx hi .i64
        have i1 := ints_head hi
        simp only [Int.ofNat_zero, Int.cast_ofNat_Int, List.drop_zero, Int.zero_add, Nat.zero_add] at i0 i1 hst hw
        simp [hi, hv.len, i0, i1, hwv, hin, hw, hst, h0]
        done
      · have hw1 : IntKind.wrap .i64 ((i : Int) - 1) = ((i - 1 : Nat) : Int) := by rw [wrap_id (by omega) (by omega)]; omega
        have hj : i - 1 < l.length := by omega
        have hp : 0 < i := by omega
        by_cases q3 : nth l i ≤ nth l (i - 1)
        · have ho : rOk v l i = false := by simp [rOk]; omega
          rw [ho, Bool.false_and]
          simp [hi, hv.len, hv.idx hi, ints_head hi, hwv, hin, hw1, hv.idx hj, ints_head hj, hp, q3]
          done
        · have ho : rOk v l i = true := by simp [rOk]; omega
          rw [ho, Bool.true_and]
          simp [hi, hv.len, hv.idx hi, ints_head hi, hwv, hin, hw1, hv.idx hj, ints_head hj, hp, q3, hw, hst, h0]
          done
    · have ho : rOk v l i = false := by simp only [rOk, decide_eq_false q1, Bool.false_and]
      have hf : (decide (0 ≤ nth l i) && decide (nth l i ≤ v - 1)) = false := by
        by_cases a : 0 ≤ nth l i
        · rw [decide_eq_false (show ¬ nth l i ≤ v - 1 by omega), Bool.and_false]
        · rw [decide_eq_false a, Bool.false_and]
      rw [hf] at hin
      rw [ho, Bool.false_and]
      simp [hi, hv.len, hv.idx hi, ints_head hi, hwv, hin]
      done
theorem set_spec {w : AV} {l : List Int} (hv : IsInts w l) (hl : l.length < 1000000) (v : Int) : ∃ e, RingErr v l e ∧ ∀ m, denC prog ann 32 [.int .i64 v, w] m = some (.int .i64 e, m) := by
  have hcl : closedL [.int .i64 v, w] = true := by simp [hv.closed]
  by_cases q1 : (31 : Int) < l.length
  · refine ⟨3, .long (by omega), fun m => ?_⟩
    rw [r04_Set.call_eq _ _ _ hcl]
    simp [hv.len, q1]
    done
  · have hin := fun m => in_spec v 2 31 m
    by_cases q2 : 2 ≤ v ∧ v ≤ 31
    · rw [decide_eq_true q2.1, decide_eq_true q2.2] at hin
      have lp := fun m => set_loop hv (by omega) v q2 l.length 0 m (by omega)
      simp only [Int.ofNat_zero, Int.cast_ofNat_Int] at lp
      by_cases q5 : (List.range' 0 l.length).all (rOk v l) = true ∧ l.length ≠ 0
      · refine ⟨0, .ok ((rOk_ring q2 (by omega)).2 q5.1), fun m => ?_⟩
        simp only [if_pos q5] at lp
        rw [r04_Set.call_eq _ _ _ hcl]
        simp [hv.len, q1, hin, lp]
        done
      · refine ⟨2, .form (by omega) q2 (fun s => q5 ⟨(rOk_ring q2 ⟨s.pos, by omega⟩).1 s, by have := s.pos; omega⟩), fun m => ?_⟩
        simp only [if_neg q5] at lp
        rw [r04_Set.call_eq _ _ _ hcl]
        simp [hv.len, q1, hin, lp]
        done
    · have hf : (decide (2 ≤ v) && decide (v ≤ 31)) = false := by
        by_cases a : 2 ≤ v
        · rw [decide_eq_false (show ¬ v ≤ 31 by omega), Bool.and_false]
        · rw [decide_eq_false a, Bool.false_and]
      rw [hf] at hin
      refine ⟨1, .arg (by omega) (by omega), fun m => ?_⟩
      rw [r04_Set.call_eq _ _ _ hcl]
      simp [hv.len, q1, hin]
      done
theorem ring_set {w : AV} {l : List Int} (hv : IsInts w l) (hl : l.length < 1000000) (v : Int) : ∃ e, RingErr v l e ∧ (∀ m, denC prog ann 55 [.int .i64 v, w] m = some (.int .i64 e, m)) ∧ ∀ m, denC prog ann 32 [.int .i64 v, w] m = some (.int .i64 e, m) := by
  obtain ⟨e, h1, h2⟩ := ring_spec hv hl v
  obtain ⟨e', h3, h4⟩ := set_spec hv hl v
  have := h1.uniq h3
  subst this
  exact ⟨e, h1, h2, h4⟩

/-! ### How often each difference comes -/
def dfF (l : List Int) (v : Int) (i : Nat) (k j : Nat) (c : List Int) : List Int := (List.range' j k).foldl (fun c q => if i = q then c else bump c ((nth l i - nth l q + v).tmod v).toNat) c
def dfO (l : List Int) (v : Int) (k i : Nat) (c : List Int) : List Int := (List.range' i k).foldl (fun c i => dfF l v i l.length 0 c) c
theorem dfF_succ (l : List Int) (v : Int) (i k j : Nat) (c : List Int) : dfF l v i (k + 1) j c = dfF l v i k (j + 1) (if i = j then c else bump c ((nth l i - nth l j + v).tmod v).toNat) := by simp [dfF, List.range'_succ]
theorem dfO_succ (l : List Int) (v : Int) (k i : Nat) (c : List Int) : dfO l v (k + 1) i c = dfO l v k (i + 1) (dfF l v i l.length 0 c) := by simp [dfO, List.range'_succ]
theorem dfF_len (l : List Int) (v : Int) (i : Nat) : ∀ (k j : Nat) (c : List Int), (dfF l v i k j c).length = c.length
  | 0, _, _ => rfl
  | k + 1, j, c => by rw [dfF_succ, dfF_len]; split <;> simp [bump_len]
theorem dfO_len (l : List Int) (v : Int) : ∀ (k i : Nat) (c : List Int), (dfO l v k i c).length = c.length
  | 0, _, _ => rfl
  | k + 1, i, c => by rw [dfO_succ, dfO_len, dfF_len]
theorem Small.dfF {l : List Int} {v : Int} {i : Nat} : ∀ {k j : Nat} {c : List Int} {B : Int}, Small c B → 0 ≤ B → Small (Go.Proofs.Ytpghadmpegncgaa.dfF l v i k j c) (B + k)
  | 0, _, _, _, h, _ => by simpa [Go.Proofs.Ytpghadmpegncgaa.dfF] using h
  | k + 1, j, c, B, h, hB => by
    rw [dfF_succ]
    have h1 : Small (if i = j then c else Go.AM.bump c ((nth l i - nth l j + v).tmod v).toNat) (B + 1) := by
      split
      · intro g; have := h g; omega
      · exact h.bump hB _
    have := h1.dfF (l := l) (v := v) (i := i) (k := k) (j := j + 1) (by omega)
    rwa [show B + 1 + (k : Int) = B + ((k + 1 : Nat) : Int) by omega] at this
def diffs (v : Int) (l : List Int) : List Int := dfO l v l.length 0 (List.replicate v.toNat 0)
theorem RingOk.ne {v : Int} {l : List Int} (s : RingOk v l) {i j : Nat} (hi : i < l.length) (hj : j < l.length) : nth l i = nth l j ↔ i = j := by
  constructor
  · intro h
    rcases Nat.lt_trichotomy i j with q | q | q
    · have := s.lt q hj; omega
    · exact q
    · have := s.lt q hi; omega
  · intro h; rw [h]
end Go.Proofs.Ytpghadmpegncgaa

/-
  STRAPS (13): the code that counts the differences. Conditions: none.
-/
namespace Go.Proofs.Ytpghadmpegncgaa
open Go.AM
open Go.Proofs.Try (prog)
set_option linter.all false
set_option maxRecDepth 100000
set_option maxHeartbeats 4000000

theorem rem_nat {v : Int} {l : List Int} (s : RingOk v l) {i j : Nat} (hi : i < l.length) (hj : j < l.length) : ∃ d : Nat, (nth l i - nth l j + v).tmod v = d ∧ (d : Int) < v := by
  have a := s.rng i hi
  have b := s.rng j hj
  have h := s.v2
  have e := Int.tmod_eq_emod_of_nonneg (a := nth l i - nth l j + v) (b := v) (by omega)
  have h1 := Int.emod_nonneg (nth l i - nth l j + v) (show v ≠ 0 by omega)
  have h2 := Int.emod_lt_of_pos (nth l i - nth l j + v) (show 0 < v by omega)
  exact ⟨((nth l i - nth l j + v) % v).toNat, by rw [e]; omega, by omega⟩
theorem df_in {w : AV} {v : Int} {l : List Int} (hv : IsInts w l) (s : RingOk v l) {i : Nat} (hi : i < l.length) (oid : Nat) (K : List Item) : ∀ (k j : Nat) (c : List Int) (m : Mem), j + k = l.length → m.h oid = some (.cells (ints c)) → c.length = v.toNat → Small c (1000000 + j) →
    ∃ m', m'.h oid = some (.cells (ints (dfF l v i k j c))) ∧ strap_differences.L2 (.int .i64 v) w (.sl oid 1 0 c.length c.length) (.int .i64 (nth l i)) w (.int .i64 l.length) (.int .i64 i) w (.int .i64 l.length) (.int .i64 j) m (.inBlock 1 :: .code strap_differences.r11 :: .inLoop strap_differences.l0 :: .inBlock 0 :: K) = strap_differences.L0 (.int .i64 v) w (.sl oid 1 0 c.length c.length) w (.int .i64 l.length) (.int .i64 ((i : Int) + 1)) m' K := by
  intro k
  have hfew := s.few
  have hv2 := s.v2
  have hv31 := s.v31
  have hwi : IntKind.wrap .i64 ((i : Int) + 1) = (i : Int) + 1 := wrap_id (by omega) (by omega)
  induction k with
  | zero =>
    intro j c m h1 hm hc hs
    have e : j = l.length := by omega
    subst e
    refine ⟨m, hm, ?_⟩
    rw [strap_differences.L2_eq]
    simp [hwi]
    done
  | succ k ih =>
    intro j c m h1 hm hc hs
    have hj : j < l.length := by omega
    have hw : IntKind.wrap .i64 ((j : Int) + 1) = (j : Int) + 1 := wrap_id (by omega) (by omega)
    by_cases e : i = j
    · subst e
      have hst := ih (i + 1) c m (by omega) hm hc (fun g => by have := hs g; omega)
      simp only [Int.natCast_add, Int.cast_ofNat_Int] at hst
      obtain ⟨m', g1, g2⟩ := hst
      refine ⟨m', by rw [dfF_succ, if_pos rfl]; exact g1, ?_⟩
      rw [strap_differences.L2_eq]
      simp [hj, hv.idx hj, ints_head hj, hwi, g2]
      done
    · have a1 := s.rng i hi
      have a2 := s.rng j hj
      have hne : ¬ nth l i = nth l j := fun h => e ((s.ne hi hj).1 h)
      obtain ⟨d, hd, hdv⟩ := rem_nat s hi hj
      have hw1 : IntKind.wrap .i64 (nth l i - nth l j) = nth l i - nth l j := wrap_id (by omega) (by omega)
      have hw2 : IntKind.wrap .i64 (nth l i - nth l j + v) = nth l i - nth l j + v := wrap_id (by omega) (by omega)
      have hv0 : ¬ v = 0 := by omega
      have hdl : d < c.length := by omega
      have hs2 := hs d
      have hwc : IntKind.wrap .i64 (nth c d + 1) = nth c d + 1 := wrap_id (by omega) (by omega)
      have hst := fun m hm => ih (j + 1) (bump c d) m (by omega) hm (by rw [bump_len, hc]) (by have := hs.bump (by omega) d; rwa [show (1000000 + (j : Int) + 1) = 1000000 + ((j + 1 : Nat) : Int) by omega] at this)
      rw [bump_len] at hst
      simp only [Int.natCast_add, Int.cast_ofNat_Int] at hst
      have hc' : c.set d (nth c d + 1) = bump c d := rfl
      obtain ⟨m', g1, g2⟩ := hst ⟨upd m.h oid (some (.cells (ints (bump c d)))), m.nx⟩ (by simp)
      refine ⟨m', by rw [dfF_succ, if_neg e, hd]; exact g1, ?_⟩
      rw [strap_differences.L2_eq]
      simp [hj, hv.idx hj, ints_head hj, hne, hw1, hw2, hv0, hd, hdl, hm, hwc, hw, hc', g2]
      done
theorem df_out {w : AV} {v : Int} {l : List Int} (hv : IsInts w l) (s : RingOk v l) (oid : Nat) : ∀ (k i : Nat) (c : List Int) (m : Mem), i + k = l.length → m.h oid = some (.cells (ints c)) → c.length = v.toNat → Small c (1000 * i) →
    strap_differences.L0 (.int .i64 v) w (.sl oid 1 0 c.length c.length) w (.int .i64 l.length) (.int .i64 i) m [.code strap_differences.r12, .code .ret] = some (intsV (dfO l v k i c), Mem.empty) := by
  intro k
  have hfew := s.few
  have hv2 := s.v2
  induction k with
  | zero =>
    intro i c m h1 hm hc hs
    have e : i = l.length := by omega
    subst e
    have hne : c ≠ [] := by intro e; rw [e] at hc; simp at hc; omega
    rw [strap_differences.L0_eq]
    simp [intsV, hne, dfO, hm]
    done
  | succ k ih =>
    intro i c m h1 hm hc hs
    have hi : i < l.length := by omega
    have hw : IntKind.wrap .i64 ((i : Int) + 1) = (i : Int) + 1 := wrap_id (by omega) (by omega)
    obtain ⟨m', g1, g2⟩ := df_in hv s hi oid [.code strap_differences.r12, .code .ret] l.length 0 c m (by omega) hm hc (fun g => by have := hs g; omega)
    simp only [Int.ofNat_zero, Int.cast_ofNat_Int] at g2
    have hst := ih (i + 1) (dfF l v i l.length 0 c) m' (by omega) g1 (by rw [dfF_len, hc]) (by
      have := hs.dfF (l := l) (v := v) (i := i) (k := l.length) (j := 0) (by omega)
      intro g; have := this g; omega)
    simp only [Int.natCast_add, Int.cast_ofNat_Int, dfF_len] at hst
    rw [strap_differences.L0_eq]
    simp [hi, hv.idx hi, ints_head hi, hv.len, g2, hst, dfO_succ]
    done
theorem diffs_spec {w : AV} {v : Int} {l : List Int} (hv : IsInts w l) (s : RingOk v l) (m : Mem) : denC prog ann 56 [.int .i64 v, w] m = some (intsV (diffs v l), m) := by
  have hcl : closedL [.int .i64 v, w] = true := by simp [hv.closed]
  have hv2 := s.v2
  have hv31 := s.v31
  obtain ⟨t, ht⟩ : ∃ t : Nat, v = t := ⟨v.toNat, by omega⟩
  have e : v.toNat = t := by omega
  rw [diffs, e]
  have lp := df_out hv s 0 l.length 0 (List.replicate t 0) ⟨upd Mem.empty.h 0 (some (.cells (List.replicate t (AV.int .i64 0)))), 1⟩ (by omega) (by simp [ints]) (by simp [e]) (fun g => by rw [nth_zero']; omega)
  simp only [Int.ofNat_zero, Int.cast_ofNat_Int, List.length_replicate] at lp
  rw [strap_differences.call_eq _ _ _ hcl]
  subst ht
  simp [hv.len, show t ≤ 4611686018427387904 by omega, show t * 8 ≤ 70368744177664 by omega, lp]
  done

/-! ### The specification's -/
theorem rd_in {w : AV} {v : Int} {l : List Int} (hv : IsInts w l) (s : RingOk v l) {i : Nat} (hi : i < l.length) (oid : Nat) (K : List Item) : ∀ (k j : Nat) (c : List Int) (m : Mem), j + k = l.length → m.h oid = some (.cells (ints c)) → c.length = v.toNat → Small c (1000000 + j) →
    ∃ m', m'.h oid = some (.cells (ints (dfF l v i k j c))) ∧ r04_Even.L2 (.int .i64 v) w (.sl oid 1 0 c.length c.length) (.int .i64 i) (.int .i64 j) m (.inBlock 1 :: .code r04_Even.r4 :: .inLoop r04_Even.l0 :: .inBlock 0 :: K) = r04_Even.L0 (.int .i64 v) w (.sl oid 1 0 c.length c.length) (.int .i64 ((i : Int) + 1)) m' K := by
  intro k
  have hfew := s.few
  have hv2 := s.v2
  have hv31 := s.v31
  have hwi : IntKind.wrap .i64 ((i : Int) + 1) = (i : Int) + 1 := wrap_id (by omega) (by omega)
  induction k with
  | zero =>
    intro j c m h1 hm hc hs
    have e : j = l.length := by omega
    subst e
    refine ⟨m, hm, ?_⟩
    rw [r04_Even.L2_eq]
    simp [hv.len, hwi]
    done
  | succ k ih =>
    intro j c m h1 hm hc hs
    have hj : j < l.length := by omega
    have hw : IntKind.wrap .i64 ((j : Int) + 1) = (j : Int) + 1 := wrap_id (by omega) (by omega)
    by_cases e : i = j
    · subst e
      have hst := ih (i + 1) c m (by omega) hm hc (fun g => by have := hs g; omega)
      simp only [Int.natCast_add, Int.cast_ofNat_Int] at hst
      obtain ⟨m', g1, g2⟩ := hst
      refine ⟨m', by rw [dfF_succ, if_pos rfl]; exact g1, ?_⟩
      rw [r04_Even.L2_eq]
      simp [hj, hv.len, hwi, g2]
      done
    · have a1 := s.rng i hi
      have a2 := s.rng j hj
      have hne : ¬ (i : Int) = (j : Int) := by omega
      obtain ⟨d, hd, hdv⟩ := rem_nat s hi hj
      have hw1 : IntKind.wrap .i64 (nth l i - nth l j) = nth l i - nth l j := wrap_id (by omega) (by omega)
      have hw2 : IntKind.wrap .i64 (nth l i - nth l j + v) = nth l i - nth l j + v := wrap_id (by omega) (by omega)
      have hv0 : ¬ v = 0 := by omega
      have hdl : d < c.length := by omega
      have hs2 := hs d
      have hwc : IntKind.wrap .i64 (nth c d + 1) = nth c d + 1 := wrap_id (by omega) (by omega)
      have hst := fun m hm => ih (j + 1) (bump c d) m (by omega) hm (by rw [bump_len, hc]) (by have := hs.bump (by omega) d; rwa [show (1000000 + (j : Int) + 1) = 1000000 + ((j + 1 : Nat) : Int) by omega] at this)
      rw [bump_len] at hst
      simp only [Int.natCast_add, Int.cast_ofNat_Int] at hst
      have hc' : c.set d (nth c d + 1) = bump c d := rfl
      obtain ⟨m', g1, g2⟩ := hst ⟨upd m.h oid (some (.cells (ints (bump c d)))), m.nx + 19⟩ (by simp)
      refine ⟨m', by rw [dfF_succ, if_neg e, hd]; exact g1, ?_⟩
      rw [r04_Even.L2_eq]
      simp [hj, hv.len, hv.idx hi, ints_head hi, hv.idx hj, ints_head hj, hne, e, hw1, hw2, hv0, hd, hdl, hm, hwc, hw, hc', g2]
      done
end Go.Proofs.Ytpghadmpegncgaa

/-
  STRAPS (10): Single, and the specification's. Conditions: none.
-/
namespace Go.Proofs.Ytpghadmpegncgaa
open Go.AM
open Go.Proofs.Try (prog)
set_option linter.all false
set_option maxRecDepth 100000
set_option maxHeartbeats 4000000

def endsAt (L : Int) (l : List Int) : Bool := decide (top l = L)
/-- Length after length. -/
def sngS (k : Nat) : Nat → Int → Option (List Int)
  | 0, _ => none
  | n + 1, L => match findF gSingle (endsAt L) L (k - 1) [0] with
    | some r => some r
    | none => sngS k n (L + 1)
/-! ### The specification's -/
def rsF (L : Int) : Nat → List Int → Option (List Int)
  | 0, l => if (tw0 l l.length 0 []).isEmpty = true then (if top l = L then some l else none) else none
  | f + 1, l => if (tw0 l l.length 0 []).isEmpty = true then firstF (rsF L f) l (L - top l).toNat (top l + 1) else none
def rsS (k : Nat) : Nat → Int → Option (List Int)
  | 0, _ => none
  | n + 1, L => match rsF L (k - 1) [0] with
    | some r => some r
    | none => rsS k n (L + 1)
end Go.Proofs.Ytpghadmpegncgaa

/-
  BODIES OF FUNCTIONS OF THE PROGRAM AS SMALL OPERATIONS (written by gen.py; checked by the kernel against the program). Conditions: none.
-/
namespace Go.Proofs.Ytpghadmpegncgaa
open Go.AM
open Go.Proofs.Try (prog)
set_option maxRecDepth 100000
set_option linter.all false






end Go.Proofs.Ytpghadmpegncgaa

/-
  STRAPS (11): Full, and the specification's. Conditions: none.
-/
namespace Go.Proofs.Ytpghadmpegncgaa
open Go.AM
open Go.Proofs.Try (prog)
set_option linter.all false
set_option maxRecDepth 100000
set_option maxHeartbeats 4000000

theorem drop_ints {v : AV} {l : List Int} (h : IsInts v l) (h1 : 1 ≤ l.length) : ∃ v', sliceSl 1 v (some (.int .i64 1)) none = some v' ∧ IsInts v' (l.drop 1) := by
  rcases h with ⟨rfl, rfl⟩ | ⟨ex, rfl⟩
  · simp at h1
  · exact ⟨.fsl ex (l.length - 1) (ints (l.drop 1)), by
      have h2 : (1 : Int) ≤ l.length := by omega
      have h3 : (l.drop 1).take (l.length - 1) = l.drop 1 := List.take_of_length_le (by simp)
      rw [List.drop_one] at h3
      simp [sliceSl, bnds, bnd, h2, h3], .inr ⟨ex, by simp⟩⟩
def always (_ : List Int) : Bool := true
def fullAt (L : Int) (l : List Int) : Bool := decide (top l = L) && !decide ((0 : Int) ∈ (counts l).drop 1)
def flS (L : Int) : Nat → Nat → Option (List Int)
  | 0, _ => none
  | n + 1, size => if ((size : Int) * ((size : Int) - 1)).tdiv 2 < L then flS L n (size + 1) else match findF always (fullAt L) L (size - 1) [0] with
    | some r => some r
    | none => flS L n (size + 1)
/-! ### The specification's -/
def rfF (L : Int) : Nat → List Int → Option (List Int)
  | 0, l => if top l = L then (if (misses l).length = 0 then some l else none) else none
  | f + 1, l => firstF (rfF L f) l (L - top l).toNat (top l + 1)
def rfS (L : Int) : Nat → Nat → Option (List Int)
  | 0, _ => none
  | n + 1, k => match rfF L (k - 1) [0] with
    | some r => some r
    | none => rfS L n (k + 1)
end Go.Proofs.Ytpghadmpegncgaa

/-
  STRAPS (14): Even, and the specification's. Conditions: none.
-/
namespace Go.Proofs.Ytpghadmpegncgaa
open Go.AM
open Go.Proofs.Try (prog)
set_option linter.all false
set_option maxRecDepth 100000
set_option maxHeartbeats 4000000

def eqA (c : List Int) (k d : Nat) : Bool := (List.range' d k).all fun g => decide (nth c g = nth c 1)
theorem re_loop {v : Nat} {c : List Int} (hc : c.length = v) (hv : 2 ≤ v ∧ v ≤ 31) (oid : Nat) : ∀ (k d : Nat) (m : Mem), d + k = v → m.h oid = some (.cells (ints c)) →
    r04_Even.L4 (.int .i64 v) (.sl oid 1 0 c.length c.length) (.int .i64 d) m [.code r04_Even.r15, .code .ret] = some (if eqA c k d = true then .tup [.int .i64 (nth c 1), .bool true] else .tup [.int .i64 0, .bool false], Mem.empty) := by
  intro k
  have h1l : 1 < c.length := by omega
  have h1i : (1 : Int) < c.length := by omega
  induction k with
  | zero =>
    intro d m h1 hm
    have e : d = v := by omega
    subst e
    rw [r04_Even.L4_eq]
    have hz : eqA c 0 d = true := rfl
    rw [hz, if_pos rfl]
    simp [h1l, h1i, hm]
    done
  | succ k ih =>
    intro d m h1 hm
    have hd : d < v := by omega
    have hdc : d < c.length := by omega
    have hw : IntKind.wrap .i64 ((d : Int) + 1) = (d : Int) + 1 := wrap_id (by omega) (by omega)
    have hst := ih (d + 1) ⟨m.h, m.nx + 8⟩ (by omega) hm
    simp only [Int.natCast_add, Int.cast_ofNat_Int] at hst
    have e : eqA c (k + 1) d = (decide (nth c d = nth c 1) && eqA c k (d + 1)) := by simp [eqA, List.range'_succ]
    rw [e, r04_Even.L4_eq]
    by_cases q : nth c d = nth c 1
    · rw [decide_eq_true q, Bool.true_and]
      simp [hd, hdc, h1l, h1i, hm, q, hw, hst]
      done
    · rw [decide_eq_false q, Bool.false_and]
      simp [hd, hdc, h1l, h1i, hm, q]
      done
/-- What the specification's Even hands back. -/
def evenV (c : List Int) (n : Nat) : AV := if eqA c n 1 = true then .tup [.int .i64 (nth c 1), .bool true] else .tup [.int .i64 0, .bool false]
theorem re_out {w : AV} {v : Nat} {l : List Int} (hv : IsInts w l) (s : RingOk v l) (oid : Nat) : ∀ (k i : Nat) (c : List Int) (m : Mem), i + k = l.length → m.h oid = some (.cells (ints c)) → c.length = v → Small c (1000 * i) →
    r04_Even.L0 (.int .i64 v) w (.sl oid 1 0 c.length c.length) (.int .i64 i) m [.code r04_Even.r10, .code r04_Even.k4, .code r04_Even.r15, .code .ret] = some (evenV (dfO l v k i c) (v - 1), Mem.empty) := by
  intro k
  have hfew := s.few
  have hv2 := s.v2
  have hv31 := s.v31
  induction k with
  | zero =>
    intro i c m h1 hm hc hs
    have e : i = l.length := by omega
    subst e
    have lp := re_loop hc (by omega) oid (v - 1) 1 m (by omega) hm
    simp only [Int.cast_ofNat_Int] at lp
    rw [r04_Even.L0_eq]
    simp [hv.len, lp, dfO, evenV]
    done
  | succ k ih =>
    intro i c m h1 hm hc hs
    have hi : i < l.length := by omega
    have hw : IntKind.wrap .i64 ((i : Int) + 1) = (i : Int) + 1 := wrap_id (by omega) (by omega)
    obtain ⟨m', g1, g2⟩ := rd_in hv s hi oid [.code r04_Even.r10, .code r04_Even.k4, .code r04_Even.r15, .code .ret] l.length 0 c m (by omega) hm (by omega) (fun g => by have := hs g; omega)
    simp only [Int.ofNat_zero, Int.cast_ofNat_Int] at g2
    have hst := ih (i + 1) (dfF l v i l.length 0 c) m' (by omega) g1 (by rw [dfF_len, hc]) (by
      have := hs.dfF (l := l) (v := v) (i := i) (k := l.length) (j := 0) (by omega)
      intro g; have := this g; omega)
    simp only [Int.natCast_add, Int.cast_ofNat_Int, dfF_len] at hst
    rw [r04_Even.L0_eq]
    simp [hi, hv.len, g2, hst, dfO_succ]
    done
theorem reven_spec {w : AV} {v : Nat} {l : List Int} (hv : IsInts w l) (s : RingOk v l) (m : Mem) : denC prog ann 33 [.int .i64 v, w] m = some (evenV (diffs v l) (v - 1), m) := by
  have hcl : closedL [.int .i64 v, w] = true := by simp [hv.closed]
  have hv2 := s.v2
  have hv31 := s.v31
  rw [diffs, Int.toNat_natCast]
  have lp := re_out hv s 0 l.length 0 (List.replicate v 0) ⟨upd Mem.empty.h 0 (some (.cells (List.replicate v (AV.int .i64 0)))), 1⟩ (by omega) (by simp [ints]) (by simp) (fun g => by rw [nth_zero']; omega)
  simp only [Int.ofNat_zero, Int.cast_ofNat_Int, List.length_replicate] at lp
  rw [r04_Even.call_eq _ _ _ hcl]
  simp [show v ≤ 4611686018427387904 by omega, show v * 8 ≤ 70368744177664 by omega, lp]
  done

/-! ### The code's -/
def minL (c : List Int) : Int := (c.drop 1).foldl min (nth c 0)
theorem min_loop {w : AV} {c : List Int} (hw0 : IsInts w c) (hcl : c.length ≤ 1001) : ∀ (k i : Nat) (x : Int) (m : Mem), i + k = c.length →
    slices_Min_int.L0 w (.int .i64 x) (.int .i64 i) m [.code slices_Min_int.r8, .code .ret] = some (.int .i64 ((c.drop i).foldl min x), Mem.empty) := by
  intro k
  induction k with
  | zero =>
    intro i x m h1
    have e : i = c.length := by omega
    subst e
    rw [slices_Min_int.L0_eq]
    simp [hw0.len]
    done
  | succ k ih =>
    intro i x m h1
    have hi : i < c.length := by omega
    have hw : IntKind.wrap .i64 ((i : Int) + 1) = (i : Int) + 1 := wrap_id (by omega) (by omega)
    have hst := ih (i + 1) (min x (nth c i)) m (by omega)
    simp only [Int.natCast_add, Int.cast_ofNat_Int] at hst
    rw [drop_nth hi, List.foldl_cons, slices_Min_int.L0_eq]
    simp [hi, hw0.len, hw0.idx hi, ints_head hi, hw, hst]
    done
theorem min_spec {w : AV} {c : List Int} (hw0 : IsInts w c) (hcl : c.length ≤ 1001) (h0 : 0 < c.length) (m : Mem) : denC prog ann 57 [w] m = some (.int .i64 (minL c), m) := by
  have lp := min_loop hw0 hcl (c.length - 1) 1 (nth c 0) Mem.empty (by omega)
  simp only [Int.cast_ofNat_Int] at lp
  have i0 := hw0.idx h0 .i64
  have i1 := ints_head h0
  simp only [Int.ofNat_zero, Int.cast_ofNat_Int, List.drop_zero] at i0 i1
  rw [slices_Min_int.call_eq _ _ (by simp [hw0.closed])]
  have hn : ¬ (c.length : Int) < 1 := by omega
  simp [hw0.len, hn, i0, i1, lp, minL]
  done

theorem foldl_max_ge : ∀ (L : List Int) (x : Int), x ≤ L.foldl max x ∧ ∀ y ∈ L, y ≤ L.foldl max x
  | [], x => ⟨Int.le_refl _, fun _ h => by cases h⟩
  | a :: L, x => by
    obtain ⟨h1, h2⟩ := foldl_max_ge L (max x a)
    refine ⟨by rw [List.foldl_cons]; omega, fun y hy => ?_⟩
    rw [List.foldl_cons]
    rcases List.mem_cons.1 hy with rfl | hy
    · omega
    · exact h2 y hy
theorem foldl_min_le : ∀ (L : List Int) (x : Int), L.foldl min x ≤ x ∧ ∀ y ∈ L, L.foldl min x ≤ y
  | [], x => ⟨Int.le_refl _, fun _ h => by cases h⟩
  | a :: L, x => by
    obtain ⟨h1, h2⟩ := foldl_min_le L (min x a)
    refine ⟨by rw [List.foldl_cons]; omega, fun y hy => ?_⟩
    rw [List.foldl_cons]
    rcases List.mem_cons.1 hy with rfl | hy
    · omega
    · exact h2 y hy
theorem foldl_max_same : ∀ (L : List Int) (x : Int), (∀ y ∈ L, y = x) → L.foldl max x = x
  | [], _, _ => rfl
  | a :: L, x, h => by
    have : a = x := h a (by simp)
    subst this
    rw [List.foldl_cons, Int.max_self]
    exact foldl_max_same L a fun y hy => h y (by simp [hy])
theorem foldl_min_same : ∀ (L : List Int) (x : Int), (∀ y ∈ L, y = x) → L.foldl min x = x
  | [], _, _ => rfl
  | a :: L, x, h => by
    have : a = x := h a (by simp)
    subst this
    rw [List.foldl_cons, Int.min_self]
    exact foldl_min_same L a fun y hy => h y (by simp [hy])
theorem nth_drop (c : List Int) (i j : Nat) : nth (c.drop i) j = nth c (i + j) := by simp [nth, List.getD, List.getElem?_drop]
theorem eqA_iff {c : List Int} {v : Nat} (hc : c.length = v) (hv : 2 ≤ v) : eqA c (v - 1) 1 = true ↔ ∀ y ∈ c.drop 1, y = nth c 1 := by
  rw [eqA, List.all_eq_true]
  constructor
  · intro a y hy
    obtain ⟨i, hi, e⟩ := List.getElem_of_mem hy
    rw [nth_get hi, nth_drop] at e
    simp at hi
    have := a (1 + i) (by simp [List.mem_range'_1]; omega)
    rw [decide_eq_true_eq] at this
    omega
  · intro a g hg
    simp [List.mem_range'_1] at hg
    rw [decide_eq_true_eq]
    refine a _ ?_
    have : g - 1 < (c.drop 1).length := by simp; omega
    have e := nth_drop c 1 (g - 1)
    rw [show 1 + (g - 1) = g by omega] at e
    rw [← e, ← nth_get this]
    exact List.getElem_mem _
theorem minmax {c : List Int} {v : Nat} (hc : c.length = v) (hv : 2 ≤ v) : minL (c.drop 1) = maxL (c.drop 1) ↔ eqA c (v - 1) 1 = true := by
  rw [eqA_iff hc hv]
  have h0 : c.drop 1 = nth c 1 :: c.drop 2 := drop_nth (by omega)
  have hn : nth (c.drop 1) 0 = nth c 1 := by rw [nth_drop]
  have hd : (c.drop 1).drop 1 = c.drop 2 := by rw [List.drop_drop]
  rw [minL, maxL, hn, hd]
  obtain ⟨a1, a2⟩ := foldl_max_ge (c.drop 2) (nth c 1)
  obtain ⟨b1, b2⟩ := foldl_min_le (c.drop 2) (nth c 1)
  constructor
  · intro h y hy
    rw [h0] at hy
    rcases List.mem_cons.1 hy with rfl | hy
    · rfl
    · have := a2 y hy
      have := b2 y hy
      omega
  · intro h
    have h' : ∀ y ∈ c.drop 2, y = nth c 1 := fun y hy => h y (by rw [h0]; simp [hy])
    rw [foldl_max_same _ _ h', foldl_min_same _ _ h']
theorem diffs_len (v : Int) (l : List Int) : (diffs v l).length = v.toNat := by rw [diffs, dfO_len, List.length_replicate]
theorem even_spec {w : AV} {v : Nat} {l : List Int} (hv : IsInts w l) (s : RingOk v l) (hr : ∀ m, denC prog ann 55 [.int .i64 v, w] m = some (.int .i64 0, m)) (m : Mem) :
    denC prog ann 31 [.int .i64 v, w] m = some (if eqA (diffs v l) (v - 1) 1 = true then .tup [.int .i64 (nth (diffs v l) 1), .int .i64 0] else .tup [.int .i64 0, .int .i64 5], m) := by
  have hcl : closedL [.int .i64 v, w] = true := by simp [hv.closed]
  have hv2 := s.v2
  have hv31 := s.v31
  have hlen := diffs_len v l
  rw [Int.toNat_natCast] at hlen
  have hw0 := intsV_is (diffs v l)
  have hds := fun m => diffs_spec hv s m
  have mm := minmax hlen (by omega)
  generalize diffs v l = c at *
  obtain ⟨v', d1, d2⟩ := drop_ints hw0 (by omega)
  have hl1 : (c.drop 1).length = v - 1 := by simp; omega
  have h58 := fun m => max_spec d2 (by omega) (by omega) m
  have h57 := fun m => min_spec d2 (by omega) (by omega) m
  have i0 := d2.idx (i := 0) (by omega) .i64
  have i1 := ints_head (l := c.drop 1) (i := 0) (by omega)
  simp only [Int.ofNat_zero, Int.cast_ofNat_Int, List.drop_zero] at i0 i1
  rw [nth_drop, show 1 + 0 = 1 from rfl] at i1
  generalize c.drop 1 = T at *
  rw [strap_Even.call_eq _ _ _ hcl]
  by_cases q : eqA c (v - 1) 1 = true
  · rw [if_pos q]
    have q' := mm.2 q
    simp [hv.closed, hr, hds, hw0.closed, d1, d2.closed, h58, h57, q', i0, i1]
    done
  · rw [if_neg q]
    have q' : ¬ minL T = maxL T := fun h => q (mm.1 h)
    simp [hv.closed, hr, hds, hw0.closed, d1, d2.closed, h58, h57, q']
    done
theorem even_bad {w : AV} {v : Int} {l : List Int} (hv : IsInts w l) {e : Int} (hr : ∀ m, denC prog ann 55 [.int .i64 v, w] m = some (.int .i64 e, m)) (he : e ≠ 0) (m : Mem) :
    denC prog ann 31 [.int .i64 v, w] m = some (.tup [.int .i64 0, .int .i64 e], m) := by
  have hcl : closedL [.int .i64 v, w] = true := by simp [hv.closed]
  rw [strap_Even.call_eq _ _ _ hcl]
  simp [hv.closed, hr, he]
  done
end Go.Proofs.Ytpghadmpegncgaa

/-
  THE LAWS' EXAMPLES HOLD. Conditions: none.
-/
namespace Go.Proofs.Ytpghadmpegncgaa
open Go.AM
open Go.Proofs.Try (prog)
set_option linter.all false
set_option maxRecDepth 1000000

def isT (r : Option Res) : Bool := match r with
  | some (.bool b, _) => b
  | _ => false
theorem lives_run : isT (callN prog ann 3000 14 [] Mem.empty) = true := by kernel_rfl
@[simp] theorem lives_pure : (ann 14).pure = true := by kernel_rfl
theorem f14_at : prog.funcs[14]? = some Try.f14 := by kernel_rfl
theorem f14_some : Try.f14.body.isSome = true := by kernel_rfl
theorem lives_spec (m : Mem) : denC prog ann 14 [] m = some (.bool true, m) := by
  have hb : Try.f14.body = some (Try.f14.body.getD .skip) := by
    cases h : Try.f14.body with
    | none => have := f14_some; rw [h] at this; cases this
    | some b => rfl
  have e := fun m => denC_pure (P := prog) (A := ann) (f := 14) f14_at hb (by kernel_rfl) (by kernel_rfl) (show closedL [] = true from rfl) m
  have h := lives_run
  cases hr : callN prog ann 3000 14 [] Mem.empty with
  | none => rw [hr] at h; cases h
  | some r =>
    rw [hr] at h
    have h2 := denC_of_callN hr
    rw [e] at h2 ⊢
    obtain ⟨q, h3, h4⟩ := Option.bind_eq_some_iff.1 h2
    rw [h3]
    simp at h4
    subst h4
    match q, h with
    | (.bool true, _), _ => rfl
end Go.Proofs.Ytpghadmpegncgaa

/-
  StrapEvens: the law answers true. Conditions: none.
-/
namespace Go.Proofs.Ytpghadmpegncgaa
open Go.AM
open Go.Proofs.Try (prog)
set_option linter.all false
set_option maxRecDepth 100000
set_option maxHeartbeats 4000000

theorem even_runs {d : Nat} (a0 a1 : AV) (h0 : DatV prog (d + 4) 3 a0) (h1 : DatV prog (d + 4) 22 a1) : ∃ m', denC prog ann 8 [a0, a1] Mem.empty = some (.bool true, m') := by
  obtain ⟨v, rfl, _, _⟩ := datV3 h0
  obtain ⟨l0, hl0, kl⟩ := datV22 h1
  obtain ⟨w, hv, hcut⟩ := cut_spec hl0
  have hlen : (l0.take 41).length ≤ 41 := by simp; omega
  generalize l0.take 41 = l at *
  obtain ⟨e, he, hr, hs⟩ := ring_set hv (by omega) v
  have hcl : closedL [.int .i64 v, a1] = true := by simp [hl0.closed]
  refine ⟨Mem.empty, ?_⟩
  rw [l04_StrapEvens.call_eq _ _ _ hcl]
  by_cases q : e = 0
  · subst q
    have s : RingOk v l := by cases he; assumption
    have hv2 := s.v2
    obtain ⟨n, rfl⟩ : ∃ n : Nat, v = n := ⟨v.toNat, by omega⟩
    have he1 := fun m => even_spec hv s hr m
    have he2 := fun m => reven_spec hv s m
    unfold evenV at he2
    by_cases q2 : eqA (diffs n l) (n - 1) 1 = true
    · simp only [if_pos q2] at he1 he2
      simp [hl0.closed, hcut, hv.closed, he1, hs, he2, lives_spec]
      done
    · simp only [if_neg q2] at he1 he2
      simp [hl0.closed, hcut, hv.closed, he1, hs, he2, lives_spec]
      done
  · simp [hl0.closed, hcut, hv.closed, even_bad hv hr q, hs, q, lives_spec]
    done
end Go.Proofs.Ytpghadmpegncgaa
