/-
  BODIES OF FUNCTIONS OF THE PROGRAM AS SMALL OPERATIONS (written by gen.py; checked by the kernel against the program). Conditions: none.
-/
import Derived.Test.YtdkmepjedjclkaaKAmH
set_option linter.all false
namespace Go.Proofs.Ytdkmepjedjclkaa
open Go.AM
open Go.Proofs.Try (prog)
set_option maxRecDepth 100000
set_option linter.all false

namespace watch_First
/-- pommel/watch.First -/
noncomputable def b : Code := (Try.f55.body).getD .skip
theorem hf : prog.funcs[55]? = some Try.f55 := by kernel_rfl
noncomputable def r0 : Code := findReg b 0
noncomputable def r1 : Code := findReg b 1
theorem b_eq (K : List Item) (s : St) : den prog ann 55 (.code b :: K) s = den prog ann 55 (.code r0 :: .code r1 :: .code .ret :: K) s := den_flat hf (l := [r0, r1, .ret]) (by kernel_rfl) K s
theorem r0_eq (K : List Item) (s : St) : den prog ann 55 (.code r0 :: K) s = mreg prog ann 55 none [] none [] [
    ⟨some 2, none, .v fun s => frozenPtr (s.get 0)⟩,
    ⟨some 4, none, .v fun s => some (.nils)⟩,
    ⟨some 5, none, .v fun s => some (.int .i64 0)⟩] K s := (den_reg hf _ K s).trans (by kernel_rfl)
theorem r1_eq (K : List Item) (s : St) : den prog ann 55 (.code r1 :: K) s = mreg prog ann 55 none [] none [] [
    ⟨some 6, none, .v fun s => loadF true 2 (s.get 2)⟩,
    ⟨some 7, none, .v fun s => some (s.get 1)⟩,
    ⟨some 8, none, .c 0 (fun s => (.fn 89 [] [])) fun s => [(s.get 6), (s.get 7), (.fn 90 [] [])]⟩,
    ⟨some 9, none, .v fun s => extA (s.get 8) 0⟩,
    ⟨some 10, none, .v fun s => extA (s.get 8) 1⟩,
    ⟨some 4, none, .v fun s => some (s.get 9)⟩,
    ⟨some 5, none, .v fun s => some (s.get 10)⟩] K s := (den_reg hf _ K s).trans (by kernel_rfl)
theorem ret_eq (K : List Item) (s : St) : den prog ann 55 (.code .ret :: K) s = finM true [fun s => some (s.get 4), fun s => some (s.get 5)] s := (den_ret hf K s).trans (by kernel_rfl)
theorem nil_eq (s : St) : den prog ann 55 [] s = finM true [fun s => some (s.get 4), fun s => some (s.get 5)] s := (den_nil hf s).trans (by kernel_rfl)
theorem inBlock_eq (id : Nat) (K : List Item) (s : St) : den prog ann 55 (.inBlock id :: K) s = den prog ann 55 K s := den_inBlock hf id K s
theorem exit_eq (id : Nat) (K : List Item) (s : St) : den prog ann 55 (.code (.exit id) :: K) s = exitV prog ann 55 (exitTo id K) s := den_exitV hf id K s
theorem call_eq (v0 v1 : AV) (m : Mem) (h : closedL [v0, v1] = true) : denC prog ann 55 [v0, v1] m = (den prog ann 55 [.code b] ⟨[(0, v0), (1, v1)], 11, Mem.empty⟩).bind fun r => some (r.1, m) := (denC_pure hf (b := b) (by kernel_rfl) (by kernel_rfl) (by kernel_rfl) h m).trans (by kernel_rfl)
theorem pure_eq : (ann 55).pure = true := by kernel_rfl
attribute [simp] b_eq r0_eq r1_eq ret_eq nil_eq inBlock_eq exit_eq pure_eq
end watch_First

namespace watch_Last
/-- pommel/watch.Last -/
noncomputable def b : Code := (Try.f56.body).getD .skip
theorem hf : prog.funcs[56]? = some Try.f56 := by kernel_rfl
noncomputable def r0 : Code := findReg b 0
noncomputable def r1 : Code := findReg b 1
theorem b_eq (K : List Item) (s : St) : den prog ann 56 (.code b :: K) s = den prog ann 56 (.code r0 :: .code r1 :: .code .ret :: K) s := den_flat hf (l := [r0, r1, .ret]) (by kernel_rfl) K s
theorem r0_eq (K : List Item) (s : St) : den prog ann 56 (.code r0 :: K) s = mreg prog ann 56 none [] none [] [
    ⟨some 2, none, .v fun s => frozenPtr (s.get 0)⟩,
    ⟨some 4, none, .v fun s => some (.nils)⟩,
    ⟨some 5, none, .v fun s => some (.int .i64 0)⟩] K s := (den_reg hf _ K s).trans (by kernel_rfl)
theorem r1_eq (K : List Item) (s : St) : den prog ann 56 (.code r1 :: K) s = mreg prog ann 56 none [] none [] [
    ⟨some 6, none, .v fun s => loadF true 2 (s.get 2)⟩,
    ⟨some 7, none, .v fun s => some (s.get 1)⟩,
    ⟨some 8, none, .c 0 (fun s => (.fn 89 [] [])) fun s => [(s.get 6), (s.get 7), (.fn 91 [] [])]⟩,
    ⟨some 9, none, .v fun s => extA (s.get 8) 0⟩,
    ⟨some 10, none, .v fun s => extA (s.get 8) 1⟩,
    ⟨some 4, none, .v fun s => some (s.get 9)⟩,
    ⟨some 5, none, .v fun s => some (s.get 10)⟩] K s := (den_reg hf _ K s).trans (by kernel_rfl)
theorem ret_eq (K : List Item) (s : St) : den prog ann 56 (.code .ret :: K) s = finM true [fun s => some (s.get 4), fun s => some (s.get 5)] s := (den_ret hf K s).trans (by kernel_rfl)
theorem nil_eq (s : St) : den prog ann 56 [] s = finM true [fun s => some (s.get 4), fun s => some (s.get 5)] s := (den_nil hf s).trans (by kernel_rfl)
theorem inBlock_eq (id : Nat) (K : List Item) (s : St) : den prog ann 56 (.inBlock id :: K) s = den prog ann 56 K s := den_inBlock hf id K s
theorem exit_eq (id : Nat) (K : List Item) (s : St) : den prog ann 56 (.code (.exit id) :: K) s = exitV prog ann 56 (exitTo id K) s := den_exitV hf id K s
theorem call_eq (v0 v1 : AV) (m : Mem) (h : closedL [v0, v1] = true) : denC prog ann 56 [v0, v1] m = (den prog ann 56 [.code b] ⟨[(0, v0), (1, v1)], 11, Mem.empty⟩).bind fun r => some (r.1, m) := (denC_pure hf (b := b) (by kernel_rfl) (by kernel_rfl) (by kernel_rfl) h m).trans (by kernel_rfl)
theorem pure_eq : (ann 56).pure = true := by kernel_rfl
attribute [simp] b_eq r0_eq r1_eq ret_eq nil_eq inBlock_eq exit_eq pure_eq
end watch_Last

namespace watch_ends
/-- pommel/watch.ends -/
noncomputable def b : Code := (Try.f89.body).getD .skip
theorem hf : prog.funcs[89]? = some Try.f89 := by kernel_rfl
noncomputable def r0 : Code := findReg b 0
noncomputable def r1 : Code := findReg b 1
noncomputable def r2 : Code := findReg b 2
noncomputable def i0 : Code := findCond b 0
noncomputable def i0t : Code := thenOf i0
noncomputable def i0e : Code := elseOf i0
noncomputable def r3 : Code := findReg b 3
noncomputable def r4 : Code := findReg b 4
noncomputable def r5 : Code := findReg b 5
noncomputable def r6 : Code := findReg b 6
noncomputable def k0 : Code := findBlk b 0
noncomputable def l0 : Code := loopOf k0
noncomputable def L0 (x2 x8 x10 x11 x30 x31 x32 : AV) (m : Mem) (K : List Item) : Option Res := den prog ann 89 (.code l0 :: .inLoop l0 :: .inBlock 0 :: K) ⟨[(2, x2), (8, x8), (10, x10), (11, x11), (30, x30), (31, x31), (32, x32)], 64, m⟩
noncomputable def r7 : Code := findReg b 7
noncomputable def i1 : Code := findCond b 1
noncomputable def i1t : Code := thenOf i1
noncomputable def i1e : Code := elseOf i1
noncomputable def k1 : Code := findBlk b 1
noncomputable def r8 : Code := findReg b 8
noncomputable def r9 : Code := findReg b 9
noncomputable def i2 : Code := findCond b 2
noncomputable def i2t : Code := thenOf i2
noncomputable def i2e : Code := elseOf i2
noncomputable def r10 : Code := findReg b 10
noncomputable def r11 : Code := findReg b 11
noncomputable def r12 : Code := findReg b 12
noncomputable def i3 : Code := findCond b 3
noncomputable def i3t : Code := thenOf i3
noncomputable def i3e : Code := elseOf i3
noncomputable def r13 : Code := findReg b 13
noncomputable def r14 : Code := findReg b 14
noncomputable def r15 : Code := findReg b 15
noncomputable def k2 : Code := findBlk b 2
noncomputable def l2 : Code := loopOf k2
noncomputable def L2 (x2 x8 x14 x49 x50 x51 : AV) (m : Mem) (K : List Item) : Option Res := den prog ann 89 (.code l2 :: .inLoop l2 :: .inBlock 2 :: K) ⟨[(2, x2), (8, x8), (14, x14), (49, x49), (50, x50), (51, x51)], 64, m⟩
noncomputable def r16 : Code := findReg b 16
noncomputable def i4 : Code := findCond b 4
noncomputable def i4t : Code := thenOf i4
noncomputable def i4e : Code := elseOf i4
noncomputable def k3 : Code := findBlk b 3
noncomputable def r17 : Code := findReg b 17
noncomputable def r18 : Code := findReg b 18
noncomputable def r19 : Code := findReg b 19
noncomputable def r20 : Code := findReg b 20
theorem b_eq (K : List Item) (s : St) : den prog ann 89 (.code b :: K) s = den prog ann 89 (.code r0 :: .code r1 :: .code r2 :: .code i0 :: .code r4 :: .code r5 :: .code r6 :: .code k0 :: .code r12 :: .code i3 :: .code r14 :: .code r15 :: .code k2 :: .code r20 :: .code .ret :: K) s := den_flat hf (l := [r0, r1, r2, i0, r4, r5, r6, k0, r12, i3, r14, r15, k2, r20, .ret]) (by kernel_rfl) K s
theorem r0_eq (K : List Item) (s : St) : den prog ann 89 (.code r0 :: K) s = mreg prog ann 89 none [] none [] [
    ⟨some 3, none, .v fun s => frozenPtr (s.get 0)⟩,
    ⟨some 6, none, .v fun s => some (.nils)⟩,
    ⟨some 7, none, .v fun s => some (.int .i64 0)⟩] K s := (den_reg hf _ K s).trans (by kernel_rfl)
theorem r1_eq (K : List Item) (s : St) : den prog ann 89 (.code r1 :: K) s = mreg prog ann 89 none [] none [8] [
    ⟨some 18, none, .v fun s => loadF true 2 (s.get 3)⟩,
    ⟨some 19, none, .v fun s => some (s.get 1)⟩,
    ⟨some 20, none, .c 0 (fun s => (.fn 100 [] [])) fun s => [(s.get 18), (s.get 19)]⟩,
    ⟨some 17, none, .v fun s => some (s.get 20)⟩,
    ⟨some 21, none, .v fun s => extA (s.get 17) 0⟩,
    ⟨some 22, none, .v fun s => extA (s.get 17) 1⟩,
    ⟨some 8, none, .w false none fun s => newPtr s.m [.nilp, .nils]⟩,
    ⟨none, none, .w false none fun s => stA true 2 s.m (s.get 8) (s.get 21)⟩,
    ⟨some 9, none, .v fun s => some (s.get 22)⟩] K s := (den_reg hf _ K s).trans (by kernel_rfl)
theorem r2_eq (K : List Item) (s : St) : den prog ann 89 (.code r2 :: K) s = mreg prog ann 89 none [] none [] [
    ⟨some 23, none, .v fun s => some (s.get 9)⟩,
    ⟨some 24, none, .v fun s => binA prog .neq 27 (s.get 23) (.int .i64 0)⟩] K s := (den_reg hf _ K s).trans (by kernel_rfl)
theorem i0_eq (K : List Item) (s : St) : den prog ann 89 (.code i0 :: K) s = ifV prog ann 89 24 i0t i0e K s (s.get 24) := den_if hf (by kernel_rfl) K s
theorem i0t_eq (K : List Item) (s : St) : den prog ann 89 (.code i0t :: K) s = den prog ann 89 (.code r3 :: .code .ret :: K) s := den_flat hf (l := [r3, .ret]) (by kernel_rfl) K s
theorem r3_eq (K : List Item) (s : St) : den prog ann 89 (.code r3 :: K) s = mreg prog ann 89 none [] none [] [
    ⟨some 25, none, .v fun s => some (s.get 9)⟩,
    ⟨some 6, none, .v fun s => some (.nils)⟩,
    ⟨some 7, none, .v fun s => some (s.get 25)⟩] K s := (den_reg hf _ K s).trans (by kernel_rfl)
theorem i0e_eq (K : List Item) (s : St) : den prog ann 89 (.code i0e :: K) s = den prog ann 89 (K) s := den_flat hf (l := []) (by kernel_rfl) K s
theorem r4_eq (K : List Item) (s : St) : den prog ann 89 (.code r4 :: K) s = mreg prog ann 89 none [] none [] [
    ⟨some 26, none, .v fun s => loadF true 2 (s.get 8)⟩,
    ⟨some 27, none, .v fun s => some (.fn 101 [(s.get 26)] [])⟩,
    ⟨some 10, none, .v fun s => some (s.get 27)⟩] K s := (den_reg hf _ K s).trans (by kernel_rfl)
theorem r5_eq (K : List Item) (s : St) : den prog ann 89 (.code r5 :: K) s = mreg prog ann 89 none [] none [] [
    ⟨some 11, none, .v fun s => some (.nils)⟩] K s := (den_reg hf _ K s).trans (by kernel_rfl)
theorem r6_eq (K : List Item) (s : St) : den prog ann 89 (.code r6 :: K) s = mreg prog ann 89 none [] none [] [
    ⟨some 28, none, .v fun s => fieldA 0 (s.get 8)⟩,
    ⟨some 29, none, .v fun s => loadF false 1 (s.get 28)⟩,
    ⟨some 30, none, .c 2 (fun s => (.fn 62 [] [])) fun s => [(s.get 29)]⟩,
    ⟨some 31, none, .v fun s => lenSl (s.get 30)⟩,
    ⟨some 32, none, .v fun s => some (.int .i64 0)⟩] K s := (den_reg hf _ K s).trans (by kernel_rfl)
theorem k0_eq (K : List Item) (t : List (Nat × AV)) (m : Mem) : den prog ann 89 (.code k0 :: K) ⟨t, 64, m⟩ = L0 (get t 2) (get t 8) (get t 10) (get t 11) (get t 30) (get t 31) (get t 32) m K := den_loop_enter hf (b := l0) (id := 7) (l := [2, 8, 10, 11, 30, 31, 32]) (by kernel_rfl) (by kernel_rfl) (by kernel_rfl) K _
theorem l0_eq (K : List Item) (t : List (Nat × AV)) (m : Mem) : den prog ann 89 (.inLoop l0 :: .inBlock 0 :: K) ⟨t, 64, m⟩ = L0 (get t 2) (get t 8) (get t 10) (get t 11) (get t 30) (get t 31) (get t 32) m K := den_loop_again hf (id := 7) (l := [2, 8, 10, 11, 30, 31, 32]) (by kernel_rfl) (by kernel_rfl) (.inBlock 0 :: K) _
theorem L0_eq (x2 x8 x10 x11 x30 x31 x32 : AV) (m : Mem) (K : List Item) : L0 x2 x8 x10 x11 x30 x31 x32 m K = den prog ann 89 (.code r7 :: .code i1 :: .code k1 :: .code r11 :: .inLoop l0 :: .inBlock 0 :: K) ⟨[(2, x2), (8, x8), (10, x10), (11, x11), (30, x30), (31, x31), (32, x32)], 64, m⟩ := den_flat hf (l := [r7, i1, k1, r11]) (by kernel_rfl) _ _
theorem r7_eq (K : List Item) (s : St) : den prog ann 89 (.code r7 :: K) s = mreg prog ann 89 (some [2, 8, 10, 11, 30, 31, 32]) [] none [] [
    ⟨some 33, none, .v fun s => binA prog .lss 3 (s.get 32) (s.get 31)⟩] K s := (den_reg hf _ K s).trans (by kernel_rfl)
theorem i1_eq (K : List Item) (s : St) : den prog ann 89 (.code i1 :: K) s = ifV prog ann 89 33 i1t i1e K s (s.get 33) := den_if hf (by kernel_rfl) K s
theorem i1t_eq (K : List Item) (s : St) : den prog ann 89 (.code i1t :: K) s = den prog ann 89 (K) s := den_flat hf (l := []) (by kernel_rfl) K s
theorem i1e_eq (K : List Item) (s : St) : den prog ann 89 (.code i1e :: K) s = den prog ann 89 (.code (.exit 0) :: K) s := den_flat hf (l := [(.exit 0)]) (by kernel_rfl) K s
theorem k1_eq (K : List Item) (s : St) : den prog ann 89 (.code k1 :: K) s = den prog ann 89 (.code r8 :: .code r9 :: .code i2 :: .inBlock 1 :: K) s := den_blk hf (b := blkOf k1) (l := [r8, r9, i2]) (by kernel_rfl) (by kernel_rfl) K s
theorem r8_eq (K : List Item) (s : St) : den prog ann 89 (.code r8 :: K) s = mreg prog ann 89 none [] none [13] [
    ⟨some 34, none, .v fun s => idxSl 4 (s.get 30) (s.get 32)⟩,
    ⟨some 35, none, .v fun s => loadF true 4 (s.get 34)⟩,
    ⟨some 13, none, .w false none fun s => newPtr s.m [.int .i64 0, .int .i64 0, .int .i64 0, .int .i64 0]⟩,
    ⟨none, none, .w false none fun s => stA true 4 s.m (s.get 13) (s.get 35)⟩] K s := (den_reg hf _ K s).trans (by kernel_rfl)
theorem r9_eq (K : List Item) (s : St) : den prog ann 89 (.code r9 :: K) s = mreg prog ann 89 none [] none [] [
    ⟨some 36, none, .v fun s => some (s.get 10)⟩,
    ⟨some 37, none, .v fun s => loadF true 4 (s.get 13)⟩,
    ⟨some 38, none, .c 0 (fun s => (s.get 36)) fun s => [(s.get 37)]⟩] K s := (den_reg hf _ K s).trans (by kernel_rfl)
theorem i2_eq (K : List Item) (s : St) : den prog ann 89 (.code i2 :: K) s = ifV prog ann 89 38 i2t i2e K s (s.get 38) := den_if hf (by kernel_rfl) K s
theorem i2t_eq (K : List Item) (s : St) : den prog ann 89 (.code i2t :: K) s = den prog ann 89 (.code r10 :: K) s := den_flat hf (l := [r10]) (by kernel_rfl) K s
theorem r10_eq (K : List Item) (s : St) : den prog ann 89 (.code r10 :: K) s = mreg prog ann 89 none [] none [] [
    ⟨some 39, none, .v fun s => some (s.get 11)⟩,
    ⟨some 40, none, .v fun s => loadF true 4 (s.get 13)⟩,
    ⟨some 41, none, .v fun s => bslF 1 (bslA 4 1 [.int .i64 0, .int .i64 0, .int .i64 0, .int .i64 0] [(0, (s.get 40))])⟩,
    ⟨some 42, none, .w false none fun s => appendA 4 32 s.m (s.get 39) (s.get 41)⟩,
    ⟨some 11, none, .v fun s => some (s.get 42)⟩] K s := (den_reg hf _ K s).trans (by kernel_rfl)
theorem i2e_eq (K : List Item) (s : St) : den prog ann 89 (.code i2e :: K) s = den prog ann 89 (K) s := den_flat hf (l := []) (by kernel_rfl) K s
theorem r11_eq (K : List Item) (s : St) : den prog ann 89 (.code r11 :: K) s = mreg prog ann 89 (some [2, 8, 10, 11, 30, 31, 32]) [] none [] [
    ⟨some 43, none, .v fun s => binA prog .add 3 (s.get 32) (.int .i64 1)⟩,
    ⟨some 32, none, .v fun s => some (s.get 43)⟩] K s := (den_reg hf _ K s).trans (by kernel_rfl)
theorem r12_eq (K : List Item) (s : St) : den prog ann 89 (.code r12 :: K) s = mreg prog ann 89 (some [2, 8, 11]) [] none [] [
    ⟨some 44, none, .v fun s => some (s.get 11)⟩,
    ⟨some 45, none, .v fun s => binA prog .eql 95 (s.get 44) (.nils)⟩] K s := (den_reg hf _ K s).trans (by kernel_rfl)
theorem i3_eq (K : List Item) (s : St) : den prog ann 89 (.code i3 :: K) s = ifV prog ann 89 45 i3t i3e K s (s.get 45) := den_if hf (by kernel_rfl) K s
theorem i3t_eq (K : List Item) (s : St) : den prog ann 89 (.code i3t :: K) s = den prog ann 89 (.code r13 :: .code .ret :: K) s := den_flat hf (l := [r13, .ret]) (by kernel_rfl) K s
theorem r13_eq (K : List Item) (s : St) : den prog ann 89 (.code r13 :: K) s = mreg prog ann 89 none [] none [] [
    ⟨some 6, none, .v fun s => some (.nils)⟩,
    ⟨some 7, none, .v fun s => some (.int .i64 5)⟩] K s := (den_reg hf _ K s).trans (by kernel_rfl)
theorem i3e_eq (K : List Item) (s : St) : den prog ann 89 (.code i3e :: K) s = den prog ann 89 (K) s := den_flat hf (l := []) (by kernel_rfl) K s
theorem r14_eq (K : List Item) (s : St) : den prog ann 89 (.code r14 :: K) s = mreg prog ann 89 none [] none [] [
    ⟨some 46, none, .v fun s => some (s.get 11)⟩,
    ⟨some 47, none, .v fun s => idxSl 4 (s.get 46) (.int .i64 0)⟩,
    ⟨some 48, none, .v fun s => loadA true 4 s.m (s.get 47)⟩,
    ⟨some 14, none, .w false none fun s => newPtr s.m [.int .i64 0, .int .i64 0, .int .i64 0, .int .i64 0]⟩,
    ⟨none, none, .w false none fun s => stA true 4 s.m (s.get 14) (s.get 48)⟩] K s := (den_reg hf _ K s).trans (by kernel_rfl)
theorem r15_eq (K : List Item) (s : St) : den prog ann 89 (.code r15 :: K) s = mreg prog ann 89 none [] none [] [
    ⟨some 49, none, .v fun s => some (s.get 11)⟩,
    ⟨some 50, none, .v fun s => lenSl (s.get 49)⟩,
    ⟨some 51, none, .v fun s => some (.int .i64 0)⟩] K s := (den_reg hf _ K s).trans (by kernel_rfl)
theorem k2_eq (K : List Item) (t : List (Nat × AV)) (m : Mem) : den prog ann 89 (.code k2 :: K) ⟨t, 64, m⟩ = L2 (get t 2) (get t 8) (get t 14) (get t 49) (get t 50) (get t 51) m K := den_loop_enter hf (b := l2) (id := 16) (l := [2, 8, 14, 49, 50, 51]) (by kernel_rfl) (by kernel_rfl) (by kernel_rfl) K _
theorem l2_eq (K : List Item) (t : List (Nat × AV)) (m : Mem) : den prog ann 89 (.inLoop l2 :: .inBlock 2 :: K) ⟨t, 64, m⟩ = L2 (get t 2) (get t 8) (get t 14) (get t 49) (get t 50) (get t 51) m K := den_loop_again hf (id := 16) (l := [2, 8, 14, 49, 50, 51]) (by kernel_rfl) (by kernel_rfl) (.inBlock 2 :: K) _
theorem L2_eq (x2 x8 x14 x49 x50 x51 : AV) (m : Mem) (K : List Item) : L2 x2 x8 x14 x49 x50 x51 m K = den prog ann 89 (.code r16 :: .code i4 :: .code k3 :: .code r19 :: .inLoop l2 :: .inBlock 2 :: K) ⟨[(2, x2), (8, x8), (14, x14), (49, x49), (50, x50), (51, x51)], 64, m⟩ := den_flat hf (l := [r16, i4, k3, r19]) (by kernel_rfl) _ _
theorem r16_eq (K : List Item) (s : St) : den prog ann 89 (.code r16 :: K) s = mreg prog ann 89 (some [2, 8, 14, 49, 50, 51]) [] none [] [
    ⟨some 52, none, .v fun s => binA prog .lss 3 (s.get 51) (s.get 50)⟩] K s := (den_reg hf _ K s).trans (by kernel_rfl)
theorem i4_eq (K : List Item) (s : St) : den prog ann 89 (.code i4 :: K) s = ifV prog ann 89 52 i4t i4e K s (s.get 52) := den_if hf (by kernel_rfl) K s
theorem i4t_eq (K : List Item) (s : St) : den prog ann 89 (.code i4t :: K) s = den prog ann 89 (K) s := den_flat hf (l := []) (by kernel_rfl) K s
theorem i4e_eq (K : List Item) (s : St) : den prog ann 89 (.code i4e :: K) s = den prog ann 89 (.code (.exit 2) :: K) s := den_flat hf (l := [(.exit 2)]) (by kernel_rfl) K s
theorem k3_eq (K : List Item) (s : St) : den prog ann 89 (.code k3 :: K) s = den prog ann 89 (.code r17 :: .code r18 :: .inBlock 3 :: K) s := den_blk hf (b := blkOf k3) (l := [r17, r18]) (by kernel_rfl) (by kernel_rfl) K s
theorem r17_eq (K : List Item) (s : St) : den prog ann 89 (.code r17 :: K) s = mreg prog ann 89 none [] none [16] [
    ⟨some 53, none, .v fun s => idxSl 4 (s.get 49) (s.get 51)⟩,
    ⟨some 54, none, .v fun s => loadA true 4 s.m (s.get 53)⟩,
    ⟨some 16, none, .w false none fun s => newPtr s.m [.int .i64 0, .int .i64 0, .int .i64 0, .int .i64 0]⟩,
    ⟨none, none, .w false none fun s => stA true 4 s.m (s.get 16) (s.get 54)⟩] K s := (den_reg hf _ K s).trans (by kernel_rfl)
theorem r18_eq (K : List Item) (s : St) : den prog ann 89 (.code r18 :: K) s = mreg prog ann 89 none [] none [] [
    ⟨some 55, none, .v fun s => some (s.get 2)⟩,
    ⟨some 56, none, .v fun s => loadA true 4 s.m (s.get 14)⟩,
    ⟨some 57, none, .v fun s => loadF true 4 (s.get 16)⟩,
    ⟨some 58, none, .c 0 (fun s => (s.get 55)) fun s => [(s.get 56), (s.get 57)]⟩,
    ⟨none, none, .w false none fun s => stA true 4 s.m (s.get 14) (s.get 58)⟩] K s := (den_reg hf _ K s).trans (by kernel_rfl)
theorem r19_eq (K : List Item) (s : St) : den prog ann 89 (.code r19 :: K) s = mreg prog ann 89 (some [2, 8, 14, 49, 50, 51]) [] none [] [
    ⟨some 59, none, .v fun s => binA prog .add 3 (s.get 51) (.int .i64 1)⟩,
    ⟨some 51, none, .v fun s => some (s.get 59)⟩] K s := (den_reg hf _ K s).trans (by kernel_rfl)
theorem r20_eq (K : List Item) (s : St) : den prog ann 89 (.code r20 :: K) s = mreg prog ann 89 (some [8, 14]) [] none [] [
    ⟨some 60, none, .v fun s => fieldA 0 (s.get 8)⟩,
    ⟨some 61, none, .v fun s => loadF false 1 (s.get 60)⟩,
    ⟨some 62, none, .v fun s => loadA true 4 s.m (s.get 14)⟩,
    ⟨some 63, none, .c 2 (fun s => (.fn 63 [] [])) fun s => [(s.get 61), (s.get 62)]⟩,
    ⟨some 6, none, .v fun s => some (s.get 63)⟩,
    ⟨some 7, none, .v fun s => some (.int .i64 0)⟩] K s := (den_reg hf _ K s).trans (by kernel_rfl)
theorem ret_eq (K : List Item) (s : St) : den prog ann 89 (.code .ret :: K) s = finM true [fun s => some (s.get 6), fun s => some (s.get 7)] s := (den_ret hf K s).trans (by kernel_rfl)
theorem nil_eq (s : St) : den prog ann 89 [] s = finM true [fun s => some (s.get 6), fun s => some (s.get 7)] s := (den_nil hf s).trans (by kernel_rfl)
theorem inBlock_eq (id : Nat) (K : List Item) (s : St) : den prog ann 89 (.inBlock id :: K) s = den prog ann 89 K s := den_inBlock hf id K s
theorem exit_eq (id : Nat) (K : List Item) (s : St) : den prog ann 89 (.code (.exit id) :: K) s = exitV prog ann 89 (exitTo id K) s := den_exitV hf id K s
theorem call_eq (v0 v1 v2 : AV) (m : Mem) (h : closedL [v0, v1, v2] = true) : denC prog ann 89 [v0, v1, v2] m = (den prog ann 89 [.code b] ⟨[(0, v0), (1, v1), (2, v2)], 64, Mem.empty⟩).bind fun r => some (r.1, m) := (denC_pure hf (b := b) (by kernel_rfl) (by kernel_rfl) (by kernel_rfl) h m).trans (by kernel_rfl)
theorem pure_eq : (ann 89).pure = true := by kernel_rfl
attribute [simp] b_eq r0_eq r1_eq r2_eq i0_eq i0t_eq r3_eq i0e_eq r4_eq r5_eq r6_eq k0_eq l0_eq r7_eq i1_eq i1t_eq i1e_eq k1_eq r8_eq r9_eq i2_eq i2t_eq r10_eq i2e_eq r11_eq r12_eq i3_eq i3t_eq r13_eq i3e_eq r14_eq r15_eq k2_eq l2_eq r16_eq i4_eq i4t_eq i4e_eq k3_eq r17_eq r18_eq r19_eq r20_eq ret_eq nil_eq inBlock_eq exit_eq pure_eq
end watch_ends

namespace watch_flagsOf
/-- pommel/watch.flagsOf -/
noncomputable def b : Code := (Try.f100.body).getD .skip
theorem hf : prog.funcs[100]? = some Try.f100 := by kernel_rfl
noncomputable def r0 : Code := findReg b 0
noncomputable def r1 : Code := findReg b 1
noncomputable def k0 : Code := findBlk b 0
noncomputable def r2 : Code := findReg b 2
noncomputable def i0 : Code := findCond b 0
noncomputable def i0t : Code := thenOf i0
noncomputable def i0e : Code := elseOf i0
noncomputable def r3 : Code := findReg b 3
noncomputable def r4 : Code := findReg b 4
noncomputable def i1 : Code := findCond b 1
noncomputable def i1t : Code := thenOf i1
noncomputable def i1e : Code := elseOf i1
noncomputable def r5 : Code := findReg b 5
noncomputable def r6 : Code := findReg b 6
noncomputable def k1 : Code := findBlk b 1
noncomputable def l1 : Code := loopOf k1
noncomputable def L1 (x1 x4 x6 x28 x29 x30 : AV) (m : Mem) (K : List Item) : Option Res := den prog ann 100 (.code l1 :: .inLoop l1 :: .inBlock 1 :: K) ⟨[(1, x1), (4, x4), (6, x6), (28, x28), (29, x29), (30, x30)], 50, m⟩
noncomputable def r7 : Code := findReg b 7
noncomputable def i2 : Code := findCond b 2
noncomputable def i2t : Code := thenOf i2
noncomputable def i2e : Code := elseOf i2
noncomputable def k2 : Code := findBlk b 2
noncomputable def r8 : Code := findReg b 8
noncomputable def r9 : Code := findReg b 9
noncomputable def i3 : Code := findCond b 3
noncomputable def i3t : Code := thenOf i3
noncomputable def i3e : Code := elseOf i3
noncomputable def r10 : Code := findReg b 10
noncomputable def r11 : Code := findReg b 11
noncomputable def r12 : Code := findReg b 12
theorem b_eq (K : List Item) (s : St) : den prog ann 100 (.code b :: K) s = den prog ann 100 (.code r0 :: .code r1 :: .code k0 :: .code r6 :: .code k1 :: .code r12 :: .code .ret :: K) s := den_flat hf (l := [r0, r1, k0, r6, k1, r12, .ret]) (by kernel_rfl) K s
theorem r0_eq (K : List Item) (s : St) : den prog ann 100 (.code r0 :: K) s = mreg prog ann 100 none [] none [] [
    ⟨some 2, none, .v fun s => frozenPtr (s.get 0)⟩,
    ⟨some 4, none, .w false none fun s => newPtr s.m [.nilp, .nils]⟩,
    ⟨some 5, none, .v fun s => some (.int .i64 0)⟩] K s := (den_reg hf _ K s).trans (by kernel_rfl)
theorem r1_eq (K : List Item) (s : St) : den prog ann 100 (.code r1 :: K) s = mreg prog ann 100 none [] none [] [
    ⟨some 11, none, .v fun s => loadF true 2 (s.get 2)⟩,
    ⟨some 12, none, .c 0 (fun s => (.fn 61 [] [])) fun s => [(s.get 11)]⟩,
    ⟨some 10, none, .v fun s => some (s.get 12)⟩,
    ⟨some 13, none, .v fun s => extA (s.get 10) 0⟩,
    ⟨some 14, none, .v fun s => extA (s.get 10) 1⟩,
    ⟨some 6, none, .v fun s => some (s.get 13)⟩,
    ⟨some 7, none, .v fun s => some (s.get 14)⟩] K s := (den_reg hf _ K s).trans (by kernel_rfl)
theorem k0_eq (K : List Item) (s : St) : den prog ann 100 (.code k0 :: K) s = den prog ann 100 (.code r2 :: .code i0 :: .inBlock 0 :: K) s := den_blk hf (b := blkOf k0) (l := [r2, i0]) (by kernel_rfl) (by kernel_rfl) K s
theorem r2_eq (K : List Item) (s : St) : den prog ann 100 (.code r2 :: K) s = mreg prog ann 100 none [] none [] [
    ⟨some 16, none, .v fun s => some (s.get 7)⟩,
    ⟨some 17, none, .v fun s => unA .not (s.get 16)⟩,
    ⟨some 15, none, .v fun s => some (s.get 17)⟩] K s := (den_reg hf _ K s).trans (by kernel_rfl)
theorem i0_eq (K : List Item) (s : St) : den prog ann 100 (.code i0 :: K) s = ifV prog ann 100 15 i0t i0e K s (s.get 15) := den_if hf (by kernel_rfl) K s
theorem i0t_eq (K : List Item) (s : St) : den prog ann 100 (.code i0t :: K) s = den prog ann 100 (.code r3 :: .code .ret :: K) s := den_flat hf (l := [r3, .ret]) (by kernel_rfl) K s
theorem r3_eq (K : List Item) (s : St) : den prog ann 100 (.code r3 :: K) s = mreg prog ann 100 none [] none [] [
    ⟨some 18, none, .v fun s => bldA (plc [(0, 1), (1, 1)]) [.nilp, .nils] []⟩,
    ⟨none, none, .w false none fun s => stA true 2 s.m (s.get 4) (s.get 18)⟩,
    ⟨some 5, none, .v fun s => some (.int .i64 1)⟩] K s := (den_reg hf _ K s).trans (by kernel_rfl)
theorem i0e_eq (K : List Item) (s : St) : den prog ann 100 (.code i0e :: K) s = den prog ann 100 (.code r4 :: .code i1 :: K) s := den_flat hf (l := [r4, i1]) (by kernel_rfl) K s
theorem r4_eq (K : List Item) (s : St) : den prog ann 100 (.code r4 :: K) s = mreg prog ann 100 none [] none [] [
    ⟨some 20, none, .v fun s => some (s.get 1)⟩,
    ⟨some 21, none, .v fun s => lenSl (s.get 20)⟩,
    ⟨some 22, none, .v fun s => some (s.get 6)⟩,
    ⟨some 23, none, .v fun s => nilA (s.get 22)⟩,
    ⟨some 24, none, .v fun s => fieldA 0 (s.get 23)⟩,
    ⟨some 25, none, .v fun s => loadF false 1 (s.get 24)⟩,
    ⟨some 26, none, .v fun s => binA prog .neq 3 (s.get 21) (s.get 25)⟩,
    ⟨some 19, none, .v fun s => some (s.get 26)⟩] K s := (den_reg hf _ K s).trans (by kernel_rfl)
theorem i1_eq (K : List Item) (s : St) : den prog ann 100 (.code i1 :: K) s = ifV prog ann 100 19 i1t i1e K s (s.get 19) := den_if hf (by kernel_rfl) K s
theorem i1t_eq (K : List Item) (s : St) : den prog ann 100 (.code i1t :: K) s = den prog ann 100 (.code r5 :: .code .ret :: K) s := den_flat hf (l := [r5, .ret]) (by kernel_rfl) K s
theorem r5_eq (K : List Item) (s : St) : den prog ann 100 (.code r5 :: K) s = mreg prog ann 100 none [] none [] [
    ⟨some 27, none, .v fun s => bldA (plc [(0, 1), (1, 1)]) [.nilp, .nils] []⟩,
    ⟨none, none, .w false none fun s => stA true 2 s.m (s.get 4) (s.get 27)⟩,
    ⟨some 5, none, .v fun s => some (.int .i64 2)⟩] K s := (den_reg hf _ K s).trans (by kernel_rfl)
theorem i1e_eq (K : List Item) (s : St) : den prog ann 100 (.code i1e :: K) s = den prog ann 100 (K) s := den_flat hf (l := []) (by kernel_rfl) K s
theorem r6_eq (K : List Item) (s : St) : den prog ann 100 (.code r6 :: K) s = mreg prog ann 100 (some [1, 4, 6]) [] none [] [
    ⟨some 28, none, .v fun s => some (s.get 1)⟩,
    ⟨some 29, none, .v fun s => lenSl (s.get 28)⟩,
    ⟨some 30, none, .v fun s => some (.int .i64 0)⟩] K s := (den_reg hf _ K s).trans (by kernel_rfl)
theorem k1_eq (K : List Item) (t : List (Nat × AV)) (m : Mem) : den prog ann 100 (.code k1 :: K) ⟨t, 50, m⟩ = L1 (get t 1) (get t 4) (get t 6) (get t 28) (get t 29) (get t 30) m K := den_loop_enter hf (b := l1) (id := 7) (l := [1, 4, 6, 28, 29, 30]) (by kernel_rfl) (by kernel_rfl) (by kernel_rfl) K _
theorem l1_eq (K : List Item) (t : List (Nat × AV)) (m : Mem) : den prog ann 100 (.inLoop l1 :: .inBlock 1 :: K) ⟨t, 50, m⟩ = L1 (get t 1) (get t 4) (get t 6) (get t 28) (get t 29) (get t 30) m K := den_loop_again hf (id := 7) (l := [1, 4, 6, 28, 29, 30]) (by kernel_rfl) (by kernel_rfl) (.inBlock 1 :: K) _
theorem L1_eq (x1 x4 x6 x28 x29 x30 : AV) (m : Mem) (K : List Item) : L1 x1 x4 x6 x28 x29 x30 m K = den prog ann 100 (.code r7 :: .code i2 :: .code k2 :: .code r11 :: .inLoop l1 :: .inBlock 1 :: K) ⟨[(1, x1), (4, x4), (6, x6), (28, x28), (29, x29), (30, x30)], 50, m⟩ := den_flat hf (l := [r7, i2, k2, r11]) (by kernel_rfl) _ _
theorem r7_eq (K : List Item) (s : St) : den prog ann 100 (.code r7 :: K) s = mreg prog ann 100 (some [1, 4, 6, 28, 29, 30]) [] none [] [
    ⟨some 31, none, .v fun s => binA prog .lss 3 (s.get 30) (s.get 29)⟩] K s := (den_reg hf _ K s).trans (by kernel_rfl)
theorem i2_eq (K : List Item) (s : St) : den prog ann 100 (.code i2 :: K) s = ifV prog ann 100 31 i2t i2e K s (s.get 31) := den_if hf (by kernel_rfl) K s
theorem i2t_eq (K : List Item) (s : St) : den prog ann 100 (.code i2t :: K) s = den prog ann 100 (K) s := den_flat hf (l := []) (by kernel_rfl) K s
theorem i2e_eq (K : List Item) (s : St) : den prog ann 100 (.code i2e :: K) s = den prog ann 100 (.code (.exit 1) :: K) s := den_flat hf (l := [(.exit 1)]) (by kernel_rfl) K s
theorem k2_eq (K : List Item) (s : St) : den prog ann 100 (.code k2 :: K) s = den prog ann 100 (.code r8 :: .code r9 :: .code i3 :: .inBlock 2 :: K) s := den_blk hf (b := blkOf k2) (l := [r8, r9, i3]) (by kernel_rfl) (by kernel_rfl) K s
theorem r8_eq (K : List Item) (s : St) : den prog ann 100 (.code r8 :: K) s = mreg prog ann 100 none [] none [] [
    ⟨some 32, none, .v fun s => some (s.get 30)⟩,
    ⟨some 33, none, .v fun s => idxSl 1 (s.get 28) (s.get 30)⟩,
    ⟨some 34, none, .v fun s => loadF false 1 (s.get 33)⟩,
    ⟨some 8, none, .v fun s => some (s.get 32)⟩,
    ⟨some 9, none, .v fun s => some (s.get 34)⟩] K s := (den_reg hf _ K s).trans (by kernel_rfl)
theorem r9_eq (K : List Item) (s : St) : den prog ann 100 (.code r9 :: K) s = mreg prog ann 100 none [] none [] [
    ⟨some 35, none, .v fun s => some (s.get 9)⟩,
    ⟨some 36, none, .v fun s => lenSl (s.get 35)⟩,
    ⟨some 37, none, .v fun s => some (s.get 6)⟩,
    ⟨some 38, none, .v fun s => some (s.get 8)⟩,
    ⟨some 39, none, .v fun s => nilA (s.get 37)⟩,
    ⟨some 40, none, .v fun s => fieldA 1 (s.get 39)⟩,
    ⟨some 41, none, .v fun s => idxArr 4 1 (s.get 40) (s.get 38)⟩,
    ⟨some 42, none, .v fun s => loadF false 1 (s.get 41)⟩,
    ⟨some 43, none, .v fun s => binA prog .add 3 (s.get 42) (.int .i64 1)⟩,
    ⟨some 44, none, .v fun s => binA prog .neq 3 (s.get 36) (s.get 43)⟩] K s := (den_reg hf _ K s).trans (by kernel_rfl)
theorem i3_eq (K : List Item) (s : St) : den prog ann 100 (.code i3 :: K) s = ifV prog ann 100 44 i3t i3e K s (s.get 44) := den_if hf (by kernel_rfl) K s
theorem i3t_eq (K : List Item) (s : St) : den prog ann 100 (.code i3t :: K) s = den prog ann 100 (.code r10 :: .code .ret :: K) s := den_flat hf (l := [r10, .ret]) (by kernel_rfl) K s
theorem r10_eq (K : List Item) (s : St) : den prog ann 100 (.code r10 :: K) s = mreg prog ann 100 none [] none [] [
    ⟨some 45, none, .v fun s => bldA (plc [(0, 1), (1, 1)]) [.nilp, .nils] []⟩,
    ⟨none, none, .w false none fun s => stA true 2 s.m (s.get 4) (s.get 45)⟩,
    ⟨some 5, none, .v fun s => some (.int .i64 2)⟩] K s := (den_reg hf _ K s).trans (by kernel_rfl)
theorem i3e_eq (K : List Item) (s : St) : den prog ann 100 (.code i3e :: K) s = den prog ann 100 (K) s := den_flat hf (l := []) (by kernel_rfl) K s
theorem r11_eq (K : List Item) (s : St) : den prog ann 100 (.code r11 :: K) s = mreg prog ann 100 (some [1, 4, 6, 28, 29, 30]) [] none [] [
    ⟨some 46, none, .v fun s => binA prog .add 3 (s.get 30) (.int .i64 1)⟩,
    ⟨some 30, none, .v fun s => some (s.get 46)⟩] K s := (den_reg hf _ K s).trans (by kernel_rfl)
theorem r12_eq (K : List Item) (s : St) : den prog ann 100 (.code r12 :: K) s = mreg prog ann 100 (some [1, 4, 6]) [] none [] [
    ⟨some 47, none, .v fun s => some (s.get 6)⟩,
    ⟨some 48, none, .v fun s => some (s.get 1)⟩,
    ⟨some 49, none, .v fun s => bldA (plc [(0, 1), (1, 1)]) [.nilp, .nils] [(0, (s.get 47)), (1, (s.get 48))]⟩,
    ⟨none, none, .w false none fun s => stA true 2 s.m (s.get 4) (s.get 49)⟩,
    ⟨some 5, none, .v fun s => some (.int .i64 0)⟩] K s := (den_reg hf _ K s).trans (by kernel_rfl)
theorem ret_eq (K : List Item) (s : St) : den prog ann 100 (.code .ret :: K) s = finM true [fun s => loadA true 2 s.m (s.get 4), fun s => some (s.get 5)] s := (den_ret hf K s).trans (by kernel_rfl)
theorem nil_eq (s : St) : den prog ann 100 [] s = finM true [fun s => loadA true 2 s.m (s.get 4), fun s => some (s.get 5)] s := (den_nil hf s).trans (by kernel_rfl)
theorem inBlock_eq (id : Nat) (K : List Item) (s : St) : den prog ann 100 (.inBlock id :: K) s = den prog ann 100 K s := den_inBlock hf id K s
theorem exit_eq (id : Nat) (K : List Item) (s : St) : den prog ann 100 (.code (.exit id) :: K) s = exitV prog ann 100 (exitTo id K) s := den_exitV hf id K s
theorem call_eq (v0 v1 : AV) (m : Mem) (h : closedL [v0, v1] = true) : denC prog ann 100 [v0, v1] m = (den prog ann 100 [.code b] ⟨[(0, v0), (1, v1)], 50, Mem.empty⟩).bind fun r => some (r.1, m) := (denC_pure hf (b := b) (by kernel_rfl) (by kernel_rfl) (by kernel_rfl) h m).trans (by kernel_rfl)
theorem pure_eq : (ann 100).pure = true := by kernel_rfl
attribute [simp] b_eq r0_eq r1_eq k0_eq r2_eq i0_eq i0t_eq r3_eq i0e_eq r4_eq i1_eq i1t_eq r5_eq i1e_eq r6_eq k1_eq l1_eq r7_eq i2_eq i2t_eq i2e_eq k2_eq r8_eq r9_eq i3_eq i3t_eq r10_eq i3e_eq r11_eq r12_eq ret_eq nil_eq inBlock_eq exit_eq pure_eq
end watch_flagsOf

namespace watch_says_yes
/-- (pommel/watch.says).yes -/
noncomputable def b : Code := (Try.f101.body).getD .skip
theorem hf : prog.funcs[101]? = some Try.f101 := by kernel_rfl
noncomputable def r0 : Code := findReg b 0
noncomputable def r1 : Code := findReg b 1
noncomputable def k0 : Code := findBlk b 0
noncomputable def l0 : Code := loopOf k0
noncomputable def L0 (x3 x8 x9 x10 : AV) (m : Mem) (K : List Item) : Option Res := den prog ann 101 (.code l0 :: .inLoop l0 :: .inBlock 0 :: K) ⟨[(3, x3), (8, x8), (9, x9), (10, x10)], 23, m⟩
noncomputable def r2 : Code := findReg b 2
noncomputable def i0 : Code := findCond b 0
noncomputable def i0t : Code := thenOf i0
noncomputable def i0e : Code := elseOf i0
noncomputable def k1 : Code := findBlk b 1
noncomputable def r3 : Code := findReg b 3
noncomputable def r4 : Code := findReg b 4
noncomputable def i1 : Code := findCond b 1
noncomputable def i1t : Code := thenOf i1
noncomputable def i1e : Code := elseOf i1
noncomputable def r5 : Code := findReg b 5
noncomputable def r6 : Code := findReg b 6
noncomputable def r7 : Code := findReg b 7
theorem b_eq (K : List Item) (s : St) : den prog ann 101 (.code b :: K) s = den prog ann 101 (.code r0 :: .code r1 :: .code k0 :: .code r7 :: .code .ret :: K) s := den_flat hf (l := [r0, r1, k0, r7, .ret]) (by kernel_rfl) K s
theorem r0_eq (K : List Item) (s : St) : den prog ann 101 (.code r0 :: K) s = mreg prog ann 101 none [] none [] [
    ⟨some 2, none, .v fun s => frozenPtr (s.get 0)⟩,
    ⟨some 3, none, .v fun s => frozenPtr (s.get 1)⟩,
    ⟨some 4, none, .v fun s => some (.bool false)⟩] K s := (den_reg hf _ K s).trans (by kernel_rfl)
theorem r1_eq (K : List Item) (s : St) : den prog ann 101 (.code r1 :: K) s = mreg prog ann 101 none [] none [] [
    ⟨some 7, none, .v fun s => fieldA 1 (s.get 2)⟩,
    ⟨some 8, none, .v fun s => loadF false 1 (s.get 7)⟩,
    ⟨some 9, none, .v fun s => lenSl (s.get 8)⟩,
    ⟨some 10, none, .v fun s => some (.int .i64 0)⟩] K s := (den_reg hf _ K s).trans (by kernel_rfl)
theorem k0_eq (K : List Item) (t : List (Nat × AV)) (m : Mem) : den prog ann 101 (.code k0 :: K) ⟨t, 23, m⟩ = L0 (get t 3) (get t 8) (get t 9) (get t 10) m K := den_loop_enter hf (b := l0) (id := 2) (l := [3, 8, 9, 10]) (by kernel_rfl) (by kernel_rfl) (by kernel_rfl) K _
theorem l0_eq (K : List Item) (t : List (Nat × AV)) (m : Mem) : den prog ann 101 (.inLoop l0 :: .inBlock 0 :: K) ⟨t, 23, m⟩ = L0 (get t 3) (get t 8) (get t 9) (get t 10) m K := den_loop_again hf (id := 2) (l := [3, 8, 9, 10]) (by kernel_rfl) (by kernel_rfl) (.inBlock 0 :: K) _
theorem L0_eq (x3 x8 x9 x10 : AV) (m : Mem) (K : List Item) : L0 x3 x8 x9 x10 m K = den prog ann 101 (.code r2 :: .code i0 :: .code k1 :: .code r6 :: .inLoop l0 :: .inBlock 0 :: K) ⟨[(3, x3), (8, x8), (9, x9), (10, x10)], 23, m⟩ := den_flat hf (l := [r2, i0, k1, r6]) (by kernel_rfl) _ _
theorem r2_eq (K : List Item) (s : St) : den prog ann 101 (.code r2 :: K) s = mreg prog ann 101 (some [3, 8, 9, 10]) [] none [] [
    ⟨some 11, none, .v fun s => binA prog .lss 3 (s.get 10) (s.get 9)⟩] K s := (den_reg hf _ K s).trans (by kernel_rfl)
theorem i0_eq (K : List Item) (s : St) : den prog ann 101 (.code i0 :: K) s = ifV prog ann 101 11 i0t i0e K s (s.get 11) := den_if hf (by kernel_rfl) K s
theorem i0t_eq (K : List Item) (s : St) : den prog ann 101 (.code i0t :: K) s = den prog ann 101 (K) s := den_flat hf (l := []) (by kernel_rfl) K s
theorem i0e_eq (K : List Item) (s : St) : den prog ann 101 (.code i0e :: K) s = den prog ann 101 (.code (.exit 0) :: K) s := den_flat hf (l := [(.exit 0)]) (by kernel_rfl) K s
theorem k1_eq (K : List Item) (s : St) : den prog ann 101 (.code k1 :: K) s = den prog ann 101 (.code r3 :: .code r4 :: .code i1 :: .inBlock 1 :: K) s := den_blk hf (b := blkOf k1) (l := [r3, r4, i1]) (by kernel_rfl) (by kernel_rfl) K s
theorem r3_eq (K : List Item) (s : St) : den prog ann 101 (.code r3 :: K) s = mreg prog ann 101 none [] none [] [
    ⟨some 12, none, .v fun s => some (s.get 10)⟩,
    ⟨some 13, none, .v fun s => idxSl 1 (s.get 8) (s.get 10)⟩,
    ⟨some 14, none, .v fun s => loadF false 1 (s.get 13)⟩,
    ⟨some 5, none, .v fun s => some (s.get 12)⟩,
    ⟨some 6, none, .v fun s => some (s.get 14)⟩] K s := (den_reg hf _ K s).trans (by kernel_rfl)
theorem r4_eq (K : List Item) (s : St) : den prog ann 101 (.code r4 :: K) s = mreg prog ann 101 none [] none [] [
    ⟨some 15, none, .v fun s => some (s.get 6)⟩,
    ⟨some 16, none, .v fun s => some (s.get 5)⟩,
    ⟨some 17, none, .v fun s => idxArr 4 1 (s.get 3) (s.get 16)⟩,
    ⟨some 18, none, .v fun s => loadF false 1 (s.get 17)⟩,
    ⟨some 19, none, .v fun s => idxSl 1 (s.get 15) (s.get 18)⟩,
    ⟨some 20, none, .v fun s => loadF false 1 (s.get 19)⟩,
    ⟨some 21, none, .v fun s => unA .not (s.get 20)⟩] K s := (den_reg hf _ K s).trans (by kernel_rfl)
theorem i1_eq (K : List Item) (s : St) : den prog ann 101 (.code i1 :: K) s = ifV prog ann 101 21 i1t i1e K s (s.get 21) := den_if hf (by kernel_rfl) K s
theorem i1t_eq (K : List Item) (s : St) : den prog ann 101 (.code i1t :: K) s = den prog ann 101 (.code r5 :: .code .ret :: K) s := den_flat hf (l := [r5, .ret]) (by kernel_rfl) K s
theorem r5_eq (K : List Item) (s : St) : den prog ann 101 (.code r5 :: K) s = mreg prog ann 101 none [] none [] [
    ⟨some 4, none, .v fun s => some (.bool false)⟩] K s := (den_reg hf _ K s).trans (by kernel_rfl)
theorem i1e_eq (K : List Item) (s : St) : den prog ann 101 (.code i1e :: K) s = den prog ann 101 (K) s := den_flat hf (l := []) (by kernel_rfl) K s
theorem r6_eq (K : List Item) (s : St) : den prog ann 101 (.code r6 :: K) s = mreg prog ann 101 (some [3, 8, 9, 10]) [] none [] [
    ⟨some 22, none, .v fun s => binA prog .add 3 (s.get 10) (.int .i64 1)⟩,
    ⟨some 10, none, .v fun s => some (s.get 22)⟩] K s := (den_reg hf _ K s).trans (by kernel_rfl)
theorem r7_eq (K : List Item) (s : St) : den prog ann 101 (.code r7 :: K) s = mreg prog ann 101 (some []) [] none [] [
    ⟨some 4, none, .v fun s => some (.bool true)⟩] K s := (den_reg hf _ K s).trans (by kernel_rfl)
theorem ret_eq (K : List Item) (s : St) : den prog ann 101 (.code .ret :: K) s = finM true [fun s => some (s.get 4)] s := (den_ret hf K s).trans (by kernel_rfl)
theorem nil_eq (s : St) : den prog ann 101 [] s = finM true [fun s => some (s.get 4)] s := (den_nil hf s).trans (by kernel_rfl)
theorem inBlock_eq (id : Nat) (K : List Item) (s : St) : den prog ann 101 (.inBlock id :: K) s = den prog ann 101 K s := den_inBlock hf id K s
theorem exit_eq (id : Nat) (K : List Item) (s : St) : den prog ann 101 (.code (.exit id) :: K) s = exitV prog ann 101 (exitTo id K) s := den_exitV hf id K s
theorem call_eq (v0 v1 : AV) (m : Mem) (h : closedL [v0, v1] = true) : denC prog ann 101 [v0, v1] m = (den prog ann 101 [.code b] ⟨[(0, v0), (1, v1)], 23, Mem.empty⟩).bind fun r => some (r.1, m) := (denC_pure hf (b := b) (by kernel_rfl) (by kernel_rfl) (by kernel_rfl) h m).trans (by kernel_rfl)
theorem pure_eq : (ann 101).pure = true := by kernel_rfl
attribute [simp] b_eq r0_eq r1_eq k0_eq l0_eq r2_eq i0_eq i0t_eq i0e_eq k1_eq r3_eq r4_eq i1_eq i1t_eq r5_eq i1e_eq r6_eq r7_eq ret_eq nil_eq inBlock_eq exit_eq pure_eq
end watch_says_yes


namespace r09_Yes
/-- pommel/pommelref09.Yes -/
noncomputable def b : Code := (Try.f58.body).getD .skip
theorem hf : prog.funcs[58]? = some Try.f58 := by kernel_rfl
noncomputable def r0 : Code := findReg b 0
noncomputable def r1 : Code := findReg b 1
noncomputable def r2 : Code := findReg b 2
noncomputable def k0 : Code := findBlk b 0
noncomputable def l0 : Code := loopOf k0
noncomputable def L0 (x1 x5 x6 x7 : AV) (m : Mem) (K : List Item) : Option Res := den prog ann 58 (.code l0 :: .inLoop l0 :: .inBlock 0 :: K) ⟨[(1, x1), (5, x5), (6, x6), (7, x7)], 53, m⟩
noncomputable def r3 : Code := findReg b 3
noncomputable def i0 : Code := findCond b 0
noncomputable def i0t : Code := thenOf i0
noncomputable def i0e : Code := elseOf i0
noncomputable def k1 : Code := findBlk b 1
noncomputable def r5 : Code := findReg b 5
noncomputable def r6 : Code := findReg b 6
noncomputable def k2 : Code := findBlk b 2
noncomputable def l2 : Code := loopOf k2
noncomputable def L2 (x1 x5 x6 x7 x8 x9 : AV) (m : Mem) (K : List Item) : Option Res := den prog ann 58 (.code l2 :: .inLoop l2 :: .inBlock 2 :: K) ⟨[(1, x1), (5, x5), (6, x6), (7, x7), (8, x8), (9, x9)], 53, m⟩
noncomputable def r7 : Code := findReg b 7
noncomputable def i1 : Code := findCond b 1
noncomputable def i1t : Code := thenOf i1
noncomputable def i1e : Code := elseOf i1
noncomputable def k3 : Code := findBlk b 3
noncomputable def r9 : Code := findReg b 9
noncomputable def r8 : Code := findReg b 8
noncomputable def r10 : Code := findReg b 10
noncomputable def i2 : Code := findCond b 2
noncomputable def i2t : Code := thenOf i2
noncomputable def i2e : Code := elseOf i2
noncomputable def r11 : Code := findReg b 11
noncomputable def r4 : Code := findReg b 4
noncomputable def r12 : Code := findReg b 12
theorem b_eq (K : List Item) (s : St) : den prog ann 58 (.code b :: K) s = den prog ann 58 (.code r0 :: .code r1 :: .code r2 :: .code k0 :: .code r12 :: .code .ret :: K) s := den_flat hf (l := [r0, r1, r2, k0, r12, .ret]) (by kernel_rfl) K s
theorem r0_eq (K : List Item) (s : St) : den prog ann 58 (.code r0 :: K) s = mreg prog ann 58 none [] none [] [
    ⟨some 2, none, .v fun s => frozenPtr (s.get 0)⟩,
    ⟨some 4, none, .v fun s => some (.nils)⟩] K s := (den_reg hf _ K s).trans (by kernel_rfl)
theorem r1_eq (K : List Item) (s : St) : den prog ann 58 (.code r1 :: K) s = mreg prog ann 58 none [] none [] [
    ⟨some 10, none, .v fun s => loadF true 2 (s.get 2)⟩,
    ⟨some 11, none, .c 0 (fun s => (.fn 20 [] [])) fun s => [(s.get 10)]⟩,
    ⟨some 12, none, .w false none fun s => bslM s.m 0 (bslA 1 0 [.nils] [])⟩,
    ⟨some 5, none, .v fun s => some (s.get 11)⟩,
    ⟨some 6, none, .v fun s => some (s.get 12)⟩] K s := (den_reg hf _ K s).trans (by kernel_rfl)
theorem r2_eq (K : List Item) (s : St) : den prog ann 58 (.code r2 :: K) s = mreg prog ann 58 none [] none [] [
    ⟨some 7, none, .v fun s => some (.int .i64 0)⟩] K s := (den_reg hf _ K s).trans (by kernel_rfl)
theorem k0_eq (K : List Item) (t : List (Nat × AV)) (m : Mem) : den prog ann 58 (.code k0 :: K) ⟨t, 53, m⟩ = L0 (get t 1) (get t 5) (get t 6) (get t 7) m K := den_loop_enter hf (b := l0) (id := 3) (l := [1, 5, 6, 7]) (by kernel_rfl) (by kernel_rfl) (by kernel_rfl) K _
theorem l0_eq (K : List Item) (t : List (Nat × AV)) (m : Mem) : den prog ann 58 (.inLoop l0 :: .inBlock 0 :: K) ⟨t, 53, m⟩ = L0 (get t 1) (get t 5) (get t 6) (get t 7) m K := den_loop_again hf (id := 3) (l := [1, 5, 6, 7]) (by kernel_rfl) (by kernel_rfl) (.inBlock 0 :: K) _
theorem L0_eq (x1 x5 x6 x7 : AV) (m : Mem) (K : List Item) : L0 x1 x5 x6 x7 m K = den prog ann 58 (.code r3 :: .code i0 :: .code k1 :: .code r4 :: .inLoop l0 :: .inBlock 0 :: K) ⟨[(1, x1), (5, x5), (6, x6), (7, x7)], 53, m⟩ := den_flat hf (l := [r3, i0, k1, r4]) (by kernel_rfl) _ _
theorem r3_eq (K : List Item) (s : St) : den prog ann 58 (.code r3 :: K) s = mreg prog ann 58 (some [1, 5, 6, 7]) [] none [] [
    ⟨some 13, none, .v fun s => some (s.get 7)⟩,
    ⟨some 14, none, .v fun s => some (s.get 5)⟩,
    ⟨some 15, none, .v fun s => lenSl (s.get 14)⟩,
    ⟨some 16, none, .v fun s => binA prog .lss 3 (s.get 13) (s.get 15)⟩] K s := (den_reg hf _ K s).trans (by kernel_rfl)
theorem i0_eq (K : List Item) (s : St) : den prog ann 58 (.code i0 :: K) s = ifV prog ann 58 16 i0t i0e K s (s.get 16) := den_if hf (by kernel_rfl) K s
theorem i0t_eq (K : List Item) (s : St) : den prog ann 58 (.code i0t :: K) s = den prog ann 58 (K) s := den_flat hf (l := []) (by kernel_rfl) K s
theorem i0e_eq (K : List Item) (s : St) : den prog ann 58 (.code i0e :: K) s = den prog ann 58 (.code (.exit 0) :: K) s := den_flat hf (l := [(.exit 0)]) (by kernel_rfl) K s
theorem k1_eq (K : List Item) (s : St) : den prog ann 58 (.code k1 :: K) s = den prog ann 58 (.code r5 :: .code r6 :: .code k2 :: .code r10 :: .code i2 :: .inBlock 1 :: K) s := den_blk hf (b := blkOf k1) (l := [r5, r6, k2, r10, i2]) (by kernel_rfl) (by kernel_rfl) K s
theorem r5_eq (K : List Item) (s : St) : den prog ann 58 (.code r5 :: K) s = mreg prog ann 58 none [] none [] [
    ⟨some 8, none, .v fun s => some (.bool true)⟩] K s := (den_reg hf _ K s).trans (by kernel_rfl)
theorem r6_eq (K : List Item) (s : St) : den prog ann 58 (.code r6 :: K) s = mreg prog ann 58 none [] none [] [
    ⟨some 9, none, .v fun s => some (.int .i64 0)⟩] K s := (den_reg hf _ K s).trans (by kernel_rfl)
theorem k2_eq (K : List Item) (t : List (Nat × AV)) (m : Mem) : den prog ann 58 (.code k2 :: K) ⟨t, 53, m⟩ = L2 (get t 1) (get t 5) (get t 6) (get t 7) (get t 8) (get t 9) m K := den_loop_enter hf (b := l2) (id := 7) (l := [1, 5, 6, 7, 8, 9]) (by kernel_rfl) (by kernel_rfl) (by kernel_rfl) K _
theorem l2_eq (K : List Item) (t : List (Nat × AV)) (m : Mem) : den prog ann 58 (.inLoop l2 :: .inBlock 2 :: K) ⟨t, 53, m⟩ = L2 (get t 1) (get t 5) (get t 6) (get t 7) (get t 8) (get t 9) m K := den_loop_again hf (id := 7) (l := [1, 5, 6, 7, 8, 9]) (by kernel_rfl) (by kernel_rfl) (.inBlock 2 :: K) _
theorem L2_eq (x1 x5 x6 x7 x8 x9 : AV) (m : Mem) (K : List Item) : L2 x1 x5 x6 x7 x8 x9 m K = den prog ann 58 (.code r7 :: .code i1 :: .code k3 :: .code r8 :: .inLoop l2 :: .inBlock 2 :: K) ⟨[(1, x1), (5, x5), (6, x6), (7, x7), (8, x8), (9, x9)], 53, m⟩ := den_flat hf (l := [r7, i1, k3, r8]) (by kernel_rfl) _ _
theorem r7_eq (K : List Item) (s : St) : den prog ann 58 (.code r7 :: K) s = mreg prog ann 58 (some [1, 5, 6, 7, 8, 9]) [] none [] [
    ⟨some 19, none, .v fun s => some (s.get 9)⟩,
    ⟨some 20, none, .v fun s => some (s.get 5)⟩,
    ⟨some 21, none, .v fun s => some (s.get 7)⟩,
    ⟨some 22, none, .v fun s => idxSl 1 (s.get 20) (s.get 21)⟩,
    ⟨some 23, none, .v fun s => loadF false 1 (s.get 22)⟩,
    ⟨some 24, none, .v fun s => lenSl (s.get 23)⟩,
    ⟨some 25, none, .v fun s => binA prog .lss 3 (s.get 19) (s.get 24)⟩] K s := (den_reg hf _ K s).trans (by kernel_rfl)
theorem i1_eq (K : List Item) (s : St) : den prog ann 58 (.code i1 :: K) s = ifV prog ann 58 25 i1t i1e K s (s.get 25) := den_if hf (by kernel_rfl) K s
theorem i1t_eq (K : List Item) (s : St) : den prog ann 58 (.code i1t :: K) s = den prog ann 58 (K) s := den_flat hf (l := []) (by kernel_rfl) K s
theorem i1e_eq (K : List Item) (s : St) : den prog ann 58 (.code i1e :: K) s = den prog ann 58 (.code (.exit 2) :: K) s := den_flat hf (l := [(.exit 2)]) (by kernel_rfl) K s
theorem k3_eq (K : List Item) (s : St) : den prog ann 58 (.code k3 :: K) s = den prog ann 58 (.code r9 :: .inBlock 3 :: K) s := den_blk hf (b := blkOf k3) (l := [r9]) (by kernel_rfl) (by kernel_rfl) K s
theorem r9_draw : drawOk (fun g => (ann g).pure) (modeOf (ann 58) (idOf r9)) (frzOf (ann 58) (idOf r9)) (opsOf r9) = true := drawOk_of (an := [0, 1, 3, 3, 15, 31, 3, 3, 195, 451, 3, 1987, 4035, 8191, 16383, 32767, 65535]) (by kernel_rfl) (by kernel_rfl)
theorem r9_eq (K : List Item) (s : St) : den prog ann 58 (.code r9 :: K) s = mreg prog ann 58 none [] (some 17) [] [
    ⟨some 28, none, .v fun s => some (s.get 8)⟩,
    ⟨some 29, none, .v fun s => some (s.get 28)⟩,
    ⟨some 30, some (29, true), .v fun s => some (s.get 1)⟩,
    ⟨some 31, some (29, true), .v fun s => some (s.get 9)⟩,
    ⟨some 32, some (29, true), .v fun s => idxSl 1 (s.get 30) (s.get 31)⟩,
    ⟨some 33, some (29, true), .v fun s => loadF false 1 (s.get 32)⟩,
    ⟨some 34, some (29, true), .v fun s => some (s.get 5)⟩,
    ⟨some 35, some (29, true), .v fun s => some (s.get 7)⟩,
    ⟨some 36, some (29, true), .v fun s => idxSl 1 (s.get 34) (s.get 35)⟩,
    ⟨some 37, some (29, true), .v fun s => loadF false 1 (s.get 36)⟩,
    ⟨some 38, some (29, true), .v fun s => some (s.get 9)⟩,
    ⟨some 39, some (29, true), .v fun s => idxSl 1 (s.get 37) (s.get 38)⟩,
    ⟨some 40, some (29, true), .v fun s => loadF false 1 (s.get 39)⟩,
    ⟨some 41, some (29, true), .v fun s => idxSl 1 (s.get 33) (s.get 40)⟩,
    ⟨some 42, some (29, true), .v fun s => loadF false 1 (s.get 41)⟩,
    ⟨some 43, none, .v fun s => pickA (s.get 29) (s.get 42) (.bool false)⟩,
    ⟨some 8, none, .v fun s => some (s.get 43)⟩] K s := (den_regD hf r9_draw K s).trans (by kernel_rfl)
theorem r8_eq (K : List Item) (s : St) : den prog ann 58 (.code r8 :: K) s = mreg prog ann 58 (some [1, 5, 6, 7, 8, 9]) [] none [] [
    ⟨some 26, none, .v fun s => some (s.get 9)⟩,
    ⟨some 27, none, .v fun s => binA prog .add 3 (s.get 26) (.int .i64 1)⟩,
    ⟨some 9, none, .v fun s => some (s.get 27)⟩] K s := (den_reg hf _ K s).trans (by kernel_rfl)
theorem r10_eq (K : List Item) (s : St) : den prog ann 58 (.code r10 :: K) s = mreg prog ann 58 (some [1, 5, 6, 7, 8]) [] none [] [
    ⟨some 44, none, .v fun s => some (s.get 8)⟩] K s := (den_reg hf _ K s).trans (by kernel_rfl)
theorem i2_eq (K : List Item) (s : St) : den prog ann 58 (.code i2 :: K) s = ifV prog ann 58 44 i2t i2e K s (s.get 44) := den_if hf (by kernel_rfl) K s
theorem i2t_eq (K : List Item) (s : St) : den prog ann 58 (.code i2t :: K) s = den prog ann 58 (.code r11 :: K) s := den_flat hf (l := [r11]) (by kernel_rfl) K s
theorem r11_eq (K : List Item) (s : St) : den prog ann 58 (.code r11 :: K) s = mreg prog ann 58 none [] none [] [
    ⟨some 45, none, .v fun s => some (s.get 6)⟩,
    ⟨some 46, none, .v fun s => some (s.get 5)⟩,
    ⟨some 47, none, .v fun s => some (s.get 7)⟩,
    ⟨some 48, none, .v fun s => idxSl 1 (s.get 46) (s.get 47)⟩,
    ⟨some 49, none, .v fun s => loadF false 1 (s.get 48)⟩,
    ⟨some 50, none, .v fun s => bslF 1 (bslA 1 1 [.nils] [(0, (s.get 49))])⟩,
    ⟨some 51, none, .w false none fun s => appendA 1 24 s.m (s.get 45) (s.get 50)⟩,
    ⟨some 6, none, .v fun s => some (s.get 51)⟩] K s := (den_reg hf _ K s).trans (by kernel_rfl)
theorem i2e_eq (K : List Item) (s : St) : den prog ann 58 (.code i2e :: K) s = den prog ann 58 (K) s := den_flat hf (l := []) (by kernel_rfl) K s
theorem r4_eq (K : List Item) (s : St) : den prog ann 58 (.code r4 :: K) s = mreg prog ann 58 (some [1, 5, 6, 7]) [] none [] [
    ⟨some 17, none, .v fun s => some (s.get 7)⟩,
    ⟨some 18, none, .v fun s => binA prog .add 3 (s.get 17) (.int .i64 1)⟩,
    ⟨some 7, none, .v fun s => some (s.get 18)⟩] K s := (den_reg hf _ K s).trans (by kernel_rfl)
theorem r12_eq (K : List Item) (s : St) : den prog ann 58 (.code r12 :: K) s = mreg prog ann 58 (some [6]) [] none [] [
    ⟨some 52, none, .v fun s => some (s.get 6)⟩,
    ⟨some 4, none, .v fun s => some (s.get 52)⟩] K s := (den_reg hf _ K s).trans (by kernel_rfl)
theorem ret_eq (K : List Item) (s : St) : den prog ann 58 (.code .ret :: K) s = finM true [fun s => some (s.get 4)] s := (den_ret hf K s).trans (by kernel_rfl)
theorem nil_eq (s : St) : den prog ann 58 [] s = finM true [fun s => some (s.get 4)] s := (den_nil hf s).trans (by kernel_rfl)
theorem inBlock_eq (id : Nat) (K : List Item) (s : St) : den prog ann 58 (.inBlock id :: K) s = den prog ann 58 K s := den_inBlock hf id K s
theorem exit_eq (id : Nat) (K : List Item) (s : St) : den prog ann 58 (.code (.exit id) :: K) s = exitV prog ann 58 (exitTo id K) s := den_exitV hf id K s
theorem call_eq (v0 v1 : AV) (m : Mem) (h : closedL [v0, v1] = true) : denC prog ann 58 [v0, v1] m = (den prog ann 58 [.code b] ⟨[(0, v0), (1, v1)], 53, Mem.empty⟩).bind fun r => some (r.1, m) := (denC_pure hf (b := b) (by kernel_rfl) (by kernel_rfl) (by kernel_rfl) h m).trans (by kernel_rfl)
theorem pure_eq : (ann 58).pure = true := by kernel_rfl
attribute [simp] b_eq r0_eq r1_eq r2_eq k0_eq l0_eq r3_eq i0_eq i0t_eq i0e_eq k1_eq r5_eq r6_eq k2_eq l2_eq r7_eq i1_eq i1t_eq i1e_eq k3_eq r9_eq r8_eq r10_eq i2_eq i2t_eq r11_eq i2e_eq r4_eq r12_eq ret_eq nil_eq inBlock_eq exit_eq pure_eq
end r09_Yes
end Go.Proofs.Ytdkmepjedjclkaa
