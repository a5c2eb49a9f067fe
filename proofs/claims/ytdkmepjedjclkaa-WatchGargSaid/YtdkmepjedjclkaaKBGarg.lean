/-
  BODIES OF FUNCTIONS OF THE PROGRAM AS SMALL OPERATIONS (written by gen.py; checked by the kernel against the program). Conditions: none.
-/
import Derived.Test.YtdkmepjedjclkaaKAmH
set_option linter.all false
namespace Go.Proofs.Ytdkmepjedjclkaa
open Go.AM
open Go.Proofs.Try (prog)
set_option maxRecDepth 100000
set_option linter.all false

namespace watch_Possibly
/-- pommel/watch.Possibly -/
noncomputable def b : Code := (Try.f38.body).getD .skip
theorem hf : prog.funcs[38]? = some Try.f38 := by kernel_rfl
noncomputable def r0 : Code := findReg b 0
noncomputable def r1 : Code := findReg b 1
noncomputable def r2 : Code := findReg b 2
noncomputable def i0 : Code := findCond b 0
noncomputable def i0t : Code := thenOf i0
noncomputable def i0e : Code := elseOf i0
noncomputable def r3 : Code := findReg b 3
noncomputable def r4 : Code := findReg b 4
noncomputable def r5 : Code := findReg b 5
noncomputable def r6 : Code := findReg b 6
noncomputable def i1 : Code := findCond b 1
noncomputable def i1t : Code := thenOf i1
noncomputable def i1e : Code := elseOf i1
noncomputable def r7 : Code := findReg b 7
noncomputable def r8 : Code := findReg b 8
theorem b_eq (K : List Item) (s : St) : den prog ann 38 (.code b :: K) s = den prog ann 38 (.code r0 :: .code r1 :: .code r2 :: .code i0 :: .code r4 :: .code r5 :: .code r6 :: .code i1 :: .code r8 :: .code .ret :: K) s := den_flat hf (l := [r0, r1, r2, i0, r4, r5, r6, i1, r8, .ret]) (by kernel_rfl) K s
theorem r0_eq (K : List Item) (s : St) : den prog ann 38 (.code r0 :: K) s = mreg prog ann 38 none [] none [] [
    ⟨some 2, none, .v fun s => frozenPtr (s.get 0)⟩,
    ⟨some 4, none, .v fun s => some (.nils)⟩,
    ⟨some 5, none, .v fun s => some (.int .i64 0)⟩] K s := (den_reg hf _ K s).trans (by kernel_rfl)
theorem r1_eq (K : List Item) (s : St) : den prog ann 38 (.code r1 :: K) s = mreg prog ann 38 none [] none [7] [
    ⟨some 12, none, .v fun s => loadF true 2 (s.get 2)⟩,
    ⟨some 13, none, .v fun s => some (s.get 1)⟩,
    ⟨some 14, none, .c 0 (fun s => (.fn 74 [] [])) fun s => [(s.get 12), (s.get 13)]⟩,
    ⟨some 11, none, .v fun s => some (s.get 14)⟩,
    ⟨some 15, none, .v fun s => extA (s.get 11) 0⟩,
    ⟨some 16, none, .v fun s => extA (s.get 11) 1⟩,
    ⟨some 17, none, .v fun s => extA (s.get 11) 2⟩,
    ⟨some 7, none, .w false none fun s => newPtr s.m [.nilm]⟩,
    ⟨some 6, none, .v fun s => some (s.get 15)⟩,
    ⟨none, none, .w false none fun s => stA false 1 s.m (s.get 7) (s.get 16)⟩,
    ⟨some 8, none, .v fun s => some (s.get 17)⟩] K s := (den_reg hf _ K s).trans (by kernel_rfl)
theorem r2_eq (K : List Item) (s : St) : den prog ann 38 (.code r2 :: K) s = mreg prog ann 38 none [] none [] [
    ⟨some 18, none, .v fun s => some (s.get 8)⟩,
    ⟨some 19, none, .v fun s => binA prog .neq 27 (s.get 18) (.int .i64 0)⟩] K s := (den_reg hf _ K s).trans (by kernel_rfl)
theorem i0_eq (K : List Item) (s : St) : den prog ann 38 (.code i0 :: K) s = ifV prog ann 38 19 i0t i0e K s (s.get 19) := den_if hf (by kernel_rfl) K s
theorem i0t_eq (K : List Item) (s : St) : den prog ann 38 (.code i0t :: K) s = den prog ann 38 (.code r3 :: .code .ret :: K) s := den_flat hf (l := [r3, .ret]) (by kernel_rfl) K s
theorem r3_eq (K : List Item) (s : St) : den prog ann 38 (.code r3 :: K) s = mreg prog ann 38 none [] none [] [
    ⟨some 20, none, .v fun s => some (s.get 8)⟩,
    ⟨some 4, none, .v fun s => some (.nils)⟩,
    ⟨some 5, none, .v fun s => some (s.get 20)⟩] K s := (den_reg hf _ K s).trans (by kernel_rfl)
theorem i0e_eq (K : List Item) (s : St) : den prog ann 38 (.code i0e :: K) s = den prog ann 38 (K) s := den_flat hf (l := []) (by kernel_rfl) K s
theorem r4_eq (K : List Item) (s : St) : den prog ann 38 (.code r4 :: K) s = mreg prog ann 38 none [] none [] [
    ⟨some 21, none, .v fun s => some (s.get 6)⟩,
    ⟨some 22, none, .c 0 (fun s => (.fn 62 [] [])) fun s => [(s.get 21)]⟩,
    ⟨some 9, none, .v fun s => some (s.get 22)⟩] K s := (den_reg hf _ K s).trans (by kernel_rfl)
theorem r5_eq (K : List Item) (s : St) : den prog ann 38 (.code r5 :: K) s = mreg prog ann 38 none [] none [] [
    ⟨some 23, none, .v fun s => some (s.get 9)⟩,
    ⟨some 24, none, .v fun s => some (.fn 76 [] [(s.get 7)])⟩,
    ⟨some 25, none, .c 0 (fun s => (.fn 75 [] [])) fun s => [(s.get 23), (s.get 24)]⟩,
    ⟨some 10, none, .v fun s => some (s.get 25)⟩] K s := (den_reg hf _ K s).trans (by kernel_rfl)
theorem r6_eq (K : List Item) (s : St) : den prog ann 38 (.code r6 :: K) s = mreg prog ann 38 none [] none [] [
    ⟨some 26, none, .v fun s => some (s.get 10)⟩,
    ⟨some 27, none, .v fun s => binA prog .lss 3 (s.get 26) (.int .i64 0)⟩] K s := (den_reg hf _ K s).trans (by kernel_rfl)
theorem i1_eq (K : List Item) (s : St) : den prog ann 38 (.code i1 :: K) s = ifV prog ann 38 27 i1t i1e K s (s.get 27) := den_if hf (by kernel_rfl) K s
theorem i1t_eq (K : List Item) (s : St) : den prog ann 38 (.code i1t :: K) s = den prog ann 38 (.code r7 :: .code .ret :: K) s := den_flat hf (l := [r7, .ret]) (by kernel_rfl) K s
theorem r7_eq (K : List Item) (s : St) : den prog ann 38 (.code r7 :: K) s = mreg prog ann 38 none [] none [] [
    ⟨some 4, none, .v fun s => some (.nils)⟩,
    ⟨some 5, none, .v fun s => some (.int .i64 5)⟩] K s := (den_reg hf _ K s).trans (by kernel_rfl)
theorem i1e_eq (K : List Item) (s : St) : den prog ann 38 (.code i1e :: K) s = den prog ann 38 (K) s := den_flat hf (l := []) (by kernel_rfl) K s
theorem r8_eq (K : List Item) (s : St) : den prog ann 38 (.code r8 :: K) s = mreg prog ann 38 none [] none [] [
    ⟨some 28, none, .v fun s => some (s.get 6)⟩,
    ⟨some 29, none, .v fun s => some (s.get 9)⟩,
    ⟨some 30, none, .v fun s => some (s.get 10)⟩,
    ⟨some 31, none, .v fun s => idxSl 4 (s.get 29) (s.get 30)⟩,
    ⟨some 32, none, .v fun s => loadF true 4 (s.get 31)⟩,
    ⟨some 33, none, .c 0 (fun s => (.fn 63 [] [])) fun s => [(s.get 28), (s.get 32)]⟩,
    ⟨some 4, none, .v fun s => some (s.get 33)⟩,
    ⟨some 5, none, .v fun s => some (.int .i64 0)⟩] K s := (den_reg hf _ K s).trans (by kernel_rfl)
theorem ret_eq (K : List Item) (s : St) : den prog ann 38 (.code .ret :: K) s = finM true [fun s => some (s.get 4), fun s => some (s.get 5)] s := (den_ret hf K s).trans (by kernel_rfl)
theorem nil_eq (s : St) : den prog ann 38 [] s = finM true [fun s => some (s.get 4), fun s => some (s.get 5)] s := (den_nil hf s).trans (by kernel_rfl)
theorem inBlock_eq (id : Nat) (K : List Item) (s : St) : den prog ann 38 (.inBlock id :: K) s = den prog ann 38 K s := den_inBlock hf id K s
theorem exit_eq (id : Nat) (K : List Item) (s : St) : den prog ann 38 (.code (.exit id) :: K) s = exitV prog ann 38 (exitTo id K) s := den_exitV hf id K s
theorem call_eq (v0 v1 : AV) (m : Mem) (h : closedL [v0, v1] = true) : denC prog ann 38 [v0, v1] m = (den prog ann 38 [.code b] ⟨[(0, v0), (1, v1)], 34, Mem.empty⟩).bind fun r => some (r.1, m) := (denC_pure hf (b := b) (by kernel_rfl) (by kernel_rfl) (by kernel_rfl) h m).trans (by kernel_rfl)
theorem pure_eq : (ann 38).pure = true := by kernel_rfl
attribute [simp] b_eq r0_eq r1_eq r2_eq i0_eq i0t_eq r3_eq i0e_eq r4_eq r5_eq r6_eq i1_eq i1t_eq r7_eq i1e_eq r8_eq ret_eq nil_eq inBlock_eq exit_eq pure_eq
end watch_Possibly

namespace watch_setOf
/-- pommel/watch.setOf -/
noncomputable def b : Code := (Try.f74.body).getD .skip
theorem hf : prog.funcs[74]? = some Try.f74 := by kernel_rfl
noncomputable def r0 : Code := findReg b 0
noncomputable def r1 : Code := findReg b 1
noncomputable def k0 : Code := findBlk b 0
noncomputable def r2 : Code := findReg b 2
noncomputable def i0 : Code := findCond b 0
noncomputable def i0t : Code := thenOf i0
noncomputable def i0e : Code := elseOf i0
noncomputable def r3 : Code := findReg b 3
noncomputable def r4 : Code := findReg b 4
noncomputable def i1 : Code := findCond b 1
noncomputable def i1t : Code := thenOf i1
noncomputable def i1e : Code := elseOf i1
noncomputable def r5 : Code := findReg b 5
noncomputable def r6 : Code := findReg b 6
noncomputable def r7 : Code := findReg b 7
noncomputable def k1 : Code := findBlk b 1
noncomputable def l1 : Code := loopOf k1
noncomputable def L1 (x7 x9 x27 x28 x29 : AV) (m : Mem) (K : List Item) : Option Res := den prog ann 74 (.code l1 :: .inLoop l1 :: .inBlock 1 :: K) ⟨[(7, x7), (9, x9), (27, x27), (28, x28), (29, x29)], 46, m⟩
noncomputable def r8 : Code := findReg b 8
noncomputable def i2 : Code := findCond b 2
noncomputable def i2t : Code := thenOf i2
noncomputable def i2e : Code := elseOf i2
noncomputable def k2 : Code := findBlk b 2
noncomputable def r9 : Code := findReg b 9
noncomputable def r10 : Code := findReg b 10
noncomputable def r11 : Code := findReg b 11
noncomputable def i3 : Code := findCond b 3
noncomputable def i3t : Code := thenOf i3
noncomputable def i3e : Code := elseOf i3
noncomputable def r12 : Code := findReg b 12
noncomputable def r13 : Code := findReg b 13
noncomputable def r14 : Code := findReg b 14
noncomputable def r15 : Code := findReg b 15
theorem b_eq (K : List Item) (s : St) : den prog ann 74 (.code b :: K) s = den prog ann 74 (.code r0 :: .code r1 :: .code k0 :: .code r6 :: .code r7 :: .code k1 :: .code r15 :: .code .ret :: K) s := den_flat hf (l := [r0, r1, k0, r6, r7, k1, r15, .ret]) (by kernel_rfl) K s
theorem r0_eq (K : List Item) (s : St) : den prog ann 74 (.code r0 :: K) s = mreg prog ann 74 none [] none [] [
    ⟨some 2, none, .v fun s => frozenPtr (s.get 0)⟩,
    ⟨some 4, none, .v fun s => some (.nilp)⟩,
    ⟨some 5, none, .v fun s => some (.nilm)⟩,
    ⟨some 6, none, .v fun s => some (.int .i64 0)⟩] K s := (den_reg hf _ K s).trans (by kernel_rfl)
theorem r1_eq (K : List Item) (s : St) : den prog ann 74 (.code r1 :: K) s = mreg prog ann 74 none [] none [] [
    ⟨some 15, none, .v fun s => loadF true 2 (s.get 2)⟩,
    ⟨some 16, none, .c 0 (fun s => (.fn 61 [] [])) fun s => [(s.get 15)]⟩,
    ⟨some 14, none, .v fun s => some (s.get 16)⟩,
    ⟨some 17, none, .v fun s => extA (s.get 14) 0⟩,
    ⟨some 18, none, .v fun s => extA (s.get 14) 1⟩,
    ⟨some 7, none, .v fun s => some (s.get 17)⟩,
    ⟨some 8, none, .v fun s => some (s.get 18)⟩] K s := (den_reg hf _ K s).trans (by kernel_rfl)
theorem k0_eq (K : List Item) (s : St) : den prog ann 74 (.code k0 :: K) s = den prog ann 74 (.code r2 :: .code i0 :: .inBlock 0 :: K) s := den_blk hf (b := blkOf k0) (l := [r2, i0]) (by kernel_rfl) (by kernel_rfl) K s
theorem r2_eq (K : List Item) (s : St) : den prog ann 74 (.code r2 :: K) s = mreg prog ann 74 none [] none [] [
    ⟨some 20, none, .v fun s => some (s.get 8)⟩,
    ⟨some 21, none, .v fun s => unA .not (s.get 20)⟩,
    ⟨some 19, none, .v fun s => some (s.get 21)⟩] K s := (den_reg hf _ K s).trans (by kernel_rfl)
theorem i0_eq (K : List Item) (s : St) : den prog ann 74 (.code i0 :: K) s = ifV prog ann 74 19 i0t i0e K s (s.get 19) := den_if hf (by kernel_rfl) K s
theorem i0t_eq (K : List Item) (s : St) : den prog ann 74 (.code i0t :: K) s = den prog ann 74 (.code r3 :: .code .ret :: K) s := den_flat hf (l := [r3, .ret]) (by kernel_rfl) K s
theorem r3_eq (K : List Item) (s : St) : den prog ann 74 (.code r3 :: K) s = mreg prog ann 74 none [] none [] [
    ⟨some 4, none, .v fun s => some (.nilp)⟩,
    ⟨some 5, none, .v fun s => some (.nilm)⟩,
    ⟨some 6, none, .v fun s => some (.int .i64 1)⟩] K s := (den_reg hf _ K s).trans (by kernel_rfl)
theorem i0e_eq (K : List Item) (s : St) : den prog ann 74 (.code i0e :: K) s = den prog ann 74 (.code r4 :: .code i1 :: K) s := den_flat hf (l := [r4, i1]) (by kernel_rfl) K s
theorem r4_eq (K : List Item) (s : St) : den prog ann 74 (.code r4 :: K) s = mreg prog ann 74 none [] none [] [
    ⟨some 23, none, .v fun s => some (s.get 1)⟩,
    ⟨some 24, none, .v fun s => lenSl (s.get 23)⟩,
    ⟨some 25, none, .v fun s => binA prog .gtr 3 (s.get 24) (.int .i64 2500)⟩,
    ⟨some 22, none, .v fun s => some (s.get 25)⟩] K s := (den_reg hf _ K s).trans (by kernel_rfl)
theorem i1_eq (K : List Item) (s : St) : den prog ann 74 (.code i1 :: K) s = ifV prog ann 74 22 i1t i1e K s (s.get 22) := den_if hf (by kernel_rfl) K s
theorem i1t_eq (K : List Item) (s : St) : den prog ann 74 (.code i1t :: K) s = den prog ann 74 (.code r5 :: .code .ret :: K) s := den_flat hf (l := [r5, .ret]) (by kernel_rfl) K s
theorem r5_eq (K : List Item) (s : St) : den prog ann 74 (.code r5 :: K) s = mreg prog ann 74 none [] none [] [
    ⟨some 4, none, .v fun s => some (.nilp)⟩,
    ⟨some 5, none, .v fun s => some (.nilm)⟩,
    ⟨some 6, none, .v fun s => some (.int .i64 3)⟩] K s := (den_reg hf _ K s).trans (by kernel_rfl)
theorem i1e_eq (K : List Item) (s : St) : den prog ann 74 (.code i1e :: K) s = den prog ann 74 (K) s := den_flat hf (l := []) (by kernel_rfl) K s
theorem r6_eq (K : List Item) (s : St) : den prog ann 74 (.code r6 :: K) s = mreg prog ann 74 (some [1, 7]) [] none [] [
    ⟨some 26, none, .w false none fun s => some (.map s.m.nx, s.m.new (.map 0 [] []))⟩,
    ⟨some 9, none, .v fun s => some (s.get 26)⟩] K s := (den_reg hf _ K s).trans (by kernel_rfl)
theorem r7_eq (K : List Item) (s : St) : den prog ann 74 (.code r7 :: K) s = mreg prog ann 74 none [] none [] [
    ⟨some 27, none, .v fun s => some (s.get 1)⟩,
    ⟨some 28, none, .v fun s => lenSl (s.get 27)⟩,
    ⟨some 29, none, .v fun s => some (.int .i64 0)⟩] K s := (den_reg hf _ K s).trans (by kernel_rfl)
theorem k1_eq (K : List Item) (t : List (Nat × AV)) (m : Mem) : den prog ann 74 (.code k1 :: K) ⟨t, 46, m⟩ = L1 (get t 7) (get t 9) (get t 27) (get t 28) (get t 29) m K := den_loop_enter hf (b := l1) (id := 8) (l := [7, 9, 27, 28, 29]) (by kernel_rfl) (by kernel_rfl) (by kernel_rfl) K _
theorem l1_eq (K : List Item) (t : List (Nat × AV)) (m : Mem) : den prog ann 74 (.inLoop l1 :: .inBlock 1 :: K) ⟨t, 46, m⟩ = L1 (get t 7) (get t 9) (get t 27) (get t 28) (get t 29) m K := den_loop_again hf (id := 8) (l := [7, 9, 27, 28, 29]) (by kernel_rfl) (by kernel_rfl) (.inBlock 1 :: K) _
theorem L1_eq (x7 x9 x27 x28 x29 : AV) (m : Mem) (K : List Item) : L1 x7 x9 x27 x28 x29 m K = den prog ann 74 (.code r8 :: .code i2 :: .code k2 :: .code r14 :: .inLoop l1 :: .inBlock 1 :: K) ⟨[(7, x7), (9, x9), (27, x27), (28, x28), (29, x29)], 46, m⟩ := den_flat hf (l := [r8, i2, k2, r14]) (by kernel_rfl) _ _
theorem r8_eq (K : List Item) (s : St) : den prog ann 74 (.code r8 :: K) s = mreg prog ann 74 (some [7, 9, 27, 28, 29]) [] none [] [
    ⟨some 30, none, .v fun s => binA prog .lss 3 (s.get 29) (s.get 28)⟩] K s := (den_reg hf _ K s).trans (by kernel_rfl)
theorem i2_eq (K : List Item) (s : St) : den prog ann 74 (.code i2 :: K) s = ifV prog ann 74 30 i2t i2e K s (s.get 30) := den_if hf (by kernel_rfl) K s
theorem i2t_eq (K : List Item) (s : St) : den prog ann 74 (.code i2t :: K) s = den prog ann 74 (K) s := den_flat hf (l := []) (by kernel_rfl) K s
theorem i2e_eq (K : List Item) (s : St) : den prog ann 74 (.code i2e :: K) s = den prog ann 74 (.code (.exit 1) :: K) s := den_flat hf (l := [(.exit 1)]) (by kernel_rfl) K s
theorem k2_eq (K : List Item) (s : St) : den prog ann 74 (.code k2 :: K) s = den prog ann 74 (.code r9 :: .code r10 :: .code r11 :: .code i3 :: .code r13 :: .inBlock 2 :: K) s := den_blk hf (b := blkOf k2) (l := [r9, r10, r11, i3, r13]) (by kernel_rfl) (by kernel_rfl) K s
theorem r9_eq (K : List Item) (s : St) : den prog ann 74 (.code r9 :: K) s = mreg prog ann 74 none [] none [] [
    ⟨some 31, none, .v fun s => idxSl 1 (s.get 27) (s.get 29)⟩,
    ⟨some 32, none, .v fun s => loadF false 1 (s.get 31)⟩,
    ⟨some 11, none, .v fun s => some (s.get 32)⟩] K s := (den_reg hf _ K s).trans (by kernel_rfl)
theorem r10_eq (K : List Item) (s : St) : den prog ann 74 (.code r10 :: K) s = mreg prog ann 74 none [] none [12] [
    ⟨some 34, none, .v fun s => some (s.get 7)⟩,
    ⟨some 35, none, .v fun s => some (s.get 11)⟩,
    ⟨some 36, none, .c 0 (fun s => (.fn 71 [] [])) fun s => [(s.get 34), (s.get 35)]⟩,
    ⟨some 33, none, .v fun s => some (s.get 36)⟩,
    ⟨some 37, none, .v fun s => extA (s.get 33) 0⟩,
    ⟨some 38, none, .v fun s => extA (s.get 33) 1⟩,
    ⟨some 12, none, .w false none fun s => newPtr s.m [.int .i64 0, .int .i64 0, .int .i64 0, .int .i64 0]⟩,
    ⟨none, none, .w false none fun s => stA true 4 s.m (s.get 12) (s.get 37)⟩,
    ⟨some 13, none, .v fun s => some (s.get 38)⟩] K s := (den_reg hf _ K s).trans (by kernel_rfl)
theorem r11_eq (K : List Item) (s : St) : den prog ann 74 (.code r11 :: K) s = mreg prog ann 74 none [] none [] [
    ⟨some 39, none, .v fun s => some (s.get 13)⟩,
    ⟨some 40, none, .v fun s => unA .not (s.get 39)⟩] K s := (den_reg hf _ K s).trans (by kernel_rfl)
theorem i3_eq (K : List Item) (s : St) : den prog ann 74 (.code i3 :: K) s = ifV prog ann 74 40 i3t i3e K s (s.get 40) := den_if hf (by kernel_rfl) K s
theorem i3t_eq (K : List Item) (s : St) : den prog ann 74 (.code i3t :: K) s = den prog ann 74 (.code r12 :: .code .ret :: K) s := den_flat hf (l := [r12, .ret]) (by kernel_rfl) K s
theorem r12_eq (K : List Item) (s : St) : den prog ann 74 (.code r12 :: K) s = mreg prog ann 74 none [] none [] [
    ⟨some 4, none, .v fun s => some (.nilp)⟩,
    ⟨some 5, none, .v fun s => some (.nilm)⟩,
    ⟨some 6, none, .v fun s => some (.int .i64 2)⟩] K s := (den_reg hf _ K s).trans (by kernel_rfl)
theorem i3e_eq (K : List Item) (s : St) : den prog ann 74 (.code i3e :: K) s = den prog ann 74 (K) s := den_flat hf (l := []) (by kernel_rfl) K s
theorem r13_eq (K : List Item) (s : St) : den prog ann 74 (.code r13 :: K) s = mreg prog ann 74 none [] none [] [
    ⟨some 41, none, .v fun s => some (s.get 9)⟩,
    ⟨some 42, none, .v fun s => loadF true 4 (s.get 12)⟩,
    ⟨none, none, .w false none fun s => updM prog s.m 99 (s.get 41) (s.get 42) (.bool true)⟩] K s := (den_reg hf _ K s).trans (by kernel_rfl)
theorem r14_eq (K : List Item) (s : St) : den prog ann 74 (.code r14 :: K) s = mreg prog ann 74 (some [7, 9, 27, 28, 29]) [] none [] [
    ⟨some 43, none, .v fun s => binA prog .add 3 (s.get 29) (.int .i64 1)⟩,
    ⟨some 29, none, .v fun s => some (s.get 43)⟩] K s := (den_reg hf _ K s).trans (by kernel_rfl)
theorem r15_eq (K : List Item) (s : St) : den prog ann 74 (.code r15 :: K) s = mreg prog ann 74 (some [7, 9]) [] none [] [
    ⟨some 44, none, .v fun s => some (s.get 7)⟩,
    ⟨some 45, none, .v fun s => some (s.get 9)⟩,
    ⟨some 4, none, .v fun s => some (s.get 44)⟩,
    ⟨some 5, none, .v fun s => some (s.get 45)⟩,
    ⟨some 6, none, .v fun s => some (.int .i64 0)⟩] K s := (den_reg hf _ K s).trans (by kernel_rfl)
theorem ret_eq (K : List Item) (s : St) : den prog ann 74 (.code .ret :: K) s = finM true [fun s => some (s.get 4), fun s => some (s.get 5), fun s => some (s.get 6)] s := (den_ret hf K s).trans (by kernel_rfl)
theorem nil_eq (s : St) : den prog ann 74 [] s = finM true [fun s => some (s.get 4), fun s => some (s.get 5), fun s => some (s.get 6)] s := (den_nil hf s).trans (by kernel_rfl)
theorem inBlock_eq (id : Nat) (K : List Item) (s : St) : den prog ann 74 (.inBlock id :: K) s = den prog ann 74 K s := den_inBlock hf id K s
theorem exit_eq (id : Nat) (K : List Item) (s : St) : den prog ann 74 (.code (.exit id) :: K) s = exitV prog ann 74 (exitTo id K) s := den_exitV hf id K s
theorem call_eq (v0 v1 : AV) (m : Mem) (h : closedL [v0, v1] = true) : denC prog ann 74 [v0, v1] m = (den prog ann 74 [.code b] ⟨[(0, v0), (1, v1)], 46, Mem.empty⟩).bind fun r => some (r.1, m) := (denC_pure hf (b := b) (by kernel_rfl) (by kernel_rfl) (by kernel_rfl) h m).trans (by kernel_rfl)
theorem pure_eq : (ann 74).pure = true := by kernel_rfl
attribute [simp] b_eq r0_eq r1_eq k0_eq r2_eq i0_eq i0t_eq r3_eq i0e_eq r4_eq i1_eq i1t_eq r5_eq i1e_eq r6_eq r7_eq k1_eq l1_eq r8_eq i2_eq i2t_eq i2e_eq k2_eq r9_eq r10_eq r11_eq i3_eq i3t_eq r12_eq i3e_eq r13_eq r14_eq r15_eq ret_eq nil_eq inBlock_eq exit_eq pure_eq
end watch_setOf

namespace slices_IndexFunc_cut
/-- slices.IndexFuncpommel/watch.cutpommel/watch.cut -/
noncomputable def b : Code := (Try.f75.body).getD .skip
theorem hf : prog.funcs[75]? = some Try.f75 := by kernel_rfl
noncomputable def r0 : Code := findReg b 0
noncomputable def r1 : Code := findReg b 1
noncomputable def k0 : Code := findBlk b 0
noncomputable def l0 : Code := loopOf k0
noncomputable def L0 (x0 x1 x7 x8 : AV) (m : Mem) (K : List Item) : Option Res := den prog ann 75 (.code l0 :: .inLoop l0 :: .inBlock 0 :: K) ⟨[(0, x0), (1, x1), (7, x7), (8, x8)], 19, m⟩
noncomputable def r2 : Code := findReg b 2
noncomputable def i0 : Code := findCond b 0
noncomputable def i0t : Code := thenOf i0
noncomputable def i0e : Code := elseOf i0
noncomputable def k1 : Code := findBlk b 1
noncomputable def r3 : Code := findReg b 3
noncomputable def r4 : Code := findReg b 4
noncomputable def i1 : Code := findCond b 1
noncomputable def i1t : Code := thenOf i1
noncomputable def i1e : Code := elseOf i1
noncomputable def r5 : Code := findReg b 5
noncomputable def r6 : Code := findReg b 6
noncomputable def r7 : Code := findReg b 7
theorem b_eq (K : List Item) (s : St) : den prog ann 75 (.code b :: K) s = den prog ann 75 (.code r0 :: .code r1 :: .code k0 :: .code r7 :: .code .ret :: K) s := den_flat hf (l := [r0, r1, k0, r7, .ret]) (by kernel_rfl) K s
theorem r0_eq (K : List Item) (s : St) : den prog ann 75 (.code r0 :: K) s = mreg prog ann 75 none [] none [] [
    ⟨some 4, none, .v fun s => some (.int .i64 0)⟩] K s := (den_reg hf _ K s).trans (by kernel_rfl)
theorem r1_eq (K : List Item) (s : St) : den prog ann 75 (.code r1 :: K) s = mreg prog ann 75 none [] none [] [
    ⟨some 6, none, .v fun s => some (s.get 0)⟩,
    ⟨some 7, none, .v fun s => lenSl (s.get 6)⟩,
    ⟨some 8, none, .v fun s => some (.int .i64 0)⟩] K s := (den_reg hf _ K s).trans (by kernel_rfl)
theorem k0_eq (K : List Item) (t : List (Nat × AV)) (m : Mem) : den prog ann 75 (.code k0 :: K) ⟨t, 19, m⟩ = L0 (get t 0) (get t 1) (get t 7) (get t 8) m K := den_loop_enter hf (b := l0) (id := 2) (l := [0, 1, 7, 8]) (by kernel_rfl) (by kernel_rfl) (by kernel_rfl) K _
theorem l0_eq (K : List Item) (t : List (Nat × AV)) (m : Mem) : den prog ann 75 (.inLoop l0 :: .inBlock 0 :: K) ⟨t, 19, m⟩ = L0 (get t 0) (get t 1) (get t 7) (get t 8) m K := den_loop_again hf (id := 2) (l := [0, 1, 7, 8]) (by kernel_rfl) (by kernel_rfl) (.inBlock 0 :: K) _
theorem L0_eq (x0 x1 x7 x8 : AV) (m : Mem) (K : List Item) : L0 x0 x1 x7 x8 m K = den prog ann 75 (.code r2 :: .code i0 :: .code k1 :: .code r6 :: .inLoop l0 :: .inBlock 0 :: K) ⟨[(0, x0), (1, x1), (7, x7), (8, x8)], 19, m⟩ := den_flat hf (l := [r2, i0, k1, r6]) (by kernel_rfl) _ _
theorem r2_eq (K : List Item) (s : St) : den prog ann 75 (.code r2 :: K) s = mreg prog ann 75 (some [0, 1, 7, 8]) [] none [] [
    ⟨some 9, none, .v fun s => binA prog .lss 3 (s.get 8) (s.get 7)⟩] K s := (den_reg hf _ K s).trans (by kernel_rfl)
theorem i0_eq (K : List Item) (s : St) : den prog ann 75 (.code i0 :: K) s = ifV prog ann 75 9 i0t i0e K s (s.get 9) := den_if hf (by kernel_rfl) K s
theorem i0t_eq (K : List Item) (s : St) : den prog ann 75 (.code i0t :: K) s = den prog ann 75 (K) s := den_flat hf (l := []) (by kernel_rfl) K s
theorem i0e_eq (K : List Item) (s : St) : den prog ann 75 (.code i0e :: K) s = den prog ann 75 (.code (.exit 0) :: K) s := den_flat hf (l := [(.exit 0)]) (by kernel_rfl) K s
theorem k1_eq (K : List Item) (s : St) : den prog ann 75 (.code k1 :: K) s = den prog ann 75 (.code r3 :: .code r4 :: .code i1 :: .inBlock 1 :: K) s := den_blk hf (b := blkOf k1) (l := [r3, r4, i1]) (by kernel_rfl) (by kernel_rfl) K s
theorem r3_eq (K : List Item) (s : St) : den prog ann 75 (.code r3 :: K) s = mreg prog ann 75 none [] none [] [
    ⟨some 10, none, .v fun s => some (s.get 8)⟩,
    ⟨some 5, none, .v fun s => some (s.get 10)⟩] K s := (den_reg hf _ K s).trans (by kernel_rfl)
theorem r4_eq (K : List Item) (s : St) : den prog ann 75 (.code r4 :: K) s = mreg prog ann 75 none [] none [] [
    ⟨some 11, none, .v fun s => some (s.get 1)⟩,
    ⟨some 12, none, .v fun s => some (s.get 0)⟩,
    ⟨some 13, none, .v fun s => some (s.get 5)⟩,
    ⟨some 14, none, .v fun s => idxSl 4 (s.get 12) (s.get 13)⟩,
    ⟨some 15, none, .v fun s => loadA true 4 s.m (s.get 14)⟩,
    ⟨some 16, none, .c 0 (fun s => (s.get 11)) fun s => [(s.get 15)]⟩] K s := (den_reg hf _ K s).trans (by kernel_rfl)
theorem i1_eq (K : List Item) (s : St) : den prog ann 75 (.code i1 :: K) s = ifV prog ann 75 16 i1t i1e K s (s.get 16) := den_if hf (by kernel_rfl) K s
theorem i1t_eq (K : List Item) (s : St) : den prog ann 75 (.code i1t :: K) s = den prog ann 75 (.code r5 :: .code .ret :: K) s := den_flat hf (l := [r5, .ret]) (by kernel_rfl) K s
theorem r5_eq (K : List Item) (s : St) : den prog ann 75 (.code r5 :: K) s = mreg prog ann 75 none [] none [] [
    ⟨some 17, none, .v fun s => some (s.get 5)⟩,
    ⟨some 4, none, .v fun s => some (s.get 17)⟩] K s := (den_reg hf _ K s).trans (by kernel_rfl)
theorem i1e_eq (K : List Item) (s : St) : den prog ann 75 (.code i1e :: K) s = den prog ann 75 (K) s := den_flat hf (l := []) (by kernel_rfl) K s
theorem r6_eq (K : List Item) (s : St) : den prog ann 75 (.code r6 :: K) s = mreg prog ann 75 (some [0, 1, 7, 8]) [] none [] [
    ⟨some 18, none, .v fun s => binA prog .add 3 (s.get 8) (.int .i64 1)⟩,
    ⟨some 8, none, .v fun s => some (s.get 18)⟩] K s := (den_reg hf _ K s).trans (by kernel_rfl)
theorem r7_eq (K : List Item) (s : St) : den prog ann 75 (.code r7 :: K) s = mreg prog ann 75 (some []) [] none [] [
    ⟨some 4, none, .v fun s => some (.int .i64 (-1))⟩] K s := (den_reg hf _ K s).trans (by kernel_rfl)
theorem ret_eq (K : List Item) (s : St) : den prog ann 75 (.code .ret :: K) s = finM false [fun s => some (s.get 4)] s := (den_ret hf K s).trans (by kernel_rfl)
theorem nil_eq (s : St) : den prog ann 75 [] s = finM false [fun s => some (s.get 4)] s := (den_nil hf s).trans (by kernel_rfl)
theorem inBlock_eq (id : Nat) (K : List Item) (s : St) : den prog ann 75 (.inBlock id :: K) s = den prog ann 75 K s := den_inBlock hf id K s
theorem exit_eq (id : Nat) (K : List Item) (s : St) : den prog ann 75 (.code (.exit id) :: K) s = exitV prog ann 75 (exitTo id K) s := den_exitV hf id K s
theorem call_eq (v0 v1 : AV) (m : Mem) : denC prog ann 75 [v0, v1] m = den prog ann 75 [.code b] ⟨[(0, v0), (1, v1)], 19, m⟩ := (denC_impure hf (b := b) (by kernel_rfl) (by kernel_rfl) (by kernel_rfl) m).trans (by kernel_rfl)
theorem pure_eq : (ann 75).pure = false := by kernel_rfl
attribute [simp] b_eq r0_eq r1_eq k0_eq l0_eq r2_eq i0_eq i0t_eq i0e_eq k1_eq r3_eq r4_eq i1_eq i1t_eq r5_eq i1e_eq r6_eq r7_eq ret_eq nil_eq inBlock_eq exit_eq pure_eq
end slices_IndexFunc_cut

namespace watch_Possibly_1
/-- pommel/watch.Possibly$1 -/
noncomputable def b : Code := (Try.f76.body).getD .skip
theorem hf : prog.funcs[76]? = some Try.f76 := by kernel_rfl
noncomputable def r0 : Code := findReg b 0
noncomputable def r1 : Code := findReg b 1
theorem b_eq (K : List Item) (s : St) : den prog ann 76 (.code b :: K) s = den prog ann 76 (.code r0 :: .code r1 :: .code .ret :: K) s := den_flat hf (l := [r0, r1, .ret]) (by kernel_rfl) K s
theorem r0_eq (K : List Item) (s : St) : den prog ann 76 (.code r0 :: K) s = mreg prog ann 76 none [] none [] [
    ⟨some 2, none, .v fun s => frozenPtr (s.get 0)⟩,
    ⟨some 3, none, .v fun s => some (.bool false)⟩] K s := (den_reg hf _ K s).trans (by kernel_rfl)
theorem r1_eq (K : List Item) (s : St) : den prog ann 76 (.code r1 :: K) s = mreg prog ann 76 none [] none [] [
    ⟨some 4, none, .v fun s => loadA false 1 s.m (s.get 1)⟩,
    ⟨some 5, none, .v fun s => loadF true 4 (s.get 2)⟩,
    ⟨some 6, none, .v fun s => lookP prog s.m 99 (.bool false) (s.get 4) (s.get 5) false⟩,
    ⟨some 3, none, .v fun s => some (s.get 6)⟩] K s := (den_reg hf _ K s).trans (by kernel_rfl)
theorem ret_eq (K : List Item) (s : St) : den prog ann 76 (.code .ret :: K) s = finM false [fun s => some (s.get 3)] s := (den_ret hf K s).trans (by kernel_rfl)
theorem nil_eq (s : St) : den prog ann 76 [] s = finM false [fun s => some (s.get 3)] s := (den_nil hf s).trans (by kernel_rfl)
theorem inBlock_eq (id : Nat) (K : List Item) (s : St) : den prog ann 76 (.inBlock id :: K) s = den prog ann 76 K s := den_inBlock hf id K s
theorem exit_eq (id : Nat) (K : List Item) (s : St) : den prog ann 76 (.code (.exit id) :: K) s = exitV prog ann 76 (exitTo id K) s := den_exitV hf id K s
theorem call_eq (v0 v1 : AV) (m : Mem) : denC prog ann 76 [v0, v1] m = den prog ann 76 [.code b] ⟨[(0, v0), (1, v1)], 7, m⟩ := (denC_impure hf (b := b) (by kernel_rfl) (by kernel_rfl) (by kernel_rfl) m).trans (by kernel_rfl)
theorem pure_eq : (ann 76).pure = false := by kernel_rfl
attribute [simp] b_eq r0_eq r1_eq ret_eq nil_eq inBlock_eq exit_eq pure_eq
end watch_Possibly_1

namespace l09_WatchGarg
/-- pommel/pommellaw09.WatchGarg -/
noncomputable def b : Code := (Try.f16.body).getD .skip
theorem hf : prog.funcs[16]? = some Try.f16 := by kernel_rfl
noncomputable def r0 : Code := findReg b 0
noncomputable def r1 : Code := findReg b 1
noncomputable def r2 : Code := findReg b 2
noncomputable def r3 : Code := findReg b 3
noncomputable def k0 : Code := findBlk b 0
noncomputable def l0 : Code := loopOf k0
noncomputable def L0 (x3 x5 x6 x7 : AV) (m : Mem) (K : List Item) : Option Res := den prog ann 16 (.code l0 :: .inLoop l0 :: .inBlock 0 :: K) ⟨[(3, x3), (5, x5), (6, x6), (7, x7)], 163, m⟩
noncomputable def r4 : Code := findReg b 4
noncomputable def i0 : Code := findCond b 0
noncomputable def i0t : Code := thenOf i0
noncomputable def i0e : Code := elseOf i0
noncomputable def k1 : Code := findBlk b 1
noncomputable def r6 : Code := findReg b 6
noncomputable def r7 : Code := findReg b 7
noncomputable def k2 : Code := findBlk b 2
noncomputable def l2 : Code := loopOf k2
noncomputable def L2 (x3 x5 x6 x7 x8 x9 : AV) (m : Mem) (K : List Item) : Option Res := den prog ann 16 (.code l2 :: .inLoop l2 :: .inBlock 2 :: K) ⟨[(3, x3), (5, x5), (6, x6), (7, x7), (8, x8), (9, x9)], 163, m⟩
noncomputable def r8 : Code := findReg b 8
noncomputable def i1 : Code := findCond b 1
noncomputable def i1t : Code := thenOf i1
noncomputable def i1e : Code := elseOf i1
noncomputable def k3 : Code := findBlk b 3
noncomputable def r10 : Code := findReg b 10
noncomputable def r9 : Code := findReg b 9
noncomputable def r11 : Code := findReg b 11
noncomputable def r5 : Code := findReg b 5
noncomputable def r12 : Code := findReg b 12
noncomputable def r13 : Code := findReg b 13
noncomputable def r14 : Code := findReg b 14
noncomputable def r15 : Code := findReg b 15
noncomputable def r16 : Code := findReg b 16
noncomputable def i2 : Code := findCond b 2
noncomputable def i2t : Code := thenOf i2
noncomputable def i2e : Code := elseOf i2
noncomputable def r17 : Code := findReg b 17
noncomputable def r18 : Code := findReg b 18
noncomputable def i3 : Code := findCond b 3
noncomputable def i3t : Code := thenOf i3
noncomputable def i3e : Code := elseOf i3
noncomputable def r19 : Code := findReg b 19
noncomputable def r20 : Code := findReg b 20
noncomputable def r21 : Code := findReg b 21
noncomputable def k4 : Code := findBlk b 4
noncomputable def l4 : Code := loopOf k4
noncomputable def L4 (x5 x10 x12 x14 x15 x17 x18 x19 : AV) (m : Mem) (K : List Item) : Option Res := den prog ann 16 (.code l4 :: .inLoop l4 :: .inBlock 4 :: K) ⟨[(5, x5), (10, x10), (12, x12), (14, x14), (15, x15), (17, x17), (18, x18), (19, x19)], 163, m⟩
noncomputable def r22 : Code := findReg b 22
noncomputable def i4 : Code := findCond b 4
noncomputable def i4t : Code := thenOf i4
noncomputable def i4e : Code := elseOf i4
noncomputable def k5 : Code := findBlk b 5
noncomputable def r24 : Code := findReg b 24
noncomputable def i5 : Code := findCond b 5
noncomputable def i5t : Code := thenOf i5
noncomputable def i5e : Code := elseOf i5
noncomputable def r25 : Code := findReg b 25
noncomputable def r26 : Code := findReg b 26
noncomputable def r23 : Code := findReg b 23
noncomputable def r27 : Code := findReg b 27
noncomputable def r28 : Code := findReg b 28
theorem b_eq (K : List Item) (s : St) : den prog ann 16 (.code b :: K) s = den prog ann 16 (.code r0 :: .code r1 :: .code r2 :: .code r3 :: .code k0 :: .code r12 :: .code r13 :: .code r14 :: .code r15 :: .code r16 :: .code i2 :: .code r18 :: .code i3 :: .code r20 :: .code r21 :: .code k4 :: .code r27 :: .code r28 :: .code .ret :: K) s := den_flat hf (l := [r0, r1, r2, r3, k0, r12, r13, r14, r15, r16, i2, r18, i3, r20, r21, k4, r27, r28, .ret]) (by kernel_rfl) K s
theorem r0_eq (K : List Item) (s : St) : den prog ann 16 (.code r0 :: K) s = mreg prog ann 16 none [] none [] [
    ⟨some 2, none, .v fun s => frozenPtr (s.get 0)⟩,
    ⟨some 3, none, .v fun s => frozenPtr (s.get 1)⟩,
    ⟨some 4, none, .v fun s => some (.bool false)⟩] K s := (den_reg hf _ K s).trans (by kernel_rfl)
theorem r1_eq (K : List Item) (s : St) : den prog ann 16 (.code r1 :: K) s = mreg prog ann 16 none [] none [5] [
    ⟨some 22, none, .v fun s => loadF true 6 (s.get 2)⟩,
    ⟨some 23, none, .c 0 (fun s => (.fn 23 [] [])) fun s => [(s.get 22)]⟩,
    ⟨some 5, none, .w false none fun s => newPtr s.m [.nils, .nils]⟩,
    ⟨none, none, .w false none fun s => stA true 2 s.m (s.get 5) (s.get 23)⟩] K s := (den_reg hf _ K s).trans (by kernel_rfl)
theorem r2_eq (K : List Item) (s : St) : den prog ann 16 (.code r2 :: K) s = mreg prog ann 16 none [] none [] [
    ⟨some 24, none, .w false none fun s => bslM s.m 0 (bslA 1 0 [.nils] [])⟩,
    ⟨some 6, none, .v fun s => some (s.get 24)⟩] K s := (den_reg hf _ K s).trans (by kernel_rfl)
theorem r3_eq (K : List Item) (s : St) : den prog ann 16 (.code r3 :: K) s = mreg prog ann 16 none [] none [] [
    ⟨some 7, none, .v fun s => some (.int .i64 0)⟩] K s := (den_reg hf _ K s).trans (by kernel_rfl)
theorem k0_eq (K : List Item) (t : List (Nat × AV)) (m : Mem) : den prog ann 16 (.code k0 :: K) ⟨t, 163, m⟩ = L0 (get t 3) (get t 5) (get t 6) (get t 7) m K := den_loop_enter hf (b := l0) (id := 4) (l := [3, 5, 6, 7]) (by kernel_rfl) (by kernel_rfl) (by kernel_rfl) K _
theorem l0_eq (K : List Item) (t : List (Nat × AV)) (m : Mem) : den prog ann 16 (.inLoop l0 :: .inBlock 0 :: K) ⟨t, 163, m⟩ = L0 (get t 3) (get t 5) (get t 6) (get t 7) m K := den_loop_again hf (id := 4) (l := [3, 5, 6, 7]) (by kernel_rfl) (by kernel_rfl) (.inBlock 0 :: K) _
theorem L0_eq (x3 x5 x6 x7 : AV) (m : Mem) (K : List Item) : L0 x3 x5 x6 x7 m K = den prog ann 16 (.code r4 :: .code i0 :: .code k1 :: .code r5 :: .inLoop l0 :: .inBlock 0 :: K) ⟨[(3, x3), (5, x5), (6, x6), (7, x7)], 163, m⟩ := den_flat hf (l := [r4, i0, k1, r5]) (by kernel_rfl) _ _
theorem r4_eq (K : List Item) (s : St) : den prog ann 16 (.code r4 :: K) s = mreg prog ann 16 (some [3, 5, 6, 7]) [] none [] [
    ⟨some 25, none, .v fun s => some (s.get 7)⟩,
    ⟨some 26, none, .v fun s => fieldA 0 (s.get 5)⟩,
    ⟨some 27, none, .v fun s => loadF false 1 (s.get 26)⟩,
    ⟨some 28, none, .v fun s => lenSl (s.get 27)⟩,
    ⟨some 29, none, .v fun s => binA prog .lss 3 (s.get 25) (s.get 28)⟩] K s := (den_reg hf _ K s).trans (by kernel_rfl)
theorem i0_eq (K : List Item) (s : St) : den prog ann 16 (.code i0 :: K) s = ifV prog ann 16 29 i0t i0e K s (s.get 29) := den_if hf (by kernel_rfl) K s
theorem i0t_eq (K : List Item) (s : St) : den prog ann 16 (.code i0t :: K) s = den prog ann 16 (K) s := den_flat hf (l := []) (by kernel_rfl) K s
theorem i0e_eq (K : List Item) (s : St) : den prog ann 16 (.code i0e :: K) s = den prog ann 16 (.code (.exit 0) :: K) s := den_flat hf (l := [(.exit 0)]) (by kernel_rfl) K s
theorem k1_eq (K : List Item) (s : St) : den prog ann 16 (.code k1 :: K) s = den prog ann 16 (.code r6 :: .code r7 :: .code k2 :: .code r11 :: .inBlock 1 :: K) s := den_blk hf (b := blkOf k1) (l := [r6, r7, k2, r11]) (by kernel_rfl) (by kernel_rfl) K s
theorem r6_eq (K : List Item) (s : St) : den prog ann 16 (.code r6 :: K) s = mreg prog ann 16 none [] none [] [
    ⟨some 32, none, .w false none fun s => bslM s.m 0 (bslA 1 0 [.bool false] [])⟩,
    ⟨some 8, none, .v fun s => some (s.get 32)⟩] K s := (den_reg hf _ K s).trans (by kernel_rfl)
theorem r7_eq (K : List Item) (s : St) : den prog ann 16 (.code r7 :: K) s = mreg prog ann 16 none [] none [] [
    ⟨some 9, none, .v fun s => some (.int .i64 0)⟩] K s := (den_reg hf _ K s).trans (by kernel_rfl)
theorem k2_eq (K : List Item) (t : List (Nat × AV)) (m : Mem) : den prog ann 16 (.code k2 :: K) ⟨t, 163, m⟩ = L2 (get t 3) (get t 5) (get t 6) (get t 7) (get t 8) (get t 9) m K := den_loop_enter hf (b := l2) (id := 8) (l := [3, 5, 6, 7, 8, 9]) (by kernel_rfl) (by kernel_rfl) (by kernel_rfl) K _
theorem l2_eq (K : List Item) (t : List (Nat × AV)) (m : Mem) : den prog ann 16 (.inLoop l2 :: .inBlock 2 :: K) ⟨t, 163, m⟩ = L2 (get t 3) (get t 5) (get t 6) (get t 7) (get t 8) (get t 9) m K := den_loop_again hf (id := 8) (l := [3, 5, 6, 7, 8, 9]) (by kernel_rfl) (by kernel_rfl) (.inBlock 2 :: K) _
theorem L2_eq (x3 x5 x6 x7 x8 x9 : AV) (m : Mem) (K : List Item) : L2 x3 x5 x6 x7 x8 x9 m K = den prog ann 16 (.code r8 :: .code i1 :: .code k3 :: .code r9 :: .inLoop l2 :: .inBlock 2 :: K) ⟨[(3, x3), (5, x5), (6, x6), (7, x7), (8, x8), (9, x9)], 163, m⟩ := den_flat hf (l := [r8, i1, k3, r9]) (by kernel_rfl) _ _
theorem r8_eq (K : List Item) (s : St) : den prog ann 16 (.code r8 :: K) s = mreg prog ann 16 (some [3, 5, 6, 7, 8, 9]) [] none [] [
    ⟨some 33, none, .v fun s => some (s.get 9)⟩,
    ⟨some 34, none, .v fun s => fieldA 0 (s.get 5)⟩,
    ⟨some 35, none, .v fun s => loadF false 1 (s.get 34)⟩,
    ⟨some 36, none, .v fun s => some (s.get 7)⟩,
    ⟨some 37, none, .v fun s => idxSl 1 (s.get 35) (s.get 36)⟩,
    ⟨some 38, none, .v fun s => loadA false 1 s.m (s.get 37)⟩,
    ⟨some 39, none, .v fun s => binA prog .leq 3 (s.get 33) (s.get 38)⟩] K s := (den_reg hf _ K s).trans (by kernel_rfl)
theorem i1_eq (K : List Item) (s : St) : den prog ann 16 (.code i1 :: K) s = ifV prog ann 16 39 i1t i1e K s (s.get 39) := den_if hf (by kernel_rfl) K s
theorem i1t_eq (K : List Item) (s : St) : den prog ann 16 (.code i1t :: K) s = den prog ann 16 (K) s := den_flat hf (l := []) (by kernel_rfl) K s
theorem i1e_eq (K : List Item) (s : St) : den prog ann 16 (.code i1e :: K) s = den prog ann 16 (.code (.exit 2) :: K) s := den_flat hf (l := [(.exit 2)]) (by kernel_rfl) K s
theorem k3_eq (K : List Item) (s : St) : den prog ann 16 (.code k3 :: K) s = den prog ann 16 (.code r10 :: .inBlock 3 :: K) s := den_blk hf (b := blkOf k3) (l := [r10]) (by kernel_rfl) (by kernel_rfl) K s
theorem r10_eq (K : List Item) (s : St) : den prog ann 16 (.code r10 :: K) s = mreg prog ann 16 none [] none [] [
    ⟨some 42, none, .v fun s => some (s.get 8)⟩,
    ⟨some 43, none, .v fun s => some (s.get 7)⟩,
    ⟨some 44, none, .v fun s => idxArr 4 1 (s.get 3) (s.get 43)⟩,
    ⟨some 45, none, .v fun s => loadF false 1 (s.get 44)⟩,
    ⟨some 46, none, .v fun s => some (s.get 9)⟩,
    ⟨some 47, none, .v fun s => binA prog .shr 5 (s.get 45) (s.get 46)⟩,
    ⟨some 48, none, .v fun s => binA prog .and 5 (s.get 47) (.int .u8 1)⟩,
    ⟨some 49, none, .v fun s => binA prog .eql 5 (s.get 48) (.int .u8 1)⟩,
    ⟨some 50, none, .v fun s => bslF 1 (bslA 1 1 [.bool false] [(0, (s.get 49))])⟩,
    ⟨some 51, none, .w false none fun s => appendA 1 1 s.m (s.get 42) (s.get 50)⟩,
    ⟨some 8, none, .v fun s => some (s.get 51)⟩] K s := (den_reg hf _ K s).trans (by kernel_rfl)
theorem r9_eq (K : List Item) (s : St) : den prog ann 16 (.code r9 :: K) s = mreg prog ann 16 (some [3, 5, 6, 7, 8, 9]) [] none [] [
    ⟨some 40, none, .v fun s => some (s.get 9)⟩,
    ⟨some 41, none, .v fun s => binA prog .add 3 (s.get 40) (.int .i64 1)⟩,
    ⟨some 9, none, .v fun s => some (s.get 41)⟩] K s := (den_reg hf _ K s).trans (by kernel_rfl)
theorem r11_eq (K : List Item) (s : St) : den prog ann 16 (.code r11 :: K) s = mreg prog ann 16 (some [3, 5, 6, 7, 8]) [8] none [] [
    ⟨some 52, none, .v fun s => some (s.get 6)⟩,
    ⟨some 53, none, .v fun s => some (s.get 8)⟩,
    ⟨some 54, none, .v fun s => bslF 1 (bslA 1 1 [.nils] [(0, (s.get 53))])⟩,
    ⟨some 55, none, .w false none fun s => appendA 1 24 s.m (s.get 52) (s.get 54)⟩,
    ⟨some 6, none, .v fun s => some (s.get 55)⟩] K s := (den_reg hf _ K s).trans (by kernel_rfl)
theorem r5_eq (K : List Item) (s : St) : den prog ann 16 (.code r5 :: K) s = mreg prog ann 16 (some [3, 5, 6, 7]) [] none [] [
    ⟨some 30, none, .v fun s => some (s.get 7)⟩,
    ⟨some 31, none, .v fun s => binA prog .add 3 (s.get 30) (.int .i64 1)⟩,
    ⟨some 7, none, .v fun s => some (s.get 31)⟩] K s := (den_reg hf _ K s).trans (by kernel_rfl)
theorem r12_eq (K : List Item) (s : St) : den prog ann 16 (.code r12 :: K) s = mreg prog ann 16 (some [5, 6]) [6] none [] [
    ⟨some 57, none, .v fun s => loadF true 2 (s.get 5)⟩,
    ⟨some 58, none, .v fun s => some (s.get 6)⟩,
    ⟨some 59, none, .c 2 (fun s => (.fn 55 [] [])) fun s => [(s.get 57), (s.get 58)]⟩,
    ⟨some 56, none, .v fun s => some (s.get 59)⟩,
    ⟨some 60, none, .v fun s => extA (s.get 56) 0⟩,
    ⟨some 61, none, .v fun s => extA (s.get 56) 1⟩,
    ⟨some 10, none, .v fun s => some (s.get 60)⟩,
    ⟨some 11, none, .v fun s => some (s.get 61)⟩] K s := (den_reg hf _ K s).trans (by kernel_rfl)
theorem r13_eq (K : List Item) (s : St) : den prog ann 16 (.code r13 :: K) s = mreg prog ann 16 none [] none [] [
    ⟨some 63, none, .v fun s => loadF true 2 (s.get 5)⟩,
    ⟨some 64, none, .v fun s => some (s.get 6)⟩,
    ⟨some 65, none, .c 2 (fun s => (.fn 56 [] [])) fun s => [(s.get 63), (s.get 64)]⟩,
    ⟨some 62, none, .v fun s => some (s.get 65)⟩,
    ⟨some 66, none, .v fun s => extA (s.get 62) 0⟩,
    ⟨some 67, none, .v fun s => extA (s.get 62) 1⟩,
    ⟨some 12, none, .v fun s => some (s.get 66)⟩,
    ⟨some 13, none, .v fun s => some (s.get 67)⟩] K s := (den_reg hf _ K s).trans (by kernel_rfl)
theorem r14_eq (K : List Item) (s : St) : den prog ann 16 (.code r14 :: K) s = mreg prog ann 16 none [] none [] [
    ⟨some 68, none, .v fun s => loadF true 2 (s.get 5)⟩,
    ⟨some 69, none, .v fun s => some (s.get 6)⟩,
    ⟨some 70, none, .c 2 (fun s => (.fn 58 [] [])) fun s => [(s.get 68), (s.get 69)]⟩,
    ⟨some 14, none, .v fun s => some (s.get 70)⟩] K s := (den_reg hf _ K s).trans (by kernel_rfl)
theorem r15_eq (K : List Item) (s : St) : den prog ann 16 (.code r15 :: K) s = mreg prog ann 16 none [] none [] [
    ⟨some 72, none, .v fun s => loadF true 2 (s.get 5)⟩,
    ⟨some 73, none, .v fun s => some (s.get 14)⟩,
    ⟨some 74, none, .c 2 (fun s => (.fn 38 [] [])) fun s => [(s.get 72), (s.get 73)]⟩,
    ⟨some 71, none, .v fun s => some (s.get 74)⟩,
    ⟨some 75, none, .v fun s => extA (s.get 71) 0⟩,
    ⟨some 76, none, .v fun s => extA (s.get 71) 1⟩,
    ⟨some 15, none, .v fun s => some (s.get 75)⟩,
    ⟨some 16, none, .v fun s => some (s.get 76)⟩] K s := (den_reg hf _ K s).trans (by kernel_rfl)
theorem r16_eq (K : List Item) (s : St) : den prog ann 16 (.code r16 :: K) s = mreg prog ann 16 none [] none [] [
    ⟨some 77, none, .v fun s => some (s.get 11)⟩,
    ⟨some 78, none, .v fun s => some (s.get 13)⟩,
    ⟨some 79, none, .v fun s => binA prog .neq 27 (s.get 77) (s.get 78)⟩,
    ⟨some 80, none, .v fun s => some (s.get 79)⟩,
    ⟨some 81, some (80, false), .v fun s => some (s.get 11)⟩,
    ⟨some 82, some (80, false), .v fun s => some (s.get 16)⟩,
    ⟨some 83, some (80, false), .v fun s => binA prog .neq 27 (s.get 81) (s.get 82)⟩,
    ⟨some 84, none, .v fun s => pickA (s.get 80) (.bool true) (s.get 83)⟩,
    ⟨some 85, none, .v fun s => some (s.get 84)⟩,
    ⟨some 86, some (85, false), .c 0 (fun s => (.fn 22 [] [])) fun s => []⟩,
    ⟨some 87, some (85, false), .v fun s => unA .not (s.get 86)⟩,
    ⟨some 88, none, .v fun s => pickA (s.get 85) (.bool true) (s.get 87)⟩] K s := (den_reg hf _ K s).trans (by kernel_rfl)
theorem i2_eq (K : List Item) (s : St) : den prog ann 16 (.code i2 :: K) s = ifV prog ann 16 88 i2t i2e K s (s.get 88) := den_if hf (by kernel_rfl) K s
theorem i2t_eq (K : List Item) (s : St) : den prog ann 16 (.code i2t :: K) s = den prog ann 16 (.code r17 :: .code .ret :: K) s := den_flat hf (l := [r17, .ret]) (by kernel_rfl) K s
theorem r17_eq (K : List Item) (s : St) : den prog ann 16 (.code r17 :: K) s = mreg prog ann 16 none [] none [] [
    ⟨some 4, none, .v fun s => some (.bool false)⟩] K s := (den_reg hf _ K s).trans (by kernel_rfl)
theorem i2e_eq (K : List Item) (s : St) : den prog ann 16 (.code i2e :: K) s = den prog ann 16 (K) s := den_flat hf (l := []) (by kernel_rfl) K s
theorem r18_eq (K : List Item) (s : St) : den prog ann 16 (.code r18 :: K) s = mreg prog ann 16 none [] none [] [
    ⟨some 89, none, .v fun s => some (s.get 11)⟩,
    ⟨some 90, none, .v fun s => binA prog .neq 27 (s.get 89) (.int .i64 0)⟩] K s := (den_reg hf _ K s).trans (by kernel_rfl)
theorem i3_eq (K : List Item) (s : St) : den prog ann 16 (.code i3 :: K) s = ifV prog ann 16 90 i3t i3e K s (s.get 90) := den_if hf (by kernel_rfl) K s
theorem i3t_eq (K : List Item) (s : St) : den prog ann 16 (.code i3t :: K) s = den prog ann 16 (.code r19 :: .code .ret :: K) s := den_flat hf (l := [r19, .ret]) (by kernel_rfl) K s
theorem r19_eq (K : List Item) (s : St) : den prog ann 16 (.code r19 :: K) s = mreg prog ann 16 none [] none [] [
    ⟨some 91, none, .v fun s => some (s.get 11)⟩,
    ⟨some 92, none, .v fun s => binA prog .eql 27 (s.get 91) (.int .i64 5)⟩,
    ⟨some 93, none, .v fun s => some (s.get 92)⟩,
    ⟨some 94, some (93, true), .v fun s => some (s.get 14)⟩,
    ⟨some 95, some (93, true), .v fun s => lenSl (s.get 94)⟩,
    ⟨some 96, some (93, true), .v fun s => binA prog .eql 3 (s.get 95) (.int .i64 0)⟩,
    ⟨some 97, none, .v fun s => pickA (s.get 93) (s.get 96) (.bool false)⟩,
    ⟨some 4, none, .v fun s => some (s.get 97)⟩] K s := (den_reg hf _ K s).trans (by kernel_rfl)
theorem i3e_eq (K : List Item) (s : St) : den prog ann 16 (.code i3e :: K) s = den prog ann 16 (K) s := den_flat hf (l := []) (by kernel_rfl) K s
theorem r20_eq (K : List Item) (s : St) : den prog ann 16 (.code r20 :: K) s = mreg prog ann 16 none [] none [] [
    ⟨some 17, none, .v fun s => some (.bool false)⟩,
    ⟨some 18, none, .v fun s => some (.bool false)⟩] K s := (den_reg hf _ K s).trans (by kernel_rfl)
theorem r21_eq (K : List Item) (s : St) : den prog ann 16 (.code r21 :: K) s = mreg prog ann 16 none [] none [] [
    ⟨some 19, none, .v fun s => some (.int .i64 0)⟩] K s := (den_reg hf _ K s).trans (by kernel_rfl)
theorem k4_eq (K : List Item) (t : List (Nat × AV)) (m : Mem) : den prog ann 16 (.code k4 :: K) ⟨t, 163, m⟩ = L4 (get t 5) (get t 10) (get t 12) (get t 14) (get t 15) (get t 17) (get t 18) (get t 19) m K := den_loop_enter hf (b := l4) (id := 22) (l := [5, 10, 12, 14, 15, 17, 18, 19]) (by kernel_rfl) (by kernel_rfl) (by kernel_rfl) K _
theorem l4_eq (K : List Item) (t : List (Nat × AV)) (m : Mem) : den prog ann 16 (.inLoop l4 :: .inBlock 4 :: K) ⟨t, 163, m⟩ = L4 (get t 5) (get t 10) (get t 12) (get t 14) (get t 15) (get t 17) (get t 18) (get t 19) m K := den_loop_again hf (id := 22) (l := [5, 10, 12, 14, 15, 17, 18, 19]) (by kernel_rfl) (by kernel_rfl) (.inBlock 4 :: K) _
theorem L4_eq (x5 x10 x12 x14 x15 x17 x18 x19 : AV) (m : Mem) (K : List Item) : L4 x5 x10 x12 x14 x15 x17 x18 x19 m K = den prog ann 16 (.code r22 :: .code i4 :: .code k5 :: .code r23 :: .inLoop l4 :: .inBlock 4 :: K) ⟨[(5, x5), (10, x10), (12, x12), (14, x14), (15, x15), (17, x17), (18, x18), (19, x19)], 163, m⟩ := den_flat hf (l := [r22, i4, k5, r23]) (by kernel_rfl) _ _
theorem r22_eq (K : List Item) (s : St) : den prog ann 16 (.code r22 :: K) s = mreg prog ann 16 (some [5, 10, 12, 14, 15, 17, 18, 19]) [] none [] [
    ⟨some 98, none, .v fun s => some (s.get 19)⟩,
    ⟨some 99, none, .v fun s => some (s.get 14)⟩,
    ⟨some 100, none, .v fun s => lenSl (s.get 99)⟩,
    ⟨some 101, none, .v fun s => binA prog .lss 3 (s.get 98) (s.get 100)⟩] K s := (den_reg hf _ K s).trans (by kernel_rfl)
theorem i4_eq (K : List Item) (s : St) : den prog ann 16 (.code i4 :: K) s = ifV prog ann 16 101 i4t i4e K s (s.get 101) := den_if hf (by kernel_rfl) K s
theorem i4t_eq (K : List Item) (s : St) : den prog ann 16 (.code i4t :: K) s = den prog ann 16 (K) s := den_flat hf (l := []) (by kernel_rfl) K s
theorem i4e_eq (K : List Item) (s : St) : den prog ann 16 (.code i4e :: K) s = den prog ann 16 (.code (.exit 4) :: K) s := den_flat hf (l := [(.exit 4)]) (by kernel_rfl) K s
theorem k5_eq (K : List Item) (s : St) : den prog ann 16 (.code k5 :: K) s = den prog ann 16 (.code r24 :: .code i5 :: .code r26 :: .inBlock 5 :: K) s := den_blk hf (b := blkOf k5) (l := [r24, i5, r26]) (by kernel_rfl) (by kernel_rfl) K s
theorem r24_eq (K : List Item) (s : St) : den prog ann 16 (.code r24 :: K) s = mreg prog ann 16 none [] none [] [
    ⟨some 104, none, .v fun s => some (s.get 10)⟩,
    ⟨some 105, none, .v fun s => some (s.get 14)⟩,
    ⟨some 106, none, .v fun s => some (s.get 19)⟩,
    ⟨some 107, none, .v fun s => idxSl 1 (s.get 105) (s.get 106)⟩,
    ⟨some 108, none, .v fun s => loadF false 1 (s.get 107)⟩,
    ⟨some 109, none, .c 0 (fun s => (.fn 31 [] [])) fun s => [(s.get 104), (s.get 108)]⟩,
    ⟨some 110, none, .v fun s => unA .not (s.get 109)⟩,
    ⟨some 111, none, .v fun s => some (s.get 110)⟩,
    ⟨some 112, some (111, false), .v fun s => some (s.get 14)⟩,
    ⟨some 113, some (111, false), .v fun s => some (s.get 19)⟩,
    ⟨some 114, some (111, false), .v fun s => idxSl 1 (s.get 112) (s.get 113)⟩,
    ⟨some 115, some (111, false), .v fun s => loadF false 1 (s.get 114)⟩,
    ⟨some 116, some (111, false), .v fun s => some (s.get 12)⟩,
    ⟨some 117, some (111, false), .c 0 (fun s => (.fn 31 [] [])) fun s => [(s.get 115), (s.get 116)]⟩,
    ⟨some 118, some (111, false), .v fun s => unA .not (s.get 117)⟩,
    ⟨some 119, none, .v fun s => pickA (s.get 111) (.bool true) (s.get 118)⟩] K s := (den_reg hf _ K s).trans (by kernel_rfl)
theorem i5_eq (K : List Item) (s : St) : den prog ann 16 (.code i5 :: K) s = ifV prog ann 16 119 i5t i5e K s (s.get 119) := den_if hf (by kernel_rfl) K s
theorem i5t_eq (K : List Item) (s : St) : den prog ann 16 (.code i5t :: K) s = den prog ann 16 (.code r25 :: .code .ret :: K) s := den_flat hf (l := [r25, .ret]) (by kernel_rfl) K s
theorem r25_eq (K : List Item) (s : St) : den prog ann 16 (.code r25 :: K) s = mreg prog ann 16 none [] none [] [
    ⟨some 4, none, .v fun s => some (.bool false)⟩] K s := (den_reg hf _ K s).trans (by kernel_rfl)
theorem i5e_eq (K : List Item) (s : St) : den prog ann 16 (.code i5e :: K) s = den prog ann 16 (K) s := den_flat hf (l := []) (by kernel_rfl) K s
theorem r26_eq (K : List Item) (s : St) : den prog ann 16 (.code r26 :: K) s = mreg prog ann 16 none [] none [] [
    ⟨some 120, none, .v fun s => some (s.get 17)⟩,
    ⟨some 121, none, .v fun s => some (s.get 120)⟩,
    ⟨some 122, some (121, false), .v fun s => some (s.get 10)⟩,
    ⟨some 123, some (121, false), .v fun s => some (s.get 14)⟩,
    ⟨some 124, some (121, false), .v fun s => some (s.get 19)⟩,
    ⟨some 125, some (121, false), .v fun s => idxSl 1 (s.get 123) (s.get 124)⟩,
    ⟨some 126, some (121, false), .v fun s => loadF false 1 (s.get 125)⟩,
    ⟨some 127, some (121, false), .c 0 (fun s => (.fn 21 [] [])) fun s => [(s.get 122), (s.get 126)]⟩,
    ⟨some 128, none, .v fun s => pickA (s.get 121) (.bool true) (s.get 127)⟩,
    ⟨some 129, none, .v fun s => some (s.get 18)⟩,
    ⟨some 130, none, .v fun s => some (s.get 129)⟩,
    ⟨some 131, some (130, false), .v fun s => some (s.get 12)⟩,
    ⟨some 132, some (130, false), .v fun s => some (s.get 14)⟩,
    ⟨some 133, some (130, false), .v fun s => some (s.get 19)⟩,
    ⟨some 134, some (130, false), .v fun s => idxSl 1 (s.get 132) (s.get 133)⟩,
    ⟨some 135, some (130, false), .v fun s => loadF false 1 (s.get 134)⟩,
    ⟨some 136, some (130, false), .c 0 (fun s => (.fn 21 [] [])) fun s => [(s.get 131), (s.get 135)]⟩,
    ⟨some 137, none, .v fun s => pickA (s.get 130) (.bool true) (s.get 136)⟩,
    ⟨some 17, none, .v fun s => some (s.get 128)⟩,
    ⟨some 18, none, .v fun s => some (s.get 137)⟩] K s := (den_reg hf _ K s).trans (by kernel_rfl)
theorem r23_eq (K : List Item) (s : St) : den prog ann 16 (.code r23 :: K) s = mreg prog ann 16 (some [5, 10, 12, 14, 15, 17, 18, 19]) [] none [] [
    ⟨some 102, none, .v fun s => some (s.get 19)⟩,
    ⟨some 103, none, .v fun s => binA prog .add 3 (s.get 102) (.int .i64 1)⟩,
    ⟨some 19, none, .v fun s => some (s.get 103)⟩] K s := (den_reg hf _ K s).trans (by kernel_rfl)
theorem r27_eq (K : List Item) (s : St) : den prog ann 16 (.code r27 :: K) s = mreg prog ann 16 (some [5, 10, 12, 15, 17, 18]) [] none [] [
    ⟨some 139, none, .v fun s => loadF true 2 (s.get 5)⟩,
    ⟨some 140, none, .v fun s => some (s.get 12)⟩,
    ⟨some 141, none, .v fun s => bslF 1 (bslA 1 1 [.nils] [(0, (s.get 140))])⟩,
    ⟨some 142, none, .c 2 (fun s => (.fn 38 [] [])) fun s => [(s.get 139), (s.get 141)]⟩,
    ⟨some 138, none, .v fun s => some (s.get 142)⟩,
    ⟨some 143, none, .v fun s => extA (s.get 138) 0⟩,
    ⟨some 144, none, .v fun s => extA (s.get 138) 1⟩,
    ⟨some 20, none, .v fun s => some (s.get 143)⟩,
    ⟨some 21, none, .v fun s => some (s.get 144)⟩] K s := (den_reg hf _ K s).trans (by kernel_rfl)
theorem r28_eq (K : List Item) (s : St) : den prog ann 16 (.code r28 :: K) s = mreg prog ann 16 none [] none [] [
    ⟨some 145, none, .v fun s => some (s.get 17)⟩,
    ⟨some 146, none, .v fun s => some (s.get 145)⟩,
    ⟨some 147, some (146, true), .v fun s => some (s.get 18)⟩,
    ⟨some 148, none, .v fun s => pickA (s.get 146) (s.get 147) (.bool false)⟩,
    ⟨some 149, none, .v fun s => some (s.get 148)⟩,
    ⟨some 150, some (149, true), .v fun s => some (s.get 15)⟩,
    ⟨some 151, some (149, true), .v fun s => some (s.get 10)⟩,
    ⟨some 152, some (149, true), .c 0 (fun s => (.fn 21 [] [])) fun s => [(s.get 150), (s.get 151)]⟩,
    ⟨some 153, none, .v fun s => pickA (s.get 149) (s.get 152) (.bool false)⟩,
    ⟨some 154, none, .v fun s => some (s.get 153)⟩,
    ⟨some 155, some (154, true), .v fun s => some (s.get 21)⟩,
    ⟨some 156, some (154, true), .v fun s => binA prog .eql 27 (s.get 155) (.int .i64 0)⟩,
    ⟨some 157, none, .v fun s => pickA (s.get 154) (s.get 156) (.bool false)⟩,
    ⟨some 158, none, .v fun s => some (s.get 157)⟩,
    ⟨some 159, some (158, true), .v fun s => some (s.get 20)⟩,
    ⟨some 160, some (158, true), .v fun s => some (s.get 12)⟩,
    ⟨some 161, some (158, true), .c 0 (fun s => (.fn 21 [] [])) fun s => [(s.get 159), (s.get 160)]⟩,
    ⟨some 162, none, .v fun s => pickA (s.get 158) (s.get 161) (.bool false)⟩,
    ⟨some 4, none, .v fun s => some (s.get 162)⟩] K s := (den_reg hf _ K s).trans (by kernel_rfl)
theorem ret_eq (K : List Item) (s : St) : den prog ann 16 (.code .ret :: K) s = finM true [fun s => some (s.get 4)] s := (den_ret hf K s).trans (by kernel_rfl)
theorem nil_eq (s : St) : den prog ann 16 [] s = finM true [fun s => some (s.get 4)] s := (den_nil hf s).trans (by kernel_rfl)
theorem inBlock_eq (id : Nat) (K : List Item) (s : St) : den prog ann 16 (.inBlock id :: K) s = den prog ann 16 K s := den_inBlock hf id K s
theorem exit_eq (id : Nat) (K : List Item) (s : St) : den prog ann 16 (.code (.exit id) :: K) s = exitV prog ann 16 (exitTo id K) s := den_exitV hf id K s
theorem call_eq (v0 v1 : AV) (m : Mem) (h : closedL [v0, v1] = true) : denC prog ann 16 [v0, v1] m = (den prog ann 16 [.code b] ⟨[(0, v0), (1, v1)], 163, Mem.empty⟩).bind fun r => some (r.1, m) := (denC_pure hf (b := b) (by kernel_rfl) (by kernel_rfl) (by kernel_rfl) h m).trans (by kernel_rfl)
theorem pure_eq : (ann 16).pure = true := by kernel_rfl
attribute [simp] b_eq r0_eq r1_eq r2_eq r3_eq k0_eq l0_eq r4_eq i0_eq i0t_eq i0e_eq k1_eq r6_eq r7_eq k2_eq l2_eq r8_eq i1_eq i1t_eq i1e_eq k3_eq r10_eq r9_eq r11_eq r5_eq r12_eq r13_eq r14_eq r15_eq r16_eq i2_eq i2t_eq r17_eq i2e_eq r18_eq i3_eq i3t_eq r19_eq i3e_eq r20_eq r21_eq k4_eq l4_eq r22_eq i4_eq i4t_eq i4e_eq k5_eq r24_eq i5_eq i5t_eq r25_eq i5e_eq r26_eq r23_eq r27_eq r28_eq ret_eq nil_eq inBlock_eq exit_eq pure_eq
end l09_WatchGarg
end Go.Proofs.Ytdkmepjedjclkaa
