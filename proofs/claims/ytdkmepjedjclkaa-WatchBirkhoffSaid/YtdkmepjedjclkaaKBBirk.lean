/-
  BODIES OF FUNCTIONS OF THE PROGRAM AS SMALL OPERATIONS (written by gen.py; checked by the kernel against the program). Conditions: none.
-/
import Derived.Test.YtdkmepjedjclkaaKAmH
set_option linter.all false
namespace Go.Proofs.Ytdkmepjedjclkaa
open Go.AM
open Go.Proofs.Try (prog)
set_option maxRecDepth 100000
set_option linter.all false

namespace watch_Cuts
/-- pommel/watch.Cuts -/
noncomputable def b : Code := (Try.f35.body).getD .skip
theorem hf : prog.funcs[35]? = some Try.f35 := by kernel_rfl
noncomputable def r0 : Code := findReg b 0
noncomputable def r1 : Code := findReg b 1
noncomputable def r2 : Code := findReg b 2
noncomputable def i0 : Code := findCond b 0
noncomputable def i0t : Code := thenOf i0
noncomputable def i0e : Code := elseOf i0
noncomputable def r3 : Code := findReg b 3
noncomputable def r4 : Code := findReg b 4
theorem b_eq (K : List Item) (s : St) : den prog ann 35 (.code b :: K) s = den prog ann 35 (.code r0 :: .code r1 :: .code r2 :: .code i0 :: .code r4 :: .code .ret :: K) s := den_flat hf (l := [r0, r1, r2, i0, r4, .ret]) (by kernel_rfl) K s
theorem r0_eq (K : List Item) (s : St) : den prog ann 35 (.code r0 :: K) s = mreg prog ann 35 none [] none [] [
    ⟨some 1, none, .v fun s => frozenPtr (s.get 0)⟩,
    ⟨some 2, none, .v fun s => some (.int .i64 0)⟩,
    ⟨some 3, none, .v fun s => some (.int .i64 0)⟩] K s := (den_reg hf _ K s).trans (by kernel_rfl)
theorem r1_eq (K : List Item) (s : St) : den prog ann 35 (.code r1 :: K) s = mreg prog ann 35 none [] none [] [
    ⟨some 7, none, .v fun s => loadF true 2 (s.get 1)⟩,
    ⟨some 8, none, .c 0 (fun s => (.fn 61 [] [])) fun s => [(s.get 7)]⟩,
    ⟨some 6, none, .v fun s => some (s.get 8)⟩,
    ⟨some 9, none, .v fun s => extA (s.get 6) 0⟩,
    ⟨some 10, none, .v fun s => extA (s.get 6) 1⟩,
    ⟨some 4, none, .v fun s => some (s.get 9)⟩,
    ⟨some 5, none, .v fun s => some (s.get 10)⟩] K s := (den_reg hf _ K s).trans (by kernel_rfl)
theorem r2_eq (K : List Item) (s : St) : den prog ann 35 (.code r2 :: K) s = mreg prog ann 35 none [] none [] [
    ⟨some 11, none, .v fun s => some (s.get 5)⟩,
    ⟨some 12, none, .v fun s => unA .not (s.get 11)⟩] K s := (den_reg hf _ K s).trans (by kernel_rfl)
theorem i0_eq (K : List Item) (s : St) : den prog ann 35 (.code i0 :: K) s = ifV prog ann 35 12 i0t i0e K s (s.get 12) := den_if hf (by kernel_rfl) K s
theorem i0t_eq (K : List Item) (s : St) : den prog ann 35 (.code i0t :: K) s = den prog ann 35 (.code r3 :: .code .ret :: K) s := den_flat hf (l := [r3, .ret]) (by kernel_rfl) K s
theorem r3_eq (K : List Item) (s : St) : den prog ann 35 (.code r3 :: K) s = mreg prog ann 35 none [] none [] [
    ⟨some 2, none, .v fun s => some (.int .i64 0)⟩,
    ⟨some 3, none, .v fun s => some (.int .i64 1)⟩] K s := (den_reg hf _ K s).trans (by kernel_rfl)
theorem i0e_eq (K : List Item) (s : St) : den prog ann 35 (.code i0e :: K) s = den prog ann 35 (K) s := den_flat hf (l := []) (by kernel_rfl) K s
theorem r4_eq (K : List Item) (s : St) : den prog ann 35 (.code r4 :: K) s = mreg prog ann 35 none [] none [] [
    ⟨some 13, none, .v fun s => some (s.get 4)⟩,
    ⟨some 14, none, .c 0 (fun s => (.fn 62 [] [])) fun s => [(s.get 13)]⟩,
    ⟨some 15, none, .v fun s => lenSl (s.get 14)⟩,
    ⟨some 2, none, .v fun s => some (s.get 15)⟩,
    ⟨some 3, none, .v fun s => some (.int .i64 0)⟩] K s := (den_reg hf _ K s).trans (by kernel_rfl)
theorem ret_eq (K : List Item) (s : St) : den prog ann 35 (.code .ret :: K) s = finM true [fun s => some (s.get 2), fun s => some (s.get 3)] s := (den_ret hf K s).trans (by kernel_rfl)
theorem nil_eq (s : St) : den prog ann 35 [] s = finM true [fun s => some (s.get 2), fun s => some (s.get 3)] s := (den_nil hf s).trans (by kernel_rfl)
theorem inBlock_eq (id : Nat) (K : List Item) (s : St) : den prog ann 35 (.inBlock id :: K) s = den prog ann 35 K s := den_inBlock hf id K s
theorem exit_eq (id : Nat) (K : List Item) (s : St) : den prog ann 35 (.code (.exit id) :: K) s = exitV prog ann 35 (exitTo id K) s := den_exitV hf id K s
theorem call_eq (v0 : AV) (m : Mem) (h : closedL [v0] = true) : denC prog ann 35 [v0] m = (den prog ann 35 [.code b] ⟨[(0, v0)], 16, Mem.empty⟩).bind fun r => some (r.1, m) := (denC_pure hf (b := b) (by kernel_rfl) (by kernel_rfl) (by kernel_rfl) h m).trans (by kernel_rfl)
theorem pure_eq : (ann 35).pure = true := by kernel_rfl
attribute [simp] b_eq r0_eq r1_eq r2_eq i0_eq i0t_eq r3_eq i0e_eq r4_eq ret_eq nil_eq inBlock_eq exit_eq pure_eq
end watch_Cuts

namespace l09_WatchBirkhoff
/-- pommel/pommellaw09.WatchBirkhoff -/
noncomputable def b : Code := (Try.f14.body).getD .skip
theorem hf : prog.funcs[14]? = some Try.f14 := by kernel_rfl
noncomputable def r0 : Code := findReg b 0
noncomputable def r1 : Code := findReg b 1
noncomputable def r2 : Code := findReg b 2
noncomputable def r3 : Code := findReg b 3
noncomputable def r4 : Code := findReg b 4
noncomputable def i0 : Code := findCond b 0
noncomputable def i0t : Code := thenOf i0
noncomputable def i0e : Code := elseOf i0
noncomputable def r5 : Code := findReg b 5
noncomputable def r6 : Code := findReg b 6
noncomputable def r7 : Code := findReg b 7
noncomputable def r8 : Code := findReg b 8
noncomputable def i1 : Code := findCond b 1
noncomputable def i1t : Code := thenOf i1
noncomputable def i1e : Code := elseOf i1
noncomputable def r9 : Code := findReg b 9
noncomputable def r10 : Code := findReg b 10
noncomputable def r11 : Code := findReg b 11
noncomputable def k0 : Code := findBlk b 0
noncomputable def l0 : Code := loopOf k0
noncomputable def L0 (x5 x6 x10 x14 x15 : AV) (m : Mem) (K : List Item) : Option Res := den prog ann 14 (.code l0 :: .inLoop l0 :: .inBlock 0 :: K) ⟨[(5, x5), (6, x6), (10, x10), (14, x14), (15, x15)], 156, m⟩
noncomputable def r12 : Code := findReg b 12
noncomputable def i2 : Code := findCond b 2
noncomputable def i2t : Code := thenOf i2
noncomputable def i2e : Code := elseOf i2
noncomputable def k1 : Code := findBlk b 1
noncomputable def r14 : Code := findReg b 14
noncomputable def i3 : Code := findCond b 3
noncomputable def i3t : Code := thenOf i3
noncomputable def i3e : Code := elseOf i3
noncomputable def r15 : Code := findReg b 15
noncomputable def r16 : Code := findReg b 16
noncomputable def k2 : Code := findBlk b 2
noncomputable def l2 : Code := loopOf k2
noncomputable def L2 (x5 x6 x10 x14 x15 x16 : AV) (m : Mem) (K : List Item) : Option Res := den prog ann 14 (.code l2 :: .inLoop l2 :: .inBlock 2 :: K) ⟨[(5, x5), (6, x6), (10, x10), (14, x14), (15, x15), (16, x16)], 156, m⟩
noncomputable def r17 : Code := findReg b 17
noncomputable def i4 : Code := findCond b 4
noncomputable def i4t : Code := thenOf i4
noncomputable def i4e : Code := elseOf i4
noncomputable def k3 : Code := findBlk b 3
noncomputable def r19 : Code := findReg b 19
noncomputable def r20 : Code := findReg b 20
noncomputable def i5 : Code := findCond b 5
noncomputable def i5t : Code := thenOf i5
noncomputable def i5e : Code := elseOf i5
noncomputable def r21 : Code := findReg b 21
noncomputable def r18 : Code := findReg b 18
noncomputable def r22 : Code := findReg b 22
noncomputable def i6 : Code := findCond b 6
noncomputable def i6t : Code := thenOf i6
noncomputable def i6e : Code := elseOf i6
noncomputable def r23 : Code := findReg b 23
noncomputable def r13 : Code := findReg b 13
noncomputable def r24 : Code := findReg b 24
theorem b_eq (K : List Item) (s : St) : den prog ann 14 (.code b :: K) s = den prog ann 14 (.code r0 :: .code r1 :: .code r2 :: .code r3 :: .code r4 :: .code i0 :: .code r6 :: .code r7 :: .code r8 :: .code i1 :: .code r10 :: .code r11 :: .code k0 :: .code r24 :: .code .ret :: K) s := den_flat hf (l := [r0, r1, r2, r3, r4, i0, r6, r7, r8, i1, r10, r11, k0, r24, .ret]) (by kernel_rfl) K s
theorem r0_eq (K : List Item) (s : St) : den prog ann 14 (.code r0 :: K) s = mreg prog ann 14 none [] none [] [
    ⟨some 2, none, .v fun s => frozenPtr (s.get 0)⟩,
    ⟨some 4, none, .v fun s => some (.bool false)⟩] K s := (den_reg hf _ K s).trans (by kernel_rfl)
theorem r1_eq (K : List Item) (s : St) : den prog ann 14 (.code r1 :: K) s = mreg prog ann 14 none [] none [5] [
    ⟨some 19, none, .v fun s => loadF true 6 (s.get 2)⟩,
    ⟨some 20, none, .c 0 (fun s => (.fn 23 [] [])) fun s => [(s.get 19)]⟩,
    ⟨some 5, none, .w false none fun s => newPtr s.m [.nils, .nils]⟩,
    ⟨none, none, .w false none fun s => stA true 2 s.m (s.get 5) (s.get 20)⟩] K s := (den_reg hf _ K s).trans (by kernel_rfl)
theorem r2_eq (K : List Item) (s : St) : den prog ann 14 (.code r2 :: K) s = mreg prog ann 14 none [] none [] [
    ⟨some 22, none, .v fun s => loadF true 2 (s.get 5)⟩,
    ⟨some 23, none, .c 2 (fun s => (.fn 43 [] [])) fun s => [(s.get 22)]⟩,
    ⟨some 21, none, .v fun s => some (s.get 23)⟩,
    ⟨some 24, none, .v fun s => extA (s.get 21) 0⟩,
    ⟨some 25, none, .v fun s => extA (s.get 21) 1⟩,
    ⟨some 6, none, .v fun s => some (s.get 24)⟩,
    ⟨some 7, none, .v fun s => some (s.get 25)⟩] K s := (den_reg hf _ K s).trans (by kernel_rfl)
theorem r3_eq (K : List Item) (s : St) : den prog ann 14 (.code r3 :: K) s = mreg prog ann 14 none [] none [] [
    ⟨some 27, none, .v fun s => loadF true 2 (s.get 5)⟩,
    ⟨some 28, none, .c 0 (fun s => (.fn 35 [] [])) fun s => [(s.get 27)]⟩,
    ⟨some 26, none, .v fun s => some (s.get 28)⟩,
    ⟨some 29, none, .v fun s => extA (s.get 26) 0⟩,
    ⟨some 30, none, .v fun s => extA (s.get 26) 1⟩,
    ⟨some 8, none, .v fun s => some (s.get 29)⟩,
    ⟨some 9, none, .v fun s => some (s.get 30)⟩] K s := (den_reg hf _ K s).trans (by kernel_rfl)
theorem r4_eq (K : List Item) (s : St) : den prog ann 14 (.code r4 :: K) s = mreg prog ann 14 none [] none [] [
    ⟨some 31, none, .v fun s => some (s.get 7)⟩,
    ⟨some 32, none, .v fun s => binA prog .neq 27 (s.get 31) (.int .i64 0)⟩,
    ⟨some 33, none, .v fun s => some (s.get 32)⟩,
    ⟨some 34, some (33, false), .v fun s => some (s.get 9)⟩,
    ⟨some 35, some (33, false), .v fun s => binA prog .neq 27 (s.get 34) (.int .i64 0)⟩,
    ⟨some 36, none, .v fun s => pickA (s.get 33) (.bool true) (s.get 35)⟩,
    ⟨some 37, none, .v fun s => some (s.get 36)⟩,
    ⟨some 38, some (37, false), .v fun s => some (s.get 8)⟩,
    ⟨some 39, some (37, false), .v fun s => binA prog .lss 3 (s.get 38) (.int .i64 1)⟩,
    ⟨some 40, none, .v fun s => pickA (s.get 37) (.bool true) (s.get 39)⟩,
    ⟨some 41, none, .v fun s => some (s.get 40)⟩,
    ⟨some 42, some (41, false), .v fun s => some (s.get 6)⟩,
    ⟨some 43, some (41, false), .v fun s => lenSl (s.get 42)⟩,
    ⟨some 44, some (41, false), .v fun s => fieldA 0 (s.get 5)⟩,
    ⟨some 45, some (41, false), .v fun s => loadF false 1 (s.get 44)⟩,
    ⟨some 46, some (41, false), .v fun s => lenSl (s.get 45)⟩,
    ⟨some 47, some (41, false), .v fun s => binA prog .neq 3 (s.get 43) (s.get 46)⟩,
    ⟨some 48, none, .v fun s => pickA (s.get 41) (.bool true) (s.get 47)⟩,
    ⟨some 49, none, .v fun s => some (s.get 48)⟩,
    ⟨some 50, some (49, false), .c 0 (fun s => (.fn 22 [] [])) fun s => []⟩,
    ⟨some 51, some (49, false), .v fun s => unA .not (s.get 50)⟩,
    ⟨some 52, none, .v fun s => pickA (s.get 49) (.bool true) (s.get 51)⟩] K s := (den_reg hf _ K s).trans (by kernel_rfl)
theorem i0_eq (K : List Item) (s : St) : den prog ann 14 (.code i0 :: K) s = ifV prog ann 14 52 i0t i0e K s (s.get 52) := den_if hf (by kernel_rfl) K s
theorem i0t_eq (K : List Item) (s : St) : den prog ann 14 (.code i0t :: K) s = den prog ann 14 (.code r5 :: .code .ret :: K) s := den_flat hf (l := [r5, .ret]) (by kernel_rfl) K s
theorem r5_eq (K : List Item) (s : St) : den prog ann 14 (.code r5 :: K) s = mreg prog ann 14 none [] none [] [
    ⟨some 4, none, .v fun s => some (.bool false)⟩] K s := (den_reg hf _ K s).trans (by kernel_rfl)
theorem i0e_eq (K : List Item) (s : St) : den prog ann 14 (.code i0e :: K) s = den prog ann 14 (K) s := den_flat hf (l := []) (by kernel_rfl) K s
theorem r6_draw : drawOk (fun g => (ann g).pure) (modeOf (ann 14) (idOf r6)) (frzOf (ann 14) (idOf r6)) (opsOf r6) = true := drawOk_of (an := [0, 0, 2, 0, 14, 31, 63, 127, 127, 255, 1023]) (by kernel_rfl) (by kernel_rfl)
theorem r6_eq (K : List Item) (s : St) : den prog ann 14 (.code r6 :: K) s = mreg prog ann 14 none [] (some 11) [] [
    ⟨some 54, none, .v fun s => loadF true 2 (s.get 5)⟩,
    ⟨some 55, none, .v fun s => some (s.get 1)⟩,
    ⟨some 56, none, .v fun s => convInt .i64 (s.get 55)⟩,
    ⟨some 57, none, .v fun s => some (s.get 8)⟩,
    ⟨some 58, none, .v fun s => binA prog .rem 3 (s.get 56) (s.get 57)⟩,
    ⟨some 59, none, .c 0 (fun s => (.fn 18 [] [])) fun s => [(s.get 54), (s.get 58)]⟩,
    ⟨some 53, none, .v fun s => some (s.get 59)⟩,
    ⟨some 60, none, .v fun s => extA (s.get 53) 0⟩,
    ⟨some 61, none, .v fun s => extA (s.get 53) 1⟩,
    ⟨some 10, none, .v fun s => some (s.get 60)⟩,
    ⟨some 11, none, .v fun s => some (s.get 61)⟩] K s := (den_regD hf r6_draw K s).trans (by kernel_rfl)
theorem r7_eq (K : List Item) (s : St) : den prog ann 14 (.code r7 :: K) s = mreg prog ann 14 none [] none [] [
    ⟨some 63, none, .v fun s => loadF true 2 (s.get 5)⟩,
    ⟨some 64, none, .v fun s => some (s.get 10)⟩,
    ⟨some 65, none, .c 0 (fun s => (.fn 45 [] [])) fun s => [(s.get 63), (s.get 64)]⟩,
    ⟨some 62, none, .v fun s => some (s.get 65)⟩,
    ⟨some 66, none, .v fun s => extA (s.get 62) 0⟩,
    ⟨some 67, none, .v fun s => extA (s.get 62) 1⟩,
    ⟨some 12, none, .v fun s => some (s.get 66)⟩,
    ⟨some 13, none, .v fun s => some (s.get 67)⟩] K s := (den_reg hf _ K s).trans (by kernel_rfl)
theorem r8_eq (K : List Item) (s : St) : den prog ann 14 (.code r8 :: K) s = mreg prog ann 14 none [] none [] [
    ⟨some 68, none, .v fun s => some (s.get 11)⟩,
    ⟨some 69, none, .v fun s => binA prog .neq 27 (s.get 68) (.int .i64 0)⟩,
    ⟨some 70, none, .v fun s => some (s.get 69)⟩,
    ⟨some 71, some (70, false), .v fun s => some (s.get 13)⟩,
    ⟨some 72, some (70, false), .v fun s => binA prog .neq 27 (s.get 71) (.int .i64 0)⟩,
    ⟨some 73, none, .v fun s => pickA (s.get 70) (.bool true) (s.get 72)⟩,
    ⟨some 74, none, .v fun s => some (s.get 73)⟩,
    ⟨some 75, some (74, false), .v fun s => some (s.get 12)⟩,
    ⟨some 76, some (74, false), .v fun s => some (s.get 1)⟩,
    ⟨some 77, some (74, false), .v fun s => convInt .i64 (s.get 76)⟩,
    ⟨some 78, some (74, false), .v fun s => some (s.get 8)⟩,
    ⟨some 79, some (74, false), .v fun s => binA prog .rem 3 (s.get 77) (s.get 78)⟩,
    ⟨some 80, some (74, false), .v fun s => binA prog .neq 3 (s.get 75) (s.get 79)⟩,
    ⟨some 81, none, .v fun s => pickA (s.get 74) (.bool true) (s.get 80)⟩,
    ⟨some 82, none, .v fun s => some (s.get 81)⟩,
    ⟨some 83, some (82, false), .v fun s => loadF true 2 (s.get 5)⟩,
    ⟨some 84, some (82, false), .v fun s => some (s.get 10)⟩,
    ⟨some 85, some (82, false), .c 0 (fun s => (.fn 27 [] [])) fun s => [(s.get 83), (s.get 84)]⟩,
    ⟨some 86, some (82, false), .v fun s => unA .not (s.get 85)⟩,
    ⟨some 87, none, .v fun s => pickA (s.get 82) (.bool true) (s.get 86)⟩] K s := (den_reg hf _ K s).trans (by kernel_rfl)
theorem i1_eq (K : List Item) (s : St) : den prog ann 14 (.code i1 :: K) s = ifV prog ann 14 87 i1t i1e K s (s.get 87) := den_if hf (by kernel_rfl) K s
theorem i1t_eq (K : List Item) (s : St) : den prog ann 14 (.code i1t :: K) s = den prog ann 14 (.code r9 :: .code .ret :: K) s := den_flat hf (l := [r9, .ret]) (by kernel_rfl) K s
theorem r9_eq (K : List Item) (s : St) : den prog ann 14 (.code r9 :: K) s = mreg prog ann 14 none [] none [] [
    ⟨some 4, none, .v fun s => some (.bool false)⟩] K s := (den_reg hf _ K s).trans (by kernel_rfl)
theorem i1e_eq (K : List Item) (s : St) : den prog ann 14 (.code i1e :: K) s = den prog ann 14 (K) s := den_flat hf (l := []) (by kernel_rfl) K s
theorem r10_eq (K : List Item) (s : St) : den prog ann 14 (.code r10 :: K) s = mreg prog ann 14 none [] none [14] [
    ⟨some 88, none, .v fun s => some (s.get 10)⟩,
    ⟨some 89, none, .v fun s => lenSl (s.get 88)⟩,
    ⟨some 90, none, .w false none fun s => makeA 1 8 (.int .i64 0) s.m (s.get 89) (s.get 89)⟩,
    ⟨some 14, none, .v fun s => some (s.get 90)⟩] K s := (den_reg hf _ K s).trans (by kernel_rfl)
theorem r11_eq (K : List Item) (s : St) : den prog ann 14 (.code r11 :: K) s = mreg prog ann 14 none [] none [] [
    ⟨some 15, none, .v fun s => some (.int .i64 0)⟩] K s := (den_reg hf _ K s).trans (by kernel_rfl)
theorem k0_eq (K : List Item) (t : List (Nat × AV)) (m : Mem) : den prog ann 14 (.code k0 :: K) ⟨t, 156, m⟩ = L0 (get t 5) (get t 6) (get t 10) (get t 14) (get t 15) m K := den_loop_enter hf (b := l0) (id := 12) (l := [5, 6, 10, 14, 15]) (by kernel_rfl) (by kernel_rfl) (by kernel_rfl) K _
theorem l0_eq (K : List Item) (t : List (Nat × AV)) (m : Mem) : den prog ann 14 (.inLoop l0 :: .inBlock 0 :: K) ⟨t, 156, m⟩ = L0 (get t 5) (get t 6) (get t 10) (get t 14) (get t 15) m K := den_loop_again hf (id := 12) (l := [5, 6, 10, 14, 15]) (by kernel_rfl) (by kernel_rfl) (.inBlock 0 :: K) _
theorem L0_eq (x5 x6 x10 x14 x15 : AV) (m : Mem) (K : List Item) : L0 x5 x6 x10 x14 x15 m K = den prog ann 14 (.code r12 :: .code i2 :: .code k1 :: .code r13 :: .inLoop l0 :: .inBlock 0 :: K) ⟨[(5, x5), (6, x6), (10, x10), (14, x14), (15, x15)], 156, m⟩ := den_flat hf (l := [r12, i2, k1, r13]) (by kernel_rfl) _ _
theorem r12_eq (K : List Item) (s : St) : den prog ann 14 (.code r12 :: K) s = mreg prog ann 14 (some [5, 6, 10, 14, 15]) [] none [] [
    ⟨some 91, none, .v fun s => some (s.get 15)⟩,
    ⟨some 92, none, .v fun s => some (s.get 10)⟩,
    ⟨some 93, none, .v fun s => lenSl (s.get 92)⟩,
    ⟨some 94, none, .v fun s => binA prog .lss 3 (s.get 91) (s.get 93)⟩] K s := (den_reg hf _ K s).trans (by kernel_rfl)
theorem i2_eq (K : List Item) (s : St) : den prog ann 14 (.code i2 :: K) s = ifV prog ann 14 94 i2t i2e K s (s.get 94) := den_if hf (by kernel_rfl) K s
theorem i2t_eq (K : List Item) (s : St) : den prog ann 14 (.code i2t :: K) s = den prog ann 14 (K) s := den_flat hf (l := []) (by kernel_rfl) K s
theorem i2e_eq (K : List Item) (s : St) : den prog ann 14 (.code i2e :: K) s = den prog ann 14 (.code (.exit 0) :: K) s := den_flat hf (l := [(.exit 0)]) (by kernel_rfl) K s
theorem k1_eq (K : List Item) (s : St) : den prog ann 14 (.code k1 :: K) s = den prog ann 14 (.code r14 :: .code i3 :: .code r16 :: .code k2 :: .code r22 :: .code i6 :: .inBlock 1 :: K) s := den_blk hf (b := blkOf k1) (l := [r14, i3, r16, k2, r22, i6]) (by kernel_rfl) (by kernel_rfl) K s
theorem r14_draw : drawOk (fun g => (ann g).pure) (modeOf (ann 14) (idOf r14)) (frzOf (ann 14) (idOf r14)) (opsOf r14) = true := drawOk_of (an := [0, 0, 3, 7, 15, 0, 32, 0, 224, 480, 1023]) (by kernel_rfl) (by kernel_rfl)
theorem r14_eq (K : List Item) (s : St) : den prog ann 14 (.code r14 :: K) s = mreg prog ann 14 none [] (some 11) [] [
    ⟨some 97, none, .v fun s => some (s.get 6)⟩,
    ⟨some 98, none, .v fun s => some (s.get 15)⟩,
    ⟨some 99, none, .v fun s => idxSl 1 (s.get 97) (s.get 98)⟩,
    ⟨some 100, none, .v fun s => loadF false 1 (s.get 99)⟩,
    ⟨some 101, none, .v fun s => lenSl (s.get 100)⟩,
    ⟨some 102, none, .v fun s => fieldA 0 (s.get 5)⟩,
    ⟨some 103, none, .v fun s => loadF false 1 (s.get 102)⟩,
    ⟨some 104, none, .v fun s => some (s.get 15)⟩,
    ⟨some 105, none, .v fun s => idxSl 1 (s.get 103) (s.get 104)⟩,
    ⟨some 106, none, .v fun s => loadA false 1 s.m (s.get 105)⟩,
    ⟨some 107, none, .v fun s => binA prog .neq 3 (s.get 101) (s.get 106)⟩] K s := (den_regD hf r14_draw K s).trans (by kernel_rfl)
theorem i3_eq (K : List Item) (s : St) : den prog ann 14 (.code i3 :: K) s = ifV prog ann 14 107 i3t i3e K s (s.get 107) := den_if hf (by kernel_rfl) K s
theorem i3t_eq (K : List Item) (s : St) : den prog ann 14 (.code i3t :: K) s = den prog ann 14 (.code r15 :: .code .ret :: K) s := den_flat hf (l := [r15, .ret]) (by kernel_rfl) K s
theorem r15_eq (K : List Item) (s : St) : den prog ann 14 (.code r15 :: K) s = mreg prog ann 14 none [] none [] [
    ⟨some 4, none, .v fun s => some (.bool false)⟩] K s := (den_reg hf _ K s).trans (by kernel_rfl)
theorem i3e_eq (K : List Item) (s : St) : den prog ann 14 (.code i3e :: K) s = den prog ann 14 (K) s := den_flat hf (l := []) (by kernel_rfl) K s
theorem r16_eq (K : List Item) (s : St) : den prog ann 14 (.code r16 :: K) s = mreg prog ann 14 none [] none [] [
    ⟨some 16, none, .v fun s => some (.int .i64 0)⟩] K s := (den_reg hf _ K s).trans (by kernel_rfl)
theorem k2_eq (K : List Item) (t : List (Nat × AV)) (m : Mem) : den prog ann 14 (.code k2 :: K) ⟨t, 156, m⟩ = L2 (get t 5) (get t 6) (get t 10) (get t 14) (get t 15) (get t 16) m K := den_loop_enter hf (b := l2) (id := 17) (l := [5, 6, 10, 14, 15, 16]) (by kernel_rfl) (by kernel_rfl) (by kernel_rfl) K _
theorem l2_eq (K : List Item) (t : List (Nat × AV)) (m : Mem) : den prog ann 14 (.inLoop l2 :: .inBlock 2 :: K) ⟨t, 156, m⟩ = L2 (get t 5) (get t 6) (get t 10) (get t 14) (get t 15) (get t 16) m K := den_loop_again hf (id := 17) (l := [5, 6, 10, 14, 15, 16]) (by kernel_rfl) (by kernel_rfl) (.inBlock 2 :: K) _
theorem L2_eq (x5 x6 x10 x14 x15 x16 : AV) (m : Mem) (K : List Item) : L2 x5 x6 x10 x14 x15 x16 m K = den prog ann 14 (.code r17 :: .code i4 :: .code k3 :: .code r18 :: .inLoop l2 :: .inBlock 2 :: K) ⟨[(5, x5), (6, x6), (10, x10), (14, x14), (15, x15), (16, x16)], 156, m⟩ := den_flat hf (l := [r17, i4, k3, r18]) (by kernel_rfl) _ _
theorem r17_eq (K : List Item) (s : St) : den prog ann 14 (.code r17 :: K) s = mreg prog ann 14 (some [5, 6, 10, 14, 15, 16]) [] none [] [
    ⟨some 108, none, .v fun s => some (s.get 16)⟩,
    ⟨some 109, none, .v fun s => some (s.get 6)⟩,
    ⟨some 110, none, .v fun s => some (s.get 15)⟩,
    ⟨some 111, none, .v fun s => idxSl 1 (s.get 109) (s.get 110)⟩,
    ⟨some 112, none, .v fun s => loadF false 1 (s.get 111)⟩,
    ⟨some 113, none, .v fun s => lenSl (s.get 112)⟩,
    ⟨some 114, none, .v fun s => binA prog .lss 3 (s.get 108) (s.get 113)⟩] K s := (den_reg hf _ K s).trans (by kernel_rfl)
theorem i4_eq (K : List Item) (s : St) : den prog ann 14 (.code i4 :: K) s = ifV prog ann 14 114 i4t i4e K s (s.get 114) := den_if hf (by kernel_rfl) K s
theorem i4t_eq (K : List Item) (s : St) : den prog ann 14 (.code i4t :: K) s = den prog ann 14 (K) s := den_flat hf (l := []) (by kernel_rfl) K s
theorem i4e_eq (K : List Item) (s : St) : den prog ann 14 (.code i4e :: K) s = den prog ann 14 (.code (.exit 2) :: K) s := den_flat hf (l := [(.exit 2)]) (by kernel_rfl) K s
theorem k3_eq (K : List Item) (s : St) : den prog ann 14 (.code k3 :: K) s = den prog ann 14 (.code r19 :: .code r20 :: .code i5 :: .inBlock 3 :: K) s := den_blk hf (b := blkOf k3) (l := [r19, r20, i5]) (by kernel_rfl) (by kernel_rfl) K s
theorem r19_draw : drawOk (fun g => (ann g).pure) (modeOf (ann 14) (idOf r19)) (frzOf (ann 14) (idOf r19)) (opsOf r19) = true := drawOk_of (an := [0, 0, 0, 6, 14, 0, 62, 126, 255, 511, 1023, 1023, 2047, 8191]) (by kernel_rfl) (by kernel_rfl)
theorem r19_eq (K : List Item) (s : St) : den prog ann 14 (.code r19 :: K) s = mreg prog ann 14 none [] (some 14) [] [
    ⟨some 118, none, .v fun s => loadF true 2 (s.get 5)⟩,
    ⟨some 119, none, .v fun s => some (s.get 6)⟩,
    ⟨some 120, none, .v fun s => some (s.get 15)⟩,
    ⟨some 121, none, .v fun s => idxSl 1 (s.get 119) (s.get 120)⟩,
    ⟨some 122, none, .v fun s => loadF false 1 (s.get 121)⟩,
    ⟨some 123, none, .v fun s => some (s.get 16)⟩,
    ⟨some 124, none, .v fun s => idxSl 1 (s.get 122) (s.get 123)⟩,
    ⟨some 125, none, .v fun s => loadF false 1 (s.get 124)⟩,
    ⟨some 126, none, .c 0 (fun s => (.fn 30 [] [])) fun s => [(s.get 118), (s.get 125)]⟩,
    ⟨some 117, none, .v fun s => some (s.get 126)⟩,
    ⟨some 127, none, .v fun s => extA (s.get 117) 0⟩,
    ⟨some 128, none, .v fun s => extA (s.get 117) 1⟩,
    ⟨some 17, none, .v fun s => some (s.get 127)⟩,
    ⟨some 18, none, .v fun s => some (s.get 128)⟩] K s := (den_regD hf r19_draw K s).trans (by kernel_rfl)
theorem r20_eq (K : List Item) (s : St) : den prog ann 14 (.code r20 :: K) s = mreg prog ann 14 none [] none [] [
    ⟨some 129, none, .v fun s => some (s.get 17)⟩,
    ⟨some 130, none, .v fun s => unA .not (s.get 129)⟩,
    ⟨some 131, none, .v fun s => some (s.get 130)⟩,
    ⟨some 132, some (131, false), .v fun s => some (s.get 18)⟩,
    ⟨some 133, some (131, false), .v fun s => binA prog .neq 27 (s.get 132) (.int .i64 0)⟩,
    ⟨some 134, none, .v fun s => pickA (s.get 131) (.bool true) (s.get 133)⟩] K s := (den_reg hf _ K s).trans (by kernel_rfl)
theorem i5_eq (K : List Item) (s : St) : den prog ann 14 (.code i5 :: K) s = ifV prog ann 14 134 i5t i5e K s (s.get 134) := den_if hf (by kernel_rfl) K s
theorem i5t_eq (K : List Item) (s : St) : den prog ann 14 (.code i5t :: K) s = den prog ann 14 (.code r21 :: .code .ret :: K) s := den_flat hf (l := [r21, .ret]) (by kernel_rfl) K s
theorem r21_eq (K : List Item) (s : St) : den prog ann 14 (.code r21 :: K) s = mreg prog ann 14 none [] none [] [
    ⟨some 4, none, .v fun s => some (.bool false)⟩] K s := (den_reg hf _ K s).trans (by kernel_rfl)
theorem i5e_eq (K : List Item) (s : St) : den prog ann 14 (.code i5e :: K) s = den prog ann 14 (K) s := den_flat hf (l := []) (by kernel_rfl) K s
theorem r18_eq (K : List Item) (s : St) : den prog ann 14 (.code r18 :: K) s = mreg prog ann 14 (some [5, 6, 10, 14, 15, 16]) [] none [] [
    ⟨some 115, none, .v fun s => some (s.get 16)⟩,
    ⟨some 116, none, .v fun s => binA prog .add 3 (s.get 115) (.int .i64 1)⟩,
    ⟨some 16, none, .v fun s => some (s.get 116)⟩] K s := (den_reg hf _ K s).trans (by kernel_rfl)
theorem r22_eq (K : List Item) (s : St) : den prog ann 14 (.code r22 :: K) s = mreg prog ann 14 (some [5, 6, 10, 14, 15]) [] none [] [
    ⟨some 135, none, .v fun s => some (s.get 10)⟩,
    ⟨some 136, none, .v fun s => some (s.get 15)⟩,
    ⟨some 137, none, .v fun s => idxSl 1 (s.get 135) (s.get 136)⟩,
    ⟨some 138, none, .v fun s => loadF false 1 (s.get 137)⟩,
    ⟨some 139, none, .v fun s => binA prog .gtr 3 (s.get 138) (.int .i64 0)⟩] K s := (den_reg hf _ K s).trans (by kernel_rfl)
theorem i6_eq (K : List Item) (s : St) : den prog ann 14 (.code i6 :: K) s = ifV prog ann 14 139 i6t i6e K s (s.get 139) := den_if hf (by kernel_rfl) K s
theorem i6t_eq (K : List Item) (s : St) : den prog ann 14 (.code i6t :: K) s = den prog ann 14 (.code r23 :: K) s := den_flat hf (l := [r23]) (by kernel_rfl) K s
theorem r23_draw : drawOk (fun g => (ann g).pure) (modeOf (ann 14) (idOf r23)) (frzOf (ann 14) (idOf r23)) (opsOf r23) = true := drawOk_of (an := [0, 0, 0, 6, 14, 0, 0, 96, 224, 480, 1022, 2046, 4095, 8191]) (by kernel_rfl) (by kernel_rfl)
theorem r23_eq (K : List Item) (s : St) : den prog ann 14 (.code r23 :: K) s = mreg prog ann 14 none [] (some 14) [] [
    ⟨some 140, none, .v fun s => some (s.get 14)⟩,
    ⟨some 141, none, .v fun s => some (s.get 6)⟩,
    ⟨some 142, none, .v fun s => some (s.get 15)⟩,
    ⟨some 143, none, .v fun s => idxSl 1 (s.get 141) (s.get 142)⟩,
    ⟨some 144, none, .v fun s => loadF false 1 (s.get 143)⟩,
    ⟨some 145, none, .v fun s => some (s.get 10)⟩,
    ⟨some 146, none, .v fun s => some (s.get 15)⟩,
    ⟨some 147, none, .v fun s => idxSl 1 (s.get 145) (s.get 146)⟩,
    ⟨some 148, none, .v fun s => loadF false 1 (s.get 147)⟩,
    ⟨some 149, none, .v fun s => binA prog .sub 3 (s.get 148) (.int .i64 1)⟩,
    ⟨some 150, none, .v fun s => idxSl 1 (s.get 144) (s.get 149)⟩,
    ⟨some 151, none, .v fun s => loadF false 1 (s.get 150)⟩,
    ⟨some 152, none, .c 0 (fun s => (.fn 29 [] [])) fun s => [(s.get 140), (s.get 151)]⟩,
    ⟨some 14, none, .v fun s => some (s.get 152)⟩] K s := (den_regD hf r23_draw K s).trans (by kernel_rfl)
theorem i6e_eq (K : List Item) (s : St) : den prog ann 14 (.code i6e :: K) s = den prog ann 14 (K) s := den_flat hf (l := []) (by kernel_rfl) K s
theorem r13_eq (K : List Item) (s : St) : den prog ann 14 (.code r13 :: K) s = mreg prog ann 14 (some [5, 6, 10, 14, 15]) [] none [] [
    ⟨some 95, none, .v fun s => some (s.get 15)⟩,
    ⟨some 96, none, .v fun s => binA prog .add 3 (s.get 95) (.int .i64 1)⟩,
    ⟨some 15, none, .v fun s => some (s.get 96)⟩] K s := (den_reg hf _ K s).trans (by kernel_rfl)
theorem r24_eq (K : List Item) (s : St) : den prog ann 14 (.code r24 :: K) s = mreg prog ann 14 (some [10, 14]) [] none [] [
    ⟨some 153, none, .v fun s => some (s.get 14)⟩,
    ⟨some 154, none, .v fun s => some (s.get 10)⟩,
    ⟨some 155, none, .c 0 (fun s => (.fn 21 [] [])) fun s => [(s.get 153), (s.get 154)]⟩,
    ⟨some 4, none, .v fun s => some (s.get 155)⟩] K s := (den_reg hf _ K s).trans (by kernel_rfl)
theorem ret_eq (K : List Item) (s : St) : den prog ann 14 (.code .ret :: K) s = finM true [fun s => some (s.get 4)] s := (den_ret hf K s).trans (by kernel_rfl)
theorem nil_eq (s : St) : den prog ann 14 [] s = finM true [fun s => some (s.get 4)] s := (den_nil hf s).trans (by kernel_rfl)
theorem inBlock_eq (id : Nat) (K : List Item) (s : St) : den prog ann 14 (.inBlock id :: K) s = den prog ann 14 K s := den_inBlock hf id K s
theorem exit_eq (id : Nat) (K : List Item) (s : St) : den prog ann 14 (.code (.exit id) :: K) s = exitV prog ann 14 (exitTo id K) s := den_exitV hf id K s
theorem call_eq (v0 v1 : AV) (m : Mem) (h : closedL [v0, v1] = true) : denC prog ann 14 [v0, v1] m = (den prog ann 14 [.code b] ⟨[(0, v0), (1, v1)], 156, Mem.empty⟩).bind fun r => some (r.1, m) := (denC_pure hf (b := b) (by kernel_rfl) (by kernel_rfl) (by kernel_rfl) h m).trans (by kernel_rfl)
theorem pure_eq : (ann 14).pure = true := by kernel_rfl
attribute [simp] b_eq r0_eq r1_eq r2_eq r3_eq r4_eq i0_eq i0t_eq r5_eq i0e_eq r6_eq r7_eq r8_eq i1_eq i1t_eq r9_eq i1e_eq r10_eq r11_eq k0_eq l0_eq r12_eq i2_eq i2t_eq i2e_eq k1_eq r14_eq i3_eq i3t_eq r15_eq i3e_eq r16_eq k2_eq l2_eq r17_eq i4_eq i4t_eq i4e_eq k3_eq r19_eq r20_eq i5_eq i5t_eq r21_eq i5e_eq r18_eq r22_eq i6_eq i6t_eq r23_eq i6e_eq r13_eq r24_eq ret_eq nil_eq inBlock_eq exit_eq pure_eq
end l09_WatchBirkhoff
end Go.Proofs.Ytdkmepjedjclkaa
